/- Chapter 46: the laws AssignSwaps and AssignTwice, evaluated. -/
import Derived.Test.YtbnfcdjlbabddaaR4
set_option linter.unusedVariables false
set_option linter.unusedSimpArgs false
namespace Go.Proofs.Ytbnfcdjlbabddaa
open Go.Ev

/-- 'Registers', whose result is fresh memory: the first call of all. -/
theorem registers_c (f : LFun) (hf : FitF f) {d : Option Nat} {r : List COper} {κ : List KF} {s : Fr} {Q : Fr → AH → Prop}
    (err : treeS f = none → ∀ h, WR T r κ (Fr.put s d (.tup [.emp, .int .i64 3])) h Q)
    (wide : ∀ t, treeS f = some t → regsT f t = none → ∀ h, WR T r κ (Fr.put s d (.tup [.emp, .int .i64 19])) h Q)
    (ok : ∀ t o, treeS f = some t → regsT f t = some o → ∀ h, h.lo = 0 → 1 ≤ h.nx → h.row 0 = some (ils f.vars.length o) → WR T r κ (Fr.put s d (.tup [.rf 1 0 0 f.vars.length, .int .i64 0])) h Q) :
    callK T 100025 [.agg (Enc.c f)] AH.zero d r κ s Q := by
  refine callK_bar tok (c := c100025) rfl rfl rfl (by simp) ?_
  refine registers_w f hf _ (fun ht s h e2 e3 hlo hk => ?_) (fun t ht hr s h e2 e3 hlo hk => ?_) (fun t o ht hr s h m e2 e3 hlo hk => ?_)
  · exact ⟨.tup [.emp, .int .i64 3], by simp [c100025, e2, e3], err ht _⟩
  · exact ⟨.tup [.emp, .int .i64 19], by simp [c100025, e2, e3], wide t ht hr _⟩
  · exact ⟨.tup [.rf 1 0 0 f.vars.length, .int .i64 0], by simp [c100025, e2, e3], ok t o ht hr _ (by simp) (by have := m.nx; simp; omega) (by simp [m.r0])⟩

/-- Own numbers in block 0. -/
theorem ils_acc {f : LFun} {o : Int → Int} {h : AH} (hlo : h.lo = 0) (hx : 1 ≤ h.nx) (hr : h.row 0 = some (ils f.vars.length o)) : Acc h (.rf 1 0 0 f.vars.length) 1 ((regL f o).map Enc.c).flatten f.vars.length :=
  ⟨by rw [flat_len', regL_len]; rfl, .inr ⟨0, rfl, by rw [hr, ils_map]; rfl, by omega, by omega⟩⟩

def sw (a b x : Int) : Int := if x = a then b else if x = b then a else x
theorem sw_inj {a b x y : Int} (h : sw a b x = sw a b y) : x = y := by
  unfold sw at h
  split at h <;> split at h <;> (try split at h) <;> (try split at h) <;> omega

theorem swap_ok {f : LFun} {t : Tr} {o : Int → Int} (ht : treeS f = some t) (h : Valid f t (regL f o)) {a b : Int} (ha : 0 ≤ a ∧ a < 16 ∧ f.params ≤ a) (hb : 0 ≤ b ∧ b < 16 ∧ f.params ≤ b) : Valid f t (regL f fun v => sw a b (o v)) := by
  obtain ⟨_, _, _, _, hpo⟩ := treeS_ok ht
  have hp1 := hpo.2
  refine ⟨regL_len f _, fun v h0 h1 k => ?_, fun v h0 h1 k => ?_, fun v h0 h1 => ?_, fun x y hm e => ?_⟩
  · have := h.kn v h0 h1 k
    rw [regL_rg f _ h0 h1] at this ⊢
    unfold sw; split
    · omega
    · split <;> omega
  · have := h.un v h0 h1 k
    rw [regL_rg f _ h0 h1] at this ⊢
    unfold sw; rw [if_neg (by omega), if_neg (by omega)]; exact this
  · have := h.pa v h0 h1
    rw [regL_rg f _ h0 (by omega)] at this ⊢
    unfold sw; rw [if_neg (by omega), if_neg (by omega)]; exact this
  · obtain ⟨hne, z, hz, hx, hy⟩ := meet_mem.1 hm
    obtain ⟨a1, _⟩ := allS_var ht z hz x hx
    obtain ⟨b1, _⟩ := allS_var ht z hz y hy
    have := h.mt x y hm
    rw [regL_rg f _ a1.1 a1.2, regL_rg f _ b1.1 b1.2] at this e
    exact this (sw_inj e)

theorem AssignSwaps_p (f : LFun) (hsm : f.code.length ≤ 1048576) (i j : Int) (hi : 0 ≤ i ∧ i < 256) (hj : 0 ≤ j ∧ j < 256) : Pure T 9 [.agg (Enc.c f), .int .u8 i, .int .u8 j] (.bool true) true := by
  refine ⟨c9, rfl, rfl, ?_⟩
  simp [c9, awake46_r, few46_r f hsm]
  cases hfw : few46 f
  · simp
  have hf := few46_fit hfw
  have c80 := hf.code
  have v60 := few46_vars hfw
  have hi16 : (i.tmod 16) < 16 := by rw [Int.tmod_eq_emod_of_nonneg hi.1]; omega
  have hj16 : (j.tmod 16) < 16 := by rw [Int.tmod_eq_emod_of_nonneg hj.1]; omega
  have hi0 : 0 ≤ i.tmod 16 := by rw [Int.tmod_eq_emod_of_nonneg hi.1]; omega
  have hj0 : 0 ≤ j.tmod 16 := by rw [Int.tmod_eq_emod_of_nonneg hj.1]; omega
  have hwi : IntKind.i64.wrap (i.tmod 16) = i.tmod 16 := w64 (by omega)
  have hwj : IntKind.i64.wrap (j.tmod 16) = j.tmod 16 := w64 (by omega)
  have er : ∀ x : Int, evBin .rem (.int .u8 x) (.int .u8 16) = some (.int .u8 (x.tmod 16)) := fun x => rfl
  simp
  refine registers_c f hf (fun ht h => ?_) (fun t ht hr h => ?_) (fun t o ht hr h hlo hx h0 => ?_)
  · simp [er]
  · simp [er]
  obtain ⟨hV, _, _⟩ := (regs_ok ht).2 o hr
  simp [er, hwi, hwj]
  generalize i.tmod 16 = a at *
  generalize j.tmod 16 = b at *
  by_cases ha : a < f.params
  · simp [ha]
  by_cases hb : b < f.params
  · simp [ha, hb]
  simp [ha, hb]
  refine WK_loop tgrow (fun k s' h' => s' 11 = .int .i64 (k : Nat) ∧ h'.lo = 0 ∧ 1 ≤ h'.nx ∧ h'.row 0 = some (ils f.vars.length fun v => if v < (k : Nat) then sw a b (o v) else o v)) f.vars.length w9_0 (by decide) ?_ ?_
  · refine ⟨by simp, hlo, hx, ?_⟩
    rw [h0]
    exact congrArg _ (ils_congr fun i h0 _ => by rw [if_neg (by omega)])
  rintro k s' h' hk ⟨e11, jl, jx, jr⟩ hs hg
  have f7 : s' 7 = .rf 1 0 0 f.vars.length := (hs 7 (by decide)).trans (by simp)
  have f9 : s' 9 = .int .i64 a := (hs 9 (by decide)).trans (by simp)
  have f10 : s' 10 = .int .i64 b := (hs 10 (by decide)).trans (by simp)
  have f3 : s' 3 = .pi (Enc.c f) := (hs 3 (by decide)).trans (by simp)
  have hk2 : k < 9223372036854775807 := by omega
  have hlen : evLen h' 1 (.rf 1 0 0 f.vars.length) = some (.int .i64 (f.vars.length : Nat)) := (ils_acc jl jx jr).len
  simp [c9_0, e11, f7, hlen]
  by_cases hkl : k < f.vars.length
  case neg =>
    have hkn : k = f.vars.length := by omega
    have e : (ils f.vars.length fun v => if v < (k : Nat) then sw a b (o v) else o v) = ils f.vars.length fun v => sw a b (o v) := ils_congr fun i h0 h1 => by rw [if_pos (by omega)]
    rw [e] at jr
    have acc := ils_acc jl jx jr
    have hsn := acc.snap (m := 11) (regL_len f _).symm (by decide)
    have hc : checkV f (regL f fun v => sw a b (o v)) = 0 := checkV_zero.2 ⟨t, ht, swap_ok ht hV ⟨hi0, hi16, by omega⟩ ⟨hj0, hj16, by omega⟩⟩
    simp [hkl, f3, f7, hsn, check_r f hf, hc]
  obtain ⟨p, hp⟩ : ∃ p : Int → Int, p = fun v => if v < ((k : Nat) : Int) then sw a b (o v) else o v := ⟨_, rfl⟩
  rw [← hp] at jr
  have hpk : p k = o k := by rw [hp]; simp
  have hcg : ∀ q : Int, q = sw a b (o k) → ((ils f.vars.length p).set k (.int .i64 q)) = ils f.vars.length fun v => if v < (k : Int) + 1 then sw a b (o v) else o v := fun q hq => by
    rw [ils_set, hp]
    refine ils_congr fun v _ _ => ?_
    by_cases e : v = (k : Nat)
    · rw [if_pos e, if_pos (by omega), e]; exact hq
    · rw [if_neg e]
      show (if v < ((k : Nat) : Int) then sw a b (o v) else o v) = _
      by_cases e2 : v < (k : Nat)
      · rw [if_pos e2, if_pos (by omega)]
      · rw [if_neg e2, if_neg (by omega)]
  have hgt : (ils f.vars.length p)[k]? = some (.int .i64 (o k)) := by rw [ils_get hkl, hpk]
  have hll : k < (ils f.vars.length p).length := by simpa using hkl
  generalize ils f.vars.length p = L at *
  have hgt2 : L[k] = .int .i64 (o k) := by rw [List.getElem?_eq_getElem hll] at hgt; exact Option.some.inj hgt
  by_cases oa : o k = a
  · have e := hcg b (by unfold sw; rw [if_pos oa])
    rw [← e]
    simp [hkl, hll, e11, f7, f9, f10, evIdx_rf hkl, jr, hgt2, oa, jl, jx, hk2]
  by_cases ob : o k = b
  · have e := hcg a (by unfold sw; rw [if_neg oa, if_pos ob])
    rw [← e]
    have hba : ¬ b = a := by rw [← ob]; exact oa
    simp [hkl, hll, e11, f7, f9, f10, evIdx_rf hkl, jr, hgt2, oa, ob, hba, jl, jx, hk2]
  have e := hcg (o k) (by unfold sw; rw [if_neg oa, if_neg ob])
  have e2 : L.set k (.int .i64 (o k)) = L := by rw [← hgt2]; simp
  rw [← e, e2]
  simp [hkl, hll, e11, f7, f9, f10, evIdx_rf hkl, jr, hgt2, oa, ob, jl, jx, hk2]

/-- One variable more in a register that is taken. -/
theorem twice_bad {f : LFun} {t : Tr} {o : Int → Int} (ht : treeS f = some t) (h : Valid f t (regL f o)) {x y : Int} (hm : meet (allS f t) x y = true) (x0 : 0 ≤ x) (x1 : x < (f.vars.length : Int)) (y0 : 0 ≤ y) (y1 : y < (f.vars.length : Int)) :
    checkV f (regL f fun v => if v = x then o y else o v) = if x < f.params then 1 else 12 := by
  obtain ⟨_, _, _, _, hpo⟩ := treeS_ok ht
  have hp0 := hpo.1
  have hp1 := hpo.2
  obtain ⟨hne, z, hz, hx, hy⟩ := meet_mem.1 hm
  obtain ⟨_, kx⟩ := allS_var ht z hz x hx
  obtain ⟨_, ky⟩ := allS_var ht z hz y hy
  have hky := h.kn y y0 y1 ky
  have hkx := h.kn x x0 x1 kx
  have hxy := h.mt x y hm
  rw [regL_rg f o y0 y1] at hky
  rw [regL_rg f o x0 x1] at hkx
  rw [regL_rg f o x0 x1, regL_rg f o y0 y1] at hxy
  have rgx : ∀ v, 0 ≤ v → v < (f.vars.length : Int) → rg (regL f fun v => if v = x then o y else o v) v = if v = x then o y else o v := fun v h0 h1 => regL_rg f _ h0 h1
  obtain ⟨R, hR⟩ : ∃ R, R = regL f fun v => if v = x then o y else o v := ⟨_, rfl⟩
  rw [← hR] at rgx ⊢
  have hRl : R.length = f.vars.length := by rw [hR, regL_len]
  have n1 : (nums f.vars.length).any (badR f (bnd f t) R) = false := any_nums_false.2 fun v h0 h1 => (badR_false h0 hp0).2 (by
    rw [rgx v h0 h1]
    by_cases e : v = x
    · rw [if_pos e]
      exact ⟨fun _ => hky, fun q => absurd (e ▸ kx) q⟩
    · rw [if_neg e]
      have a1 := h.kn v h0 h1
      have a2 := h.un v h0 h1
      rw [regL_rg f o h0 h1] at a1 a2
      exact ⟨a1, a2⟩)
  by_cases hxp : x < f.params
  · have n2 : (nums f.params.toNat).any (badP R) = true := any_nums_yes (k := x.toNat) (by omega) (by
      rw [Int.toNat_of_nonneg x0]
      unfold badP
      rw [rgx x x0 x1, if_pos rfl]
      have := h.pa x x0 hxp
      rw [regL_rg f o x0 x1] at this
      simp
      omega)
    simp [checkV, ht, checkT, hRl, n1, n2, hxp]
  · have n2 : (nums f.params.toNat).any (badP R) = false := any_nums_false.2 fun v h0 h1 => by
      unfold badP
      rw [rgx v h0 (by omega), if_neg (by omega)]
      have := h.pa v h0 (by omega)
      rw [regL_rg f o h0 (by omega)] at this
      simp [this]
    have key : ∀ a b, 0 ≤ b → b < a → a < (f.vars.length : Int) → badU (allS f t) R a b = true → (nums f.vars.length).any (fun a => (nums a.toNat).any fun b => badU (allS f t) R a b) = true := fun a b b0 hba a1 hbad =>
      any_nums_yes (k := a.toNat) (by omega) (by
        rw [Int.toNat_of_nonneg (by omega)]
        exact any_nums_yes (k := b.toNat) (by omega) (by rw [Int.toNat_of_nonneg b0]; exact hbad))
    have n3 : (nums f.vars.length).any (fun a => (nums a.toNat).any fun b => badU (allS f t) R a b) = true := by
      rcases Int.lt_or_lt_of_ne hne with q | q
      · refine key y x x0 q y1 ?_
        unfold badU
        rw [rgx x x0 x1, rgx y y0 y1, if_pos rfl, if_neg (by omega), meet_comm, hm]
        simp; omega
      · refine key x y y0 q x1 ?_
        unfold badU
        rw [rgx x x0 x1, rgx y y0 y1, if_pos rfl, if_neg (by omega), hm]
        simp; omega
    simp [checkV, ht, checkT, hRl, n1, n2, n3, hxp]

theorem AssignTwice_p (f : LFun) (hsm : f.code.length ≤ 1048576) (i j : Int) (hi : 0 ≤ i ∧ i < 256) (hj : 0 ≤ j ∧ j < 256) : Pure T 10 [.agg (Enc.c f), .int .u8 i, .int .u8 j] (.bool true) true := by
  refine ⟨c10, rfl, rfl, ?_⟩
  simp [c10, awake46_r, few46_r f hsm]
  cases hfw : few46 f
  · simp
  have hf := few46_fit hfw
  have c80 := hf.code
  have v60 := few46_vars hfw
  have hwi : IntKind.i64.wrap i = i := w64 (by omega)
  have hwj : IntKind.i64.wrap j = j := w64 (by omega)
  simp
  refine registers_c f hf (fun ht h => ?_) (fun t ht hr h => ?_) (fun t o ht hr h hlo hx h0 => ?_)
  · simp
  · simp
  obtain ⟨hV, _, _⟩ := (regs_ok ht).2 o hr
  have hlen : evLen h 1 (.rf 1 0 0 f.vars.length) = some (.int .i64 (f.vars.length : Nat)) := (ils_acc hlo hx h0).len
  by_cases hz : f.vars.length = 0
  · simp [hlen, hz]
  have hz' : ¬ ((f.vars.length : Nat) : Int) = 0 := by omega
  have er : ∀ x : Int, evBin .rem (.int .i64 x) (.int .i64 (f.vars.length : Nat)) = some (.int .i64 (x.tmod (f.vars.length : Nat))) := fun x => by
    show (if ((f.vars.length : Nat) : Int) = 0 then none else _) = _
    rw [if_neg hz']
  have x0 : 0 ≤ i.tmod (f.vars.length : Nat) := Int.tmod_nonneg _ hi.1
  have x1 : i.tmod (f.vars.length : Nat) < (f.vars.length : Nat) := Int.tmod_lt_of_pos _ (by omega)
  have y0 : 0 ≤ j.tmod (f.vars.length : Nat) := Int.tmod_nonneg _ hj.1
  have y1 : j.tmod (f.vars.length : Nat) < (f.vars.length : Nat) := Int.tmod_lt_of_pos _ (by omega)
  simp [hlen, hz, hz', er, hwi, hwj]
  generalize i.tmod (f.vars.length : Nat) = x at *
  generalize j.tmod (f.vars.length : Nat) = y at *
  have k3 := fun {o h d r κ s Q} => pureK_eq (o := o) (h := h) (d := d) (r := r) (κ := κ) (s := s) (Q := Q) (inter_yes f hf (a := x) (b := y) ht ⟨x0, x1⟩ ⟨y0, y1⟩) (.inl rfl)
  simp only [c_LFun] at k3
  simp [k3]
  cases hm : meet (allS f t) x y
  · simp
  have hc := twice_bad ht hV hm x0 x1 y0 y1
  have x2 : x.toNat < f.vars.length := by omega
  have y2 : y.toNat < f.vars.length := by omega
  have hgt : (ils f.vars.length o)[y.toNat]? = some (.int .i64 (o y)) := ils_getI y0 y2
  have hset : (ils f.vars.length o).set x.toNat (.int .i64 (o y)) = ils f.vars.length fun v => if v = x then o y else o v := ils_setI x0
  have acc : Acc (h.set 0 (.cells ((ils f.vars.length o).set x.toNat (.int .i64 (o y))))) (.rf 1 0 0 f.vars.length) 1 ((regL f fun v => if v = x then o y else o v).map Enc.c).flatten f.vars.length :=
    ils_acc hlo hx (by rw [row_set, if_pos rfl, hset])
  have hsn := acc.snap (m := 11) (regL_len f _).symm (by decide)
  have hll : x.toNat < (ils f.vars.length o).length := by simpa using x2
  have hly : y.toNat < (ils f.vars.length o).length := by simpa using y2
  have hgt2 : (ils f.vars.length o)[y.toNat] = .int .i64 (o y) := by rw [List.getElem?_eq_getElem hly] at hgt; exact Option.some.inj hgt
  clear hset hgt
  generalize ils f.vars.length o = L at *
  by_cases hxp : x < f.params
  · rw [if_pos hxp] at hc
    simp [evIdx_rfi x0 x2, evIdx_rfi y0 y2, h0, hgt2, hll, hly, hlo, hxp, hsn, check_r f hf, hc]
  · rw [if_neg hxp] at hc
    simp [evIdx_rfi x0 x2, evIdx_rfi y0 y2, h0, hgt2, hll, hly, hlo, hxp, hsn, check_r f hf, hc]

def shU8 : Sh := .int .u8
theorem u8_rng {y : Int} (o : IntKind.u8.min ≤ y ∧ y ≤ IntKind.u8.max) : 0 ≤ y ∧ y < 256 := by
  have h1 : IntKind.u8.min = 0 := rfl
  have h2 : IntKind.u8.max = 255 := rfl
  rw [h1, h2] at o
  omega
theorem u8_pv (y : shU8.den) : (shU8.pv y).headD .emp = .int .u8 y := rfl
theorem law_assignSwaps (x : shFun.den) (o : shFun.ok x ∧ shFun.small 1048576 x) (y : shU8.den) (o' : shU8.ok y ∧ shU8.small 1048576 y) (z : shU8.den) (o'' : shU8.ok z ∧ shU8.small 1048576 z) :
    ∃ g, CE T 9 [.agg (shFun.pv x), (shU8.pv y).headD .emp, (shU8.pv z).headD .emp] AH.zero (.bool true) g := by
  have hm := mkFun_sm x o.2
  rw [mkFun_c, u8_pv, u8_pv]
  exact ⟨AH.zero, (AssignSwaps_p (mkFun x) hm.2.2.2.2.1.1 y z (u8_rng o'.1) (u8_rng o''.1)).ce (by simp; rfl) (.inl rfl)⟩
theorem law_assignTwice (x : shFun.den) (o : shFun.ok x ∧ shFun.small 1048576 x) (y : shU8.den) (o' : shU8.ok y ∧ shU8.small 1048576 y) (z : shU8.den) (o'' : shU8.ok z ∧ shU8.small 1048576 z) :
    ∃ g, CE T 10 [.agg (shFun.pv x), (shU8.pv y).headD .emp, (shU8.pv z).headD .emp] AH.zero (.bool true) g := by
  have hm := mkFun_sm x o.2
  rw [mkFun_c, u8_pv, u8_pv]
  exact ⟨AH.zero, (AssignTwice_p (mkFun x) hm.2.2.2.2.1.1 y z (u8_rng o'.1) (u8_rng o''.1)).ce (by simp; rfl) (.inl rfl)⟩
theorem shU8_is : shT Try.prog 8 5 = some shU8 := by kernel_rfl
theorem VRL_three {W : World} {u1 u2 u3 : Value} {v1 v2 v3 : PV} {ρ : Nat → Option (Nat × Nat)} {I : Nat → Prop} (h1 : VR ρ I W u1 v1) (h2 : VR ρ I W u2 v2) (h3 : VR ρ I W u3 v3) : VRL ρ I W #[u1, u2, u3] [v1, v2, v3] :=
  ⟨rfl, fun j hj => by
    have : j = 0 ∨ j = 1 ∨ j = 2 := by simp at hj; omega
    rcases this with rfl | rfl | rfl
    · exact h1
    · exact h2
    · exact h3⟩
end Go.Proofs.Ytbnfcdjlbabddaa

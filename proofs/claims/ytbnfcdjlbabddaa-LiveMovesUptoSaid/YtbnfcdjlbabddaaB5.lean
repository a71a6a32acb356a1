/- The new numbers of nodes and variables: the program's 'Maps'. -/
import Derived.Test.YtbnfcdjlbabddaaB4
set_option linter.unusedVariables false
set_option linter.unusedSimpArgs false
namespace Go.Proofs.Ytbnfcdjlbabddaa
open Go.Ev

def nums (n : Nat) : List Int := (List.range n).map fun i : Nat => (i : Int)
theorem nums_len (n : Nat) : (nums n).length = n := by simp [nums]
/-- Numbers, one by one. -/
def ils (n : Nat) (p : Int → Int) : List PV := (List.range n).map fun i => PV.int .i64 (p (i : Nat))
@[simp] theorem ils_len {n : Nat} {p : Int → Int} : (ils n p).length = n := by simp [ils]
theorem ils_get {n k : Nat} {p : Int → Int} (hk : k < n) : (ils n p)[k]? = some (.int .i64 (p (k : Nat))) := by simp [ils, hk]
theorem ils_set {n k : Nat} {p : Int → Int} {b : Int} : (ils n p).set k (.int .i64 b) = ils n fun i => if i = (k : Nat) then b else p i := by
  apply List.ext_getElem?
  intro i
  rw [List.getElem?_set]
  by_cases hi : i < n
  · rw [ils_get hi]
    by_cases hk : k = i
    · subst hk; rw [if_pos rfl, if_pos (by simpa using hi), ils_get hi, if_pos rfl]
    · rw [if_neg hk, ils_get hi, if_neg (by omega)]
  · have e : ∀ q : Int → Int, (ils n q)[i]? = none := fun q => List.getElem?_eq_none (by simp; omega)
    rw [e, e]
    split
    · rw [if_neg (by simp; omega)]
    · rfl
theorem ils_setI {n : Nat} {k : Int} {p : Int → Int} {b : Int} (h0 : 0 ≤ k) : (ils n p).set k.toNat (.int .i64 b) = ils n fun i => if i = k then b else p i := by
  rw [ils_set, Int.toNat_of_nonneg h0]
theorem ils_congr {n : Nat} {p q : Int → Int} (h : ∀ i : Int, 0 ≤ i → i < n → p i = q i) : ils n p = ils n q := by
  unfold ils
  apply List.map_congr_left
  intro i hi
  rw [h _ (by omega) (by have := List.mem_range.1 hi; omega)]
theorem ils_map {n : Nat} {p : Int → Int} : ils n p = (((nums n).map p).map Enc.c).flatten := by
  rw [flat_ints]
  unfold ils nums
  rw [List.map_map, List.map_map]
  rfl
theorem rep_ils (n : Nat) : List.replicate n (PV.int .i64 0) = ils n fun _ => 0 := by
  apply List.ext_getElem?
  intro i
  by_cases hi : i < n
  · rw [ils_get hi]; simp [hi]
  · rw [List.getElem?_eq_none (by simp; omega), List.getElem?_eq_none (by simp; omega)]

/-- The place of a number, or -1. -/
def idxOf (l : List Int) (x : Int) : Int := placeF (fun y => decide (x = y)) l
theorem idxOf_nil (x : Int) : idxOf [] x = -1 := rfl
theorem idxOf_snoc {l : List Int} {a x : Int} (ha : a ∉ l) : idxOf (l ++ [a]) x = if x = a then (l.length : Int) else idxOf l x := by
  unfold idxOf
  induction l with
  | nil =>
    by_cases h : x = a
    · simp [placeF, h]
    · simp [placeF, h]
  | cons y l ih =>
    have ih := ih fun q => ha (List.mem_cons_of_mem _ q)
    have hya : ¬ y = a := fun q => ha (by rw [q]; exact List.mem_cons_self)
    simp only [List.cons_append, placeF]
    by_cases h1 : x = y
    · subst h1
      simp [hya]
    · simp only [h1, decide_false, Bool.false_eq_true, if_false, ih]
      by_cases h2 : x = a
      · subst h2; simp; omega
      · simp [h2]
theorem idxOf_ge {l : List Int} {x : Int} : 0 ≤ idxOf l x ↔ x ∈ l := by
  unfold idxOf
  rw [placeF_ge]
  simp
theorem idxOf_neg {l : List Int} {x : Int} (h : x ∉ l) : idxOf l x = -1 := placeF_none (by
  simp only [List.any_eq_false, decide_eq_true_eq]
  intro y hy q
  exact h (by rw [q]; exact hy))
theorem idxOf_at {l : List Int} (hn : l.Nodup) {k : Nat} (hk : k < l.length) : idxOf l l[k] = (k : Nat) := by
  refine placeF_at hk ?_ (by simp)
  simp only [List.any_eq_false, decide_eq_true_eq]
  intro y hy q
  obtain ⟨j, hj, e⟩ := List.mem_take_iff_getElem.1 hy
  have := List.pairwise_iff_getElem.1 hn j k (by omega) hk (by omega)
  exact this (e.trans q.symm)

/-- The new numbers of the nodes, of the variables. -/
def mapN (f : LFun) (nd : List Int) : List Int := (nums f.code.length).map (idxOf nd)
def newNo (f : LFun) (vs : List Int) (i : Int) : Int := if i < f.params then i else if i ∈ vs then f.params + idxOf vs i else -1
def mapV (f : LFun) (vs : List Int) : List Int := (nums f.vars.length).map (newNo f vs)

theorem evMksR_nat {h : AH} {z b n k : Nat} {zs : List PV} (hr : roomOk n (b + 1) = true) (h1 : k < h.nx) (h2 : h.lo ≤ h.nx - 1 - k) (h3 : h.blk (h.nx - 1 - k) = none) :
    evMksR h k z b zs (.int .i64 (n : Int)) (.int .i64 (n : Int)) = some (.rf z (h.nx - 1 - k) 0 n, h.set (h.nx - 1 - k) (.cells (List.replicate n zs).flatten)) := by
  show (if (0 ≤ (n : Int) ∧ (n : Int) ≤ (n : Int) ∧ roomOk (n : Int).toNat (b + 1) = true) ∧ (k < h.nx ∧ h.lo ≤ h.nx - 1 - k ∧ (h.blk (h.nx - 1 - k)).isNone = true) then _ else _) = _
  rw [if_pos ⟨⟨by omega, by omega, by simpa using hr⟩, h1, h2, by rw [h3]; rfl⟩]
  simp

theorem maps_no (f : LFun) (hf : FitF f) (hn : ¬ okP f ∨ (f.extern = false ∧ shapeS f = none)) : Pure T 22 [.agg (Enc.c f)] (.tup [sl ([] : List Int), sl ([] : List Int), .int .i64 3]) true := by
  obtain ⟨v, hv, hP⟩ := shaped_p f hf
  have hr := fun {o h d r κ s Q} => pureK_eq (o := o) (h := h) (d := d) (r := r) (κ := κ) (s := s) (Q := Q) hP (.inl rfl)
  obtain ⟨l, l', rfl⟩ : ∃ l l' : List Int, v = .tup [sl l, sl l', .bool false] := by
    rcases hv with ⟨t, nd, vs, h1, h2, h3, _⟩ | ⟨h1, h2, _⟩ | ⟨l, l', _, rfl⟩
    · rcases hn with q | q
      · exact absurd h1 q
      · rw [q.2] at h3; cases h3
    · rcases hn with q | q
      · exact absurd h1 q
      · rw [q.1] at h2; cases h2
    · exact ⟨l, l', rfl⟩
  refine ⟨c22, rfl, rfl, ?_⟩
  simp at hr
  simp [c22, hr]

theorem maps_w (f : LFun) (hf : FitF f) (hp : okP f) (nd vs : List Int) (hn : Nums f.code.length nd) (hv : VN f vs) (hP : Pure T 39 [.agg (Enc.c f)] (.tup [sl nd, sl vs, .bool true]) true) :
    Pure T 22 [.agg (Enc.c f)] (.tup [sl (mapN f nd), sl (mapV f vs), .int .i64 0]) true := by
  have c80 := hf.code
  have v120 := hf.vars
  have hnl := hn.length
  have hvl := hv.length
  have hr := fun {o h d r κ s Q} => pureK_eq (o := o) (h := h) (d := d) (r := r) (κ := κ) (s := s) (Q := Q) hP (.inl rfl)
  simp at hr
  refine ⟨c22, rfl, rfl, ?_⟩
  have r1 : roomOk f.code.length (8 + 1) = true := room (by omega)
  have r2 : roomOk f.vars.length (8 + 1) = true := room (by omega)
  simp [c22, hr, evMksR_nat, r1, r2]
  refine WK_range tgrow (fun k s' h' => h'.lo = 0 ∧ h'.nx = 10 ∧ h'.row 9 = some (ils f.code.length fun i => if i < (k : Nat) then -1 else 0) ∧ h'.row 8 = some (ils f.vars.length fun _ => 0)) f.code.length w22_0 rfl (by decide) (by simp) (by simp) (by omega) (by decide) (fun _ _ _ _ j _ => j) ?_ ?_ ?_
  · simp [rep_ils]
    exact ils_congr fun i h0 _ => by simp; omega
  · rintro k s' h' hk ⟨j1, j2, j3, j4⟩ hi hs hg
    have f8 : s' 8 = .rf 1 9 0 f.code.length := (hs 8 (by decide)).trans (by simp)
    simp [hi, f8, evIdx_rf hk, j3, j1, j4, hk, j2, ils_set]
    exact ils_congr fun i h0 _ => by
      by_cases q : i = (k : Int)
      · simp [q]; omega
      · simp only [q, if_false]; congr 1; simp only [eq_iff_iff]; omega
  rintro s1 h1 ⟨j1, j2, j3, j4⟩ hs1 hg1
  have f8 : s1 8 = .rf 1 9 0 f.code.length := (hs1 8 (by decide)).trans (by simp)
  have f9 : s1 9 = .rf 1 8 0 f.vars.length := (hs1 9 (by decide)).trans (by simp)
  have f1 : s1 1 = .pi (Enc.c f) := (hs1 1 (by decide)).trans (by simp)
  have f5 : s1 5 = sl nd := (hs1 5 (by decide)).trans (by simp)
  have f6 : s1 6 = sl vs := (hs1 6 (by decide)).trans (by simp)
  have e3 : (ils f.code.length fun i => if i < ((f.code.length : Nat) : Int) then -1 else 0) = ils f.code.length (idxOf []) := ils_congr fun i h0 h1 => by simp [h1, idxOf_nil]
  rw [e3] at j3
  clear hs1 hg1
  simp [f9]
  refine WK_range tgrow (fun k s' h' => h'.lo = 0 ∧ h'.nx = 10 ∧ h'.row 9 = some (ils f.code.length (idxOf [])) ∧ h'.row 8 = some (ils f.vars.length fun i => if i < (k : Nat) then newNo f [] i else 0)) f.vars.length w22_1 rfl (by decide) (by simp) (by simp) (by omega) (by decide) (fun _ _ _ _ j _ => j) ?_ ?_ ?_
  · refine ⟨j1, j2, j3, ?_⟩
    rw [j4]
    exact congrArg _ (ils_congr fun i h0 _ => by simp; omega)
  · rintro k s' h' hk ⟨j1, j2, j3, j4⟩ hi hs hg
    have g9 : s' 9 = .rf 1 8 0 f.vars.length := (hs 9 (by decide)).trans (by simp [f9])
    have g1 : s' 1 = .pi (Enc.c f) := (hs 1 (by decide)).trans (by simp [f1])
    simp [hi, g9, g1, evIdx_rf hk, j3, j1, j4, hk, j2, ils_set]
    refine condS_split (fun hc => ?_) (fun hc => ?_) <;> simp at hc
    · simp [hi, g9, evIdx_rf hk, j3, j1, j4, hk, j2, ils_set]
      exact ils_congr fun i h0 _ => by
        by_cases q : i = (k : Int)
        · subst q; simp [newNo, hc]; omega
        · simp only [q, if_false]; congr 1; simp only [eq_iff_iff]; omega
    · simp [hi, j3, j1, hk, j2]
      exact ils_congr fun i h0 _ => by
        by_cases q : i = (k : Int)
        · subst q; simp [newNo, hc]; omega
        · simp only [q, if_false]; congr 1; simp only [eq_iff_iff]; omega
  rintro s2 h2 ⟨j1, j2, j3, j4⟩ hs2 hg2
  have p8 : s2 8 = .rf 1 9 0 f.code.length := (hs2 8 (by decide)).trans (by simp [f8])
  have p9 : s2 9 = .rf 1 8 0 f.vars.length := (hs2 9 (by decide)).trans (by simp [f9])
  have p1 : s2 1 = .pi (Enc.c f) := (hs2 1 (by decide)).trans (by simp [f1])
  have p5 : s2 5 = sl nd := (hs2 5 (by decide)).trans (by simp [f5])
  have p6 : s2 6 = sl vs := (hs2 6 (by decide)).trans (by simp [f6])
  have e4 : (ils f.vars.length fun i => if i < ((f.vars.length : Nat) : Int) then newNo f [] i else 0) = ils f.vars.length (newNo f []) := ils_congr fun i h0 h1 => by simp [h1]
  rw [e4] at j4
  clear hs2 hg2
  simp [p5]
  refine WK_range tgrow (fun k s' h' => h'.lo = 0 ∧ h'.nx = 10 ∧ h'.row 9 = some (ils f.code.length (idxOf (nd.take k))) ∧ h'.row 8 = some (ils f.vars.length (newNo f []))) nd.length w22_2 rfl (by decide) (by simp) (by simp) (by omega) (by decide) (fun _ _ _ _ j _ => j) ⟨j1, j2, j3, j4⟩ ?_ ?_
  · rintro k s' h' hk ⟨j1, j2, j3, j4⟩ hi hs hg
    have g8 : s' 8 = .rf 1 9 0 f.code.length := (hs 8 (by decide)).trans (by simp [p8])
    have g58 : s' 58 = sl nd := (hs 58 (by decide)).trans (by simp)
    obtain ⟨b0, b1⟩ := hn.2 _ (List.getElem_mem hk)
    have b2 : nd[k].toNat < f.code.length := by omega
    have hnot : nd[k] ∉ nd.take k := fun q => by
      obtain ⟨j, hj, e⟩ := List.mem_take_iff_getElem.1 q
      exact List.pairwise_iff_getElem.1 hn.1 j k (by omega) hk (by omega) e
    have hlk : (nd.take k).length = k := by rw [List.length_take]; omega
    simp [hi, g8, g58, evIdx_nat, rd1_ptr, hk, evIdx_rfi b0 b2, j3, j1, b2, j2, j4, ils_setI b0]
    rw [take_succ' hk]
    exact ils_congr fun i _ _ => by rw [idxOf_snoc hnot, hlk]
  rintro s3 h3 ⟨j1, j2, j3, j4⟩ hs3 hg3
  rw [List.take_length] at j3
  have q8 : s3 8 = .rf 1 9 0 f.code.length := (hs3 8 (by decide)).trans (by simp [p8])
  have q9 : s3 9 = .rf 1 8 0 f.vars.length := (hs3 9 (by decide)).trans (by simp [p9])
  have q1 : s3 1 = .pi (Enc.c f) := (hs3 1 (by decide)).trans (by simp [p1])
  have q6 : s3 6 = sl vs := (hs3 6 (by decide)).trans (by simp [p6])
  clear hs3 hg3
  simp [q6]
  refine WK_range tgrow (fun k s' h' => h'.lo = 0 ∧ h'.nx = 10 ∧ h'.row 9 = some (ils f.code.length (idxOf nd)) ∧ h'.row 8 = some (ils f.vars.length (newNo f (vs.take k)))) vs.length w22_3 rfl (by decide) (by simp) (by simp) (by omega) (by decide) (fun _ _ _ _ j _ => j) ⟨j1, j2, j3, j4⟩ ?_ ?_
  · rintro k s' h' hk ⟨j1, j2, j3, j4⟩ hi hs hg
    have g9 : s' 9 = .rf 1 8 0 f.vars.length := (hs 9 (by decide)).trans (by simp [q9])
    have g1 : s' 1 = .pi (Enc.c f) := (hs 1 (by decide)).trans (by simp [q1])
    have g70 : s' 70 = sl vs := (hs 70 (by decide)).trans (by simp)
    obtain ⟨b0, bp, b1⟩ := hv.2 _ (List.getElem_mem hk)
    have b2 : vs[k].toNat < f.vars.length := by omega
    have hnot : vs[k] ∉ vs.take k := fun q => by
      obtain ⟨j, hj, e⟩ := List.mem_take_iff_getElem.1 q
      exact List.pairwise_iff_getElem.1 hv.1 j k (by omega) hk (by omega) e
    have hlk : (vs.take k).length = k := by rw [List.length_take]; omega
    have hpp := hp.2
    have hp0 := hp.1
    have hw : IntKind.i64.wrap (f.params + (k : Int)) = f.params + k := w64 (by omega)
    simp [hi, g9, g1, g70, evIdx_nat, rd1_ptr, hk, evIdx_rfi b0 b2, j4, j1, b2, j2, j3, hw, ils_setI b0]
    rw [take_succ' hk]
    exact ils_congr fun i _ _ => by
      unfold newNo
      rw [idxOf_snoc hnot, hlk]
      simp only [List.mem_append, List.mem_singleton]
      by_cases e1 : i = vs[k]
      · subst e1
        simp
        omega
      · simp [e1]
  rintro s4 h4 ⟨j1, j2, j3, j4⟩ hs4 hg4
  rw [List.take_length] at j4
  have x8 : s4 8 = .rf 1 9 0 f.code.length := (hs4 8 (by decide)).trans (by simp [q8])
  have x9 : s4 9 = .rf 1 8 0 f.vars.length := (hs4 9 (by decide)).trans (by simp [q9])
  have lN : (mapN f nd).length = f.code.length := by simp [mapN, nums_len]
  have lV : (mapV f vs).length = f.vars.length := by simp [mapV, nums_len]
  have a8 : Acc h4 (.rf 1 9 0 f.code.length) 1 ((mapN f nd).map Enc.c).flatten f.code.length := ⟨by rw [flat_len', lN]; rfl, .inr ⟨9, rfl, by rw [j3, ils_map]; rfl, by omega, by omega⟩⟩
  have a9 : Acc h4 (.rf 1 8 0 f.vars.length) 1 ((mapV f vs).map Enc.c).flatten f.vars.length := ⟨by rw [flat_len', lV]; rfl, .inr ⟨8, rfl, by rw [j4, ils_map]; rfl, by omega, by omega⟩⟩
  simp [x8, x9, a8.snap lN.symm, a9.snap lV.symm, a8.freshInts, a9.freshInts]
/-- What 'Maps' gives back. -/
def mapRes (f : LFun) (v : PV) : Prop :=
  (∃ t nd vs, okP f ∧ f.extern = false ∧ shapeS f = some (t, nd, vs) ∧ v = .tup [sl (mapN f nd), sl (mapV f vs), .int .i64 0]) ∨ (okP f ∧ f.extern = true ∧ v = .tup [sl (mapN f []), sl (mapV f []), .int .i64 0]) ∨
    ((¬ okP f ∨ (f.extern = false ∧ shapeS f = none)) ∧ v = .tup [sl ([] : List Int), sl ([] : List Int), .int .i64 3])
theorem shapeS_props {f : LFun} {t : Tr} {nd vs : List Int} (h : shapeS f = some (t, nd, vs)) : Nums f.code.length nd ∧ VN f vs ∧ f.body ∈ nd := by
  unfold shapeS at h
  split at h
  · rename_i hb
    obtain ⟨h1, h2, h3, _⟩ := shV_props _ _ _ _ _ _ _ _ ⟨hb.1, hb.2, by simp⟩ (Nums.nil _) (VN.nil _) h
    exact ⟨h1, h2, h3.subset (by simp)⟩
  · cases h
theorem maps_p (f : LFun) (hf : FitF f) : ∃ v, mapRes f v ∧ Pure T 22 [.agg (Enc.c f)] v true := by
  obtain ⟨v, hv, hP⟩ := shaped_p f hf
  rcases hv with ⟨t, nd, vs, h1, h2, h3, rfl⟩ | ⟨h1, h2, rfl⟩ | ⟨l, l', h1, rfl⟩
  · obtain ⟨q1, q2, _⟩ := shapeS_props h3
    exact ⟨_, .inl ⟨t, nd, vs, h1, h2, h3, rfl⟩, maps_w f hf h1 nd vs q1 q2 hP⟩
  · exact ⟨_, .inr (.inl ⟨h1, h2, rfl⟩), maps_w f hf h1 [] [] (Nums.nil _) (VN.nil _) hP⟩
  · exact ⟨_, .inr (.inr ⟨h1, rfl⟩), maps_no f hf h1⟩
end Go.Proofs.Ytbnfcdjlbabddaa

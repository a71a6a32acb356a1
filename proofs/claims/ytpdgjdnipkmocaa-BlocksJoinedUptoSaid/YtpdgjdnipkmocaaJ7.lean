/- The memory of the program's 'Join': own blocks, each with its own code. -/
import Derived.Test.YtpdgjdnipkmocaaJ6
set_option linter.unusedVariables false
set_option linter.unusedSimpArgs false
namespace Go.Proofs.Ytpdgjdnipkmocaa
open Go.Ev

/-- The cells of own blocks; ic names the code's rows. -/
structure JB (h : AH) (l : List LBlock) (cells : List PV) (ic : Nat → Nat) (S : Nat → Prop) : Prop where
  len : cells.length = l.length * 3
  reg : ∀ c (hc : c < l.length), ∃ rv, cells[c * 3]? = some rv ∧ Rep S h 4 rv (sl l[c].regs)
  fre : ∀ c (hc : c < l.length), cells[c * 3 + 1]? = some (.str l[c].free)
  cod : ∀ c (hc : c < l.length), cells[c * 3 + 2]? = some (.rf 8 (ic c) 0 l[c].code.length)
  row : ∀ c (hc : c < l.length), ∃ cc, h.row (ic c) = some cc ∧ cc.length = l[c].code.length * 8 ∧ RepL (Rep S h 3) cc (l[c].code.map Enc.c).flatten
  inj : ∀ c c', c < l.length → c' < l.length → ic c = ic c' → c = c'
  out : ∀ c, c < l.length → ¬ S (ic c) ∧ ic c < h.nx

section
variable {h h' : AH} {l : List LBlock} {cells : List PV} {ic : Nat → Nat} {S : Nat → Prop}

/-- Everything that the blocks reach. -/
def JS (l : List LBlock) (ic : Nat → Nat) (S : Nat → Prop) (i : Nat) : Prop := S i ∨ ∃ c, c < l.length ∧ i = ic c

theorem JB.agree (j : JB h l cells ic S) (hn : h.nx ≤ h'.nx) (hb : ∀ i, JS l ic S i → i < h.nx → h'.blk i = h.blk i) : JB h' l cells ic S := by
  have hS : ∀ i, S i → i < h.nx → h'.blk i = h.blk i := fun i q hi => hb i (.inl q) hi
  refine ⟨j.len, fun c hc => ?_, j.fre, j.cod, fun c hc => ?_, j.inj, fun c hc => ⟨(j.out c hc).1, by have := (j.out c hc).2; omega⟩⟩
  · obtain ⟨rv, e, r⟩ := j.reg c hc
    exact ⟨rv, e, r.agree hn hS⟩
  · obtain ⟨cc, e1, e2, e3⟩ := j.row c hc
    refine ⟨cc, ?_, e2, e3.imp fun _ _ q => q.agree hn hS⟩
    simp only [AH.row, hb (ic c) (.inr ⟨c, hc, rfl⟩) (j.out c hc).2]
    exact e1

theorem JB.rep (j : JB h l cells ic S) : RepL (Rep (JS l ic S) h 4) cells (l.map Enc.c).flatten := by
  have hlen : cells.length = ((l.map Enc.c).flatten).length := by rw [j.len, flat_len']; rfl
  refine RepL.mk hlen fun k hk hk' => ?_
  have hc : k / 3 < l.length := by rw [j.len] at hk; omega
  have hch := flat_chunk l (k / 3) hc
  have hz : Enc.z LBlock = 3 := rfl
  rw [hz] at hch
  have hget : ∀ r, r < 3 → k = k / 3 * 3 + r → ((l.map Enc.c).flatten)[k]? = (Enc.c l[k / 3])[r]? := fun r hr e => by
    rw [← hch, List.getElem?_take, if_pos hr, List.getElem?_drop, ← e]
  have mono : ∀ {d : Nat} {v u : PV}, Rep S h d v u → Rep (JS l ic S) h d v u := fun q => q.mono fun _ q => .inl q
  have fin : ∀ v u, cells[k]? = some v → ((l.map Enc.c).flatten)[k]? = some u → Rep (JS l ic S) h 4 v u → Rep (JS l ic S) h 4 cells[k] ((l.map Enc.c).flatten)[k] := fun v u e1 e2 q => by
    rw [List.getElem?_eq_getElem hk] at e1
    rw [List.getElem?_eq_getElem hk'] at e2
    rw [Option.some.inj e1, Option.some.inj e2]; exact q
  have h3 : k % 3 = 0 ∨ k % 3 = 1 ∨ k % 3 = 2 := by omega
  rcases h3 with h3 | h3 | h3
  · obtain ⟨rv, e, r⟩ := j.reg _ hc
    have ek : k = k / 3 * 3 + 0 := by omega
    exact fin _ _ (by rw [← e]; congr 1) (hget 0 (by omega) ek) (mono r)
  · have ek : k = k / 3 * 3 + 1 := by omega
    exact fin _ _ (by rw [← j.fre _ hc, ← ek]) (hget 1 (by omega) ek) (by simp)
  · have ek : k = k / 3 * 3 + 2 := by omega
    obtain ⟨cc, e1, e2, e3⟩ := j.row _ hc
    refine fin _ _ (by rw [← j.cod _ hc, ← ek]) (hget 2 (by omega) ek) ⟨8, cc, ?_, e2, fun z i o m e => ?_, e3.imp fun _ _ q => mono q⟩
    · rw [src_rf, e1, rowSrc_some (by omega), List.drop_zero, List.take_of_length_le (by omega)]
    · cases e; exact ⟨rfl, .inr ⟨_, hc, rfl⟩, (j.out _ hc).2⟩

theorem JB.nil : JB h [] [] ic S := ⟨rfl, fun c hc => absurd hc (by simp), fun c hc => absurd hc (by simp), fun c hc => absurd hc (by simp), fun c hc => absurd hc (by simp), fun c c' hc => absurd hc (by simp), fun c hc => absurd hc (by simp)⟩

/-- Another block at the end. -/
theorem JB.snoc (j : JB h l cells ic S) (b : LBlock) {rv : PV} {i : Nat} {cc : List PV} {S' : Nat → Prop} (hS : ∀ i, S i → S' i) (hr : Rep S' h 4 rv (sl b.regs)) (hrow : h.row i = some cc) (hcl : cc.length = b.code.length * 8) (hcc : RepL (Rep S' h 3) cc (b.code.map Enc.c).flatten)
    (hin : i < h.nx) (hiS : ¬ S' i) (hne : ∀ c, c < l.length → ic c ≠ i ∧ ¬ S' (ic c)) :
    JB h (l ++ [b]) (cells ++ [rv, .str b.free, .rf 8 i 0 b.code.length]) (fun c => if c = l.length then i else ic c) S' := by
  have hl := j.len
  have cl : ∀ {c}, c < (l ++ [b]).length → c < l.length ∨ c = l.length := fun hc => by simp at hc; omega
  refine ⟨by simp [hl]; omega, fun c hc => ?_, fun c hc => ?_, fun c hc => ?_, fun c hc => ?_, fun c c' hc hc' e => ?_, fun c hc => ?_⟩
  · rcases cl hc with q | rfl
    · obtain ⟨rv', e, r⟩ := j.reg c q
      refine ⟨rv', by rw [List.getElem?_append_left (by omega)]; exact e, ?_⟩
      rw [List.getElem_append_left q]; exact r.mono hS
    · refine ⟨rv, by rw [List.getElem?_append_right (by omega), hl]; simp, ?_⟩
      simpa using hr
  · rcases cl hc with q | rfl
    · rw [List.getElem?_append_left (by omega), j.fre c q, List.getElem_append_left q]
    · rw [List.getElem?_append_right (by omega), hl]; simp
  · rcases cl hc with q | rfl
    · rw [List.getElem?_append_left (by omega), j.cod c q, List.getElem_append_left q]
      simp; omega
    · rw [List.getElem?_append_right (by omega), hl]; simp
  · rcases cl hc with q | rfl
    · obtain ⟨cc', e1, e2, e3⟩ := j.row c q
      refine ⟨cc', ?_, ?_, ?_⟩
      · rw [if_neg (by omega)]; exact e1
      · rw [List.getElem_append_left q]; exact e2
      · rw [List.getElem_append_left q]; exact e3.imp fun _ _ q => q.mono hS
    · refine ⟨cc, by simpa using hrow, by simpa using hcl, by simpa using hcc⟩
  · skip
    rcases cl hc with q | rfl <;> rcases cl hc' with q' | rfl
    · rw [if_neg (by omega), if_neg (by omega)] at e; exact j.inj c c' q q' e
    · rw [if_neg (by omega), if_pos rfl] at e; exact absurd e (hne c q).1
    · rw [if_pos rfl, if_neg (by omega)] at e; exact absurd e.symm (hne c' q').1
    · rfl
  · rcases cl hc with q | rfl
    · rw [if_neg (by omega)]; exact ⟨(hne c q).2, (j.out c q).2⟩
    · simp only [if_true]; exact ⟨hiS, hin⟩

/-- Block a has another code, in a new row. -/
theorem JB.upd (j : JB h l cells ic S) {a : Nat} (ha : a < l.length) (code : List LInstr) {i : Nat} {cc : List PV} (hrow : h'.row i = some cc) (hcl : cc.length = code.length * 8) (hn : h.nx ≤ h'.nx)
    (hcc : RepL (Rep S h' 3) cc (code.map Enc.c).flatten) (hin : i < h'.nx) (hi : h.nx ≤ i) (hiS : ¬ S i)
    (hb : ∀ k, k < h.nx → k ≠ ic a → JS l ic S k → h'.blk k = h.blk k) :
    JB h' (l.set a { l[a] with code := code }) (cells.set (a * 3 + 2) (.rf 8 i 0 code.length)) (fun c => if c = a then i else ic c) S := by
  have hl := j.len
  have hS : ∀ k, S k → k < h.nx → h'.blk k = h.blk k := fun k q hk => hb k hk (fun e => (j.out a ha).1 (e ▸ q)) (.inl q)
  have gne : ∀ {c : Nat} (hc : c < (l.set a { l[a] with code := code }).length) (hne : c ≠ a), (l.set a { l[a] with code := code })[c] = l[c]'(by simpa using hc) := fun hc hne => by rw [List.getElem_set_ne (Ne.symm hne)]
  refine ⟨by simp [hl], fun c hc => ?_, fun c hc => ?_, fun c hc => ?_, fun c hc => ?_, fun c c' hc hc' e => ?_, fun c hc => ?_⟩
  all_goals have hc0 : c < l.length := by simpa using hc
  · obtain ⟨rv, e, r⟩ := j.reg c hc0
    refine ⟨rv, by rw [List.getElem?_set_ne (by omega)]; exact e, ?_⟩
    by_cases q : c = a
    · subst q; simpa using r.agree hn hS
    · rw [gne hc q]; exact r.agree hn hS
  · rw [List.getElem?_set_ne (by omega), j.fre c hc0]
    by_cases q : c = a
    · subst q; simp
    · rw [gne hc q]
  · by_cases q : c = a
    · subst q
      rw [List.getElem?_set_self (by omega)]; simp
    · rw [List.getElem?_set_ne (by omega), j.cod c hc0, gne hc q, if_neg q]
  · by_cases q : c = a
    · subst q
      exact ⟨cc, by simpa using hrow, by simpa using hcl, by simpa using hcc⟩
    · obtain ⟨cc', e1, e2, e3⟩ := j.row c hc0
      refine ⟨cc', ?_, by rw [gne hc q]; exact e2, by rw [gne hc q]; exact e3.imp fun _ _ q => q.agree hn hS⟩
      rw [if_neg q]
      simp only [AH.row, hb (ic c) (j.out c hc0).2 (fun e => q (j.inj c a hc0 ha e)) (.inr ⟨c, hc0, rfl⟩)]
      exact e1
  · have hc0' : c' < l.length := by simpa using hc'
    have o1 := (j.out c hc0).2
    have o2 := (j.out c' hc0').2
    by_cases q : c = a <;> by_cases q' : c' = a
    · omega
    · simp [q, q'] at e; omega
    · simp [q, q'] at e; omega
    · simp [q, q'] at e; exact j.inj c c' hc0 hc0' e
  · by_cases q : c = a
    · simp [q]; exact ⟨hiS, hin⟩
    · simp [q]
      have := j.out c hc0
      exact ⟨this.1, by omega⟩
end
end Go.Proofs.Ytpdgjdnipkmocaa

/- The plain data of the statements: structures, their cells, their shapes. Printed by dat.py. -/
import Derived.Test.YtkaabknkabdfpaaGreatDoorEwB
import Derived.Test.YtkaabknkabdfpaaGreatDoorEwU
set_option linter.unusedVariables false
set_option linter.unusedSimpArgs false
namespace Go.Proofs.YtkaabknkabdfpaaGreatDoor
open Go.Ev

def shInt : Sh := .int .i64
class Okc (α : Type) where
  ok : α → Prop
instance : Okc Int := ⟨fun n => IntKind.i64.min ≤ n ∧ n ≤ IntKind.i64.max⟩
instance : Okc Bool := ⟨fun _ => True⟩
instance : Okc ByteArray := ⟨fun b => b.size ≤ maxLen⟩
instance {α : Type} [Okc α] : Okc (List α) := ⟨fun l => l.length ≤ maxLen ∧ ∀ x ∈ l, Okc.ok x⟩
/-- Nothing is longer than N. -/
class Smc (α : Type) where
  sm : Nat → α → Prop
instance : Smc Int := ⟨fun _ _ => True⟩
instance : Smc Bool := ⟨fun _ _ => True⟩
instance : Smc ByteArray := ⟨fun N b => b.size ≤ N⟩
instance {α : Type} [Smc α] : Smc (List α) := ⟨fun N l => l.length ≤ N ∧ ∀ x ∈ l, Smc.sm N x⟩
theorem sm_map {e : Sh} {β : Type} [Smc β] {g : e.den → β} {N : Nat} (hg : ∀ x, e.small N x → Smc.sm N (g x)) {l : List e.den} (o : (Sh.sl e).small N l) : Smc.sm N (List.map g l) := by
  refine ⟨by rw [List.length_map]; exact o.1, fun x hx => ?_⟩
  obtain ⟨y, hy, rfl⟩ := List.mem_map.1 hx
  exact hg y (o.2 y hy)
theorem sl_eq {e : Sh} {β : Type} [Enc β] {g : e.den → β} (hg : ∀ x, e.pv x = Enc.c (g x)) (l : List e.den) : (Sh.sl e).pv l = [sl (l.map g)] := by
  show [PV.sl l.length (l.map e.pv).flatten] = _
  have : (l.map e.pv) = (l.map g).map Enc.c := by rw [List.map_map]; exact List.map_congr_left fun x _ => hg x
  rw [this]
  simp [sl]
theorem ok_map {e : Sh} {β : Type} [Okc β] {g : e.den → β} (hg : ∀ x, e.ok x → Okc.ok (g x)) {l : List e.den} (o : (Sh.sl e).ok l) : Okc.ok (List.map g l) := by
  refine ⟨by rw [List.length_map]; exact o.1, fun x hx => ?_⟩
  obtain ⟨y, hy, rfl⟩ := List.mem_map.1 hx
  exact hg y (o.2 y hy)

structure LCon where
  name : ByteArray
  fields : List Int
def shCon : Sh := .pair .str (.pair (.sl shInt) (.unit))
instance : Enc LCon := ⟨2, fun x => [.str x.name, sl x.fields], fun _ => rfl, 2, fun x v hv => by
  simp only [List.mem_cons, List.not_mem_nil, or_false] at hv
  rcases hv with rfl | rfl <;> first | rfl | exact imm_mono _ _ _ (by decide) (imm_sl _), by decide⟩
@[simp] theorem c_LCon (x : LCon) : Enc.c x = [PV.str x.name, sl x.fields] := rfl
@[simp] theorem z_LCon : Enc.z LCon = 2 := rfl
@[simp] theorem dep_LCon : Enc.dep LCon = 2 := rfl
@[simp] theorem eta_LCon (x : LCon) : (⟨x.name, x.fields⟩ : LCon) = x := rfl
def mkCon : shCon.den → LCon := fun x => ⟨x.1, x.2.1⟩
theorem mkCon_c (x : shCon.den) : shCon.pv x = Enc.c (mkCon x) := by
  obtain ⟨x0, x1, _⟩ := x
  show (Sh.str).pv x0 ++ ((Sh.sl shInt).pv x1 ++ []) = _
  rfl
instance : Okc LCon := ⟨fun x => Okc.ok x.name ∧ Okc.ok x.fields⟩
theorem mkCon_ok (x : shCon.den) (o : shCon.ok x) : Okc.ok (mkCon x) := by
  obtain ⟨x0, x1, _⟩ := x
  obtain ⟨o0, o1, _⟩ := o
  exact ⟨o0, o1⟩
instance : Smc LCon := ⟨fun N x => Smc.sm N x.name ∧ Smc.sm N x.fields⟩
theorem mkCon_sm {N : Nat} (x : shCon.den) (o : shCon.small N x) : Smc.sm N (mkCon x) := by
  obtain ⟨x0, x1, _⟩ := x
  obtain ⟨o0, o1, _⟩ := o
  exact ⟨o0, o1⟩

structure LData where
  name : ByteArray
  cons : List LCon
def shData : Sh := .pair .str (.pair (.sl shCon) (.unit))
instance : Enc LData := ⟨2, fun x => [.str x.name, sl x.cons], fun _ => rfl, 3, fun x v hv => by
  simp only [List.mem_cons, List.not_mem_nil, or_false] at hv
  rcases hv with rfl | rfl <;> first | rfl | exact imm_mono _ _ _ (by decide) (imm_sl _), by decide⟩
@[simp] theorem c_LData (x : LData) : Enc.c x = [PV.str x.name, sl x.cons] := rfl
@[simp] theorem z_LData : Enc.z LData = 2 := rfl
@[simp] theorem dep_LData : Enc.dep LData = 3 := rfl
@[simp] theorem eta_LData (x : LData) : (⟨x.name, x.cons⟩ : LData) = x := rfl
def mkData : shData.den → LData := fun x => ⟨x.1, (List.map mkCon x.2.1)⟩
theorem mkData_c (x : shData.den) : shData.pv x = Enc.c (mkData x) := by
  obtain ⟨x0, x1, _⟩ := x
  have h1 := sl_eq mkCon_c x1
  show (Sh.str).pv x0 ++ ((Sh.sl shCon).pv x1 ++ []) = _
  rw [h1]
  rfl
instance : Okc LData := ⟨fun x => Okc.ok x.name ∧ Okc.ok x.cons⟩
theorem mkData_ok (x : shData.den) (o : shData.ok x) : Okc.ok (mkData x) := by
  obtain ⟨x0, x1, _⟩ := x
  obtain ⟨o0, o1, _⟩ := o
  exact ⟨o0, ok_map mkCon_ok o1⟩
instance : Smc LData := ⟨fun N x => Smc.sm N x.name ∧ Smc.sm N x.cons⟩
theorem mkData_sm {N : Nat} (x : shData.den) (o : shData.small N x) : Smc.sm N (mkData x) := by
  obtain ⟨x0, x1, _⟩ := x
  obtain ⟨o0, o1, _⟩ := o
  exact ⟨o0, sm_map mkCon_sm o1⟩

structure LVar where
  type : Int
  read : Bool
def shVar : Sh := .pair shInt (.pair .bool (.unit))
instance : Enc LVar := ⟨2, fun x => [.int .i64 x.type, .bool x.read], fun _ => rfl, 1, fun x v hv => by
  simp only [List.mem_cons, List.not_mem_nil, or_false] at hv
  rcases hv with rfl | rfl <;> first | rfl | exact imm_mono _ _ _ (by decide) (imm_sl _), by decide⟩
@[simp] theorem c_LVar (x : LVar) : Enc.c x = [PV.int .i64 x.type, PV.bool x.read] := rfl
@[simp] theorem z_LVar : Enc.z LVar = 2 := rfl
@[simp] theorem dep_LVar : Enc.dep LVar = 1 := rfl
@[simp] theorem eta_LVar (x : LVar) : (⟨x.type, x.read⟩ : LVar) = x := rfl
def mkVar : shVar.den → LVar := fun x => ⟨x.1, x.2.1⟩
theorem mkVar_c (x : shVar.den) : shVar.pv x = Enc.c (mkVar x) := by
  obtain ⟨x0, x1, _⟩ := x
  show (shInt).pv x0 ++ ((Sh.bool).pv x1 ++ []) = _
  rfl
instance : Okc LVar := ⟨fun x => Okc.ok x.type ∧ Okc.ok x.read⟩
theorem mkVar_ok (x : shVar.den) (o : shVar.ok x) : Okc.ok (mkVar x) := by
  obtain ⟨x0, x1, _⟩ := x
  obtain ⟨o0, o1, _⟩ := o
  exact ⟨o0, o1⟩
instance : Smc LVar := ⟨fun N x => Smc.sm N x.type ∧ Smc.sm N x.read⟩
theorem mkVar_sm {N : Nat} (x : shVar.den) (o : shVar.small N x) : Smc.sm N (mkVar x) := by
  obtain ⟨x0, x1, _⟩ := x
  obtain ⟨o0, o1, _⟩ := o
  exact ⟨o0, o1⟩

structure LSig where
  params : List (List ByteArray)
  base : ByteArray
  result : List ByteArray
  rest : ByteArray
def shSig : Sh := .pair (.sl (.sl .str)) (.pair .str (.pair (.sl .str) (.pair .str (.unit))))
instance : Enc LSig := ⟨4, fun x => [sl x.params, .str x.base, sl x.result, .str x.rest], fun _ => rfl, 3, fun x v hv => by
  simp only [List.mem_cons, List.not_mem_nil, or_false] at hv
  rcases hv with rfl | rfl | rfl | rfl <;> first | rfl | exact imm_mono _ _ _ (by decide) (imm_sl _), by decide⟩
@[simp] theorem c_LSig (x : LSig) : Enc.c x = [sl x.params, PV.str x.base, sl x.result, PV.str x.rest] := rfl
@[simp] theorem z_LSig : Enc.z LSig = 4 := rfl
@[simp] theorem dep_LSig : Enc.dep LSig = 3 := rfl
@[simp] theorem eta_LSig (x : LSig) : (⟨x.params, x.base, x.result, x.rest⟩ : LSig) = x := rfl
def mkSig : shSig.den → LSig := fun x => ⟨x.1, x.2.1, x.2.2.1, x.2.2.2.1⟩
theorem mkSig_c (x : shSig.den) : shSig.pv x = Enc.c (mkSig x) := by
  obtain ⟨x0, x1, x2, x3, _⟩ := x
  show (Sh.sl (.sl .str)).pv x0 ++ ((Sh.str).pv x1 ++ ((Sh.sl .str).pv x2 ++ ((Sh.str).pv x3 ++ []))) = _
  rfl
instance : Okc LSig := ⟨fun x => Okc.ok x.params ∧ Okc.ok x.base ∧ Okc.ok x.result ∧ Okc.ok x.rest⟩
theorem mkSig_ok (x : shSig.den) (o : shSig.ok x) : Okc.ok (mkSig x) := by
  obtain ⟨x0, x1, x2, x3, _⟩ := x
  obtain ⟨o0, o1, o2, o3, _⟩ := o
  exact ⟨o0, o1, o2, o3⟩
instance : Smc LSig := ⟨fun N x => Smc.sm N x.params ∧ Smc.sm N x.base ∧ Smc.sm N x.result ∧ Smc.sm N x.rest⟩
theorem mkSig_sm {N : Nat} (x : shSig.den) (o : shSig.small N x) : Smc.sm N (mkSig x) := by
  obtain ⟨x0, x1, x2, x3, _⟩ := x
  obtain ⟨o0, o1, o2, o3, _⟩ := o
  exact ⟨o0, o1, o2, o3⟩

structure LReg where
  live : Bool
  type : Int
  read : Bool
  pot : List ByteArray
def shReg : Sh := .pair .bool (.pair shInt (.pair .bool (.pair (.sl .str) (.unit))))
instance : Enc LReg := ⟨4, fun x => [.bool x.live, .int .i64 x.type, .bool x.read, sl x.pot], fun _ => rfl, 2, fun x v hv => by
  simp only [List.mem_cons, List.not_mem_nil, or_false] at hv
  rcases hv with rfl | rfl | rfl | rfl <;> first | rfl | exact imm_mono _ _ _ (by decide) (imm_sl _), by decide⟩
@[simp] theorem c_LReg (x : LReg) : Enc.c x = [PV.bool x.live, PV.int .i64 x.type, PV.bool x.read, sl x.pot] := rfl
@[simp] theorem z_LReg : Enc.z LReg = 4 := rfl
@[simp] theorem dep_LReg : Enc.dep LReg = 2 := rfl
@[simp] theorem eta_LReg (x : LReg) : (⟨x.live, x.type, x.read, x.pot⟩ : LReg) = x := rfl
def mkReg : shReg.den → LReg := fun x => ⟨x.1, x.2.1, x.2.2.1, x.2.2.2.1⟩
theorem mkReg_c (x : shReg.den) : shReg.pv x = Enc.c (mkReg x) := by
  obtain ⟨x0, x1, x2, x3, _⟩ := x
  show (Sh.bool).pv x0 ++ ((shInt).pv x1 ++ ((Sh.bool).pv x2 ++ ((Sh.sl .str).pv x3 ++ []))) = _
  rfl
instance : Okc LReg := ⟨fun x => Okc.ok x.live ∧ Okc.ok x.type ∧ Okc.ok x.read ∧ Okc.ok x.pot⟩
theorem mkReg_ok (x : shReg.den) (o : shReg.ok x) : Okc.ok (mkReg x) := by
  obtain ⟨x0, x1, x2, x3, _⟩ := x
  obtain ⟨o0, o1, o2, o3, _⟩ := o
  exact ⟨o0, o1, o2, o3⟩
instance : Smc LReg := ⟨fun N x => Smc.sm N x.live ∧ Smc.sm N x.type ∧ Smc.sm N x.read ∧ Smc.sm N x.pot⟩
theorem mkReg_sm {N : Nat} (x : shReg.den) (o : shReg.small N x) : Smc.sm N (mkReg x) := by
  obtain ⟨x0, x1, x2, x3, _⟩ := x
  obtain ⟨o0, o1, o2, o3, _⟩ := o
  exact ⟨o0, o1, o2, o3⟩

structure LInstr where
  op : Int
  to : Int
  args : List Int
  more : List Int
  con : Int
  num : Int
  fn : Int
  jump : List Int
def shInstr : Sh := .pair shInt (.pair shInt (.pair (.sl shInt) (.pair (.sl shInt) (.pair shInt (.pair shInt (.pair shInt (.pair (.sl shInt) (.unit))))))))
instance : Enc LInstr := ⟨8, fun x => [.int .i64 x.op, .int .i64 x.to, sl x.args, sl x.more, .int .i64 x.con, .int .i64 x.num, .int .i64 x.fn, sl x.jump], fun _ => rfl, 2, fun x v hv => by
  simp only [List.mem_cons, List.not_mem_nil, or_false] at hv
  rcases hv with rfl | rfl | rfl | rfl | rfl | rfl | rfl | rfl <;> first | rfl | exact imm_mono _ _ _ (by decide) (imm_sl _), by decide⟩
@[simp] theorem c_LInstr (x : LInstr) : Enc.c x = [PV.int .i64 x.op, PV.int .i64 x.to, sl x.args, sl x.more, PV.int .i64 x.con, PV.int .i64 x.num, PV.int .i64 x.fn, sl x.jump] := rfl
@[simp] theorem z_LInstr : Enc.z LInstr = 8 := rfl
@[simp] theorem dep_LInstr : Enc.dep LInstr = 2 := rfl
@[simp] theorem eta_LInstr (x : LInstr) : (⟨x.op, x.to, x.args, x.more, x.con, x.num, x.fn, x.jump⟩ : LInstr) = x := rfl
def mkInstr : shInstr.den → LInstr := fun x => ⟨x.1, x.2.1, x.2.2.1, x.2.2.2.1, x.2.2.2.2.1, x.2.2.2.2.2.1, x.2.2.2.2.2.2.1, x.2.2.2.2.2.2.2.1⟩
theorem mkInstr_c (x : shInstr.den) : shInstr.pv x = Enc.c (mkInstr x) := by
  obtain ⟨x0, x1, x2, x3, x4, x5, x6, x7, _⟩ := x
  show (shInt).pv x0 ++ ((shInt).pv x1 ++ ((Sh.sl shInt).pv x2 ++ ((Sh.sl shInt).pv x3 ++ ((shInt).pv x4 ++ ((shInt).pv x5 ++ ((shInt).pv x6 ++ ((Sh.sl shInt).pv x7 ++ []))))))) = _
  rfl
instance : Okc LInstr := ⟨fun x => Okc.ok x.op ∧ Okc.ok x.to ∧ Okc.ok x.args ∧ Okc.ok x.more ∧ Okc.ok x.con ∧ Okc.ok x.num ∧ Okc.ok x.fn ∧ Okc.ok x.jump⟩
theorem mkInstr_ok (x : shInstr.den) (o : shInstr.ok x) : Okc.ok (mkInstr x) := by
  obtain ⟨x0, x1, x2, x3, x4, x5, x6, x7, _⟩ := x
  obtain ⟨o0, o1, o2, o3, o4, o5, o6, o7, _⟩ := o
  exact ⟨o0, o1, o2, o3, o4, o5, o6, o7⟩
instance : Smc LInstr := ⟨fun N x => Smc.sm N x.op ∧ Smc.sm N x.to ∧ Smc.sm N x.args ∧ Smc.sm N x.more ∧ Smc.sm N x.con ∧ Smc.sm N x.num ∧ Smc.sm N x.fn ∧ Smc.sm N x.jump⟩
theorem mkInstr_sm {N : Nat} (x : shInstr.den) (o : shInstr.small N x) : Smc.sm N (mkInstr x) := by
  obtain ⟨x0, x1, x2, x3, x4, x5, x6, x7, _⟩ := x
  obtain ⟨o0, o1, o2, o3, o4, o5, o6, o7, _⟩ := o
  exact ⟨o0, o1, o2, o3, o4, o5, o6, o7⟩

structure LBlock where
  regs : List LReg
  free : ByteArray
  code : List LInstr
def shBlock : Sh := .pair (.sl shReg) (.pair .str (.pair (.sl shInstr) (.unit)))
instance : Enc LBlock := ⟨3, fun x => [sl x.regs, .str x.free, sl x.code], fun _ => rfl, 3, fun x v hv => by
  simp only [List.mem_cons, List.not_mem_nil, or_false] at hv
  rcases hv with rfl | rfl | rfl <;> first | rfl | exact imm_mono _ _ _ (by decide) (imm_sl _), by decide⟩
@[simp] theorem c_LBlock (x : LBlock) : Enc.c x = [sl x.regs, PV.str x.free, sl x.code] := rfl
@[simp] theorem z_LBlock : Enc.z LBlock = 3 := rfl
@[simp] theorem dep_LBlock : Enc.dep LBlock = 3 := rfl
@[simp] theorem eta_LBlock (x : LBlock) : (⟨x.regs, x.free, x.code⟩ : LBlock) = x := rfl
def mkBlock : shBlock.den → LBlock := fun x => ⟨(List.map mkReg x.1), x.2.1, (List.map mkInstr x.2.2.1)⟩
theorem mkBlock_c (x : shBlock.den) : shBlock.pv x = Enc.c (mkBlock x) := by
  obtain ⟨x0, x1, x2, _⟩ := x
  have h0 := sl_eq mkReg_c x0
  have h2 := sl_eq mkInstr_c x2
  show (Sh.sl shReg).pv x0 ++ ((Sh.str).pv x1 ++ ((Sh.sl shInstr).pv x2 ++ [])) = _
  rw [h0, h2]
  rfl
instance : Okc LBlock := ⟨fun x => Okc.ok x.regs ∧ Okc.ok x.free ∧ Okc.ok x.code⟩
theorem mkBlock_ok (x : shBlock.den) (o : shBlock.ok x) : Okc.ok (mkBlock x) := by
  obtain ⟨x0, x1, x2, _⟩ := x
  obtain ⟨o0, o1, o2, _⟩ := o
  exact ⟨ok_map mkReg_ok o0, o1, ok_map mkInstr_ok o2⟩
instance : Smc LBlock := ⟨fun N x => Smc.sm N x.regs ∧ Smc.sm N x.free ∧ Smc.sm N x.code⟩
theorem mkBlock_sm {N : Nat} (x : shBlock.den) (o : shBlock.small N x) : Smc.sm N (mkBlock x) := by
  obtain ⟨x0, x1, x2, _⟩ := x
  obtain ⟨o0, o1, o2, _⟩ := o
  exact ⟨sm_map mkReg_sm o0, o1, sm_map mkInstr_sm o2⟩

structure LProc where
  name : ByteArray
  params : List LVar
  result : Int
  sig : LSig
  blocks : List LBlock
  extern : Bool
def shProc : Sh := .pair .str (.pair (.sl shVar) (.pair shInt (.pair shSig (.pair (.sl shBlock) (.pair .bool (.unit))))))
instance : Enc LProc := ⟨9, fun x => [.str x.name, sl x.params, .int .i64 x.result, sl x.sig.params, .str x.sig.base, sl x.sig.result, .str x.sig.rest, sl x.blocks, .bool x.extern], fun _ => rfl, 4, fun x v hv => by
  simp only [List.mem_cons, List.not_mem_nil, or_false] at hv
  rcases hv with rfl | rfl | rfl | rfl | rfl | rfl | rfl | rfl | rfl <;> first | rfl | exact imm_mono _ _ _ (by decide) (imm_sl _), by decide⟩
@[simp] theorem c_LProc (x : LProc) : Enc.c x = [PV.str x.name, sl x.params, PV.int .i64 x.result, sl x.sig.params, PV.str x.sig.base, sl x.sig.result, PV.str x.sig.rest, sl x.blocks, PV.bool x.extern] := rfl
@[simp] theorem z_LProc : Enc.z LProc = 9 := rfl
@[simp] theorem dep_LProc : Enc.dep LProc = 4 := rfl
@[simp] theorem eta_LProc (x : LProc) : (⟨x.name, x.params, x.result, x.sig, x.blocks, x.extern⟩ : LProc) = x := rfl
def mkProc : shProc.den → LProc := fun x => ⟨x.1, (List.map mkVar x.2.1), x.2.2.1, (mkSig x.2.2.2.1), (List.map mkBlock x.2.2.2.2.1), x.2.2.2.2.2.1⟩
theorem mkProc_c (x : shProc.den) : shProc.pv x = Enc.c (mkProc x) := by
  obtain ⟨x0, x1, x2, x3, x4, x5, _⟩ := x
  have h1 := sl_eq mkVar_c x1
  have h3 := mkSig_c x3
  have h4 := sl_eq mkBlock_c x4
  show (Sh.str).pv x0 ++ ((Sh.sl shVar).pv x1 ++ ((shInt).pv x2 ++ ((shSig).pv x3 ++ ((Sh.sl shBlock).pv x4 ++ ((Sh.bool).pv x5 ++ []))))) = _
  rw [h1, h3, h4]
  rfl
instance : Okc LProc := ⟨fun x => Okc.ok x.name ∧ Okc.ok x.params ∧ Okc.ok x.result ∧ Okc.ok x.sig ∧ Okc.ok x.blocks ∧ Okc.ok x.extern⟩
theorem mkProc_ok (x : shProc.den) (o : shProc.ok x) : Okc.ok (mkProc x) := by
  obtain ⟨x0, x1, x2, x3, x4, x5, _⟩ := x
  obtain ⟨o0, o1, o2, o3, o4, o5, _⟩ := o
  exact ⟨o0, ok_map mkVar_ok o1, o2, mkSig_ok _ o3, ok_map mkBlock_ok o4, o5⟩
instance : Smc LProc := ⟨fun N x => Smc.sm N x.name ∧ Smc.sm N x.params ∧ Smc.sm N x.result ∧ Smc.sm N x.sig ∧ Smc.sm N x.blocks ∧ Smc.sm N x.extern⟩
theorem mkProc_sm {N : Nat} (x : shProc.den) (o : shProc.small N x) : Smc.sm N (mkProc x) := by
  obtain ⟨x0, x1, x2, x3, x4, x5, _⟩ := x
  obtain ⟨o0, o1, o2, o3, o4, o5, _⟩ := o
  exact ⟨o0, sm_map mkVar_sm o1, o2, mkSig_sm _ o3, sm_map mkBlock_sm o4, o5⟩

structure LImage where
  datas : List LData
  procs : List LProc
def shImage : Sh := .pair (.sl shData) (.pair (.sl shProc) (.unit))
instance : Enc LImage := ⟨2, fun x => [sl x.datas, sl x.procs], fun _ => rfl, 5, fun x v hv => by
  simp only [List.mem_cons, List.not_mem_nil, or_false] at hv
  rcases hv with rfl | rfl <;> first | rfl | exact imm_mono _ _ _ (by decide) (imm_sl _), by decide⟩
@[simp] theorem c_LImage (x : LImage) : Enc.c x = [sl x.datas, sl x.procs] := rfl
@[simp] theorem z_LImage : Enc.z LImage = 2 := rfl
@[simp] theorem dep_LImage : Enc.dep LImage = 5 := rfl
@[simp] theorem eta_LImage (x : LImage) : (⟨x.datas, x.procs⟩ : LImage) = x := rfl
def mkImage : shImage.den → LImage := fun x => ⟨(List.map mkData x.1), (List.map mkProc x.2.1)⟩
theorem mkImage_c (x : shImage.den) : shImage.pv x = Enc.c (mkImage x) := by
  obtain ⟨x0, x1, _⟩ := x
  have h0 := sl_eq mkData_c x0
  have h1 := sl_eq mkProc_c x1
  show (Sh.sl shData).pv x0 ++ ((Sh.sl shProc).pv x1 ++ []) = _
  rw [h0, h1]
  rfl
instance : Okc LImage := ⟨fun x => Okc.ok x.datas ∧ Okc.ok x.procs⟩
theorem mkImage_ok (x : shImage.den) (o : shImage.ok x) : Okc.ok (mkImage x) := by
  obtain ⟨x0, x1, _⟩ := x
  obtain ⟨o0, o1, _⟩ := o
  exact ⟨ok_map mkData_ok o0, ok_map mkProc_ok o1⟩
instance : Smc LImage := ⟨fun N x => Smc.sm N x.datas ∧ Smc.sm N x.procs⟩
theorem mkImage_sm {N : Nat} (x : shImage.den) (o : shImage.small N x) : Smc.sm N (mkImage x) := by
  obtain ⟨x0, x1, _⟩ := x
  obtain ⟨o0, o1, _⟩ := o
  exact ⟨sm_map mkData_sm o0, sm_map mkProc_sm o1⟩

end Go.Proofs.YtkaabknkabdfpaaGreatDoor

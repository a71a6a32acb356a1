/- The plain data of the statements: structures, their cells, their shapes. Printed by dat.py. -/
import Derived.Test.YtbnfcdjlbabddaaEwB
import Derived.Test.YtbnfcdjlbabddaaEwU
set_option linter.unusedVariables false
set_option linter.unusedSimpArgs false
namespace Go.Proofs.Ytbnfcdjlbabddaa
open Go.Ev

def shInt : Sh := .int .i64
class Okc (α : Type) where
  ok : α → Prop
instance : Okc Int := ⟨fun n => IntKind.i64.min ≤ n ∧ n ≤ IntKind.i64.max⟩
instance : Okc Bool := ⟨fun _ => True⟩
instance : Okc ByteArray := ⟨fun b => b.size ≤ maxLen⟩
instance {α : Type} [Okc α] : Okc (List α) := ⟨fun l => l.length ≤ maxLen ∧ ∀ x ∈ l, Okc.ok x⟩
/-- Nothing is longer than N. -/
class Smc (α : Type) where
  sm : Nat → α → Prop
instance : Smc Int := ⟨fun _ _ => True⟩
instance : Smc Bool := ⟨fun _ _ => True⟩
instance : Smc ByteArray := ⟨fun N b => b.size ≤ N⟩
instance {α : Type} [Smc α] : Smc (List α) := ⟨fun N l => l.length ≤ N ∧ ∀ x ∈ l, Smc.sm N x⟩
theorem sm_map {e : Sh} {β : Type} [Smc β] {g : e.den → β} {N : Nat} (hg : ∀ x, e.small N x → Smc.sm N (g x)) {l : List e.den} (o : (Sh.sl e).small N l) : Smc.sm N (List.map g l) := by
  refine ⟨by rw [List.length_map]; exact o.1, fun x hx => ?_⟩
  obtain ⟨y, hy, rfl⟩ := List.mem_map.1 hx
  exact hg y (o.2 y hy)
theorem sl_eq {e : Sh} {β : Type} [Enc β] {g : e.den → β} (hg : ∀ x, e.pv x = Enc.c (g x)) (l : List e.den) : (Sh.sl e).pv l = [sl (l.map g)] := by
  show [PV.sl l.length (l.map e.pv).flatten] = _
  have : (l.map e.pv) = (l.map g).map Enc.c := by rw [List.map_map]; exact List.map_congr_left fun x _ => hg x
  rw [this]
  simp [sl]
theorem ok_map {e : Sh} {β : Type} [Okc β] {g : e.den → β} (hg : ∀ x, e.ok x → Okc.ok (g x)) {l : List e.den} (o : (Sh.sl e).ok l) : Okc.ok (List.map g l) := by
  refine ⟨by rw [List.length_map]; exact o.1, fun x hx => ?_⟩
  obtain ⟨y, hy, rfl⟩ := List.mem_map.1 hx
  exact hg y (o.2 y hy)

structure LBranch where
  binds : List Int
  thn : Int
def shBranch : Sh := .pair (.sl shInt) (.pair shInt (.unit))
instance : Enc LBranch := ⟨2, fun x => [sl x.binds, .int .i64 x.thn], fun _ => rfl, 2, fun x v hv => by
  simp only [List.mem_cons, List.not_mem_nil, or_false] at hv
  rcases hv with rfl | rfl <;> first | rfl | exact imm_mono _ _ _ (by decide) (imm_sl _), by decide⟩
@[simp] theorem c_LBranch (x : LBranch) : Enc.c x = [sl x.binds, PV.int .i64 x.thn] := rfl
@[simp] theorem z_LBranch : Enc.z LBranch = 2 := rfl
@[simp] theorem dep_LBranch : Enc.dep LBranch = 2 := rfl
@[simp] theorem eta_LBranch (x : LBranch) : (⟨x.binds, x.thn⟩ : LBranch) = x := rfl
def mkBranch : shBranch.den → LBranch := fun x => ⟨x.1, x.2.1⟩
theorem mkBranch_c (x : shBranch.den) : shBranch.pv x = Enc.c (mkBranch x) := by
  obtain ⟨x0, x1, _⟩ := x
  show (Sh.sl shInt).pv x0 ++ ((shInt).pv x1 ++ []) = _
  rfl
instance : Okc LBranch := ⟨fun x => Okc.ok x.binds ∧ Okc.ok x.thn⟩
theorem mkBranch_ok (x : shBranch.den) (o : shBranch.ok x) : Okc.ok (mkBranch x) := by
  obtain ⟨x0, x1, _⟩ := x
  obtain ⟨o0, o1, _⟩ := o
  exact ⟨o0, o1⟩
instance : Smc LBranch := ⟨fun N x => Smc.sm N x.binds ∧ Smc.sm N x.thn⟩
theorem mkBranch_sm {N : Nat} (x : shBranch.den) (o : shBranch.small N x) : Smc.sm N (mkBranch x) := by
  obtain ⟨x0, x1, _⟩ := x
  obtain ⟨o0, o1, _⟩ := o
  exact ⟨o0, o1⟩

structure LNode where
  op : Int
  var : Int
  args : List Int
  con : Int
  num : Int
  fn : Int
  more : List Int
  take : Bool
  branches : List LBranch
  next : Int
def shNode : Sh := .pair shInt (.pair shInt (.pair (.sl shInt) (.pair shInt (.pair shInt (.pair shInt (.pair (.sl shInt) (.pair .bool (.pair (.sl shBranch) (.pair shInt (.unit))))))))))
instance : Enc LNode := ⟨10, fun x => [.int .i64 x.op, .int .i64 x.var, sl x.args, .int .i64 x.con, .int .i64 x.num, .int .i64 x.fn, sl x.more, .bool x.take, sl x.branches, .int .i64 x.next], fun _ => rfl, 3, fun x v hv => by
  simp only [List.mem_cons, List.not_mem_nil, or_false] at hv
  rcases hv with rfl | rfl | rfl | rfl | rfl | rfl | rfl | rfl | rfl | rfl <;> first | rfl | exact imm_mono _ _ _ (by decide) (imm_sl _), by decide⟩
@[simp] theorem c_LNode (x : LNode) : Enc.c x = [PV.int .i64 x.op, PV.int .i64 x.var, sl x.args, PV.int .i64 x.con, PV.int .i64 x.num, PV.int .i64 x.fn, sl x.more, PV.bool x.take, sl x.branches, PV.int .i64 x.next] := rfl
@[simp] theorem z_LNode : Enc.z LNode = 10 := rfl
@[simp] theorem dep_LNode : Enc.dep LNode = 3 := rfl
@[simp] theorem eta_LNode (x : LNode) : (⟨x.op, x.var, x.args, x.con, x.num, x.fn, x.more, x.take, x.branches, x.next⟩ : LNode) = x := rfl
def mkNode : shNode.den → LNode := fun x => ⟨x.1, x.2.1, x.2.2.1, x.2.2.2.1, x.2.2.2.2.1, x.2.2.2.2.2.1, x.2.2.2.2.2.2.1, x.2.2.2.2.2.2.2.1, (List.map mkBranch x.2.2.2.2.2.2.2.2.1), x.2.2.2.2.2.2.2.2.2.1⟩
theorem mkNode_c (x : shNode.den) : shNode.pv x = Enc.c (mkNode x) := by
  obtain ⟨x0, x1, x2, x3, x4, x5, x6, x7, x8, x9, _⟩ := x
  have h8 := sl_eq mkBranch_c x8
  show (shInt).pv x0 ++ ((shInt).pv x1 ++ ((Sh.sl shInt).pv x2 ++ ((shInt).pv x3 ++ ((shInt).pv x4 ++ ((shInt).pv x5 ++ ((Sh.sl shInt).pv x6 ++ ((Sh.bool).pv x7 ++ ((Sh.sl shBranch).pv x8 ++ ((shInt).pv x9 ++ []))))))))) = _
  rw [h8]
  rfl
instance : Okc LNode := ⟨fun x => Okc.ok x.op ∧ Okc.ok x.var ∧ Okc.ok x.args ∧ Okc.ok x.con ∧ Okc.ok x.num ∧ Okc.ok x.fn ∧ Okc.ok x.more ∧ Okc.ok x.take ∧ Okc.ok x.branches ∧ Okc.ok x.next⟩
theorem mkNode_ok (x : shNode.den) (o : shNode.ok x) : Okc.ok (mkNode x) := by
  obtain ⟨x0, x1, x2, x3, x4, x5, x6, x7, x8, x9, _⟩ := x
  obtain ⟨o0, o1, o2, o3, o4, o5, o6, o7, o8, o9, _⟩ := o
  exact ⟨o0, o1, o2, o3, o4, o5, o6, o7, ok_map mkBranch_ok o8, o9⟩
instance : Smc LNode := ⟨fun N x => Smc.sm N x.op ∧ Smc.sm N x.var ∧ Smc.sm N x.args ∧ Smc.sm N x.con ∧ Smc.sm N x.num ∧ Smc.sm N x.fn ∧ Smc.sm N x.more ∧ Smc.sm N x.take ∧ Smc.sm N x.branches ∧ Smc.sm N x.next⟩
theorem mkNode_sm {N : Nat} (x : shNode.den) (o : shNode.small N x) : Smc.sm N (mkNode x) := by
  obtain ⟨x0, x1, x2, x3, x4, x5, x6, x7, x8, x9, _⟩ := x
  obtain ⟨o0, o1, o2, o3, o4, o5, o6, o7, o8, o9, _⟩ := o
  exact ⟨o0, o1, o2, o3, o4, o5, o6, o7, sm_map mkBranch_sm o8, o9⟩

structure LVar where
  type : Int
  read : Bool
def shVar : Sh := .pair shInt (.pair .bool (.unit))
instance : Enc LVar := ⟨2, fun x => [.int .i64 x.type, .bool x.read], fun _ => rfl, 1, fun x v hv => by
  simp only [List.mem_cons, List.not_mem_nil, or_false] at hv
  rcases hv with rfl | rfl <;> first | rfl | exact imm_mono _ _ _ (by decide) (imm_sl _), by decide⟩
@[simp] theorem c_LVar (x : LVar) : Enc.c x = [PV.int .i64 x.type, PV.bool x.read] := rfl
@[simp] theorem z_LVar : Enc.z LVar = 2 := rfl
@[simp] theorem dep_LVar : Enc.dep LVar = 1 := rfl
@[simp] theorem eta_LVar (x : LVar) : (⟨x.type, x.read⟩ : LVar) = x := rfl
def mkVar : shVar.den → LVar := fun x => ⟨x.1, x.2.1⟩
theorem mkVar_c (x : shVar.den) : shVar.pv x = Enc.c (mkVar x) := by
  obtain ⟨x0, x1, _⟩ := x
  show (shInt).pv x0 ++ ((Sh.bool).pv x1 ++ []) = _
  rfl
instance : Okc LVar := ⟨fun x => Okc.ok x.type ∧ Okc.ok x.read⟩
theorem mkVar_ok (x : shVar.den) (o : shVar.ok x) : Okc.ok (mkVar x) := by
  obtain ⟨x0, x1, _⟩ := x
  obtain ⟨o0, o1, _⟩ := o
  exact ⟨o0, o1⟩
instance : Smc LVar := ⟨fun N x => Smc.sm N x.type ∧ Smc.sm N x.read⟩
theorem mkVar_sm {N : Nat} (x : shVar.den) (o : shVar.small N x) : Smc.sm N (mkVar x) := by
  obtain ⟨x0, x1, _⟩ := x
  obtain ⟨o0, o1, _⟩ := o
  exact ⟨o0, o1⟩

structure LFun where
  name : ByteArray
  params : Int
  result : Int
  vars : List LVar
  code : List LNode
  body : Int
  extern : Bool
def shFun : Sh := .pair .str (.pair shInt (.pair shInt (.pair (.sl shVar) (.pair (.sl shNode) (.pair shInt (.pair .bool (.unit)))))))
instance : Enc LFun := ⟨7, fun x => [.str x.name, .int .i64 x.params, .int .i64 x.result, sl x.vars, sl x.code, .int .i64 x.body, .bool x.extern], fun _ => rfl, 4, fun x v hv => by
  simp only [List.mem_cons, List.not_mem_nil, or_false] at hv
  rcases hv with rfl | rfl | rfl | rfl | rfl | rfl | rfl <;> first | rfl | exact imm_mono _ _ _ (by decide) (imm_sl _), by decide⟩
@[simp] theorem c_LFun (x : LFun) : Enc.c x = [PV.str x.name, PV.int .i64 x.params, PV.int .i64 x.result, sl x.vars, sl x.code, PV.int .i64 x.body, PV.bool x.extern] := rfl
@[simp] theorem z_LFun : Enc.z LFun = 7 := rfl
@[simp] theorem dep_LFun : Enc.dep LFun = 4 := rfl
@[simp] theorem eta_LFun (x : LFun) : (⟨x.name, x.params, x.result, x.vars, x.code, x.body, x.extern⟩ : LFun) = x := rfl
def mkFun : shFun.den → LFun := fun x => ⟨x.1, x.2.1, x.2.2.1, (List.map mkVar x.2.2.2.1), (List.map mkNode x.2.2.2.2.1), x.2.2.2.2.2.1, x.2.2.2.2.2.2.1⟩
theorem mkFun_c (x : shFun.den) : shFun.pv x = Enc.c (mkFun x) := by
  obtain ⟨x0, x1, x2, x3, x4, x5, x6, _⟩ := x
  have h3 := sl_eq mkVar_c x3
  have h4 := sl_eq mkNode_c x4
  show (Sh.str).pv x0 ++ ((shInt).pv x1 ++ ((shInt).pv x2 ++ ((Sh.sl shVar).pv x3 ++ ((Sh.sl shNode).pv x4 ++ ((shInt).pv x5 ++ ((Sh.bool).pv x6 ++ [])))))) = _
  rw [h3, h4]
  rfl
instance : Okc LFun := ⟨fun x => Okc.ok x.name ∧ Okc.ok x.params ∧ Okc.ok x.result ∧ Okc.ok x.vars ∧ Okc.ok x.code ∧ Okc.ok x.body ∧ Okc.ok x.extern⟩
theorem mkFun_ok (x : shFun.den) (o : shFun.ok x) : Okc.ok (mkFun x) := by
  obtain ⟨x0, x1, x2, x3, x4, x5, x6, _⟩ := x
  obtain ⟨o0, o1, o2, o3, o4, o5, o6, _⟩ := o
  exact ⟨o0, o1, o2, ok_map mkVar_ok o3, ok_map mkNode_ok o4, o5, o6⟩
instance : Smc LFun := ⟨fun N x => Smc.sm N x.name ∧ Smc.sm N x.params ∧ Smc.sm N x.result ∧ Smc.sm N x.vars ∧ Smc.sm N x.code ∧ Smc.sm N x.body ∧ Smc.sm N x.extern⟩
theorem mkFun_sm {N : Nat} (x : shFun.den) (o : shFun.small N x) : Smc.sm N (mkFun x) := by
  obtain ⟨x0, x1, x2, x3, x4, x5, x6, _⟩ := x
  obtain ⟨o0, o1, o2, o3, o4, o5, o6, _⟩ := o
  exact ⟨o0, o1, o2, sm_map mkVar_sm o3, sm_map mkNode_sm o4, o5, o6⟩

end Go.Proofs.Ytbnfcdjlbabddaa

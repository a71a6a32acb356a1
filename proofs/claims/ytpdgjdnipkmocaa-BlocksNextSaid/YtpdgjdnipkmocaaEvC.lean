/- The translation of a loaded function into the abstract machine's code. What it does not take becomes 'bad', which no run passes. -/
import Derived.Test.YtpdgjdnipkmocaaEvA
set_option linter.unusedVariables false
set_option linter.unusedSimpArgs false
namespace Go.Ev

def cstCell : Value → Option PV
  | .bool b => some (.bool b)
  | .int k n => some (.int k n)
  | .string s => some (.str s)
  | .slice none 0 0 => some .emp
  | .pointer none => some .nilp
  | .map none => some .nilm
  | .nilFunc => some .nilf
  | _ => none

def cstCells : List Value → Option (List PV)
  | [] => some []
  | v :: r => match cstCell v, cstCells r with
    | some x, some xs => some (x :: xs)
    | _, _ => none

def cst : Value → Option PV
  | .agg cs => (cstCells cs.toList).map .agg
  | .tuple cs => (cstCells cs.toList).map .tup
  | v => cstCell v

def opd : Operand → Option Opd
  | .tmp t => some (.t t)
  | .const v => (cst v).map .c
  | .func f => some (.c (.fn f [] []))
  | .global _ => none

def opds : List Operand → Option (List Opd)
  | [] => some []
  | x :: r => match opd x, opds r with
    | some x, some xs => some (x :: xs)
    | _, _ => none

def opdO : Option Operand → Option (Option Opd)
  | none => some none
  | some x => (opd x).map some

def isAggT (P : Program) (t : TypeId) : Option Bool :=
  match P.underlying t with
  | some (.struct _) | some (.array _ _) => some true
  | some _ => some false
  | none => none

def szT (P : Program) (t : TypeId) : Option Nat := (P.info? t).map (·.size)
def bytesT (P : Program) (t : TypeId) : Option Nat := (P.info? t).map (·.bytes)
def zeroT (P : Program) (t : TypeId) : Option Value := (P.info? t).bind (·.zero)
def zeroCells (P : Program) (t : TypeId) : Option (List PV) := (zeroT P t).bind fun v => cstCells v.cells.toList

def nilKind (d : Option TypeDesc) (y : Operand) : Option Nat :=
  match d, y with
  | some (.pointer _), .const (.pointer none) => some 0
  | some (.slice _), .const (.slice none 0 0) => some 1
  | some (.map _ _), .const (.map none) => some 2
  | some (.func _ _ _), .const .nilFunc => some 3
  | _, _ => none

def isBasic (P : Program) (t : TypeId) : Bool :=
  match P.underlying t with
  | some (.int _) | some .string | some .bool => true
  | _ => false

def kindT (P : Program) (t : TypeId) : Nat :=
  match P.underlying t with
  | some (.int _) => 0
  | some .bool => 1
  | _ => 2

/-- A struct whose fields are numbers, bools and strings, in order. -/
def flatFrom (P : Program) : Nat → List Field → Bool
  | _, [] => true
  | i, f :: r => f.name != "_" && f.offset == i && isBasic P f.type && flatFrom P (i + 1) r

def flatT (P : Program) (t : TypeId) (fs : Array Field) : Bool := flatFrom P 0 fs.toList && !P.stoodInHeld t && !P.eqGuardType P.depth t

def partsOf (place : Nat → Option (Nat × Nat)) : List (Nat × Operand) → Option (List (Nat × Nat × Opd))
  | [] => some []
  | (i, x) :: r => match place i, opd x, partsOf place r with
    | some (off, n), some x, some xs => some ((off, n, x) :: xs)
    | _, _, _ => none

def compBin (P : Program) (op : BinOp) (t : TypeId) (x y : Operand) : Option COp :=
  match opd x, opd y with
  | some X, some Y =>
    if op = .eql ∨ op = .neq then
      match P.underlying t with
      | some (.int _) | some .string => some (.bin op X Y)
      | some .bool => some (.eqb (op == .neq) X Y)
      | some (.struct fs) => if flatT P t fs then some (.eqs (op == .neq) (fs.toList.map fun f => kindT P f.type) X Y) else none
      | d => (nilKind d y).map fun k => .isnil (op == .neq) k X
    else some (.bin op X Y)
  | _, _ => none

def compCall (P : Program) (ow : Bool) (c : Call) : Option COp :=
  match c.callee with
  | .value (.func f) => if f < vb then (opds c.args.toList).map (.call (if ow then f + vb else f)) else none
  | .value f => match opd f, opds c.args.toList with
    | some f, some as => some (.callv f as)
    | _, _ => none
  | .invoke _ _ => none
  | .builtin b => match b, opds c.args.toList, (c.argTypes[0]?).bind P.underlying with
    | .len, some [x], some (.array n _) => some (.mov (.c (.int .i64 n)))
    | .len, some [x], some .string => some (.len 0 x)
    | .len, some [x], some (.slice _) => some (.len 1 x)
    | .len, some [x], some (.map _ _) => some (.len 2 x)
    | .append, some [s, x], some (.slice e) =>
      match szT P e, bytesT P e, zeroT P e, (c.argTypes[1]?).bind P.underlying with
      | some z, some by_, some zv, some (.slice _) => if zv.cells.size = z then some (.app z by_ s x) else none
      | _, _, _, _ => none
    | .clear, some [x], some (.slice e) => match szT P e, zeroCells P e with
      | some z, some zs => some (.clear z zs x)
      | _, _ => none
    | .max, some xs, some (.int _) => some (.minmax true xs)
    | .min, some xs, some (.int _) => some (.minmax false xs)
    | .delete, some [m, k], some (.map t _) => if isBasic P t then some (.del (kindT P t) m k) else none
    | _, _, _ => none

def compOp (P : Program) (ow : Bool) (o : Op) : Option COp :=
  match o with
  | .move x | .assign x => (opd x).map .mov
  | .pick c a b => match opd c, opd a, opd b with
    | some c, some a, some b => some (.pick c a b)
    | _, _, _ => none
  | .alloc t => (zeroCells P t).map .alloc
  | .box _ x => (opd x).map (if ow then .box else .boxi)
  | .build t parts => match zeroCells P t, P.underlying t with
    | some zs, some (.struct fs) => (partsOf (fun i => (fs[i]?).bind fun f => (szT P f.type).map fun n => (f.offset, n)) parts.toList).bind fun ps =>
      if fs.all (fun f => (szT P f.type).isSome) then some (.build zs ps) else none
    | some zs, some (.array _ e) => match szT P e with
      | some n => (partsOf (fun i => some (i * n, n)) parts.toList).map (.build zs)
      | none => none
    | _, _ => none
  | .buildSlice t len parts => match P.underlying t with
    | some (.slice e) => match szT P e, zeroCells P e with
      | some n, some z => if len * n ≤ 2 ^ 24 ∧ z.length = n ∧ 0 < n then (partsOf (fun i => some (i * n, n)) parts.toList).map (if ow then .bslice n len (List.replicate len z).flatten else .blit len (List.replicate len z).flatten) else none
      | _, _ => none
    | _ => none
  | .load t a => match isAggT P t, szT P t, opd a with
    | some g, some n, some a => some (.load g n a)
    | _, _, _ => none
  | .store t a x => match szT P t, opd a, opd x with
    | some n, some a, some x => some (.store n a x)
    | _, _, _ => none
  | .nilCheck x => (opd x).map .nilchk
  | .binOp op t x y _ => compBin P op t x y
  | .unOp op _ x => (opd x).map (.un op)
  | .convert a b x => match P.underlying a, P.underlying b, opd x with
    | some (.int _), some (.int k), some x => some (.conv k x)
    | some .string, some .string, some x => some (.str x)
    | _, _, _ => none
  | .makeFunc (.func f) first cap => match opds first.toList, opds cap.toList with
    | some fs, some cs => some (.mkfn f fs cs)
    | _, _ => none
  | .makeMap _ none => some .mkmap
  | .makeSlice t l c => match P.underlying t with
    | some (.slice e) => match szT P e, bytesT P e, zeroCells P e, opd l, opd c with
      | some z, some b, some zs, some l, some c => if zs.length = z ∧ 0 < z then some (.mkslice z b zs l c) else none
      | _, _, _, _, _ => none
    | _ => none
  | .slice t x lo hi mx => match P.underlying t, opd x, opdO lo, opdO hi, opdO mx with
    | some (.slice e), some x, some lo, some hi, some mx => (szT P e).map fun z => .slice z x lo hi mx
    | some .string, some x, some lo, some hi, some none => some (.slstr x lo hi)
    | _, _, _, _, _ => none
  | .fieldAddr t x f => match P.underlying t, opd x with
    | some (.struct fs), some x => match fs[f]? with
      | some f => match szT P f.type with
        | some n => if n = 0 then none else some (.fld f.offset x)
        | none => none
      | none => none
    | _, _ => none
  | .field t x f => match P.underlying t, opd x with
    | some (.struct fs), some x => match fs[f]? with
      | some f => match isAggT P f.type, szT P f.type with
        | some g, some n => some (.fldv g f.offset n x)
        | _, _ => none
      | none => none
    | _, _ => none
  | .indexAddr t x i => match P.underlying t, opd x, opd i with
    | some (.slice e), some x, some i => (szT P e).map fun z => .idx z x i
    | some (.array n e), some x, some i => (szT P e).map fun z => .idxp n z x i
    | _, _, _ => none
  | .index t x i => match P.underlying t, opd x, opd i with
    | some (.array n e), some x, some i => match isAggT P e, szT P e with
      | some g, some z => some (.idxv g n z x i)
      | _, _ => none
    | some .string, some x, some i => some (.idxs x i)
    | _, _, _ => none
  | .lookup t m k ok => match P.underlying t, opd m, opd k with
    | some (.map kt et), some m, some k => if isBasic P kt then ((zeroT P et).bind cst).map fun z => .lkp (kindT P kt) z ok m k else none
    | _, _, _ => none
  | .mapUpdate t m k v | .insert t m k v => match P.underlying t, opd m, opd k, opd v with
    | some (.map kt _), some m, some k, some v => if isBasic P kt then some (.upd (kindT P kt) m k v) else none
    | _, _, _, _ => none
  | .extract x i => (opd x).map fun x => .ext x i
  | .call c => compCall P ow c
  | _ => none

/- What a region may do in another order. -/

def cls (pu : Nat → Bool) : COp → Nat
  | .load _ _ _ | .lkp _ _ _ _ _ | .len _ _ => 1
  | .call f _ => if pu f then 1 else if pu (f + exb) then 2 else 3
  | .alloc _ | .box _ | .bslice _ _ _ _ | .mkmap | .mkslice _ _ _ _ _ => 2
  | .store _ _ _ | .upd _ _ _ _ | .app _ _ _ _ | .clear _ _ _ | .del _ _ _ | .callv _ _ | .bad => 3
  | _ => 0

def okPair (a b : Nat) : Bool := a == 0 || b == 0 || (a == 1 && (b == 1 || b == 2))

def Opd.slots : Opd → List Nat
  | .t n => [n]
  | .c _ => []

def optSlots : Option Opd → List Nat
  | some x => x.slots
  | none => []

def COp.slots : COp → List Nat
  | .bad | .alloc _ | .mkmap => []
  | .mov x | .nilchk x | .box x | .boxi x | .clear _ _ x | .load _ _ x | .isnil _ _ x | .un _ x | .conv _ x | .str x | .fld _ x | .fldv _ _ _ x | .ext x _ | .len _ x => x.slots
  | .pick c a b => c.slots ++ (a.slots ++ b.slots)
  | .bslice _ _ _ ps | .blit _ _ ps | .build _ ps => ps.flatMap fun p => p.2.2.slots
  | .store _ a x | .bin _ a x | .eqb _ a x | .eqs _ _ a x | .idx _ a x | .idxp _ _ a x | .idxv _ _ _ a x | .idxs a x | .lkp _ _ _ a x | .app _ _ a x | .del _ a x | .mkslice _ _ _ a x => a.slots ++ x.slots
  | .mkfn _ fs cs => fs.flatMap Opd.slots ++ cs.flatMap Opd.slots
  | .slice _ x lo hi mx => x.slots ++ (optSlots lo ++ (optSlots hi ++ optSlots mx))
  | .slstr x lo hi => x.slots ++ (optSlots lo ++ optSlots hi)
  | .upd _ m k v => m.slots ++ (k.slots ++ v.slots)
  | .call _ as | .minmax _ as => as.flatMap Opd.slots
  | .callv f as => f.slots ++ as.flatMap Opd.slots

def COper.reads (o : COper) : List Nat := o.op.slots ++ (match o.guard with | some (t, _) => [t] | none => [])

def notIn (d : Option Nat) (l : List Nat) : Bool := match d with | some d => !l.contains d | none => true

/-- Two operations whose order does not matter: neither sees the other's result, and what they do to the heap may be turned round. -/
def apartC (pu : Nat → Bool) (x y : COper) : Bool :=
  notIn x.dst y.reads && notIn y.dst x.reads && (match x.dst, y.dst with | some d, some e => d != e | _, _ => true) && okPair (cls pu x.op) (cls pu y.op)

def edges (o : Oper) : List Nat := (o.after.toList.filter (Region.binds .any)).map (·.on)

def befs : List (List Nat) → List (List Nat) → List (List Nat)
  | acc, [] => acc
  | acc, es :: r => befs (acc ++ [(es ++ es.flatMap fun e => acc.getD e []).eraseDups]) r

/-- Of each two operations the later one waits for the earlier one, or their order does not matter. -/
def drawOk (pu : Nat → Bool) (ops : List Oper) (cops : List COper) : Bool :=
  let B := befs [] (ops.map edges)
  (List.range cops.length).all fun i => ((ops.map edges).getD i []).all (fun e => decide (e < i)) && (List.range i).all fun j =>
    (B.getD i []).contains j || (match cops[j]?, cops[i]? with | some x, some y => apartC pu x y | _, _ => false)

def compGuard (ops : Array Oper) (g : Option (Nat × Bool)) : Option (Option (Nat × Bool)) :=
  match g with
  | none => some none
  | some (j, want) => match (ops[j]?).bind (·.dst) with
    | some d => some (some (d, want))
    | none => none

def slotsOk (nt : Nat) (d : Option Nat) (g : Option (Nat × Bool)) : Bool :=
  (match d with | some d => decide (d < nt) | none => true) && (match g with | some (t, _) => decide (t < nt) | none => true)

def compOpers (P : Program) (ow : Nat → Bool) (nt : Nat) (all : Array Oper) : List Oper → Option (List COper)
  | [] => some []
  | o :: r => match compGuard all o.guard, compOpers P ow nt all r with
    | some g, some rest =>
      if slotsOk nt o.dst g then some (⟨o.dst, (compOp P (match o.dst with | some d => ow d | none => false) o.op).getD .bad, g⟩ :: rest) else none
    | _, _ => none

def compCode (P : Program) (pu ow : Nat → Bool) (nt : Nat) : Code → CCode
  | .skip => .skip
  | .label _ => .skip
  | .region _ ops draw => match compOpers P ow nt ops ops.toList with
    | some cops => if !draw || (drawOk pu ops.toList cops && P.follows .mixedOrders) then .reg cops else .bad
    | none => .bad
  | .seq a b => .seq (compCode P pu ow nt a) (compCode P pu ow nt b)
  | .cond c a b => match opd c with
    | some c => .cond c (compCode P pu ow nt a) (compCode P pu ow nt b)
    | none => .bad
  | .scope c => compCode P pu ow nt c
  | .block id c => .block id (compCode P pu ow nt c)
  | .loop c => .loop (compCode P pu ow nt c)
  | .exit id => .exit id
  | .ret => .ret
  | _ => .bad

def resTmps (P : Program) : List ResultVar → Option (List CRes)
  | [] => some []
  | .tmp t :: r => (resTmps P r).map (.t t :: ·)
  | .cell a t :: r => match isAggT P t, szT P t, resTmps P r with
    | some g, some n, some rest => some (.cell g n a :: rest)
    | _, _, _ => none

def compFn (P : Program) (pu : Nat → Bool) (ow : Nat → Nat → Bool) (f : Nat) : Option CFun :=
  match P.funcs[rl f]? with
  | some fn => match fn.body, resTmps P fn.results.toList with
    | some c, some r => if fn.name == "runtime.NumGoroutine" then none else some ⟨pu f, pu (f + exb), compCode P pu (ow f) fn.ntmps c, r⟩
    | _, _ => none
  | none => none

end Go.Ev

/- The abstract machine of this seat's proofs: values without memory where memory is never written again, a small heap for what a call owns, an evaluator with fuel, and the translation of a loaded function into its code. Nothing here is assumed of a program. -/
import Derived.Calls
import Derived.Laws.Sem
import Derived.Laws.World
import Derived.Below
import Derived.WalkKit
import Derived.Laws.Cells
import Derived.Laws.CopyRow
import Derived.Laws.Rows
import Derived.Laws.Strings
import Derived.Deep.MidRow
import Derived.Laws.StructEq
import Derived.Deep.AppendSrc
import Derived.Lib.AppendZerosOnto
import Derived.Laws.Externs
import Derived.Lib.ConvBytes
import Derived.Lib.Bytealg
import Derived.Laws.MakeOwn
import Derived.MapKept
set_option linter.unusedVariables false
set_option linter.unusedSimpArgs false
namespace Go.Ev

/-- Values. 'sl n cs': a slice of n elements that nobody writes any more, its cells; 'emp': an empty slice without room; 'rf z i o n': n elements of z cells of the own block i from cell o on; 'any': a value of one cell, no bool, of which nothing else is known; 'pt': a pointer into an own block; 'pi cs': a pointer into memory that nobody writes, the cells from there on. -/
inductive PV where
  | bool (b : Bool)
  | int (k : IntKind) (n : Int)
  | str (s : ByteArray)
  | sl (n : Nat) (cs : List PV)
  | emp
  | rf (z i o n : Nat)
  | pt (i o : Nat)
  | pi (cs : List PV)
  | nilp
  | mp (i : Nat)
  | nilm
  | fn (f : Nat) (fs cs : List PV)
  | nilf
  | agg (cs : List PV)
  | tup (vs : List PV)
  | nili
  | ifc (t : Nat) (v : PV)
  | yl (i : Nat)
  | dfr (v : PV)
  | any

def PV.undef : PV := .tup []

/-- A function's second number: the same function, called otherwise. -/
def vb : Nat := 100000
def rl (f : Nat) : Nat := f % vb
def exb : Nat := 1000000000
def yb : Nat := 1000000000000
def lpb : Nat := 999999999999

def PV.cells : PV → List PV
  | .agg cs => cs
  | v => [v]

def PV.okc : PV → Bool
  | .tup _ | .dfr _ => false
  | _ => true

def PV.one : PV → Bool
  | .agg _ | .tup _ | .dfr _ => false
  | _ => true

inductive EX where
  | nrm
  | exit (id : Nat)
  | ret

/-- The state of a range over a function. -/
inductive LS where
  | ready
  | busy
  | done (e : EX)
  | over (e : EX)

abbrev Fr := Nat → PV

def Fr.put (s : Fr) (d : Option Nat) (v : PV) : Fr :=
  match d with
  | some d => fun t => if t = d then v else s t
  | .none => s

inductive Opd where
  | t (n : Nat)
  | c (v : PV)

def Opd.val (s : Fr) : Opd → PV
  | .t n => s n
  | .c v => v

inductive COp where
  | bad
  | mov (x : Opd)
  | nilchk (x : Opd)
  | pick (c a b : Opd)
  | alloc (zs : List PV)
  | box (x : Opd)
  | boxN (n : Nat) (x : Opd)
  | boxi (x : Opd)
  | blit (n : Nat) (zs : List PV) (parts : List (Nat × Nat × Opd))
  | clear (z : Nat) (zs : List PV) (x : Opd)
  | bslice (z : Nat) (n : Nat) (zs : List PV) (parts : List (Nat × Nat × Opd))
  | build (zs : List PV) (parts : List (Nat × Nat × Opd))
  | load (agg : Bool) (n : Nat) (a : Opd)
  | store (n : Nat) (a x : Opd)
  | bin (op : BinOp) (x y : Opd)
  | eqb (neg : Bool) (x y : Opd)
  | eqs (neg : Bool) (ks : List Nat) (x y : Opd)
  | isnil (neg : Bool) (k : Nat) (x : Opd)
  | un (op : UnOp) (x : Opd)
  | conv (k : IntKind) (x : Opd)
  | str (x : Opd)
  | mkfn (f : Nat) (first cap : List Opd)
  | mkmap
  | mkslice (z bytes : Nat) (zs : List PV) (len cap : Opd)
  | slice (z : Nat) (x : Opd) (lo hi mx : Option Opd)
  | slstr (x : Opd) (lo hi : Option Opd)
  | fld (off : Nat) (x : Opd)
  | fldv (agg : Bool) (off n : Nat) (x : Opd)
  | idx (z : Nat) (x i : Opd)
  | idxp (len z : Nat) (x i : Opd)
  | idxv (agg : Bool) (len z : Nat) (x i : Opd)
  | idxs (x i : Opd)
  | lkp (kd : Nat) (zero : PV) (ok : Bool) (m k : Opd)
  | upd (kd : Nat) (m k v : Opd)
  | ext (x : Opd) (i : Nat)
  | call (f : Nat) (args : List Opd)
  | callv (f : Opd) (args : List Opd)
  | callp (g : Nat) (f : Opd) (args : List Opd)
  | len (k : Nat) (x : Opd)
  | app (z bytes : Nat) (s x : Opd)
  | minmax (mx : Bool) (xs : List Opd)
  | del (kd : Nat) (m k : Opd)
  | storeS (ts : List Nat) (n : Nat) (a x : Opd)
  | appS (ts : List Nat) (z bytes : Nat) (s x : Opd)
  | loadi (agg : Bool) (n : Nat) (a : Opd)
  | mksliceR (k : Nat) (z bytes : Nat) (zs : List PV) (len cap : Opd)
  | resv (m : Nat)
  | mkslI (z bytes : Nat) (zs : List PV) (len cap : Opd)
  | mkif (t : Nat) (x : Opd)
  | tass (t : Nat) (ok : Bool) (x : Opd)
  | boxT (t : Nat) (x : Opd)
  | appT (e : Nat) (str : Bool) (z bytes : Nat) (s x : Opd)
  | appz (z bytes : Nat) (zs : List PV) (s x : Opd)
  | idxbs (cnt : Bool) (s c : Opd)
  | s2b (x : Opd)
  | pan (x : Opd)
  | callS (ls : List (Bool × Nat × Nat)) (f : Nat) (args : List Opd)

structure COper where
  dst : Option Nat
  op : COp
  guard : Option (Nat × Bool)

inductive CCode where
  | skip
  | bad
  | reg (ops : List COper)
  | seq (a b : CCode)
  | cond (c : Opd) (a b : CCode)
  | block (id : Nat) (c : CCode)
  | loop (c : CCode)
  | exit (id : Nat)
  | ret
  | rangef (x : Opd) (ps : List Nat) (asg body : CCode)

/-- A range over a function that is under way: the slots that take what is yielded, what is done ahead of a round, a round's body, and the frame in which all rounds begin. -/
structure CLoop where
  ps : List Nat
  asg : CCode
  body : CCode
  s : Fr

inductive Blk where
  | cells (cs : List PV)
  | map (es : List (PV × PV))
  | loop (st : LS) (L : CLoop)

/-- 'lo': nothing below it may be written. -/
structure AH where
  nx : Nat
  lo : Nat
  blk : Nat → Option Blk
  ty : Nat → Option Nat

def AH.zero : AH := ⟨0, 0, fun _ => .none, fun _ => .none⟩
def AH.push (h : AH) (B : Blk) : AH := ⟨h.nx + 1, h.lo, fun i => if i = h.nx then some B else h.blk i, h.ty⟩
def AH.set (h : AH) (i : Nat) (B : Blk) : AH := ⟨h.nx, h.lo, fun j => if j = i then some B else h.blk j, h.ty⟩
def AH.del (h : AH) (i : Nat) : AH := ⟨h.nx, h.lo, fun j => if j = i then .none else h.blk j, h.ty⟩
/-- A block's type is noted. -/
def AH.tag (h : AH) (i : Nat) (t : Option Nat) : AH := ⟨h.nx, h.lo, h.blk, fun j => if j = i then t else h.ty j⟩
def AH.row (h : AH) (i : Nat) : Option (List PV) := match h.blk i with | some (.cells cs) => some cs | _ => .none

/-- Where a result lies: in a slot, or behind the pointer in a slot. -/
inductive CRes where
  | t (n : Nat)
  | cell (agg : Bool) (n t : Nat)

/-- A function's code: 'pure': it is called on immutable copies of its arguments, in an empty heap, and its result is immutable; 'ext': it is called in the caller's heap, but writes only what it made itself. -/
structure CFun where
  pure : Bool
  ext : Bool
  body : CCode
  res : List CRes

/-- What a called function is: code, or a function of the library by its contract; 'pure': whether it leaves the heap alone. -/
inductive Fun where
  | code (c : CFun)
  | prim (pure : Bool) (g : List PV → AH → Option (PV × AH))
  | loops

/- The pure parts. -/

def splice (cs : List PV) (o : Nat) (ys : List PV) : List PV := cs.take o ++ ys ++ cs.drop (o + ys.length)

/-- 'n' cells from a pointer on. -/
def rds (h : AH) (p : PV) (n : Nat) : Option (List PV) :=
  match p with
  | .pi cs => if n ≤ cs.length then some (cs.take n) else .none
  | .pt i o => match h.row i with
    | some cs => if o + n ≤ cs.length then some ((cs.drop o).take n) else .none
    | .none => .none
  | _ => .none

def rd1 (h : AH) (p : PV) : Option PV :=
  match p with
  | .pi cs => cs[0]?
  | .pt i o => match h.row i with
    | some cs => cs[o]?
    | .none => .none
  | _ => .none

def wr (h : AH) (p v : PV) (n : Nat) : Option AH :=
  match p with
  | .pt i o => match h.row i with
    | some cs => match v with
      | .agg ys => if ys.length = n ∧ o + n ≤ cs.length then some (h.set i (.cells (splice cs o ys))) else .none
      | .tup _ | .dfr _ => .none
      | v => if n = 1 ∧ o < cs.length then some (h.set i (.cells (cs.set o v))) else .none
    | .none => .none
  | _ => .none

/-- The cells of a slice's elements. -/
def src (h : AH) (z : Nat) (x : PV) : Option (Nat × List PV) :=
  match x with
  | .sl n cs => if cs.length = n * z then some (n, cs) else .none
  | .emp => some (0, [])
  | .rf _ i o n => match h.row i with
    | some cs => if o + n * z ≤ cs.length then some (n, (cs.drop o).take (n * z)) else .none
    | .none => .none
  | _ => .none

def evBin (op : BinOp) (x y : PV) : Option PV :=
  match op, x, y with
  | .shl, .int k a, .int _ b => if b < 0 then .none else some (.int k (k.wrap (a * 2 ^ (min b.toNat k.bits))))
  | .shr, .int k a, .int _ b => if b < 0 then .none else some (.int k (a.fdiv (2 ^ (min b.toNat k.bits))))
  | op, .int k a, .int k' b => if k ≠ k' then .none else
    match op with
    | .add => some (.int k (k.wrap (a + b)))
    | .sub => some (.int k (k.wrap (a - b)))
    | .mul => some (.int k (k.wrap (a * b)))
    | .quo => if b = 0 then .none else some (.int k (k.wrap (a.tdiv b)))
    | .rem => if b = 0 then .none else some (.int k (a.tmod b))
    | .and => some (.int k (k.wrap (BitVec.ofInt k.bits a &&& BitVec.ofInt k.bits b).toNat))
    | .or => some (.int k (k.wrap (BitVec.ofInt k.bits a ||| BitVec.ofInt k.bits b).toNat))
    | .xor => some (.int k (k.wrap (BitVec.ofInt k.bits a ^^^ BitVec.ofInt k.bits b).toNat))
    | .eql => some (.bool (a == b))
    | .neq => some (.bool (a != b))
    | .lss => some (.bool (decide (a < b)))
    | .leq => some (.bool (decide (a ≤ b)))
    | .gtr => some (.bool (decide (a > b)))
    | .geq => some (.bool (decide (a ≥ b)))
    | _ => .none
  | .add, .str a, .str b => if ((a.size + b.size : Nat) : Int) > IntKind.i64.max then .none else some (.str (a ++ b))
  | .eql, .str a, .str b => some (.bool (decide (a = b)))
  | .neq, .str a, .str b => some (.bool (!decide (a = b)))
  | .lss, .str a, .str b => some (.bool (Op.bytesLess a.toList b.toList))
  | .leq, .str a, .str b => some (.bool (Op.bytesLess a.toList b.toList || decide (a = b)))
  | .gtr, .str a, .str b => some (.bool !(Op.bytesLess a.toList b.toList || decide (a = b)))
  | .geq, .str a, .str b => some (.bool !(Op.bytesLess a.toList b.toList))
  | _, _, _ => .none

/-- Equality of two cells that hold a number, a bool or a string (0, 1, 2: which). -/
def kindOk : Nat → PV → Bool
  | 0, .int _ _ | 1, .bool _ | 2, .str _ => true
  | _, _ => false

def cellEq : PV → PV → Option Bool
  | .int k a, .int k' b => if k = k' then some (a == b) else .none
  | .bool a, .bool b => some (a == b)
  | .str a, .str b => some (decide (a = b))
  | _, _ => .none

def cellsEq : List Nat → List PV → List PV → Option Bool
  | [], [], [] => some true
  | k :: ks, x :: xs, y :: ys => if kindOk k x then match cellEq x y, cellsEq ks xs ys with
    | some a, some b => some (a && b)
    | _, _ => .none
    else .none
  | _, _, _ => .none

def isNil : PV → Option Bool
  | .nilp | .nilm | .nilf | .nili => some true
  | .pt _ _ | .pi _ | .mp _ | .fn _ _ _ | .yl _ | .ifc _ _ => some false
  | .sl (_ + 1) (_ :: _) => some false
  | .rf _ _ _ (_ + 1) => some false
  | _ => .none

/-- Nil or not, at a pointer's, a slice's, a map's, a function's type. -/
def isNilK : Nat → PV → Option Bool
  | 0, .nilp => some true
  | 0, .pt _ _ | 0, .pi _ => some false
  | 1, .sl (_ + 1) (_ :: _) => some false
  | 1, .rf _ _ _ (_ + 1) => some false
  | 2, .nilm => some true
  | 2, .mp _ => some false
  | 3, .nilf => some true
  | 3, .fn _ _ _ => some false
  | 4, .nili => some true
  | 4, .ifc _ _ => some false
  | _, _ => .none

def evUn (op : UnOp) (x : PV) : Option PV :=
  match op, x with
  | .neg, .int k n => some (.int k (k.wrap (0 - n)))
  | .not, .bool b => some (.bool !b)
  | _, _ => .none

def findK (k : PV) : List (PV × PV) → Nat → Option (Option (Nat × PV))
  | [], _ => some .none
  | e :: es, i => match cellEq k e.1 with
    | some true => some (some (i, e.2))
    | some false => findK k es (i + 1)
    | .none => .none

def fillP : List PV → List (Nat × Nat × PV) → Option (List PV)
  | cs, [] => some cs
  | cs, (off, n, v) :: r => if v.okc = true ∧ v.cells.length = n ∧ off + n ≤ cs.length then fillP (splice cs off v.cells) r else .none

def bnd (x : PV) (y : Nat) : Option Nat :=
  match x with
  | .int _ i => if 0 ≤ i ∧ i ≤ y then some i.toNat else .none
  | _ => .none

def bndO (x : Option PV) (d y : Nat) : Option Nat :=
  match x with
  | some v => bnd v y
  | .none => some d

def evSlice (z : Nat) (x : PV) (lo hi mx : Option PV) : Option PV :=
  match mx with
  | .none =>
    match x with
    | .sl n cs => match bndO hi n n with
      | some h => match bndO lo 0 h with
        | some l => some (.sl (h - l) ((cs.drop (l * z)).take ((h - l) * z)))
        | .none => .none
      | .none => .none
    | .rf z' i o n => if z' = z then match bndO hi n n with
      | some h => match bndO lo 0 h with
        | some l => some (.rf z i (o + l * z) (h - l))
        | .none => .none
      | .none => .none
      else .none
    | .emp => match bndO hi 0 0 with
      | some h => match bndO lo 0 h with
        | some _ => some .emp
        | .none => .none
      | .none => .none
    | _ => .none
  | some m => match x with
    | .sl n _ | .rf _ _ _ n => match bnd m n with
      | some m => match bndO hi 0 m, hi with
        | some h, some _ => match bndO lo 0 h with
          | some l => if l = m then some .emp else .none
          | .none => .none
        | _, _ => .none
      | .none => .none
    | .emp => match bnd m 0 with
      | some m => match bndO hi 0 m, hi with
        | some h, some _ => match bndO lo 0 h with
          | some _ => some .emp
          | .none => .none
        | _, _ => .none
      | .none => .none
    | _ => .none

def evSlstr (x : PV) (lo hi : Option PV) : Option PV :=
  match x with
  | .str s => match bndO hi s.size s.size with
    | some h => match bndO lo 0 h with
      | some l => some (.str (s.extract l h))
      | .none => .none
    | .none => .none
  | _ => .none

def partP (agg : Bool) (cs : List PV) (off n : Nat) : Option PV :=
  if agg then (if off + n ≤ cs.length then some (.agg ((cs.drop off).take n)) else .none) else cs[off]?

def roomOk (n bytes : Nat) : Bool := decide (n * bytes ≤ 2 ^ 44)

/-- A pointer moved on by some cells. -/
def evFld (k : Nat) : PV → Option PV
  | .pt i o => some (.pt i (o + k))
  | .pi cs => some (.pi (cs.drop k))
  | _ => .none

def evIdx (z : Nat) (x : PV) (i : Int) : Option PV :=
  match x with
  | .sl n cs => if 0 ≤ i ∧ i < n ∧ cs.length = n * z ∧ 0 < z then some (.pi (cs.drop (i.toNat * z))) else .none
  | .rf z' b o n => if 0 ≤ i ∧ i < n ∧ z' = z then some (.pt b (o + i.toNat * z)) else .none
  | _ => .none

def lkpFin (zero : PV) (ok : Bool) (r : Option PV) : PV := if ok then .tup [r.getD zero, .bool r.isSome] else r.getD zero

def evLkp (h : AH) (kd : Nat) (zero : PV) (ok : Bool) (m k : PV) : Option PV :=
  if kindOk kd k then
    match m with
    | .nilm => some (lkpFin zero ok .none)
    | .mp i => match h.blk i with
      | some (.map es) => (findK k es 0).map fun r => lkpFin zero ok (r.map (·.2))
      | _ => .none
    | _ => .none
  else .none

def evUpd (h : AH) (kd : Nat) (m k v : PV) : Option (PV × AH) :=
  match m with
  | .mp i => match h.blk i with
    | some (.map es) => if kindOk kd k then match findK k es 0 with
        | some (some (j, _)) => some (.undef, h.set i (.map (es.set j (k, v))))
        | some .none => some (.undef, h.set i (.map (es ++ [(k, v)])))
        | .none => .none
      else .none
    | _ => .none
  | _ => .none

def evDel (h : AH) (kd : Nat) (m k : PV) : Option (PV × AH) :=
  match m with
  | .nilm => if kindOk kd k then some (.tup [], h) else .none
  | .mp i => match h.blk i with
    | some (.map es) => if kindOk kd k then match findK k es 0 with
        | some (some (j, _)) => some (.tup [], h.set i (.map (es.eraseIdx j)))
        | some .none => some (.tup [], h)
        | .none => .none
      else .none
    | _ => .none
  | _ => .none

def evClear (h : AH) (z : Nat) (zs : List PV) (x : PV) : Option (PV × AH) :=
  match x with
  | .rf z' i o n => (match h.row i with
    | some cs => if z' = z ∧ o + n * z ≤ cs.length ∧ zs.length = z then some (.tup [], h.set i (.cells (splice cs o (List.replicate n zs).flatten))) else .none
    | .none => .none)
  | .emp => some (.tup [], h)
  | _ => .none

/-- What is appended is given: so many elements, their cells. -/
def evAppL (h : AH) (z bytes : Nat) (x : PV) (r : Option (Nat × List PV)) : Option (PV × AH) :=
  match r with
  | some (0, _) => (match x with
    | .sl _ _ | .emp | .rf _ _ _ _ => some (x, h)
    | _ => .none)
  | some (m, ys) => (match x with
    | .emp => if roomOk m (bytes + 1) = true then some (.rf z h.nx 0 m, h.push (.cells ys)) else .none
    | .rf z' i o n => match h.row i with
      | some cs => if z' = z ∧ o + n * z ≤ cs.length ∧ roomOk (n + m) (bytes + 1) = true then
          some (.rf z h.nx 0 (n + m), (h.del i).push (.cells ((cs.drop o).take (n * z) ++ ys)))
        else .none
      | .none => .none
    | _ => .none)
  | .none => .none
def evApp (h : AH) (z bytes : Nat) (x y : PV) : Option (PV × AH) := evAppL h z bytes x (src h z y)

/-- A string's bytes, as cells. -/
def strPV (b : ByteArray) : List PV := b.data.toList.map fun c => .int .u8 c.toNat
/-- What is appended: a string's bytes, or a slice's elements. -/
def appSrc (h : AH) (str : Bool) (z : Nat) (y : PV) : Option (Nat × List PV) :=
  if str then (match y with | .str b => if z = 1 then some (b.size, strPV b) else .none | _ => .none) else src h z y
def tyOk (h : AH) (e : Nat) : PV → Bool
  | .emp => true
  | .rf _ i 0 _ => h.ty i == some e
  | _ => false
/-- Append to a slice of a block whose type is noted (or that is still none): the new block's type is noted. -/
def evAppT (h : AH) (e : Nat) (str : Bool) (z bytes : Nat) (x y : PV) : Option (PV × AH) :=
  if tyOk h e x = true then
    match evAppL h z bytes x (appSrc h str z y) with
    | some (.rf z' i o n, h') => if i = h.nx then some (.rf z' i o n, h'.tag i (some e)) else some (.rf z' i o n, h')
    | r => r
  else .none
def evAppz (h : AH) (z bytes : Nat) (zs : List PV) (x y : PV) : Option (PV × AH) :=
  match y with
  | .int _ m => if 0 ≤ m ∧ zs.length = z ∧ 0 < z then evAppL h z bytes x (some (m.toNat, (List.replicate m.toNat zs).flatten)) else .none
  | _ => .none
/-- The first place of a byte, or -1. -/
def firstB (c : UInt8) : Nat → List UInt8 → Int
  | _, [] => -1
  | k, b :: r => if b == c then (k : Int) else firstB c (k + 1) r

/-- The block that a value names. -/
def blkOf : PV → Option Nat
  | .pt i _ | .mp i | .rf _ i _ _ => some i
  | _ => none
/-- What is written is none of the blocks that the slots name. -/
def sepOk (s : Nat → PV) (ts : List Nat) (v : PV) : Bool := match blkOf v with
  | some i => ts.all fun t => !(blkOf (s t) == some i)
  | none => true

/-- What a load reads. -/
def ldv (h : AH) (g : Bool) (n : Nat) (p : PV) : Option PV := if g then (rds h p n).map .agg else rd1 h p

def all2 (p : PV → PV → Bool) : List PV → List PV → Bool
  | [], [] => true
  | x :: xs, y :: ys => p x y && all2 p xs ys
  | _, _ => false
/-- Equality of values, up to a depth: where it says yes, they are equal. -/
def pvEq : Nat → PV → PV → Bool
  | 0, _, _ => false
  | d + 1, x, y => match x, y with
    | .bool a, .bool b => a == b
    | .int k a, .int k' b => decide (k = k') && a == b
    | .str a, .str b => decide (a = b)
    | .sl n cs, .sl m ds => n == m && all2 (pvEq d) cs ds
    | .emp, .emp | .nilp, .nilp | .nilm, .nilm | .nilf, .nilf | .nili, .nili => true
    | .rf z i o n, .rf z' i' o' n' => z == z' && i == i' && o == o' && n == n'
    | .pt i o, .pt i' o' => i == i' && o == o'
    | .pi cs, .pi ds => all2 (pvEq d) cs ds
    | .mp i, .mp j => i == j
    | .fn f fs cs, .fn g gs ds => f == g && all2 (pvEq d) fs gs && all2 (pvEq d) cs ds
    | .agg cs, .agg ds => all2 (pvEq d) cs ds
    | .ifc t v, .ifc t' v' => t == t' && pvEq d v v'
    | .yl i, .yl j => i == j
    | _, _ => false
def ldSame (s : Nat → PV) (h h' : AH) (l : Bool × Nat × Nat) : Bool := match ldv h l.1 l.2.1 (s l.2.2), ldv h' l.1 l.2.1 (s l.2.2) with
  | some a, some b => pvEq 8 a b
  | _, _ => false

def evMM (mx : Bool) (xs : List PV) : Option PV :=
  match xs with
  | .int k a :: r => r.foldl (fun acc v => match acc, v with
      | some (.int k x), .int k' y => if k = k' then some (.int k (if mx then (if y > x then y else x) else (if y < x then y else x))) else .none
      | _, _ => .none) (some (.int k a))
  | _ => .none

def allO (f : PV → Option PV) : List PV → Option (List PV)
  | [] => some []
  | v :: r => match f v, allO f r with
    | some u, some us => some (u :: us)
    | _, _ => .none

/-- Copies for a pure call: every own slice or pointer becomes an immutable one. -/
def snap (h : AH) : Nat → PV → Option PV
  | 0, .bool b => some (.bool b)
  | 0, v => if v.one then some .any else .none
  | d + 1, v => match v with
    | .sl n cs => (allO (snap h d) cs).map (.sl n)
    | .emp => some (.sl 0 [])
    | .rf z i o n => match h.row i with
      | some cs => if o + n * z ≤ cs.length then (allO (snap h d) ((cs.drop o).take (n * z))).map (.sl n) else .none
      | .none => .none
    | .pt i o => match h.row i with
      | some cs => (allO (snap h d) (cs.drop o)).map .pi
      | .none => .none
    | .pi cs => (allO (snap h d) cs).map .pi
    | .mp _ => some .any
    | .fn f fs cs => match allO (snap h d) fs, allO (snap h d) cs with
      | some us, some ws => some (.fn f us ws)
      | _, _ => .none
    | .agg cs => (allO (snap h d) cs).map .agg
    | .tup cs => (allO (snap h d) cs).map .tup
    | .ifc t v => (snap h d v).map (.ifc t)
    | .yl _ => some .any
    | .dfr _ => .none
    | v => some v

/-- Nothing in a value is immutable memory that was there before. -/
def noImm (h : AH) : Nat → PV → Bool
  | 0, _ => false
  | d + 1, v => match v with
    | .sl _ cs => cs.isEmpty
    | .pi _ => false
    | .rf z i o n => match h.row i with
      | some cs => ((cs.drop o).take (n * z)).all (noImm h d)
      | .none => false
    | .pt i o => match h.row i with
      | some cs => (cs.drop o).all (noImm h d)
      | .none => false
    | .mp _ => false
    | .fn _ fs cs => fs.all (noImm h d) && cs.all (noImm h d)
    | .agg cs | .tup cs => cs.all (noImm h d)
    | .ifc _ v => noImm h d v
    | .yl _ | .dfr _ => false
    | _ => true

/-- Does a value name own memory? -/
def own : Nat → PV → Bool
  | 0, _ => true
  | d + 1, v => match v with
    | .rf _ _ _ _ | .pt _ _ | .mp _ | .yl _ | .dfr _ => true
    | .ifc _ v => own d v
    | .fn _ fs cs => fs.any (own d) || cs.any (own d)
    | .sl _ cs | .pi cs | .agg cs | .tup cs => cs.any (own d)
    | _ => false

def snapDepth : Nat := 12

/-- The length of a string, a slice, a map. -/
def evLen (h : AH) : Nat → PV → Option PV
  | 0, .str b => some (.int .i64 b.size)
  | 1, .sl n _ => some (.int .i64 n)
  | 1, .emp => some (.int .i64 0)
  | 1, .rf _ _ _ n => some (.int .i64 n)
  | 2, .nilm => some (.int .i64 0)
  | 2, .mp i => match h.blk i with
    | some (.map es) => some (.int .i64 es.length)
    | _ => .none
  | _, _ => .none

section
variable (call : Nat → List PV → AH → Option (PV × AH))

def keep (h : AH) (v : Option PV) : Option (PV × AH) := v.map fun v => (v, h)

def evOp (o : COp) (s : Fr) (h : AH) : Option (PV × AH) :=
  match o with
  | .bad => .none
  | .mov x => some (x.val s, h)
  | .nilchk x => match isNil (x.val s) with
    | some false => some (x.val s, h)
    | _ => .none
  | .pick c a b => match c.val s with
    | .bool t => some (if t then a.val s else b.val s, h)
    | _ => .none
  | .alloc zs => some (.pt h.nx 0, h.push (.cells zs))
  | .box x => if (x.val s).okc = true then some (.pt h.nx 0, h.push (.cells (x.val s).cells)) else .none
  | .boxN n x => if (x.val s).okc = true ∧ (x.val s).cells.length = n then some (.pt h.nx 0, h.push (.cells (x.val s).cells)) else .none
  | .boxi x => if (x.val s).okc = true then some (.pi (x.val s).cells, h) else .none
  | .blit n zs ps => keep h ((fillP zs (ps.map fun p => (p.1, p.2.1, p.2.2.val s))).map fun cs => if n = 0 then .emp else .sl n cs)
  | .clear z zs x => evClear h z zs (x.val s)
  | .bslice z n zs ps => match fillP zs (ps.map fun p => (p.1, p.2.1, p.2.2.val s)) with
    | some cs => some (.rf z h.nx 0 n, h.push (.cells cs))
    | .none => .none
  | .build zs ps => keep h ((fillP zs (ps.map fun p => (p.1, p.2.1, p.2.2.val s))).map .agg)
  | .load agg n a => keep h (if agg then (rds h (a.val s) n).map .agg else rd1 h (a.val s))
  | .store n a x => match wr h (a.val s) (x.val s) n with
    | some h' => some (.undef, h')
    | .none => .none
  | .bin op x y => keep h (evBin op (x.val s) (y.val s))
  | .eqb neg x y => keep h (match x.val s, y.val s with
    | .bool a, .bool b => some (.bool ((a == b) != neg))
    | _, _ => .none)
  | .eqs neg ks x y => keep h (match x.val s, y.val s with
    | .agg a, .agg b => (cellsEq ks a b).map fun t => .bool (t != neg)
    | _, _ => .none)
  | .isnil neg k x => keep h ((isNilK k (x.val s)).map fun t => .bool (t != neg))
  | .un op x => keep h (evUn op (x.val s))
  | .conv k x => keep h (match x.val s with
    | .int _ n => some (.int k (k.wrap n))
    | _ => .none)
  | .str x => keep h (match x.val s with
    | .str b => some (.str b)
    | _ => .none)
  | .mkfn f fs cs => some (.fn f (fs.map (Opd.val s)) (cs.map (Opd.val s)), h)
  | .mkmap => some (.mp h.nx, h.push (.map []))
  | .mkslice z bytes zs l c => match l.val s, c.val s with
    | .int .i64 l, .int .i64 c => if 0 ≤ l ∧ l ≤ c ∧ roomOk c.toNat (bytes + 1) = true then some (.rf z h.nx 0 l.toNat, h.push (.cells (List.replicate l.toNat zs).flatten)) else .none
    | _, _ => .none
  | .slice z x lo hi mx => keep h (evSlice z (x.val s) (lo.map (Opd.val s)) (hi.map (Opd.val s)) (mx.map (Opd.val s)))
  | .slstr x lo hi => keep h (evSlstr (x.val s) (lo.map (Opd.val s)) (hi.map (Opd.val s)))
  | .fld off x => keep h (evFld off (x.val s))
  | .fldv agg off n x => keep h (match x.val s with
    | .agg cs => partP agg cs off n
    | _ => .none)
  | .idx z x i => keep h (match i.val s with
    | .int _ i => evIdx z (x.val s) i
    | _ => .none)
  | .idxp len z x i => keep h (match i.val s with
    | .int _ i => if 0 ≤ i ∧ i < len then evFld (i.toNat * z) (x.val s) else .none
    | _ => .none)
  | .idxv agg len z x i => keep h (match x.val s, i.val s with
    | .agg cs, .int _ i => if 0 ≤ i ∧ i < len then partP agg cs (i.toNat * z) z else .none
    | _, _ => .none)
  | .idxs x i => keep h (match x.val s, i.val s with
    | .str b, .int _ i => if 0 ≤ i then match b[i.toNat]? with
      | some c => some (.int .u8 c.toNat)
      | .none => .none
      else .none
    | _, _ => .none)
  | .lkp kd zero ok m k => keep h (evLkp h kd zero ok (m.val s) (k.val s))
  | .upd kd m k v => evUpd h kd (m.val s) (k.val s) (v.val s)
  | .ext x i => keep h (match x.val s with
    | .tup vs => vs[i]?
    | _ => .none)
  | .call f as => call f (as.map (Opd.val s)) h
  | .callv f as => match f.val s with
    | .fn g fs cs => if g < vb then call g (fs ++ as.map (Opd.val s) ++ cs) h else .none
    | .yl i => call (yb + i) (as.map (Opd.val s)) h
    | _ => .none
  | .callp g f as => match f.val s with
    | .fn g' [] [] => if g' = g ∧ g < vb then call g (as.map (Opd.val s)) h else .none
    | _ => .none
  | .len k x => keep h (evLen h k (x.val s))
  | .app z bytes x y => evApp h z bytes (x.val s) (y.val s)
  | .minmax mx xs => keep h (evMM mx (xs.map (Opd.val s)))
  | .del kd m k => evDel h kd (m.val s) (k.val s)
  | .storeS ts n a x => if sepOk s ts (a.val s) = true then (match wr h (a.val s) (x.val s) n with
    | some h' => some (.undef, h')
    | .none => .none) else .none
  | .appS ts z bytes x y => if sepOk s ts (x.val s) = true then evApp h z bytes (x.val s) (y.val s) else .none
  | .loadi agg n a => keep h (match a.val s with
    | .pi cs => if agg then (rds AH.zero (.pi cs) n).map .agg else rd1 AH.zero (.pi cs)
    | _ => .none)
  | .mksliceR k z bytes zs l c => match l.val s, c.val s with
    | .int .i64 l, .int .i64 c => if (0 ≤ l ∧ l ≤ c ∧ roomOk c.toNat (bytes + 1) = true) ∧ (k < h.nx ∧ h.lo ≤ h.nx - 1 - k ∧ (h.blk (h.nx - 1 - k)).isNone = true) then
        some (.rf z (h.nx - 1 - k) 0 l.toNat, h.set (h.nx - 1 - k) (.cells (List.replicate l.toNat zs).flatten)) else .none
    | _, _ => .none
  | .resv m => some (.undef, ⟨h.nx + m, h.lo, h.blk, h.ty⟩)
  | .mkslI z bytes zs l c => keep h (match l.val s, c.val s with
    | .int .i64 l, .int .i64 c => if 0 ≤ l ∧ l ≤ c ∧ roomOk c.toNat (bytes + 1) = true then some (.sl l.toNat (List.replicate l.toNat zs).flatten) else .none
    | _, _ => .none)
  | .mkif t x => keep h (some (.ifc t (x.val s)))
  | .tass t ok x => keep h (match x.val s with
    | .ifc t' v => if t' = t then some (if ok then .tup [v, .bool true] else v) else .none
    | _ => .none)
  | .boxT t x => if (x.val s).okc = true then some (.pt h.nx 0, (h.push (.cells (x.val s).cells)).tag h.nx (some t)) else .none
  | .appT e str z bytes x y => evAppT h e str z bytes (x.val s) (y.val s)
  | .appz z bytes zs x y => evAppz h z bytes zs (x.val s) (y.val s)
  | .pan _ => .none
  | .callS ls f as => match call f (as.map (Opd.val s)) h with
    | some (v, h') => if ls.all (ldSame s h h') = true then some (v, h') else .none
    | .none => .none
  | .idxbs m x y => keep h (match x.val s, y.val s with
    | .str b, .int .u8 c => some (.int .i64 (if m then (Lib.countByte b.data.toList c.toNat.toUInt8 : Int) else firstB c.toNat.toUInt8 0 b.data.toList))
    | _, _ => .none)
  | .s2b x => keep h (match x.val s with
    | .str b => some (.sl b.size (strPV b))
    | _ => .none)

def wants (g : Option (Nat × Bool)) (s : Fr) : Bool :=
  match g with
  | .none => true
  | some (t, want) => match s t with
    | .bool b => b == want
    | _ => false

/-- What an operation writes. -/
def target : COp → Option Opd
  | .store _ a _ | .storeS _ _ a _ => some a
  | .upd _ m _ _ | .del _ m _ => some m
  | .clear _ _ x | .app _ _ x _ | .appS _ _ _ x _ | .appT _ _ _ _ x _ | .appz _ _ _ x _ => some x
  | _ => .none

def lowOk (h : AH) : PV → Bool
  | .pt i _ | .mp i | .rf _ i _ _ => decide (h.lo ≤ i)
  | _ => true

def barOk (o : COp) (s : Fr) (h : AH) : Bool :=
  match target o with
  | some x => lowOk h (x.val s)
  | .none => true

def evOpB (o : COp) (s : Fr) (h : AH) : Option (PV × AH) := if barOk o s h then evOp call o s h else .none

def evOps : List COper → Fr → AH → Option (Fr × AH)
  | [], s, h => some (s, h)
  | o :: r, s, h =>
    if wants o.guard s then match evOpB call o.op s h with
      | some (v, h') => evOps r (Fr.put s o.dst v) h'
      | .none => .none
    else evOps r (Fr.put s o.dst .undef) h
end

def initFr (as : List PV) : Fr := fun t => as.getD t .undef

def resAt (h : AH) (s : Fr) : CRes → Option PV
  | .t n => some (s n)
  | .cell true n t => (rds h (s t) n).map .agg
  | .cell false _ t => rd1 h (s t)

def resAll (h : AH) (s : Fr) : List CRes → Option (List PV)
  | [] => some []
  | r :: rs => match resAt h s r, resAll h s rs with
    | some v, some vs => some (v :: vs)
    | _, _ => .none

def resOf (res : List CRes) (s : Fr) (h : AH) : Option PV :=
  match resAll h s res with
  | some [v] => some v
  | some vs => some (.tup vs)
  | .none => .none

/-- A pure call's result: nothing of what was lent is handed back. -/
def pureRes (c : CFun) (as : List PV) : Option (EX × Fr × AH) → Option PV
  | some (.nrm, s', h') | some (.ret, s', h') => match resOf c.res s' h' with
    | some r0 => if as.any (own snapDepth) && !noImm h' snapDepth r0 then .none else snap h' snapDepth r0
    | .none => .none
  | _ => .none

def AH.bar (h : AH) : AH := ⟨h.nx, h.nx, h.blk, h.ty⟩
def AH.unbar (h h1 : AH) : AH := ⟨h1.nx, h.lo, h1.blk, h1.ty⟩

def putsL (s : Fr) : List Nat → List PV → Fr
  | p :: ps, v :: vs => putsL (Fr.put s (some p) v) ps vs
  | _, _ => s

/-- A round of a range over a function: a call of its yield. -/
def yldW (run : CCode → Fr → AH → Option (EX × Fr × AH)) (i : Nat) (as : List PV) (h : AH) : Option (PV × AH) :=
  if i < h.lo then .none else match h.blk i with
  | some (.loop .ready L) => if as.length = L.ps.length then
      match run L.asg (putsL L.s L.ps as) h with
      | some (.nrm, s1, h1) => match h1.blk i with
        | some (.loop .ready _) => match run L.body s1 (h1.set i (.loop .busy L)) with
          | some (e, _, h2) => match h2.blk i with
            | some (.loop .busy _) => match e with
              | .nrm => some (.bool true, h2.set i (.loop .ready L))
              | e => some (.bool false, h2.set i (.loop (.done e) L))
            | _ => .none
          | .none => .none
        | _ => .none
      | _ => .none
    else .none
  | _ => .none

/-- Are ranges over functions taken? -/
def gate (T : Nat → Option Fun) : Bool := match T lpb with
  | some .loops => true
  | _ => false

/-- One call, given how code is run. -/
def callW (T : Nat → Option Fun) (run : CCode → Fr → AH → Option (EX × Fr × AH)) (f : Nat) (as : List PV) (h : AH) : Option (PV × AH) :=
  match T f with
  | some (.prim _ g) => g as h
  | some (.code c) =>
    if c.pure then
      match allO (snap h snapDepth) as with
      | some as' => (pureRes c as (run c.body (initFr as') AH.zero)).map fun r => (r, h)
      | .none => .none
    else if c.ext then match run c.body (initFr as) h.bar with
      | some (.nrm, s', h') | some (.ret, s', h') => (resOf c.res s' h').map fun r => (r, h.unbar h')
      | _ => .none
    else match run c.body (initFr as) h with
      | some (.nrm, s', h') | some (.ret, s', h') => (resOf c.res s' h').map fun r => (r, h')
      | _ => .none
  | _ => if yb ≤ f ∧ gate T = true then yldW run (f - yb) as h else .none

def evC (T : Nat → Option Fun) : Nat → CCode → Fr → AH → Option (EX × Fr × AH)
  | 0, _, _, _ => .none
  | n + 1, c, s, h => match c with
    | .skip => some (.nrm, s, h)
    | .bad => .none
    | .reg ops => match evOps (callW T (evC T n)) ops s h with
      | some (s', h') => some (.nrm, s', h')
      | .none => .none
    | .seq a b => match evC T n a s h with
      | some (.nrm, s', h') => evC T n b s' h'
      | r => r
    | .cond c a b => match c.val s with
      | .bool true => evC T n a s h
      | .bool false => evC T n b s h
      | _ => .none
    | .block id c => match evC T n c s h with
      | some (.exit i, s', h') => some (if i = id then .nrm else .exit i, s', h')
      | r => r
    | .loop c => match evC T n c s h with
      | some (.nrm, s', h') => evC T n (.loop c) s' h'
      | r => r
    | .exit id => some (.exit id, s, h)
    | .ret => some (.ret, s, h)
    | .rangef x ps asg body => match x.val s with
      | .fn g fs cs => if g < vb ∧ gate T = true then match callW T (evC T n) g (fs ++ [.yl h.nx] ++ cs) (h.push (.loop .ready ⟨ps, asg, body, s⟩)) with
        | some (_, h1) => match h1.blk h.nx with
          | some (.loop .ready _) => some (.nrm, s, h1.del h.nx)
          | some (.loop (.done e) _) => some (e, s, h1.del h.nx)
          | _ => .none
        | .none => .none
        else .none
      | _ => .none

end Go.Ev

/- How the abstract machine's values and heap stand for the machine's, and how one step keeps that. -/
set_option linter.unusedVariables false
set_option linter.unusedSimpArgs false
namespace Go.Ev

/-- A value of one cell that is no bool. -/
def anyOk : Value → Bool
  | .bool _ => false
  | u => u.oneCell'

inductive VR (ρ : Nat → Option (Nat × Nat)) (I : Nat → Prop) (w : World) : Value → PV → Prop
  | bool (b : Bool) : VR ρ I w (.bool b) (.bool b)
  | int (k : IntKind) (n : Int) : VR ρ I w (.int k n) (.int k n)
  | str (s : ByteArray) : VR ρ I w (.string s) (.str s)
  | sl {A : Option Addr} {n c : Nat} {cs : List PV} (us : Nat → Value) (hn : n ≤ c)
      (hA : cs ≠ [] → ∃ b o, A = some ⟨b, o, none⟩ ∧ I b ∧ ∀ j, j < cs.length → w.cell? ⟨b, o + j, none⟩ = some (us j))
      (hv : ∀ j (hj : j < cs.length), VR ρ I w (us j) cs[j]) (ho : ∀ x ∈ cs, x.one = true) : VR ρ I w (.slice A n c) (.sl n cs)
  | emp {A : Option Addr} : VR ρ I w (.slice A 0 0) .emp
  | rf {z i o n b o' c : Nat} {C : Array Value} {T : TypeId} {f : Nat × Nat} (hρ : ρ i = some (b, o')) (hn : n ≤ c)
      (hw : w.heap[b]? = some (.cells C T f)) (hc : o' + o + c * z ≤ C.size) : VR ρ I w (.slice (some ⟨b, o' + o, none⟩) n c) (.rf z i o n)
  | rf0 {A : Option Addr} {z i o : Nat} : VR ρ I w (.slice A 0 0) (.rf z i o 0)
  | pt {i o b o' : Nat} (hρ : ρ i = some (b, o')) : VR ρ I w (.pointer (some ⟨b, o' + o, none⟩)) (.pt i o)
  | pi {b o : Nat} {cs : List PV} (us : Nat → Value) (hI : I b) (hA : ∀ j, j < cs.length → w.cell? ⟨b, o + j, none⟩ = some (us j))
      (hv : ∀ j (hj : j < cs.length), VR ρ I w (us j) cs[j]) (ho : ∀ x ∈ cs, x.one = true) : VR ρ I w (.pointer (some ⟨b, o, none⟩)) (.pi cs)
  | nilp : VR ρ I w (.pointer none) .nilp
  | mp {i b o : Nat} (hρ : ρ i = some (b, o)) : VR ρ I w (.map (some b)) (.mp i)
  | nilm : VR ρ I w (.map none) .nilm
  | fn {f : Nat} {fs cs : Array Value} {gs ds : List PV} (h1 : fs.size = gs.length) (h2 : cs.size = ds.length)
      (hf : ∀ j (hj : j < gs.length), VR ρ I w (fs.getD j undef) gs[j]) (hc : ∀ j (hj : j < ds.length), VR ρ I w (cs.getD j undef) ds[j]) :
      VR ρ I w (.func (.func f) fs cs) (.fn f gs ds)
  | nilf : VR ρ I w .nilFunc .nilf
  | agg {cs : Array Value} {ds : List PV} (h1 : cs.size = ds.length) (hc : ∀ j (hj : j < ds.length), VR ρ I w (cs.getD j undef) ds[j]) (ho : ∀ x ∈ ds, x.one = true) : VR ρ I w (.agg cs) (.agg ds)
  | tup {cs : Array Value} {ds : List PV} (h1 : cs.size = ds.length) (hc : ∀ j (hj : j < ds.length), VR ρ I w (cs.getD j undef) ds[j]) : VR ρ I w (.tuple cs) (.tup ds)
  | nili : VR ρ I w .nilIface .nili
  | ifc {t : Nat} {u : Value} {v : PV} (hv : VR ρ I w u v) : VR ρ I w (.iface t u) (.ifc t v)
  | yl {i b o : Nat} (hρ : ρ i = some (b, o)) : VR ρ I w (.func (.yield b) #[] #[]) (.yl i)
  | dfr (v : PV) : VR ρ I w (.tuple #[]) (.dfr v)
  | any {u : Value} (h1 : anyOk u = true) : VR ρ I w u .any

/-- Lists of values. -/
def VRL (ρ : Nat → Option (Nat × Nat)) (I : Nat → Prop) (w : World) (us : Array Value) (vs : List PV) : Prop :=
  us.size = vs.length ∧ ∀ j (hj : j < vs.length), VR ρ I w (us.getD j undef) vs[j]

def LS.st : LS → LoopState
  | .ready => .ready
  | .busy => .busy
  | .done _ => .done
  | .over _ => .exhausted
def LS.pend : LS → Option Code
  | .done .ret => some .ret
  | .done (.exit id) => some (.exit id)
  | .over .ret => some .ret
  | .over (.exit id) => some (.exit id)
  | _ => none

/-- What a range over a function says is what its record says: told by the program's translation. -/
class LoopSpec where
  ok : List Nat → CCode → CCode → Array Tmp → Code → Code → Nat → Prop
variable [LoopSpec]

/-- What a block of the heap stands for. -/
def BR (ρ : Nat → Option (Nat × Nat)) (I : Nat → Prop) (w : World) (b o : Nat) : Blk → Prop
  | .cells cs => ∃ C T, w.heap[b]? = some (.cells C T (0, 0)) ∧ o + cs.length ≤ C.size ∧ (∀ j (hj : j < cs.length), VR ρ I w (C.getD (o + j) undef) cs[j]) ∧ ∀ x ∈ cs, x.one = true
  | .map es => ∃ M clock, w.heap[b]? = some (.map M clock) ∧ M.size = es.length ∧
      ∀ j (hj : j < es.length) (hj' : j < M.size), VR ρ I w M[j].key es[j].1 ∧ VR ρ I w M[j].val es[j].2
  | .loop st L => ∃ (r : Loop) (_ : Unit), w.heap[b]? = some (.loop r) ∧ r.state = st.st ∧ r.pending = st.pend ∧ LoopSpec.ok L.ps L.asg L.body r.params r.assign r.body r.tmps.size ∧
      ∀ t, VR ρ I w (r.tmps.getD t undef) (L.s t)

/-- The records of ranges over functions, and deferred calls' blocks. -/
def Oth (w w' : World) (b : Nat) : Prop :=
  (∀ r : Loop, w.heap[b]? = some (.loop r) → ∃ st p, w'.heap[b]? = some (.loop { r with state := st, pending := p })) ∧
  (∀ d, w.heap[b]? = some (.deferred d) → w'.heap[b]? = some (.deferred d))
omit [LoopSpec] in
theorem Oth.same {w w' : World} {b : Nat} (h : w'.heap[b]? = w.heap[b]?) : Oth w w' b := ⟨fun r e => ⟨r.state, r.pending, h.trans e⟩, fun d e => h.trans e⟩
omit [LoopSpec] in
theorem Oth.refl {w : World} {b : Nat} : Oth w w b := .same rfl
omit [LoopSpec] in
theorem Oth.trans {w w' w'' : World} {b : Nat} (h : Oth w w' b) (k : Oth w' w'' b) : Oth w w'' b :=
  ⟨fun r e => let ⟨_, _, e1⟩ := h.1 r e; let ⟨s2, p2, e2⟩ := k.1 _ e1; ⟨s2, p2, e2⟩, fun d e => k.2 d (h.2 d e)⟩
omit [LoopSpec] in
theorem Oth.cells {w w' : World} {b : Nat} {C : Array Value} {T : TypeId} {f : Nat × Nat} (h : w.heap[b]? = some (.cells C T f)) : Oth w w' b :=
  ⟨fun r e => (by rw [h] at e; cases e), fun d e => (by rw [h] at e; cases e)⟩
omit [LoopSpec] in
theorem Oth.map {w w' : World} {b : Nat} {M : Array MapEntry} {c : Nat} (h : w.heap[b]? = some (.map M c)) : Oth w w' b :=
  ⟨fun r e => (by rw [h] at e; cases e), fun d e => (by rw [h] at e; cases e)⟩
omit [LoopSpec] in
theorem Oth.old {w w' : World} (h : ∀ b, b < w.heap.size → w'.heap[b]? = w.heap[b]?) (b : Nat) : Oth w w' b := by
  by_cases q : b < w.heap.size
  · exact .same (h b q)
  · have : w.heap[b]? = none := Array.getElem?_eq_none (by omega)
    exact ⟨fun r e => (by rw [this] at e; cases e), fun d e => (by rw [this] at e; cases e)⟩

/-- The types that are noted are the blocks' types. -/
def Typ (ρ : Nat → Option (Nat × Nat)) (ty : Nat → Option Nat) (w : World) : Prop := ∀ i t, ty i = some t → ∃ b C f, ρ i = some (b, 0) ∧ w.heap[b]? = some (Obj.cells C t f)
omit [LoopSpec] in
theorem Typ.mono {ρ ρ' : Nat → Option (Nat × Nat)} {ty : Nat → Option Nat} {w w' : World} (ht : Typ ρ ty w) (hρ : ∀ i x, ρ i = some x → ρ' i = some x)
    (hr : ∀ (b : Nat) (C : Array Value) (T : TypeId) (f : Nat × Nat), w.heap[b]? = some (Obj.cells C T f) → ∃ (C' : Array Value) (f' : Nat × Nat), w'.heap[b]? = some (Obj.cells C' T f') ∧ C'.size = C.size) : Typ ρ' ty w' := fun i t e => by
  obtain ⟨b, C, f, e1, e2⟩ := ht i t e
  obtain ⟨C', f', e3, _⟩ := hr b C t f e2
  exact ⟨b, C', f', hρ _ _ e1, e3⟩

structure SR (ρ : Nat → Option (Nat × Nat)) (I : Nat → Prop) (h : AH) (w : World) : Prop where
  live : ∀ i B, h.blk i = some B → ∃ b o, ρ i = some (b, o) ∧ BR ρ I w b o B
  inj : ∀ i j b o o', h.blk i ≠ none → h.blk j ≠ none → ρ i = some (b, o) → ρ j = some (b, o') → i = j
  apart : ∀ i b o, h.blk i ≠ none → ρ i = some (b, o) → ¬ I b
  nx : ∀ i x, ρ i = some x → i < h.nx
  inI : ∀ b, I b → b < w.heap.size
  typ : Typ ρ h.ty w

/-- From one state to a later one: what is kept. -/
structure St (ρ : Nat → Option (Nat × Nat)) (I : Nat → Prop) (h : AH) (w : World) (ρ' : Nat → Option (Nat × Nat)) (I' : Nat → Prop) (h' : AH) (w' : World) : Prop where
  ext : ∀ i x, ρ i = some x → ρ' i = some x
  imm : ∀ b, I b → I' b
  immNew : ∀ b, I' b → I b ∨ w.heap.size ≤ b
  os : w'.os = w.os
  tape : w'.tape = w.tape
  output : w'.output = w.output
  size : w.heap.size ≤ w'.heap.size
  keep : ∀ b, b < w.heap.size → (∀ i o, h.blk i ≠ none → ρ i ≠ some (b, o)) → w'.heap[b]? = w.heap[b]?
  row : ∀ (b : Nat) (C : Array Value) (T : TypeId) (f : Nat × Nat), w.heap[b]? = some (Obj.cells C T f) → ∃ (C' : Array Value) (f' : Nat × Nat), w'.heap[b]? = some (Obj.cells C' T f') ∧ C'.size = C.size
  oth : ∀ b, Oth w w' b
  own : ∀ i b o, h'.blk i ≠ none → ρ' i = some (b, o) → w.heap.size ≤ b ∨ ∃ j o', h.blk j ≠ none ∧ ρ j = some (b, o')
  nxle : h.nx ≤ h'.nx
  low : ∀ i x, ρ' i = some x → ρ i = some x ∨ h.nx ≤ i

section
variable {ρ ρ' ρ'' : Nat → Option (Nat × Nat)} {I I' I'' : Nat → Prop} {h h' h'' : AH} {w w' w'' : World} {u : Value} {v : PV}

omit [LoopSpec] in
theorem cell_of_block {b o : Nat} (e : w'.heap[b]? = w.heap[b]?) : w'.cell? ⟨b, o, none⟩ = w.cell? ⟨b, o, none⟩ := by
  simp only [World.cell?, e]

omit [LoopSpec] in
theorem VR.mono (hv : VR ρ I w u v) (hρ : ∀ i x, ρ i = some x → ρ' i = some x) (hI : ∀ b, I b → I' b) (hw : ∀ b, I b → w'.heap[b]? = w.heap[b]?)
    (hr : ∀ (b : Nat) (C : Array Value) (T : TypeId) (f : Nat × Nat), w.heap[b]? = some (Obj.cells C T f) → ∃ (C' : Array Value) (f' : Nat × Nat), w'.heap[b]? = some (Obj.cells C' T f') ∧ C'.size = C.size) : VR ρ' I' w' u v := by
  induction hv with
  | bool b => exact .bool b
  | int k n => exact .int k n
  | str s => exact .str s
  | sl us hn hA _ ho ih =>
    refine .sl us hn (fun hne => ?_) ih ho
    obtain ⟨b, o, rfl, hb, hc⟩ := hA hne
    exact ⟨b, o, rfl, hI b hb, fun j hj => by rw [cell_of_block (hw b hb)]; exact hc j hj⟩
  | emp => exact .emp
  | rf h1 hn h2 hc =>
    obtain ⟨C', f', e, hs⟩ := hr _ _ _ _ h2
    exact .rf (hρ _ _ h1) hn e (by rw [hs]; exact hc)
  | rf0 => exact .rf0
  | pt h1 => exact .pt (hρ _ _ h1)
  | pi us hb hA _ ho ih => exact .pi us (hI _ hb) (fun j hj => by rw [cell_of_block (hw _ hb)]; exact hA j hj) ih ho
  | nilp => exact .nilp
  | mp h1 => exact .mp (hρ _ _ h1)
  | nilm => exact .nilm
  | fn h1 h2 _ _ ih1 ih2 => exact .fn h1 h2 ih1 ih2
  | nilf => exact .nilf
  | agg h1 _ ho ih => exact .agg h1 ih ho
  | tup h1 _ ih => exact .tup h1 ih
  | nili => exact .nili
  | ifc _ ih => exact .ifc ih
  | yl h1 => exact .yl (hρ _ _ h1)
  | dfr v => exact .dfr v
  | any h1 => exact .any h1

omit [LoopSpec] in
theorem St.refl : St ρ I h w ρ I h w where
  ext := fun _ _ e => e
  imm := fun _ e => e
  immNew := fun _ e => .inl e
  os := rfl
  tape := rfl
  output := rfl
  size := Nat.le_refl _
  keep := fun _ _ _ => rfl
  row := fun _ C _ f e => ⟨C, f, e, rfl⟩
  oth := fun _ => .refl
  own := fun i b o hl e => .inr ⟨i, o, hl, e⟩
  nxle := Nat.le_refl _
  low := fun i x e => .inl e

omit [LoopSpec] in
theorem St.trans (a : St ρ I h w ρ' I' h' w') (b : St ρ' I' h' w' ρ'' I'' h'' w'') : St ρ I h w ρ'' I'' h'' w'' where
  ext := fun i x e => b.ext i x (a.ext i x e)
  imm := fun x e => b.imm x (a.imm x e)
  immNew := fun x e => by
    rcases b.immNew x e with g | g
    · exact a.immNew x g
    · exact .inr (Nat.le_trans a.size g)
  os := b.os.trans a.os
  tape := b.tape.trans a.tape
  output := b.output.trans a.output
  size := Nat.le_trans a.size b.size
  keep := fun x hx hn => by
    rw [b.keep x (Nat.lt_of_lt_of_le hx a.size), a.keep x hx hn]
    intro i o hl e
    rcases a.own i x o hl e with g | ⟨j, o', g, e'⟩
    · omega
    · exact hn j o' g e'
  row := fun x C T f e => by
    obtain ⟨C', f', e', hs⟩ := a.row x C T f e
    obtain ⟨C'', f'', e'', hs'⟩ := b.row x C' T f' e'
    exact ⟨C'', f'', e'', hs'.trans hs⟩
  oth := fun x => (a.oth x).trans (b.oth x)
  own := fun i x o hl e => by
    rcases b.own i x o hl e with g | ⟨j, o', g, e'⟩
    · exact .inl (Nat.le_trans a.size g)
    · exact a.own j x o' g e'
  nxle := Nat.le_trans a.nxle b.nxle
  low := fun i x e => by
    rcases b.low i x e with g | g
    · exact a.low i x g
    · exact .inr (Nat.le_trans a.nxle g)

theorem VR.step (hv : VR ρ I w u v) (hs : SR ρ I h w) (st : St ρ I h w ρ' I' h' w') : VR ρ' I' w' u v :=
  hv.mono st.ext st.imm (fun b hb => st.keep b (hs.inI b hb) fun i o hl e => hs.apart i b o hl e hb) st.row

theorem VRL.step {us : Array Value} {vs : List PV} (hv : VRL ρ I w us vs) (hs : SR ρ I h w) (st : St ρ I h w ρ' I' h' w') : VRL ρ' I' w' us vs :=
  ⟨hv.1, fun j hj => (hv.2 j hj).step hs st⟩

omit [LoopSpec] in
/-- Below: what the row asks of old memory, where nothing was owned at the start. -/
theorem St.below (st : St ρ I AH.zero w ρ' I' h' w') : RowKit.Below w.heap.size w w' where
  os := st.os
  tape := st.tape
  output := st.output
  size := st.size
  block := fun k hk => st.keep k hk fun i o hl _ => hl rfl

/-- A world that differs in the number of draws alone. -/
theorem SR.drew (hs : SR ρ I h w) : SR ρ I h w.drew ∧ St ρ I h w ρ I h w.drew := by
  have st : St ρ I h w ρ I h w.drew :=
    { ext := fun _ _ e => e, imm := fun _ e => e, immNew := fun _ e => .inl e, os := rfl, tape := rfl, output := rfl, size := Nat.le_refl _, keep := fun _ _ _ => rfl,
      row := fun _ C _ f e => ⟨C, f, e, rfl⟩, oth := fun _ => .refl, own := fun i b o hl e => .inr ⟨i, o, hl, e⟩, nxle := Nat.le_refl _, low := fun i x e => .inl e }
  refine ⟨{ live := fun i B e => ?_, inj := hs.inj, apart := hs.apart, nx := hs.nx, inI := hs.inI, typ := hs.typ.mono (fun _ _ e => e) fun b C T f e => ⟨C, f, e, rfl⟩ }, st⟩
  obtain ⟨b, o, e1, e2⟩ := hs.live i B e
  refine ⟨b, o, e1, ?_⟩
  cases B with
  | cells cs =>
    obtain ⟨C, T, g1, g2, g3⟩ := e2
    exact ⟨C, T, g1, g2, fun j hj => (g3.1 j hj).step hs st, g3.2⟩
  | map es =>
    obtain ⟨M, k, g1, g2, g3⟩ := e2
    exact ⟨M, k, g1, g2, fun j hj hj' => ⟨(g3 j hj hj').1.step hs st, (g3 j hj hj').2.step hs st⟩⟩
  | loop s L =>
    obtain ⟨r, x, g1, g2, g3, g4, g5⟩ := e2
    exact ⟨r, x, g1, g2, g3, g4, fun t => (g5 t).step hs st⟩

theorem BR.step {B : Blk} {b o : Nat} (hB : BR ρ I w b o B) (hs : SR ρ I h w) (st : St ρ I h w ρ' I' h' w') (e : w'.heap[b]? = w.heap[b]?) : BR ρ' I' w' b o B := by
  cases B with
  | cells cs =>
    obtain ⟨C, T, g1, g2, g3⟩ := hB
    exact ⟨C, T, e.trans g1, g2, fun j hj => (g3.1 j hj).step hs st, g3.2⟩
  | map es =>
    obtain ⟨M, k, g1, g2, g3⟩ := hB
    exact ⟨M, k, e.trans g1, g2, fun j hj hj' => ⟨(g3 j hj hj').1.step hs st, (g3 j hj hj').2.step hs st⟩⟩
  | loop s L =>
    obtain ⟨r, x, g1, g2, g3, g4, g5⟩ := hB
    exact ⟨r, x, e.trans g1, g2, g3, g4, fun t => (g5 t).step hs st⟩

omit [LoopSpec] in
theorem AH.push_blk (h : AH) (B : Blk) (i : Nat) : (h.push B).blk i = if i = h.nx then some B else h.blk i := rfl
omit [LoopSpec] in
theorem AH.set_blk (h : AH) (j : Nat) (B : Blk) (i : Nat) : (h.set j B).blk i = if i = j then some B else h.blk i := rfl
omit [LoopSpec] in
theorem AH.del_blk (h : AH) (j i : Nat) : (h.del j).blk i = if i = j then none else h.blk i := rfl
omit [LoopSpec] in
theorem AH.push_nx (h : AH) (B : Blk) : (h.push B).nx = h.nx + 1 := rfl

def upd (ρ : Nat → Option (Nat × Nat)) (i : Nat) (x : Nat × Nat) : Nat → Option (Nat × Nat) := fun j => if j = i then some x else ρ j

theorem SR.nxNone (hs : SR ρ I h w) : ρ h.nx = none := by
  cases e : ρ h.nx with
  | none => rfl
  | some x => exact absurd (hs.nx _ _ e) (Nat.lt_irrefl _)

theorem SR.blkNx (hs : SR ρ I h w) {i : Nat} (hl : h.blk i ≠ none) : i < h.nx := by
  cases e : h.blk i with
  | none => exact absurd e hl
  | some B =>
    obtain ⟨b, o, g, _⟩ := hs.live i B e
    exact hs.nx _ _ g

/-- A new block. -/
theorem SR.new (hs : SR ρ I h w) {B : Blk} (hos : w'.os = w.os) (htape : w'.tape = w.tape) (hout : w'.output = w.output) (hsz : w'.heap.size = w.heap.size + 1)
    (hold : ∀ b, b < w.heap.size → w'.heap[b]? = w.heap[b]?) (hB : St ρ I h w (upd ρ h.nx (w.heap.size, 0)) I (h.push B) w' → BR (upd ρ h.nx (w.heap.size, 0)) I w' w.heap.size 0 B) :
    SR (upd ρ h.nx (w.heap.size, 0)) I (h.push B) w' ∧ St ρ I h w (upd ρ h.nx (w.heap.size, 0)) I (h.push B) w' := by
  have hb : ∀ i x, ρ i = some x → x.1 < w.heap.size ∨ h.blk i = none := by
    intro i x e
    cases e' : h.blk i with
    | none => exact .inr rfl
    | some B' =>
      obtain ⟨b, o, g, hB'⟩ := hs.live i B' e'
      rw [e] at g
      cases g
      left
      have : w.heap[b]? ≠ none := by
        cases B' <;> (obtain ⟨_, _, g, _⟩ := hB'; rw [g]; simp)
      rcases Nat.lt_or_ge b w.heap.size with q | q
      · exact q
      · exact absurd (Array.getElem?_eq_none q) this
  have hlt : ∀ i, h.blk i ≠ none → i ≠ h.nx := fun i hl e => Nat.lt_irrefl _ (e ▸ hs.blkNx hl)
  have st : St ρ I h w (upd ρ h.nx (w.heap.size, 0)) I (h.push B) w' :=
    { ext := fun i x e => by
        have : i ≠ h.nx := fun e' => by rw [e', hs.nxNone] at e; cases e
        simp [upd, this, e]
      imm := fun _ e => e, immNew := fun _ e => .inl e, os := hos, tape := htape, output := hout, size := by omega
      keep := fun b hb _ => hold b hb
      row := fun b C T f e => by
        have : b < w.heap.size := by
          rcases Nat.lt_or_ge b w.heap.size with q | q
          · exact q
          · rw [Array.getElem?_eq_none q] at e; cases e
        exact ⟨C, f, (hold b this).trans e, rfl⟩
      oth := Oth.old hold
      own := fun i b o hl e => by
        by_cases hi : i = h.nx
        · simp [upd, hi] at e; left; omega
        · simp only [upd, hi, if_false] at e
          rw [AH.push_blk, if_neg hi] at hl
          exact .inr ⟨i, o, hl, e⟩
      nxle := Nat.le_succ _
      low := fun i x e => by
        by_cases hi : i = h.nx
        · right; omega
        · simp only [upd, hi, if_false] at e; exact .inl e }
  refine ⟨{ live := fun i B' e => ?_, inj := fun i j b o o' hi hj ei ej => ?_, apart := fun i b o hi ei => ?_, nx := fun i x e => ?_, inI := fun b e => by have := hs.inI b e; omega, typ := hs.typ.mono st.ext st.row }, st⟩
  · by_cases hi : i = h.nx
    · subst hi
      rw [AH.push_blk, if_pos rfl] at e
      cases e
      exact ⟨w.heap.size, 0, by simp [upd], hB st⟩
    · rw [AH.push_blk, if_neg hi] at e
      obtain ⟨b, o, g, hB'⟩ := hs.live i B' e
      refine ⟨b, o, by simp [upd, hi, g], hB'.step hs st (hold b ?_)⟩
      rcases hb i _ g with q | q
      · exact q
      · rw [q] at e; cases e
  · by_cases hi' : i = h.nx <;> by_cases hj' : j = h.nx
    · omega
    · rw [AH.push_blk, if_neg hj'] at hj
      simp [upd, hi'] at ei
      simp [upd, hj'] at ej
      rcases hb j _ ej with q | q
      · simp at q; omega
      · exact absurd q hj
    · rw [AH.push_blk, if_neg hi'] at hi
      simp [upd, hj'] at ej
      simp [upd, hi'] at ei
      rcases hb i _ ei with q | q
      · simp at q; omega
      · exact absurd q hi
    · rw [AH.push_blk, if_neg hi'] at hi
      rw [AH.push_blk, if_neg hj'] at hj
      simp [upd, hi'] at ei
      simp [upd, hj'] at ej
      exact hs.inj i j b o o' hi hj ei ej
  · by_cases hi' : i = h.nx
    · simp [upd, hi'] at ei
      intro hI
      have := hs.inI b hI
      omega
    · rw [AH.push_blk, if_neg hi'] at hi
      simp [upd, hi'] at ei
      exact hs.apart i b o hi ei
  · by_cases hi' : i = h.nx
    · rw [AH.push_nx]; omega
    · simp [upd, hi'] at e
      have := hs.nx i x e
      rw [AH.push_nx]; omega

/-- An own block is written. -/
theorem SR.wrote (hs : SR ρ I h w) {i b o : Nat} {B : Blk} (hl : h.blk i ≠ none) (hi : ρ i = some (b, o)) (hos : w'.os = w.os) (htape : w'.tape = w.tape) (hout : w'.output = w.output)
    (hsz : w'.heap.size = w.heap.size) (hold : ∀ k, k ≠ b → w'.heap[k]? = w.heap[k]?)
    (hrow : ∀ (C : Array Value) (T : TypeId) (f : Nat × Nat), w.heap[b]? = some (Obj.cells C T f) → ∃ (C' : Array Value) (f' : Nat × Nat), w'.heap[b]? = some (Obj.cells C' T f') ∧ C'.size = C.size)
    (hoth : Oth w w' b)
    (hB : St ρ I h w ρ I (h.set i B) w' → BR ρ I w' b o B) : SR ρ I (h.set i B) w' ∧ St ρ I h w ρ I (h.set i B) w' := by
  have st : St ρ I h w ρ I (h.set i B) w' :=
    { ext := fun _ _ e => e, imm := fun _ e => e, immNew := fun _ e => .inl e, os := hos, tape := htape, output := hout, size := by omega
      keep := fun k _ hn => hold k fun e => hn i o hl (e ▸ hi)
      row := fun k C T f e => by
        by_cases hk : k = b
        · subst hk; exact hrow C T f e
        · exact ⟨C, f, (hold k hk).trans e, rfl⟩
      oth := fun k => by
        by_cases hk : k = b
        · subst hk; exact hoth
        · exact .same (hold k hk)
      own := fun j k o' hl' e => by
        by_cases hj : j = i
        · subst hj; rw [hi] at e; cases e; exact .inr ⟨j, o, hl, hi⟩
        · rw [AH.set_blk, if_neg hj] at hl'; exact .inr ⟨j, o', hl', e⟩
      nxle := Nat.le_refl _
      low := fun i x e => .inl e }
  have live' : ∀ j, (h.set i B).blk j ≠ none → h.blk j ≠ none := fun j hj => by
    by_cases e : j = i
    · subst e; exact hl
    · rwa [AH.set_blk, if_neg e] at hj
  refine ⟨{ live := fun j B' e => ?_, inj := fun j k x o1 o2 h1 h2 e1 e2 => hs.inj j k x o1 o2 (live' j h1) (live' k h2) e1 e2, apart := fun j x o1 h1 e1 => hs.apart j x o1 (live' j h1) e1, nx := hs.nx,
            inI := fun x e => by have := hs.inI x e; omega, typ := hs.typ.mono st.ext st.row }, st⟩
  by_cases hj : j = i
  · subst hj
    rw [AH.set_blk, if_pos rfl] at e
    cases e
    exact ⟨b, o, hi, hB st⟩
  · rw [AH.set_blk, if_neg hj] at e
    obtain ⟨b', o', g, hB'⟩ := hs.live j B' e
    refine ⟨b', o', g, hB'.step hs st (hold b' fun e' => ?_)⟩
    subst e'
    exact hj (hs.inj j i b' o' o (by rw [e]; simp) hl g hi)

/-- A range's record comes to another state. -/
theorem SR.loopTo (hs : SR ρ I h w) {i b o : Nat} {st0 st' : LS} {L L0 : CLoop} {r : Loop} (hb : h.blk i = some (.loop st0 L0)) (hi : ρ i = some (b, o)) (hr : w.heap[b]? = some (.loop r))
    (hok : LoopSpec.ok L.ps L.asg L.body r.params r.assign r.body r.tmps.size) (hv : ∀ t, VR ρ I w (r.tmps.getD t undef) (L.s t))
    (w' : World) (e : w' = { w with heap := w.heap.setIfInBounds b (.loop { r with state := st'.st, pending := st'.pend }) }) :
    SR ρ I (h.set i (.loop st' L)) w' ∧ St ρ I h w ρ I (h.set i (.loop st' L)) w' := by
  have hlt : b < w.heap.size := by
    rcases Nat.lt_or_ge b w.heap.size with q | q
    · exact q
    · rw [Array.getElem?_eq_none q] at hr; cases hr
  have hsame : w'.heap[b]? = some (.loop { r with state := st'.st, pending := st'.pend }) := by rw [e]; simp [hlt]
  refine hs.wrote (by rw [hb]; simp) hi (by rw [e]) (by rw [e]) (by rw [e]) (by rw [e]; simp) (fun k hk => by rw [e]; simp [Array.getElem?_setIfInBounds_ne (Ne.symm hk)])
    (fun C T f q => by rw [hr] at q; cases q) ⟨fun r' q => ?_, fun d q => by rw [hr] at q; cases q⟩ fun st => ⟨_, (), hsame, rfl, rfl, hok, fun t => (hv t).step hs st⟩
  rw [hr] at q; cases q; exact ⟨_, _, hsame⟩

/-- A block is given up. -/
theorem SR.gone (hs : SR ρ I h w) (i : Nat) : SR ρ I (h.del i) w ∧ St ρ I h w ρ I (h.del i) w := by
  have live' : ∀ j, (h.del i).blk j ≠ none → h.blk j ≠ none := fun j hj => by
    by_cases e : j = i
    · rw [AH.del_blk, if_pos e] at hj; exact absurd rfl hj
    · rwa [AH.del_blk, if_neg e] at hj
  refine ⟨{ live := fun j B' e => ?_, inj := fun j k x o1 o2 h1 h2 e1 e2 => hs.inj j k x o1 o2 (live' j h1) (live' k h2) e1 e2, apart := fun j x o1 h1 e1 => hs.apart j x o1 (live' j h1) e1, nx := hs.nx, inI := hs.inI, typ := hs.typ.mono (fun _ _ e => e) fun b C T f e => ⟨C, f, e, rfl⟩ },
    { ext := fun _ _ e => e, imm := fun _ e => e, immNew := fun _ e => .inl e, os := rfl, tape := rfl, output := rfl, size := Nat.le_refl _, keep := fun _ _ _ => rfl, row := fun _ C _ f e => ⟨C, f, e, rfl⟩, oth := fun _ => .refl,
      own := fun j k o' hl' e => .inr ⟨j, o', live' j hl', e⟩, nxle := Nat.le_refl _, low := fun i x e => .inl e }⟩
  by_cases hj : j = i
  · rw [AH.del_blk, if_pos hj] at e; cases e
  · rw [AH.del_blk, if_neg hj] at e; exact hs.live j B' e

/-- New memory that nobody owns. -/
theorem SR.grow (hs : SR ρ I h w) (hos : w'.os = w.os) (htape : w'.tape = w.tape) (hout : w'.output = w.output) (hsz : w.heap.size ≤ w'.heap.size)
    (hold : ∀ b, b < w.heap.size → w'.heap[b]? = w.heap[b]?) (h1 : ∀ b, I b → I' b) (h2 : ∀ b, I' b → I b ∨ w.heap.size ≤ b) (h3 : ∀ b, I' b → b < w'.heap.size) :
    SR ρ I' h w' ∧ St ρ I h w ρ I' h w' := by
  have hb : ∀ (i : Nat) (B : Blk) (b o : Nat), h.blk i = some B → ρ i = some (b, o) → b < w.heap.size := by
    intro i B b o e g
    obtain ⟨b2, o2, g2, hB⟩ := hs.live i B e
    rw [g] at g2
    cases g2
    have : w.heap[b]? ≠ none := by
      cases B <;> (obtain ⟨_, _, g, _⟩ := hB; rw [g]; simp)
    rcases Nat.lt_or_ge b w.heap.size with q | q
    · exact q
    · exact absurd (Array.getElem?_eq_none q) this
  have st : St ρ I h w ρ I' h w' :=
    { ext := fun _ _ e => e, imm := h1, immNew := h2, os := hos, tape := htape, output := hout, size := hsz
      keep := fun b hb _ => hold b hb
      row := fun b C T f e => by
        have : b < w.heap.size := by
          rcases Nat.lt_or_ge b w.heap.size with q | q
          · exact q
          · rw [Array.getElem?_eq_none q] at e; cases e
        exact ⟨C, f, (hold b this).trans e, rfl⟩
      oth := Oth.old hold
      own := fun i b o hl e => .inr ⟨i, o, hl, e⟩, nxle := Nat.le_refl _, low := fun i x e => .inl e }
  refine ⟨{ live := fun i B e => ?_, inj := hs.inj, apart := fun i b o hl e hI => ?_, nx := hs.nx, inI := h3, typ := hs.typ.mono st.ext st.row }, st⟩
  · obtain ⟨b, o, g, hB⟩ := hs.live i B e
    exact ⟨b, o, g, hB.step hs st (hold b (hb i B b o e g))⟩
  · rcases h2 b hI with q | q
    · exact hs.apart i b o hl e q
    · cases e' : h.blk i with
      | none => exact hl e'
      | some B => have := hb i B b o e' e; omega

/-- A block goes on under a new number, from cell 'o' on. -/
theorem SR.moved (hs : SR ρ I h w) {i b o' o n : Nat} {cs : List PV} (hr : h.blk i = some (.cells cs)) (hi : ρ i = some (b, o')) (ho : o ≤ cs.length) :
    SR (upd ρ h.nx (b, o' + o)) I ((h.del i).push (.cells ((cs.drop o).take n))) w ∧ St ρ I h w (upd ρ h.nx (b, o' + o)) I ((h.del i).push (.cells ((cs.drop o).take n))) w := by
  have hl : h.blk i ≠ none := by rw [hr]; simp
  have hne : i ≠ h.nx := fun e => Nat.lt_irrefl _ (e ▸ hs.blkNx hl)
  have hnx : (h.del i).nx = h.nx := rfl
  have blk' : ∀ j, ((h.del i).push (.cells ((cs.drop o).take n))).blk j = if j = h.nx then some (.cells ((cs.drop o).take n)) else if j = i then none else h.blk j := fun j => rfl
  have st : St ρ I h w (upd ρ h.nx (b, o' + o)) I ((h.del i).push (.cells ((cs.drop o).take n))) w :=
    { ext := fun j x e => by
        have : j ≠ h.nx := fun e' => by rw [e', hs.nxNone] at e; cases e
        simp [upd, this, e]
      imm := fun _ e => e, immNew := fun _ e => .inl e, os := rfl, tape := rfl, output := rfl, size := Nat.le_refl _, keep := fun _ _ _ => rfl, row := fun _ C _ f e => ⟨C, f, e, rfl⟩, oth := fun _ => .refl
      own := fun j k o1 hl' e => by
        by_cases hj : j = h.nx
        · simp [upd, hj] at e
          obtain ⟨rfl, _⟩ := e
          exact .inr ⟨i, o', hl, hi⟩
        · simp [upd, hj] at e
          rw [blk', if_neg hj] at hl'
          by_cases hj' : j = i
          · rw [if_pos hj'] at hl'; exact absurd rfl hl'
          · rw [if_neg hj'] at hl'; exact .inr ⟨j, o1, hl', e⟩
      nxle := Nat.le_succ _
      low := fun j x e => by
        by_cases hj : j = h.nx
        · right; omega
        · simp only [upd, hj, if_false] at e; exact .inl e }
  refine ⟨{ live := fun j B' e => ?_, inj := fun j k x o1 o2 h1 h2 e1 e2 => ?_, apart := fun j x o1 h1 e1 => ?_, nx := fun j x e => ?_, inI := hs.inI, typ := hs.typ.mono st.ext st.row }, st⟩
  · rw [blk'] at e
    by_cases hj : j = h.nx
    · rw [if_pos hj] at e
      cases e
      refine ⟨b, o' + o, by simp [upd, hj], ?_⟩
      obtain ⟨b2, o2, g, hB⟩ := hs.live i _ hr
      rw [hi] at g
      cases g
      obtain ⟨C, T, g1, g2, g3⟩ := hB
      refine ⟨C, T, g1, by simp only [List.length_take, List.length_drop]; omega, fun k hk => ?_, fun x hx => g3.2 x (List.mem_of_mem_drop (List.mem_of_mem_take hx))⟩
      simp only [List.length_take, List.length_drop] at hk
      have := (g3.1 (o + k) (by omega)).step hs st
      rw [List.getElem_take, List.getElem_drop, Nat.add_assoc]
      exact this
    · rw [if_neg hj] at e
      by_cases hj' : j = i
      · rw [if_pos hj'] at e; cases e
      · rw [if_neg hj'] at e
        obtain ⟨b2, o2, g, hB⟩ := hs.live j _ e
        exact ⟨b2, o2, by simp [upd, hj, g], hB.step hs st rfl⟩
  · have f : ∀ j x o1, ((h.del i).push (.cells ((cs.drop o).take n))).blk j ≠ none → upd ρ h.nx (b, o' + o) j = some (x, o1) → (j = h.nx ∧ x = b) ∨ (j ≠ h.nx ∧ j ≠ i ∧ h.blk j ≠ none ∧ ρ j = some (x, o1)) := by
      intro j x o1 hl' e
      rw [blk'] at hl'
      by_cases hj : j = h.nx
      · simp [upd, hj] at e; exact .inl ⟨hj, e.1.symm⟩
      · simp [upd, hj] at e
        rw [if_neg hj] at hl'
        by_cases hj' : j = i
        · rw [if_pos hj'] at hl'; exact absurd rfl hl'
        · rw [if_neg hj'] at hl'; exact .inr ⟨hj, hj', hl', e⟩
    rcases f j x o1 h1 e1 with ⟨a1, a2⟩ | ⟨a1, a2, a3, a4⟩ <;> rcases f k x o2 h2 e2 with ⟨b1, b2⟩ | ⟨b1, b2, b3, b4⟩
    · omega
    · subst a2; exact absurd (hs.inj k i _ _ _ b3 hl b4 hi) b2
    · subst b2; exact absurd (hs.inj j i _ _ _ a3 hl a4 hi) a2
    · exact hs.inj j k x o1 o2 a3 b3 a4 b4
  · rw [blk'] at h1
    by_cases hj : j = h.nx
    · simp [upd, hj] at e1
      obtain ⟨rfl, _⟩ := e1
      exact hs.apart i b o' hl hi
    · simp [upd, hj] at e1
      rw [if_neg hj] at h1
      by_cases hj' : j = i
      · rw [if_pos hj'] at h1; exact absurd rfl h1
      · rw [if_neg hj'] at h1; exact hs.apart j x o1 h1 e1
  · show j < h.nx + 1
    by_cases hj : j = h.nx
    · omega
    · simp [upd, hj] at e; have := hs.nx j x e; omega

end
end Go.Ev

/- The translation of a loaded function into the abstract machine's code. What it does not take becomes 'bad', which no run passes. -/
set_option linter.unusedVariables false
set_option linter.unusedSimpArgs false
namespace Go.Ev
variable [LoopSpec]

def cstCell : Value → Option PV
  | .bool b => some (.bool b)
  | .int k n => some (.int k n)
  | .string s => some (.str s)
  | .slice none 0 0 => some .emp
  | .pointer none => some .nilp
  | .map none => some .nilm
  | .nilFunc => some .nilf
  | .nilIface => some .nili
  | _ => none

def cstCells : List Value → Option (List PV)
  | [] => some []
  | v :: r => match cstCell v, cstCells r with
    | some x, some xs => some (x :: xs)
    | _, _ => none

def cst : Value → Option PV
  | .agg cs => (cstCells cs.toList).map .agg
  | .tuple cs => (cstCells cs.toList).map .tup
  | v => cstCell v

def opd : Operand → Option Opd
  | .tmp t => some (.t t)
  | .const v => (cst v).map .c
  | .func f => some (.c (.fn f [] []))
  | .global _ => none

def opds : List Operand → Option (List Opd)
  | [] => some []
  | x :: r => match opd x, opds r with
    | some x, some xs => some (x :: xs)
    | _, _ => none

def opdO : Option Operand → Option (Option Opd)
  | none => some none
  | some x => (opd x).map some

def isAggT (P : Program) (t : TypeId) : Option Bool :=
  match P.underlying t with
  | some (.struct _) | some (.array _ _) => some true
  | some _ => some false
  | none => none

def szT (P : Program) (t : TypeId) : Option Nat := (P.info? t).map (·.size)
def bytesT (P : Program) (t : TypeId) : Option Nat := (P.info? t).map (·.bytes)
def zeroT (P : Program) (t : TypeId) : Option Value := (P.info? t).bind (·.zero)
def zeroCells (P : Program) (t : TypeId) : Option (List PV) := (zeroT P t).bind fun v => cstCells v.cells.toList

def nilKind (d : Option TypeDesc) (y : Operand) : Option Nat :=
  match d, y with
  | some (.pointer _), .const (.pointer none) => some 0
  | some (.slice _), .const (.slice none 0 0) => some 1
  | some (.map _ _), .const (.map none) => some 2
  | some (.func _ _ _), .const .nilFunc => some 3
  | some (.interface _), .const .nilIface => some 4
  | _, _ => none

def isBasic (P : Program) (t : TypeId) : Bool :=
  match P.underlying t with
  | some (.int _) | some .string | some .bool => true
  | _ => false

def kindT (P : Program) (t : TypeId) : Nat :=
  match P.underlying t with
  | some (.int _) => 0
  | some .bool => 1
  | _ => 2

/-- A struct whose fields are numbers, bools and strings, in order. -/
def flatFrom (P : Program) : Nat → List Field → Bool
  | _, [] => true
  | i, f :: r => f.name != "_" && f.offset == i && isBasic P f.type && flatFrom P (i + 1) r

def flatT (P : Program) (t : TypeId) (fs : Array Field) : Bool := flatFrom P 0 fs.toList && !P.stoodInHeld t && !P.eqGuardType P.depth t

def partsOf (place : Nat → Option (Nat × Nat)) : List (Nat × Operand) → Option (List (Nat × Nat × Opd))
  | [] => some []
  | (i, x) :: r => match place i, opd x, partsOf place r with
    | some (off, n), some x, some xs => some ((off, n, x) :: xs)
    | _, _, _ => none

def compBin (P : Program) (op : BinOp) (t : TypeId) (x y : Operand) : Option COp :=
  match opd x, opd y with
  | some X, some Y =>
    if op = .eql ∨ op = .neq then
      match P.underlying t with
      | some (.int _) | some .string => some (.bin op X Y)
      | some .bool => some (.eqb (op == .neq) X Y)
      | some (.struct fs) => if flatT P t fs then some (.eqs (op == .neq) (fs.toList.map fun f => kindT P f.type) X Y) else none
      | d => (nilKind d y).map fun k => .isnil (op == .neq) k X
    else some (.bin op X Y)
  | _, _ => none

/-- Functions without a body that the model runs itself: the first place of a byte in a string; how often it is there. -/
def extB (P : Program) (f : Nat) : Option Bool := match P.funcs[f]? with
  | some fn => if fn.body.isNone && (Extern.findNext fn).isNone then
      (if fn.name == "internal/bytealg.IndexByteString" then some false else if fn.name == "internal/bytealg.CountString" then some true else none) else none
  | none => none

def compCall (P : Program) (ow : Nat) (c : Call) : Option COp :=
  match c.callee with
  | .value (.func f) => match extB P f with
    | some m => (match opds c.args.toList with
      | some [x, y] => some (.idxbs m x y)
      | _ => none)
    | none => if f < vb then (opds c.args.toList).map (.call (if ow = 1 then f + vb else f)) else none
  | .value f => match opd f, opds c.args.toList with
    | some f, some as => some (if 2 ≤ ow then .callp (ow - 2) f as else .callv f as)
    | _, _ => none
  | .invoke _ _ => none
  | .builtin b => match b, opds c.args.toList, (c.argTypes[0]?).bind P.underlying with
    | .len, some [x], some (.array n _) => some (.mov (.c (.int .i64 n)))
    | .len, some [x], some .string => some (.len 0 x)
    | .len, some [x], some (.slice _) => some (.len 1 x)
    | .len, some [x], some (.map _ _) => some (.len 2 x)
    | .append, some [s, x], some (.slice e) =>
      match szT P e, bytesT P e, zeroT P e, (c.argTypes[1]?).bind P.underlying with
      | some z, some by_, some zv, some (.slice _) => if zv.cells.size = z then some (if ow = 1 then .appT e false z by_ s x else .app z by_ s x) else none
      | some z, some by_, some zv, some .string => if zv.cells.size = z then some (.appT e true z by_ s x) else none
      | some z, some by_, some zv, some (.int _) => if zv.cells.size = z then (zeroCells P e).map fun zs => .appz z by_ zs s x else none
      | _, _, _, _ => none
    | .clear, some [x], some (.slice e) => match szT P e, zeroCells P e with
      | some z, some zs => some (.clear z zs x)
      | _, _ => none
    | .max, some xs, some (.int _) => some (.minmax true xs)
    | .min, some xs, some (.int _) => some (.minmax false xs)
    | .delete, some [m, k], some (.map t _) => if isBasic P t then some (.del (kindT P t) m k) else none
    | _, _, _ => none

def compOp (P : Program) (ow : Nat) (o : Op) : Option COp :=
  match o with
  | .move x | .assign x => (opd x).map .mov
  | .pick c a b => match opd c, opd a, opd b with
    | some c, some a, some b => some (.pick c a b)
    | _, _, _ => none
  | .alloc t => (zeroCells P t).map .alloc
  | .box t x => (opd x).map (if ow = 1 then .box else if ow = 2 then .boxT t else .boxi)
  | .panic x => (opd x).map .pan
  | .makeInterface t x => if P.concrete t then (opd x).map (.mkif t) else none
  | .typeAssert x _ t ok => if P.concrete t then (opd x).map (.tass t ok) else none
  | .build t parts => match zeroCells P t, P.underlying t with
    | some zs, some (.struct fs) => (partsOf (fun i => (fs[i]?).bind fun f => (szT P f.type).map fun n => (f.offset, n)) parts.toList).bind fun ps =>
      if fs.all (fun f => (szT P f.type).isSome) then some (.build zs ps) else none
    | some zs, some (.array _ e) => match szT P e with
      | some n => (partsOf (fun i => some (i * n, n)) parts.toList).map (.build zs)
      | none => none
    | _, _ => none
  | .buildSlice t len parts => match P.underlying t with
    | some (.slice e) => match szT P e, zeroCells P e with
      | some n, some z => if len * n ≤ 2 ^ 24 ∧ z.length = n ∧ 0 < n then (partsOf (fun i => some (i * n, n)) parts.toList).map (if ow = 1 then .bslice n len (List.replicate len z).flatten else .blit len (List.replicate len z).flatten) else none
      | _, _ => none
    | _ => none
  | .load t a => match isAggT P t, szT P t, opd a with
    | some g, some n, some a => some (.load g n a)
    | _, _, _ => none
  | .store t a x => match szT P t, opd a, opd x with
    | some n, some a, some x => some (.store n a x)
    | _, _, _ => none
  | .nilCheck x => (opd x).map .nilchk
  | .binOp op t x y _ => compBin P op t x y
  | .unOp op _ x => (opd x).map (.un op)
  | .convert a b x => match P.underlying a, P.underlying b, opd x with
    | some (.int _), some (.int k), some x => some (.conv k x)
    | some .string, some .string, some x => some (.str x)
    | some .string, some (.slice e), some x => match P.underlying e with
      | some (.int .u8) => some (.s2b x)
      | _ => none
    | _, _, _ => none
  | .makeFunc (.func f) first cap => match opds first.toList, opds cap.toList with
    | some fs, some cs => some (.mkfn f fs cs)
    | _, _ => none
  | .makeMap _ none => some .mkmap
  | .makeSlice t l c => match P.underlying t with
    | some (.slice e) => match szT P e, bytesT P e, zeroCells P e, opd l, opd c with
      | some z, some b, some zs, some l, some c => if zs.length = z ∧ 0 < z then some (if ow = 1 then .mkslI z b zs l c else .mkslice z b zs l c) else none
      | _, _, _, _, _ => none
    | _ => none
  | .slice t x lo hi mx => match P.underlying t, opd x, opdO lo, opdO hi, opdO mx with
    | some (.slice e), some x, some lo, some hi, some mx => (szT P e).map fun z => .slice z x lo hi mx
    | some .string, some x, some lo, some hi, some none => some (.slstr x lo hi)
    | _, _, _, _, _ => none
  | .fieldAddr t x f => match P.underlying t, opd x with
    | some (.struct fs), some x => match fs[f]? with
      | some f => match szT P f.type with
        | some n => if n = 0 then none else some (.fld f.offset x)
        | none => none
      | none => none
    | _, _ => none
  | .field t x f => match P.underlying t, opd x with
    | some (.struct fs), some x => match fs[f]? with
      | some f => match isAggT P f.type, szT P f.type with
        | some g, some n => some (.fldv g f.offset n x)
        | _, _ => none
      | none => none
    | _, _ => none
  | .indexAddr t x i => match P.underlying t, opd x, opd i with
    | some (.slice e), some x, some i => (szT P e).map fun z => .idx z x i
    | some (.array n e), some x, some i => (szT P e).map fun z => .idxp n z x i
    | _, _, _ => none
  | .index t x i => match P.underlying t, opd x, opd i with
    | some (.array n e), some x, some i => match isAggT P e, szT P e with
      | some g, some z => some (.idxv g n z x i)
      | _, _ => none
    | some .string, some x, some i => some (.idxs x i)
    | _, _, _ => none
  | .lookup t m k ok => match P.underlying t, opd m, opd k with
    | some (.map kt et), some m, some k => if isBasic P kt then ((zeroT P et).bind cst).map fun z => .lkp (kindT P kt) z ok m k else none
    | _, _, _ => none
  | .mapUpdate t m k v | .insert t m k v => match P.underlying t, opd m, opd k, opd v with
    | some (.map kt _), some m, some k, some v => if isBasic P kt then some (.upd (kindT P kt) m k v) else none
    | _, _, _, _ => none
  | .extract x i => (opd x).map fun x => .ext x i
  | .call c => compCall P ow c
  | _ => none

/- What a region may do in another order. -/

def cls (pu : Nat → Bool) : COp → Nat
  | .load _ _ _ | .lkp _ _ _ _ _ => 1
  | .len k _ => if k == 2 then 1 else 0
  | .call f _ => if pu f then 1 else if pu (f + exb) then 2 else 3
  | .callp g _ _ => if pu g then 1 else 3
  | .alloc _ | .box _ | .boxN _ _ | .boxT _ _ | .bslice _ _ _ _ | .mkmap | .mkslice _ _ _ _ _ | .mksliceR _ _ _ _ _ _ => 2
  | .storeS _ _ _ _ | .appS _ _ _ _ _ | .resv _ => 3
  | .appT _ _ _ _ _ _ | .appz _ _ _ _ _ | .pan _ | .callS _ _ _ => 3
  | .store _ _ _ | .upd _ _ _ _ | .app _ _ _ _ | .clear _ _ _ | .del _ _ _ | .callv _ _ | .bad => 3
  | _ => 0

def okPair (a b : Nat) : Bool := a == 0 || b == 0 || (a == 1 && (b == 1 || b == 2))

def Opd.slots : Opd → List Nat
  | .t n => [n]
  | .c _ => []

def optSlots : Option Opd → List Nat
  | some x => x.slots
  | none => []

def COp.slots : COp → List Nat
  | .bad | .alloc _ | .mkmap | .resv _ => []
  | .storeS ts _ a x | .appS ts _ _ a x => ts ++ (a.slots ++ x.slots)
  | .callS ls _ as => ls.map (fun l => l.2.2) ++ as.flatMap Opd.slots
  | .loadi _ _ x | .boxN _ x | .boxT _ x | .pan x | .s2b x | .mkif _ x | .tass _ _ x => x.slots
  | .appT _ _ _ _ a x | .appz _ _ _ a x | .idxbs _ a x => a.slots ++ x.slots
  | .mksliceR _ _ _ _ a x | .mkslI _ _ _ a x => a.slots ++ x.slots
  | .mov x | .nilchk x | .box x | .boxi x | .clear _ _ x | .load _ _ x | .isnil _ _ x | .un _ x | .conv _ x | .str x | .fld _ x | .fldv _ _ _ x | .ext x _ | .len _ x => x.slots
  | .pick c a b => c.slots ++ (a.slots ++ b.slots)
  | .bslice _ _ _ ps | .blit _ _ ps | .build _ ps => ps.flatMap fun p => p.2.2.slots
  | .store _ a x | .bin _ a x | .eqb _ a x | .eqs _ _ a x | .idx _ a x | .idxp _ _ a x | .idxv _ _ _ a x | .idxs a x | .lkp _ _ _ a x | .app _ _ a x | .del _ a x | .mkslice _ _ _ a x => a.slots ++ x.slots
  | .mkfn _ fs cs => fs.flatMap Opd.slots ++ cs.flatMap Opd.slots
  | .slice _ x lo hi mx => x.slots ++ (optSlots lo ++ (optSlots hi ++ optSlots mx))
  | .slstr x lo hi => x.slots ++ (optSlots lo ++ optSlots hi)
  | .upd _ m k v => m.slots ++ (k.slots ++ v.slots)
  | .call _ as | .minmax _ as => as.flatMap Opd.slots
  | .callv f as => f.slots ++ as.flatMap Opd.slots
  | .callp _ f as => f.slots ++ as.flatMap Opd.slots

def COper.reads (o : COper) : List Nat := o.op.slots ++ (match o.guard with | some (t, _) => [t] | none => [])

def notIn (d : Option Nat) (l : List Nat) : Bool := match d with | some d => !l.contains d | none => true

/-- A load, and a write of another block. -/
def sepPair : COp → COp → Bool
  | .load _ _ (.t n), .storeS ts _ _ _ => ts.contains n
  | .load _ _ (.t n), .appS ts _ _ _ _ => ts.contains n
  | .load g m (.t n), .callS ls _ _ => ls.contains (g, m, n)
  | _, _ => false
/-- The number of a block that was set aside. -/
def resK : COp → Option Nat
  | .mksliceR k _ _ _ _ _ => some k
  | _ => none
def resPair (x y : COp) : Bool := match resK x, resK y with
  | some k, some k' => k != k'
  | _, _ => false

/-- Two operations whose order does not matter: neither sees the other's result, and what they do to the heap may be turned round. -/
def apartC (pu : Nat → Bool) (x y : COper) : Bool :=
  notIn x.dst y.reads && notIn y.dst x.reads && (match x.dst, y.dst with | some d, some e => d != e | _, _ => true) && (okPair (cls pu x.op) (cls pu y.op) || sepPair x.op y.op || resPair x.op y.op)

/-- An operation with a check; without it; what it looks at besides the check. -/
def weakOf : COp → Option COp
  | .callS _ f as => some (.call f as)
  | .appS _ z b x y => some (.app z b x y)
  | .storeS _ n a x => some (.store n a x)
  | _ => none
def COper.args (o : COper) : List Nat := (match weakOf o.op with | some w => w.slots | none => o.op.slots) ++ (match o.guard with | some (t, _) => [t] | none => [])

/-- An operation with a check, and what is ahead of it without having to be: it looks at no result of that and does not touch it, and where that is a load, it is checked to leave alone what is loaded. -/
def callPair (pu : Nat → Bool) (cops : List COper) (j i : Nat) (x y : COper) : Bool :=
  if (weakOf y.op).isSome then notIn x.dst y.args && notIn y.dst x.reads && (match x.dst, y.dst with | some d, some e => d != e | _, _ => true) &&
      (cls pu x.op == 0 || (match x.op with
        | .load g n (.t t) => sepPair (.load g n (.t t)) y.op && (List.range' j (i - j)).all fun m => match cops[m]? with | some z => z.dst != some t | none => true
        | _ => false))
  else apartC pu x y

def edges (o : Oper) : List Nat := (o.after.toList.filter (Region.binds .any)).map (·.on)

def befs : List (List Nat) → List (List Nat) → List (List Nat)
  | acc, [] => acc
  | acc, es :: r => befs (acc ++ [(es ++ es.flatMap fun e => acc.getD e []).eraseDups]) r

/-- Of each two operations the later one waits for the earlier one, or their order does not matter. -/
def drawOk (pu : Nat → Bool) (ops : List Oper) (cops : List COper) : Bool :=
  let B := befs [] (ops.map edges)
  (List.range cops.length).all fun i => ((ops.map edges).getD i []).all (fun e => decide (e < i)) && (List.range i).all fun j =>
    (B.getD i []).contains j || (match cops[j]?, cops[i]? with | some x, some y => callPair pu cops j i x y | _, _ => false)

def compGuard (ops : Array Oper) (g : Option (Nat × Bool)) : Option (Option (Nat × Bool)) :=
  match g with
  | none => some none
  | some (j, want) => match (ops[j]?).bind (·.dst) with
    | some d => some (some (d, want))
    | none => none

def slotsOk (nt : Nat) (d : Option Nat) (g : Option (Nat × Bool)) : Bool :=
  (match d with | some d => decide (d < nt) | none => true) && (match g with | some (t, _) => decide (t < nt) | none => true)

def compOpers (P : Program) (ow : Nat → Nat) (nt : Nat) (all : Array Oper) : List Oper → Option (List COper)
  | [] => some []
  | o :: r => match compGuard all o.guard, compOpers P ow nt all r with
    | some g, some rest =>
      if slotsOk nt o.dst g then some (⟨o.dst, (compOp P (match o.dst with | some d => ow d | none => 0) o.op).getD .bad, g⟩ :: rest) else none
    | _, _ => none

def sepOp (pu : Nat → Bool) (ls : List (Bool × Nat × Nat)) : COp → COp
  | .store n a x => .storeS (ls.map fun l => l.2.2) n a x
  | .app z b x y => .appS (ls.map fun l => l.2.2) z b x y
  | .call f as => if cls pu (.call f as) == 3 && !ls.isEmpty then .callS ls f as else .call f as
  | o => o
/-- The loads ahead that need not be ahead. -/
def sepTs (B : List (List Nat)) (cops : List COper) (i : Nat) : List (Bool × Nat × Nat) := (List.range i).filterMap fun j =>
  if (B.getD i []).contains j then none else match cops[j]? with
    | some o => match o.op with
      | .load g m (.t n) => some (g, m, n)
      | _ => none
    | none => none
def sepFrom (pu : Nat → Bool) (B : List (List Nat)) (all : List COper) : Nat → List COper → List COper
  | _, [] => []
  | i, o :: r => { o with op := sepOp pu (sepTs B all i) o.op } :: sepFrom pu B all (i + 1) r
def sepCops (pu : Nat → Bool) (ops : List Oper) (cops : List COper) : List COper := sepFrom pu (befs [] (ops.map edges)) cops 0 cops
/-- Loads that are claimed to be of what never changes. -/
def loadiOp : COp → COp
  | .load g n a => .loadi g n a
  | o => o
def loadiCops (cops : List COper) : List COper := cops.map fun o => { o with op := loadiOp o.op }
/-- Slices that are made in an order that is drawn: their blocks are set aside ahead. -/
def resCops : Nat → List COper → List COper
  | _, [] => []
  | k, o :: r => match o.op with
    | .mkslice z b zs l c => { o with op := .mksliceR k z b zs l c } :: resCops (k + 1) r
    | .load g n a => { o with op := .loadi g n a } :: resCops k r
    | _ => o :: resCops k r
def resSafe (pu : Nat → Bool) (m : Nat) (cops : List COper) : Bool :=
  (cops.all fun o => match resK o.op with
    | some k => decide (k < m)
    | none => cls pu o.op == 0 || cls pu o.op == 1) && decide ((cops.filterMap fun o => resK o.op).Nodup)

/-- An alloc whose place is free: it is made at its first store, the region's last operation. -/
def isAlloc : COp → Bool
  | .alloc _ => true
  | _ => false
def isTmp (t : Nat) : Operand → Bool
  | .tmp u => u == t
  | _ => false
def isSel : Op → Bool
  | .select _ _ => true
  | _ => false
def lateFit (ops : List Oper) (cops : List COper) (ia is t n : Nat) : Bool :=
  (match cops[ia]? with | some ⟨d, .alloc zs, g⟩ => d == some t && g.isNone && zs.length == n | _ => false) &&
  ((match ops[is]? with | some o => (edges o).contains ia && o.guard.isNone && o.dst.isNone | none => false) &&
  (List.range ops.length).all fun j => match ops[j]? with
    | some o => o.guard.isNone && (j == is || j == ia || (o.dst != some t && !o.op.operands.any (isTmp t) && !isSel o.op))
    | none => true)
/-- The slot through which the last operation stores. -/
def lastTo (cops : List COper) : Option Nat := match cops.getLast? with
  | some ⟨none, .store _ (.t t) _, none⟩ => some t
  | _ => none
def lateCops (ops : List Oper) (cops : List COper) : List COper :=
  match cops.findIdx? (fun o => isAlloc o.op && o.dst == lastTo cops), cops.getLast? with
  | some ia, some ⟨none, .store n (.t t) x, none⟩ =>
    if ia != cops.length - 1 && (lateFit ops cops ia (cops.length - 1) t n && !x.slots.contains t) then (cops.set ia ⟨some t, .mov (.c .undef), none⟩).set (cops.length - 1) ⟨some t, .boxN n x, none⟩ else []
  | _, _ => []

def compCode (P : Program) (pu : Nat → Bool) (ow : Nat → Nat) (nt : Nat) : Code → CCode
  | .skip => .skip
  | .label _ => .skip
  | .region _ ops draw => match compOpers P ow nt ops ops.toList with
    | some cops => if !draw || (drawOk pu ops.toList cops && P.follows .mixedOrders) then .reg cops
      else if drawOk pu ops.toList (sepCops pu ops.toList cops) && P.follows .mixedOrders then .reg (sepCops pu ops.toList cops)
      else if drawOk pu ops.toList (loadiCops cops) && P.follows .mixedOrders then .reg (loadiCops cops)
      else if (resSafe pu cops.length (resCops 0 cops) && drawOk pu ops.toList (resCops 0 cops)) && P.follows .mixedOrders then .seq (.reg [⟨none, .resv cops.length, none⟩]) (.reg (resCops 0 cops))
      else if (decide ((lateCops ops.toList cops).length = cops.length) && drawOk pu ops.toList (lateCops ops.toList cops)) && P.follows .mixedOrders then .reg (lateCops ops.toList cops)
      else if (decide ((lateCops ops.toList cops).length = cops.length) && drawOk pu ops.toList (sepCops pu ops.toList (lateCops ops.toList cops))) && P.follows .mixedOrders then .reg (sepCops pu ops.toList (lateCops ops.toList cops))
      else .bad
    | none => .bad
  | .seq a b => .seq (compCode P pu ow nt a) (compCode P pu ow nt b)
  | .cond c a b => match opd c with
    | some c => .cond c (compCode P pu ow nt a) (compCode P pu ow nt b)
    | none => .bad
  | .scope c => compCode P pu ow nt c
  | .block id c => .block id (compCode P pu ow nt c)
  | .loop c => .loop (compCode P pu ow nt c)
  | .exit id => .exit id
  | .ret => .ret
  | .rangeFunc g ps a b => match opd g with
    | some x => if ps.toList.all (fun p => decide (p < nt)) then .rangef x ps.toList (compCode P pu ow nt a) (compCode P pu ow nt b) else .bad
    | none => .bad
  | _ => .bad

def resTmps (P : Program) : List ResultVar → Option (List CRes)
  | [] => some []
  | .tmp t :: r => (resTmps P r).map (.t t :: ·)
  | .cell a t :: r => match isAggT P t, szT P t, resTmps P r with
    | some g, some n, some rest => some (.cell g n a :: rest)
    | _, _, _ => none

def compFn (P : Program) (pu : Nat → Bool) (ow : Nat → Nat → Nat) (f : Nat) : Option CFun :=
  match P.funcs[rl f]? with
  | some fn => match fn.body, resTmps P fn.results.toList with
    | some c, some r => if fn.name == "runtime.NumGoroutine" then none else some ⟨pu f, pu (f + exb), compCode P pu (ow f) fn.ntmps c, r⟩
    | _, _ => none
  | none => none

end Go.Ev

/- Each operation of the abstract machine stands for the machine's own: the ones that only read. -/
set_option linter.unusedVariables false
set_option linter.unusedSimpArgs false
namespace Go.Ev
variable [LoopSpec]

/-- A frame's deferred calls: the marks of its ranges over functions, ahead of what was there. -/
def DfR (B : Nat × List Deferred × Bool) (I : Nat → Prop) (w : World) (l : List Deferred) : Prop :=
  ∃ Ds : List Nat, l = Ds.map (fun D => { target := .collected D, args := #[] }) ++ B.2.1 ∧ Ds.Nodup ∧ B.1 ≤ w.heap.size ∧ (B.2.2 = true → Ds = []) ∧ ∀ D ∈ Ds, B.1 ≤ D ∧ ¬ I D ∧ w.heap[D]? = some (.deferred (some []))

/-- How the slots stand for each other. -/
structure FR (B : Nat × List Deferred × Bool) (ρ : Nat → Option (Nat × Nat)) (I : Nat → Prop) (w : World) (nt : Nat) (a : Act) (s : Fr) : Prop where
  size : nt ≤ a.tmps.size
  defers : DfR B I w a.defers
  slot : ∀ t, VR ρ I w (a.tmps.getD t undef) (s t)

/-- What a run of an operation comes to. -/
def Out (ρ : Nat → Option (Nat × Nat)) (I : Nat → Prop) (h : AH) (w : World) (v : PV) (h' : AH) (r : Result Next) : Prop :=
  ∃ u w' ρ' I', (r = .ok (.value u) w' ∨ (r = .ok .skip w' ∧ u = undef)) ∧ St ρ I h w ρ' I' h' w' ∧ SR ρ' I' h' w' ∧ VR ρ' I' w' u v

section
variable {P : Program} {ρ : Nat → Option (Nat × Nat)} {I : Nat → Prop} {h : AH} {w : World} {nt : Nat} {Bo : Nat × List Deferred × Bool} {a : Act} {s : Fr} {u u' : Value} {v : PV}

omit [LoopSpec] in
theorem DfR.step {B : Nat × List Deferred × Bool} {I I' : Nat → Prop} {w w' : World} {l : List Deferred} (hd : DfR B I w l) (hsz : w.heap.size ≤ w'.heap.size) (him : ∀ b, I' b → I b ∨ w.heap.size ≤ b) (ho : ∀ b, Oth w w' b) : DfR B I' w' l := by
  obtain ⟨Ds, e1, e2, e3, e5, e4⟩ := hd
  refine ⟨Ds, e1, e2, Nat.le_trans e3 hsz, e5, fun D hD => ?_⟩
  obtain ⟨k1, k2, k3⟩ := e4 D hD
  refine ⟨k1, fun q => ?_, (ho D).2 _ k3⟩
  rcases him D q with q | q
  · exact k2 q
  · rw [Array.getElem?_eq_none q] at k3; cases k3

theorem FR.step {ρ' : Nat → Option (Nat × Nat)} {I' : Nat → Prop} {h' : AH} {w' : World} (hf : FR Bo ρ I w nt a s) (hs : SR ρ I h w) (st : St ρ I h w ρ' I' h' w') : FR Bo ρ' I' w' nt a s :=
  ⟨hf.size, hf.defers.step st.size st.immNew st.oth, fun t => (hf.slot t).step hs st⟩

omit [LoopSpec] in
theorem VR.undef : VR ρ I w undef .undef := .tup rfl fun j hj => absurd hj (Nat.not_lt_zero _)

omit [LoopSpec] in
theorem FR.put {d : Option Nat} (hf : FR Bo ρ I w nt a s) (hd : ∀ t, d = some t → t < nt) (hv : VR ρ I w u v) : FR Bo ρ I w nt (a.put d u) (Fr.put s d v) := by
  cases d with
  | none => exact hf
  | some t =>
    refine ⟨by simp [Act.put]; exact hf.size, hf.defers, fun x => ?_⟩
    have hlt : t < a.tmps.size := Nat.lt_of_lt_of_le (hd t rfl) hf.size
    by_cases hx : x = t
    · subst hx
      have : ((a.put (some x) u).tmps.getD x Go.undef) = u := by simp [Act.put, Array.getD, hlt]
      rw [this]
      simpa [Fr.put] using hv
    · have : ((a.put (some t) u).tmps.getD x Go.undef) = a.tmps.getD x Go.undef := by
        simp only [Act.put, Array.getD_eq_getD_getElem?]
        rw [Array.getElem?_setIfInBounds_ne (fun e => hx e.symm)]
      rw [this]
      simp only [Fr.put, if_neg hx]
      exact hf.slot x

omit [LoopSpec] in
theorem cstCell_vr {x : PV} (e : cstCell u = some x) : VR ρ I w u x := by
  unfold cstCell at e
  split at e <;> first | (cases e; constructor) | cases e

omit [LoopSpec] in
theorem cstCells_vr : ∀ (us : List Value) (xs : List PV), cstCells us = some xs → us.length = xs.length ∧ ∀ j (hj : j < xs.length), VR ρ I w (us.getD j undef) xs[j]
  | [], xs, e => by cases e; exact ⟨rfl, fun j hj => absurd hj (Nat.not_lt_zero _)⟩
  | u :: us, xs, e => by
    simp only [cstCells] at e
    split at e
    · rename_i x xs' e1 e2
      cases e
      obtain ⟨h1, h2⟩ := cstCells_vr us xs' e2
      refine ⟨by simp [h1], fun j hj => ?_⟩
      cases j with
      | zero => exact cstCell_vr e1
      | succ j => exact h2 j (by simpa using hj)
    · cases e

omit [LoopSpec] in
theorem cstCells_one : ∀ (us : List Value) (xs : List PV), cstCells us = some xs → ∀ x ∈ xs, x.one = true
  | [], xs, e => by cases e; intro x hx; cases hx
  | u :: us, xs, e => by
    simp only [cstCells] at e
    split at e
    · rename_i y xs' e1 e2
      cases e
      intro x hx
      cases hx with
      | head =>
        unfold cstCell at e1
        split at e1 <;> first | (cases e1; rfl) | cases e1
      | tail _ hm => exact cstCells_one us xs' e2 x hm
    · cases e

omit [LoopSpec] in
theorem cst_vr {x : PV} (e : cst u = some x) : VR ρ I w u x := by
  unfold cst at e
  split at e
  · rename_i cs
    cases h1 : cstCells cs.toList with
    | none => simp [h1] at e
    | some xs =>
      simp [h1] at e
      subst e
      obtain ⟨g1, g2⟩ := cstCells_vr (ρ := ρ) (I := I) (w := w) _ _ h1
      exact .agg (by simpa using g1) (fun j hj => by have := g2 j hj; simpa [Array.getD_eq_getD_getElem?] using this) (cstCells_one _ _ h1)
  · rename_i cs
    cases h1 : cstCells cs.toList with
    | none => simp [h1] at e
    | some xs =>
      simp [h1] at e
      subst e
      obtain ⟨g1, g2⟩ := cstCells_vr (ρ := ρ) (I := I) (w := w) _ _ h1
      exact .tup (by simpa using g1) fun j hj => by have := g2 j hj; simpa [Array.getD_eq_getD_getElem?] using this
  · exact cstCell_vr e

omit [LoopSpec] in
theorem opd_vr {x : Operand} {X : Opd} (e : opd x = some X) (hf : FR Bo ρ I w nt a s) : VR ρ I w (a.eval x) (X.val s) := by
  cases x with
  | tmp t => simp only [opd] at e; cases e; exact hf.slot t
  | const c =>
    simp only [opd] at e
    cases h1 : cst c with
    | none => simp [h1] at e
    | some y => simp [h1] at e; subst e; exact cst_vr h1
  | global g => simp [opd] at e
  | func f =>
    simp only [opd] at e
    cases e
    exact .fn rfl rfl (fun j hj => absurd hj (Nat.not_lt_zero _)) (fun j hj => absurd hj (Nat.not_lt_zero _))

omit [LoopSpec] in
theorem opds_vr : ∀ (xs : List Operand) (Xs : List Opd), opds xs = some Xs → FR Bo ρ I w nt a s → VRL ρ I w (xs.map a.eval).toArray (Xs.map (Opd.val s))
  | [], Xs, e, hf => by cases e; exact ⟨rfl, fun j hj => absurd hj (Nat.not_lt_zero _)⟩
  | x :: xs, Xs, e, hf => by
    simp only [opds] at e
    split at e
    · rename_i X Xs' e1 e2
      cases e
      obtain ⟨h1, h2⟩ := opds_vr xs Xs' e2 hf
      refine ⟨by simpa using h1, fun j hj => ?_⟩
      cases j with
      | zero => exact opd_vr e1 hf
      | succ j => have := h2 j (by simpa using hj); simpa [Array.getD_eq_getD_getElem?] using this
    · cases e

/-- A run that leaves the world alone. -/
theorem Out.same {r : Result Next} (hr : r = .ok (.value u) w) (hs : SR ρ I h w) (hv : VR ρ I w u v) : Out ρ I h w v h r :=
  ⟨u, w, ρ, I, .inl hr, .refl, hs, hv⟩

omit [LoopSpec] in
theorem run_v (x : Sem Value) (hx : x.run P w = .ok u w) : (do pure (Next.value (← x)) : Sem Next).run P w = .ok (.value u) w := by
  simp [hx]

/- The readings of types. -/
omit [LoopSpec] in
theorem run_typeInfo {t : TypeId} {i : TypeInfo} (e : P.info? t = some i) : (typeInfo t).run P w = .ok i w := by simp [typeInfo, e]
omit [LoopSpec] in
theorem run_sizeOf {t : TypeId} {n : Nat} (e : szT P t = some n) : (sizeOf t).run P w = .ok n w := by
  simp only [szT, Option.map_eq_some_iff] at e
  obtain ⟨i, hi, rfl⟩ := e
  simp [sizeOf, run_typeInfo hi]
omit [LoopSpec] in
theorem run_zeroValue {t : TypeId} {z : Value} (e : zeroT P t = some z) : (zeroValue t).run P w = .ok z w := by
  simp only [zeroT, Option.bind_eq_some_iff] at e
  obtain ⟨i, hi, hz⟩ := e
  simp [zeroValue, run_typeInfo hi, hz]
omit [LoopSpec] in
theorem run_isAgg {t : TypeId} {g : Bool} (e : isAggT P t = some g) : (isAgg t).run P w = .ok g w := by
  unfold isAggT at e
  split at e
  · rename_i fs hu; cases e; simp [isAgg, run_underlying hu]
  · rename_i n t' hu; cases e; simp [isAgg, run_underlying hu]
  · rename_i d h1 h2 hu
    cases e
    simp only [isAgg, Sem.run_bind, run_underlying hu, Result.andThen_ok]
    cases d <;> first | rfl | (exact absurd hu (h1 _)) | (exact absurd hu (h2 _ _)) | (exact absurd rfl (h1 _)) | (exact absurd rfl (h2 _ _))
  · cases e

/-- The cells behind a pointer. -/
theorem ptr_cells {p : PV} {n : Nat} {ds : List PV} (hs : SR ρ I h w) (hv : VR ρ I w u p) (e : rds h p n = some ds) :
    ∃ (b o : Nat) (us : Nat → Value), u = .pointer (some ⟨b, o, none⟩) ∧ ds.length = n ∧ (∀ j, j < n → w.cell? ⟨b, o + j, none⟩ = some (us j)) ∧ (∀ j (hj : j < ds.length), VR ρ I w (us j) ds[j]) ∧ ∀ x ∈ ds, x.one = true := by
  cases p with
  | pi cs =>
    simp only [rds] at e
    split at e
    · rename_i hn
      cases e
      cases hv with
      | pi us hI hA hv ho =>
        rename_i b o
        refine ⟨b, o, us, rfl, by simp [hn], fun j hj => hA j (by omega), fun j hj => ?_, fun x hx => ho x (List.mem_of_mem_take hx)⟩
        rw [List.getElem_take]
        exact hv j _
    · cases e
  | pt i o =>
    simp only [rds, AH.row] at e
    cases hb : h.blk i with
    | none => simp [hb] at e
    | some B =>
      cases B with
      | map es => simp [hb] at e
      | loop st => simp [hb] at e
      | cells cs =>
        simp only [hb] at e
        split at e
        · rename_i hn
          cases e
          cases hv with
          | pt hρ =>
            rename_i b o'
            obtain ⟨b2, o2, g, hB⟩ := hs.live i _ hb
            rw [hρ] at g
            cases g
            obtain ⟨C, T, g1, g2, g3⟩ := hB
            refine ⟨b, o' + o, fun j => C.getD (o' + (o + j)) undef, rfl, by simp; omega, fun j hj => ?_, fun j hj => ?_, fun x hx => g3.2 x (List.mem_of_mem_drop (List.mem_of_mem_take hx))⟩
            · simp only [World.cell?, g1]
              simp [Array.getD, Nat.add_assoc, show o' + (o + j) < C.size by omega]
            · have hj' : j < n := by simp at hj; omega
              have := g3.1 (o + j) (by omega)
              simpa [List.getElem_take, List.getElem_drop] using this
        · cases e
  | _ => simp [rds] at e

theorem ptr_cell {p d : PV} (hs : SR ρ I h w) (hv : VR ρ I w u p) (e : rd1 h p = some d) :
    ∃ (b o : Nat) (x : Value), u = .pointer (some ⟨b, o, none⟩) ∧ w.cell? ⟨b, o, none⟩ = some x ∧ VR ρ I w x d := by
  have e' : rds h p 1 = some [d] := by
    cases p with
    | pi cs =>
      cases cs with
      | nil => simp [rd1] at e
      | cons c cs => simp [rd1] at e; subst e; simp [rds]
    | pt i o =>
      simp only [rd1, rds] at e ⊢
      cases hr : h.row i with
      | none => simp [hr] at e
      | some cs =>
        simp only [hr] at e ⊢
        have hlt : o < cs.length := by
          rcases Nat.lt_or_ge o cs.length with q | q
          · exact q
          · rw [List.getElem?_eq_none q] at e; cases e
        rw [if_pos (by omega)]
        rw [List.getElem?_eq_getElem hlt] at e
        cases e
        have := List.drop_eq_getElem_cons hlt
        rw [this]
        rfl
    | _ => simp [rd1] at e
  obtain ⟨b, o, us, rfl, _, h1, h2, _⟩ := ptr_cells hs hv e'
  exact ⟨b, o, us 0, rfl, h1 0 (by omega), h2 0 (by simp)⟩

omit [LoopSpec] in
theorem agg_mk {us : Nat → Value} {ds : List PV} {n : Nat} (hn : ds.length = n) (hv : ∀ j (hj : j < ds.length), VR ρ I w (us j) ds[j]) (ho : ∀ x ∈ ds, x.one = true) :
    VR ρ I w (.agg ((List.range n).map us).toArray) (.agg ds) :=
  .agg (by simp [hn]) (fun j hj => by
    have hj' : j < n := by omega
    have : (((List.range n).map us).toArray.getD j undef) = us j := by simp [Array.getD, hj']
    rw [this]
    exact hv j hj) ho

omit [LoopSpec] in
theorem run_loadAgg {t : TypeId} {n b o : Nat} {us : Nat → Value} (hg : isAggT P t = some true) (hz : szT P t = some n) (hc : ∀ j, j < n → w.cell? ⟨b, o + j, none⟩ = some (us j)) :
    (loadVar t ⟨b, o, none⟩).run P w = .ok (.agg ((List.range n).map us).toArray) w := by
  have h1 := run_loadCells (P := P) w ⟨b, o, none⟩ n us (fun j hj => by rw [Addr.add_mid]; exact hc j hj)
  simp [loadVar, run_isAgg hg, run_sizeOf hz, h1]

omit [LoopSpec] in
theorem run_loadOne {t : TypeId} {b o : Nat} {x : Value} (hg : isAggT P t = some false) (hc : w.cell? ⟨b, o, none⟩ = some x) : (loadVar t ⟨b, o, none⟩).run P w = .ok x w := by
  simp [loadVar, run_isAgg hg, hc]

theorem load_ok {t : TypeId} {g : Bool} {n : Nat} {p : PV} (hg : isAggT P t = some g) (hz : szT P t = some n) (hs : SR ρ I h w) (hv : VR ρ I w u p)
    (e : (if g then (rds h p n).map .agg else rd1 h p) = some v) : ∃ x, (Instr.loadAt t u).run P w = .ok x w ∧ VR ρ I w x v := by
  cases g with
  | true =>
    simp only [if_true, Option.map_eq_some_iff] at e
    obtain ⟨ds, e1, rfl⟩ := e
    obtain ⟨b, o, us, rfl, h0, h1, h2, h3⟩ := ptr_cells hs hv e1
    exact ⟨_, by simp [Instr.loadAt, Instr.sureAddr, run_loadAgg hg hz h1], agg_mk h0 h2 h3⟩
  | false =>
    simp only [Bool.false_eq_true, if_false] at e
    obtain ⟨b, o, x, rfl, h1, h2⟩ := ptr_cell hs hv e
    exact ⟨x, by simp [Instr.loadAt, Instr.sureAddr, run_loadOne hg h1], h2⟩

omit [LoopSpec] in
theorem bytes_eq (x y : ByteArray) : (x.toList == y.toList) = decide (x = y) := by
  rw [Bool.eq_iff_iff]
  simp only [beq_iff_eq, decide_eq_true_eq]
  constructor
  · intro e
    rw [ByteArray.toList_eq, ByteArray.toList_eq] at e
    cases x; cases y
    have e' := congrArg List.toArray e
    simpa using e'
  · rintro rfl; rfl

end
end Go.Ev

/- Each operation of the abstract machine stands for the machine's own: arithmetic, comparisons, addresses, slices of slices. -/
set_option linter.unusedVariables false
set_option linter.unusedSimpArgs false
namespace Go.Ev
variable [LoopSpec]
section
variable {P : Program} {ρ : Nat → Option (Nat × Nat)} {I : Nat → Prop} {h : AH} {w : World} {nt : Nat} {Bo : Nat × List Deferred × Bool} {a : Act} {s : Fr} {u u' : Value} {v X Y : PV}

omit [LoopSpec] in
theorem VR.int_inv {k : IntKind} {n : Int} (hv : VR ρ I w u (.int k n)) : u = .int k n := by cases hv; rfl
omit [LoopSpec] in
theorem VR.str_inv {b : ByteArray} (hv : VR ρ I w u (.str b)) : u = .string b := by cases hv; rfl
omit [LoopSpec] in
theorem VR.bool_inv {b : Bool} (hv : VR ρ I w u (.bool b)) : u = .bool b := by cases hv; rfl

omit [LoopSpec] in
theorem guard_int {op : BinOp} {t : TypeId} {x y : Operand} {k k' : IntKind} {m n : Int} : (eqGuard op t x y (.int k m) (.int k' n)).run P w = .ok () w := by
  simp [eqGuard]
omit [LoopSpec] in
theorem guard_str {op : BinOp} {t : TypeId} {x y : Operand} {m n : ByteArray} : (eqGuard op t x y (.string m) (.string n)).run P w = .ok () w := by
  simp [eqGuard]
omit [LoopSpec] in
theorem guard_bool {op : BinOp} {t : TypeId} {x y : Operand} {m n : Bool} : (eqGuard op t x y (.bool m) (.bool n)).run P w = .ok () w := by
  simp [eqGuard]

def conc : PV → Value
  | .bool b => .bool b
  | .int k n => .int k n
  | .str s => .string s
  | _ => undef

omit [LoopSpec] in
theorem bin_ok {op : BinOp} {t : TypeId} {x y : Operand} (e : evBin op X Y = some v) (hx : VR ρ I w u X) (hy : VR ρ I w u' Y) :
    (do eqGuard op t x y u u'; binOp op t u u' : Sem Value).run P w = .ok (conc v) w ∧ VR ρ I w (conc v) v := by
  unfold evBin at e
  split at e
  · rename_i k m k' n
    rw [hx.int_inv, hy.int_inv]
    split at e
    · cases e
    · rename_i hn
      cases e
      exact ⟨by simp [conc, guard_int, binOp, Op.shift, hn], .int _ _⟩
  · rename_i k m k' n
    rw [hx.int_inv, hy.int_inv]
    split at e
    · cases e
    · rename_i hn
      cases e
      exact ⟨by simp [conc, guard_int, binOp, Op.shift, hn], .int _ _⟩
  · rename_i op' k m k' n h1 h2
    rw [hx.int_inv, hy.int_inv]
    split at e
    · cases e
    · rename_i hk
      have hk' : k = k' := by simpa using hk
      subst hk'
      cases op <;> simp only [reduceCtorEq] at e <;> first
        | (exact absurd rfl (h1 rfl))
        | (exact absurd rfl (h2 rfl))
        | (exact (h1 rfl).elim)
        | (exact (h2 rfl).elim)
        | (cases e; exact ⟨by simp [conc, guard_int, binOp, Op.intArith, Op.intCmp, Op.intBits], by constructor⟩)
        | (split at e <;> first | (cases e; done) | (rename_i hn; cases e; exact ⟨by simp [conc, guard_int, binOp, Op.intDiv, hn], by constructor⟩))
        | (cases e; done)
  all_goals first
    | (rename_i b c
       rw [hx.str_inv, hy.str_inv]
       first
         | (cases e; exact ⟨by simp [conc, guard_str, binOp, Op.stringOp, bytes_eq], by constructor⟩)
         | (split at e <;> first | (cases e; done) | (rename_i hn; cases e; exact ⟨by simp only [Sem.run_bind, guard_str, Result.andThen_ok, binOp, Op.stringOp, if_neg hn]; rfl, by constructor⟩)))
    | (cases e; done)

omit [LoopSpec] in
theorem eqb_ok {op : BinOp} {t : TypeId} {x y : Operand} {b c : Bool} (hop : op = .eql ∨ op = .neq) (ht : P.underlying t = some .bool) (hx : VR ρ I w u (.bool b)) (hy : VR ρ I w u' (.bool c)) :
    ∃ r, (do eqGuard op t x y u u'; binOp op t u u' : Sem Value).run P w = .ok r w ∧ VR ρ I w r (.bool ((b == c) != (op == .neq))) := by
  rw [hx.bool_inv, hy.bool_inv]
  have h1 : (Op.equal t (.bool b) (.bool c)).run P w = .ok (b == c) w := run_equalIn_bool' (P := P) w 9999 t b c ht
  rcases hop with rfl | rfl
  · refine ⟨.bool (b == c), by simp [guard_bool, binOp, h1], ?_⟩
    have : ((b == c) != (BinOp.eql == BinOp.neq)) = (b == c) := by cases b <;> cases c <;> rfl
    rw [this]; exact .bool _
  · refine ⟨.bool (!(b == c)), by simp [guard_bool, binOp, h1], ?_⟩
    have : ((b == c) != (BinOp.neq == BinOp.neq)) = !(b == c) := by cases b <;> cases c <;> rfl
    rw [this]; exact .bool _

omit [LoopSpec] in
theorem part_cell {t : TypeId} {cs : Array Value} {i : Nat} {x : Value} (hg : isAggT P t = some false) (hx : cs[i]? = some x) : (part t cs i).run P w = .ok x w := by
  simp [part, run_isAgg hg, hx]

omit [LoopSpec] in
theorem isBasic_agg {t : TypeId} (hb : isBasic P t = true) : isAggT P t = some false := by
  unfold isBasic at hb
  unfold isAggT
  split at hb <;> simp_all

omit [LoopSpec] in
theorem cellEq_ok {t : TypeId} {d : Nat} {r : Bool} (hb : isBasic P t = true) (hx : VR ρ I w u X) (hy : VR ρ I w u' Y) (e : cellEq X Y = some r) (hk : kindOk (kindT P t) X = true) :
    (Op.equalIn (d + 1) t u u').run P w = .ok r w := by
  have hd : (∃ k, P.underlying t = some (.int k)) ∨ P.underlying t = some .bool ∨ P.underlying t = some .string := by
    unfold isBasic at hb
    split at hb
    · rename_i k hu; exact .inl ⟨k, hu⟩
    · rename_i hu; exact .inr (.inr hu)
    · rename_i hu; exact .inr (.inl hu)
    · cases hb
  unfold cellEq at e
  split at e
  · rw [hx.int_inv, hy.int_inv]
    split at e
    · rename_i hk'
      subst hk'
      cases e
      rcases hd with ⟨k, hu⟩ | hu | hu
      · exact run_equalIn_int (P := P) w d t _ k _ _ hu
      · simp [kindT, hu, kindOk] at hk
      · simp [kindT, hu, kindOk] at hk
    · cases e
  · rw [hx.bool_inv, hy.bool_inv]
    cases e
    rcases hd with ⟨k, hu⟩ | hu | hu
    · simp [kindT, hu, kindOk] at hk
    · exact run_equalIn_bool' (P := P) w d t _ _ hu
    · simp [kindT, hu, kindOk] at hk
  · rw [hx.str_inv, hy.str_inv]
    cases e
    rcases hd with ⟨k, hu⟩ | hu | hu
    · simp [kindT, hu, kindOk] at hk
    · simp [kindT, hu, kindOk] at hk
    · rw [run_equalIn_string (P := P) w d t _ _ hu, bytes_eq]
  · cases e

omit [LoopSpec] in
theorem eqFields_ok {d : Nat} {xs ys : Array Value} : ∀ (fs : List Field) (i : Nat) (as bs : List PV) (r : Bool), flatFrom P i fs = true → cellsEq (fs.map fun f => kindT P f.type) as bs = some r →
    (∀ j (hj : j < as.length), (i + j) < xs.size ∧ VR ρ I w (xs.getD (i + j) undef) as[j]) → (∀ j (hj : j < bs.length), (i + j) < ys.size ∧ VR ρ I w (ys.getD (i + j) undef) bs[j]) →
    (Op.eqFields (d + 1) xs ys fs).run P w = .ok r w
  | [], i, as, bs, r, _, e, _, _ => by
    cases as <;> cases bs <;> simp [cellsEq] at e
    subst e
    simp [Op.eqFields]
  | f :: fs, i, as, bs, r, hf, e, ha, hb => by
    cases as with
    | nil => simp [cellsEq] at e
    | cons A as =>
      cases bs with
      | nil => simp [cellsEq] at e
      | cons B bs =>
        simp only [flatFrom, Bool.and_eq_true, bne_iff_ne, beq_iff_eq] at hf
        obtain ⟨⟨⟨h1, h2⟩, h3⟩, h4⟩ := hf
        simp only [List.map_cons, cellsEq] at e
        split at e
        · rename_i hk
          split at e
          · rename_i r1 r2 e1 e2
            cases e
            obtain ⟨ax, av⟩ := ha 0 (by simp)
            obtain ⟨bx, bv⟩ := hb 0 (by simp)
            have pa : (part f.type xs f.offset).run P w = .ok (xs.getD i undef) w := part_cell (isBasic_agg h3) (by rw [h2]; simp at ax; simp [Array.getD, ax])
            have pb : (part f.type ys f.offset).run P w = .ok (ys.getD i undef) w := part_cell (isBasic_agg h3) (by rw [h2]; simp at bx; simp [Array.getD, bx])
            have pe : (Op.equalIn (d + 1) f.type (xs.getD i undef) (ys.getD i undef)).run P w = .ok r1 w := cellEq_ok (d := d) h3 (by simpa using av) (by simpa using bv) e1 hk
            have ih := eqFields_ok (d := d) fs (i + 1) as bs r2 h4 e2
              (fun j hj => by have := ha (j + 1) (by simp; omega); simpa [Nat.add_assoc, Nat.add_comm 1 j] using this)
              (fun j hj => by have := hb (j + 1) (by simp; omega); simpa [Nat.add_assoc, Nat.add_comm 1 j] using this)
            rw [Op.eqFields]
            simp only [if_pos h1, Sem.run_bind, pa, pb, pe, Result.andThen_ok]
            cases r1
            · simp
            · simpa using ih
          · cases e
        · cases e

omit [LoopSpec] in
theorem eqs_ok {op : BinOp} {t : TypeId} {x y : Operand} {fs : Array Field} {as bs : List PV} {r : Bool} (hop : op = .eql ∨ op = .neq) (ht : P.underlying t = some (.struct fs)) (hfl : flatT P t fs = true)
    (hx : VR ρ I w u (.agg as)) (hy : VR ρ I w u' (.agg bs)) (e : cellsEq (fs.toList.map fun f => kindT P f.type) as bs = some r) :
    (do eqGuard op t x y u u'; binOp op t u u' : Sem Value).run P w = .ok (.bool (r != (op == .neq))) w := by
  cases hx with
  | agg ha hav _ =>
    cases hy with
    | agg hb hbv _ =>
      rename_i C1 _ C2 _
      simp only [flatT, Bool.and_eq_true, Bool.not_eq_true'] at hfl
      obtain ⟨⟨f1, f2⟩, f3⟩ := hfl
      have hft : P.fieldsOf t = fs := by simp [Program.fieldsOf, ht]
      have h1 : (Op.equalIn 10000 t (.agg C1) (.agg C2)).run P w = .ok r w := by
        rw [run_equalIn_struct (P := P) w 9999 t _ _ (by rw [hft]; exact ht) f2, hft]
        exact eqFields_ok (d := 9998) (ρ := ρ) (I := I) fs.toList 0 as bs r f1 e (fun j hj => ⟨by omega, by simpa using hav j hj⟩) (fun j hj => ⟨by omega, by simpa using hbv j hj⟩)
      rcases hop with rfl | rfl
      · simp [run_eqGuard_agg (P := P) w .eql t x y _ _ f3, run_eql_struct, h1]
        try (cases r <;> rfl)
      · simp [run_eqGuard_agg (P := P) w .neq t x y _ _ f3, run_neq_struct, h1]
        try (cases r <;> rfl)
end
end Go.Ev

/- Each operation of the abstract machine stands for the machine's own: addresses, parts, slices, calls' arguments. -/
set_option linter.unusedVariables false
set_option linter.unusedSimpArgs false
namespace Go.Ev
variable [LoopSpec]
section
variable {P : Program} {ρ : Nat → Option (Nat × Nat)} {I : Nat → Prop} {h : AH} {w : World} {nt : Nat} {Bo : Nat × List Deferred × Bool} {a : Act} {s : Fr} {u u' : Value} {v X Y : PV}

omit [LoopSpec] in
theorem isNil_false (e : isNil X = some false) (hv : VR ρ I w u X) :
    (match u with | .pointer none | .nilIface | .nilFunc | .slice none _ _ | .map none => False | _ => True) ∧ (∀ m first cap, u ≠ .func (.method m) first cap) := by
  unfold isNil at e
  split at e <;> first | cases e | skip
  · cases hv; exact ⟨trivial, fun _ _ _ => by simp⟩
  · cases hv; exact ⟨trivial, fun _ _ _ => by simp⟩
  · cases hv; exact ⟨trivial, fun _ _ _ => by simp⟩
  · cases hv; exact ⟨trivial, fun _ _ _ => by simp⟩
  · cases hv; exact ⟨trivial, fun _ _ _ => by simp⟩
  · cases hv; exact ⟨trivial, fun _ _ _ => by simp⟩
  · cases hv with
    | sl us hn hA hv _ =>
      obtain ⟨b, o, rfl, _⟩ := hA (by simp)
      exact ⟨trivial, fun _ _ _ => by simp⟩
  · cases hv with
    | rf h1 h2 h3 h4 => exact ⟨trivial, fun _ _ _ => by simp⟩

omit [LoopSpec] in
theorem nilchk_ok {o : Oper} {x : Operand} (ho : o.op = .nilCheck x) (e : isNil X = some false) (hv : VR ρ I w (a.eval x) X) : (execOp a.eval o).run P w = .ok (.value (a.eval x)) w := by
  obtain ⟨h1, h2⟩ := isNil_false e hv
  simp only [execOp, ho]
  generalize a.eval x = u at *
  cases u with
  | pointer p => cases p with
    | none => exact h1.elim
    | some p => rfl
  | func f first cap => cases f with
    | method m => exact absurd rfl (h2 m first cap)
    | _ => rfl
  | nilIface => exact h1.elim
  | nilFunc => exact h1.elim
  | _ => rfl

omit [LoopSpec] in
theorem eqn_ptr {d : Nat} {t e : TypeId} (hu : P.underlying t = some (.pointer e)) (A : Option Addr) : (Op.equalIn (d + 1) t (.pointer A) (.pointer none)).run P w = .ok A.isNone w := by
  cases A <;> simp [Op.equalIn, run_underlying hu]
omit [LoopSpec] in
theorem eqn_slice {d : Nat} {t e : TypeId} (hu : P.underlying t = some (.slice e)) (A : Addr) (n c : Nat) : (Op.equalIn (d + 1) t (.slice (some A) n c) (.slice none 0 0)).run P w = .ok false w := by
  simp [Op.equalIn, run_underlying hu]
omit [LoopSpec] in
theorem eqn_map {d : Nat} {t k e : TypeId} (hu : P.underlying t = some (.map k e)) (A : Option Nat) : (Op.equalIn (d + 1) t (.map A) (.map none)).run P w = .ok A.isNone w := by
  cases A <;> simp [Op.equalIn, run_underlying hu]
omit [LoopSpec] in
theorem eqn_func {d : Nat} {t : TypeId} {p q : Array TypeId} {r : Bool} (hu : P.underlying t = some (.func p q r)) (f : Fn) (x y : Array Value) : (Op.equalIn (d + 1) t (.func f x y) .nilFunc).run P w = .ok false w := by
  simp [Op.equalIn, run_underlying hu]
omit [LoopSpec] in
theorem eqn_if {d : Nat} {t : TypeId} {ms : Array (String × TypeId)} (hu : P.underlying t = some (.interface ms)) : (Op.equalIn (d + 1) t .nilIface .nilIface).run P w = .ok true w := by
  simp [Op.equalIn, run_underlying hu]
omit [LoopSpec] in
theorem eqn_if' {d : Nat} {t : TypeId} {ms : Array (String × TypeId)} (hu : P.underlying t = some (.interface ms)) (q : TypeId) (v : Value) : (Op.equalIn (d + 1) t (.iface q v) .nilIface).run P w = .ok false w := by
  simp [Op.equalIn, run_underlying hu]
omit [LoopSpec] in
theorem eqn_func' {d : Nat} {t : TypeId} {p q : Array TypeId} {r : Bool} (hu : P.underlying t = some (.func p q r)) : (Op.equalIn (d + 1) t .nilFunc .nilFunc).run P w = .ok true w := by
  simp [Op.equalIn, run_underlying hu]

omit [LoopSpec] in
theorem isnil_ok {op : BinOp} {t : TypeId} {x y : Operand} {k : Nat} {r : Bool} (hop : op = .eql ∨ op = .neq) (hk : nilKind (P.underlying t) y = some k) (hv : VR ρ I w u X) (e : isNilK k X = some r) :
    (do eqGuard op t x y u (a.eval y); binOp op t u (a.eval y) : Sem Value).run P w = .ok (.bool (r != (op == .neq))) w := by
  have fin : ∀ z : Value, (eqGuard op t x y u z).run P w = .ok () w → (Op.equal t u z).run P w = .ok r w →
      (∀ o : BinOp, o = .eql ∨ o = .neq → (binOp o t u z).run P w = ((Op.equal t u z).run P w).andThen fun b w' => .ok (.bool (if o = .eql then b else !b)) w') →
      (do eqGuard op t x y u z; binOp op t u z : Sem Value).run P w = .ok (.bool (r != (op == .neq))) w := by
    intro z k1 k2 k3
    rcases hop with rfl | rfl
    · simp [k1, k3 .eql (.inl rfl), k2]
      try (cases r <;> rfl)
    · simp [k1, k3 .neq (.inr rfl), k2]
      try (cases r <;> rfl)
  unfold nilKind at hk
  split at hk
  · rename_i d e' hu
    cases hk
    have hu' := hu
    unfold isNilK at e
    cases X <;> simp only [reduceCtorEq, Option.some.injEq] at e <;> subst e <;> cases hv <;>
      exact fin (.pointer none) (by simp [eqGuard]) (eqn_ptr (d := 9999) hu' _) (by rintro o (rfl | rfl) <;> simp [binOp])
  · rename_i d e' hu
    cases hk
    have hu' := hu
    have hA : ∃ ad n c, u = .slice (some ad) n c ∧ r = false := by
      cases X with
      | sl n cs =>
        cases n <;> cases cs <;> simp [isNilK] at e
        subst e
        cases hv with
        | sl us hn hA hv _ =>
          obtain ⟨b, o, rfl, _⟩ := hA (by simp)
          exact ⟨_, _, _, rfl, rfl⟩
      | rf z i o n =>
        cases n <;> simp [isNilK] at e
        subst e
        cases hv with
        | rf h1 h2 h3 h4 => exact ⟨_, _, _, rfl, rfl⟩
      | _ => simp [isNilK] at e
    obtain ⟨ad, n, c, rfl, rfl⟩ := hA
    exact fin (.slice none 0 0) (by simp [eqGuard]) (eqn_slice (d := 9999) hu' _ _ _) (by rintro o (rfl | rfl) <;> simp [binOp])
  · rename_i d e' hu
    cases hk
    have hu' := hu
    unfold isNilK at e
    cases X <;> simp only [reduceCtorEq, Option.some.injEq] at e <;> subst e <;> cases hv <;>
      exact fin (.map none) (by simp [eqGuard]) (eqn_map (d := 9999) hu' _) (by rintro o (rfl | rfl) <;> simp [binOp])
  · rename_i d e' hu
    cases hk
    have hu' := hu
    unfold isNilK at e
    cases X <;> simp only [reduceCtorEq, Option.some.injEq] at e <;> subst e <;> cases hv <;>
      exact fin .nilFunc (by simp [eqGuard]) (by first | exact eqn_func (d := 9999) hu' _ _ _ | exact eqn_func' (d := 9999) hu') (by rintro o (rfl | rfl) <;> simp [binOp])
  · rename_i d hu
    cases hk
    have hu' := hu
    unfold isNilK at e
    cases X <;> simp only [reduceCtorEq, Option.some.injEq] at e <;> subst e <;> cases hv <;>
      exact fin .nilIface (by simp [eqGuard]) (by first | exact eqn_if (d := 9999) hu' | exact eqn_if' (d := 9999) hu' _ _) (by rintro o (rfl | rfl) <;> simp [binOp])
  · cases hk

omit [LoopSpec] in
theorem field_run {t : TypeId} {fs : Array Field} {f : Field} {i n b o : Nat} (hu : P.underlying t = some (.struct fs)) (hf : fs[i]? = some f) (hn : szT P f.type = some n) (h0 : n ≠ 0) :
    (Instr.fieldAt t (.pointer (some ⟨b, o, none⟩)) i).run P w = .ok (.pointer (some ⟨b, o + f.offset, none⟩)) w := by
  simp [Instr.fieldAt, run_underlying hu, hf, Instr.sureAddr, fieldPlace, run_sizeOf hn, h0, Addr.add_mid]

omit [LoopSpec] in
/-- A pointer moved on. -/
theorem ptr_add {p q : PV} {k : Nat} (hv : VR ρ I w u p) (e : evFld k p = some q) :
    ∃ b o, u = .pointer (some ⟨b, o, none⟩) ∧ VR ρ I w (.pointer (some ⟨b, o + k, none⟩)) q := by
  cases p with
  | pt i o =>
    cases e
    cases hv with
    | pt hρ =>
      rename_i b o'
      refine ⟨b, o' + o, rfl, ?_⟩
      rw [Nat.add_assoc]
      exact .pt hρ
  | pi cs =>
    cases e
    cases hv with
    | pi us hI hA hv ho =>
      rename_i b o
      refine ⟨b, o, rfl, .pi (fun j => us (k + j)) hI (fun j hj => ?_) (fun j hj => ?_) (fun x hx => ho x (List.mem_of_mem_drop hx))⟩
      · rw [List.length_drop] at hj
        rw [Nat.add_assoc]
        exact hA (k + j) (by omega)
      · rw [List.getElem_drop]
        exact hv (k + j) _
  | _ => cases e

omit [LoopSpec] in
theorem idx_run {t e : TypeId} {z n c b o : Nat} {k : IntKind} {i : Int} (hu : P.underlying t = some (.slice e)) (hz : szT P e = some z) (h0 : 0 ≤ i) (h1 : i < n) :
    (Instr.indexAt t (.slice (some ⟨b, o, none⟩) n c) (.int k i)).run P w = .ok (.pointer (some ⟨b, o + i.toNat * z, none⟩)) w := by
  simp [Instr.indexAt, asIntOf, run_underlying hu, h0, h1, run_sizeOf hz, Addr.add_mid]

omit [LoopSpec] in
theorem idxp_run {t e : TypeId} {z n b o : Nat} {k : IntKind} {i : Int} (hu : P.underlying t = some (.array n e)) (hz : szT P e = some z) (h0 : 0 ≤ i) (h1 : i < n) :
    (Instr.indexAt t (.pointer (some ⟨b, o, none⟩)) (.int k i)).run P w = .ok (.pointer (some ⟨b, o + i.toNat * z, none⟩)) w := by
  simp [Instr.indexAt, asIntOf, run_underlying hu, h0, h1, run_sizeOf hz, Addr.add_mid, Instr.sureAddr]

omit [LoopSpec] in
theorem part_ok {t : TypeId} {g : Bool} {n off : Nat} {cs : List PV} (hg : isAggT P t = some g) (hn : szT P t = some n) (hv : VR ρ I w u (.agg cs)) (e : partP g cs off n = some v) :
    ∃ C r, u = .agg C ∧ (part t C off).run P w = .ok r w ∧ VR ρ I w r v := by
  cases hv with
  | agg h1 hc ho =>
    rename_i C
    unfold partP at e
    cases g with
    | true =>
      simp only [if_true] at e
      split at e
      · rename_i hle
        cases e
        refine ⟨C, .agg (C.extract off (off + n)), rfl, by simp [part, run_isAgg hg, run_sizeOf hn], .agg (by simp; omega) (fun j hj => ?_) (fun x hx => ho x (List.mem_of_mem_drop (List.mem_of_mem_take hx)))⟩
        have hj' : j < n := by simp at hj; omega
        have := hc (off + j) (by omega)
        rw [List.getElem_take, List.getElem_drop]
        have e1 : (C.extract off (off + n)).getD j undef = C.getD (off + j) undef := by
          simp [Array.getD, show off + j < C.size by omega, show j < min (off + n) C.size - off by omega]
        rw [e1]
        exact this
      · cases e
    | false =>
      simp only [Bool.false_eq_true, if_false] at e
      have hlt : off < cs.length := by
        rcases Nat.lt_or_ge off cs.length with q | q
        · exact q
        · rw [List.getElem?_eq_none q] at e; cases e
      rw [List.getElem?_eq_getElem hlt] at e
      cases e
      exact ⟨C, C.getD off undef, rfl, part_cell hg (by simp [Array.getD, show off < C.size by omega]), hc off hlt⟩

omit [LoopSpec] in
theorem bnd_ok {y : Nat} {r : Nat} {code : BoundsCode} (e : bnd X y = some r) (hv : VR ρ I w u X) : (Instr.sliceBound u y code).run P w = .ok r w ∧ r ≤ y := by
  unfold bnd at e
  split at e
  · rename_i k i
    rw [hv.int_inv]
    split at e
    · rename_i hi
      cases e
      refine ⟨by simp [Instr.sliceBound, asIntOf, hi], by omega⟩
    · cases e
  · cases e

omit [LoopSpec] in
/-- Bounds of a slice expression without a third index. -/
theorem bounds2 {isS : Bool} {n c l m : Nat} {lo hi : Option Operand} {Lo Hi : Option Opd} (hlo : opdO lo = some Lo) (hhi : opdO hi = some Hi) (hf : FR Bo ρ I w nt a s) (hnc : n ≤ c)
    (e1 : bndO (Hi.map (Opd.val s)) n n = some m) (e2 : bndO (Lo.map (Opd.val s)) 0 m = some l) :
    (Instr.sliceBounds isS n c (lo.map a.eval) (hi.map a.eval) none).run P w = .ok (l, m, c) w ∧ l ≤ m ∧ m ≤ n := by
  have up : ∀ {X : PV} {y y' r : Nat}, bnd X y = some r → y ≤ y' → bnd X y' = some r := by
    intro X y y' r e hy
    cases X with
    | int k i =>
      simp only [bnd] at e ⊢
      split at e
      · rename_i hi'
        rw [if_pos ⟨hi'.1, by omega⟩]
        exact e
      · cases e
    | _ => simp [bnd] at e
  have hM : m ≤ n ∧ (hi = none ∧ m = n ∨ ∃ x, hi = some x ∧ ∀ code, (Instr.sliceBound (a.eval x) c code).run P w = .ok m w) := by
    cases hi with
    | none =>
      simp [opdO] at hhi
      subst hhi
      simp only [Option.map_none, bndO] at e1
      cases e1
      exact ⟨Nat.le_refl _, .inl ⟨rfl, rfl⟩⟩
    | some x =>
      simp only [opdO, Option.map_eq_some_iff] at hhi
      obtain ⟨X, hX, rfl⟩ := hhi
      simp only [Option.map_some, bndO] at e1
      exact ⟨(bnd_ok (P := P) (code := .sliceB) e1 (opd_vr hX hf)).2, .inr ⟨x, rfl, fun code => (bnd_ok (up e1 hnc) (opd_vr hX hf)).1⟩⟩
  have hL : l ≤ m ∧ (lo = none ∧ l = 0 ∨ ∃ x, lo = some x ∧ ∀ code, (Instr.sliceBound (a.eval x) m code).run P w = .ok l w) := by
    cases lo with
    | none =>
      simp [opdO] at hlo
      subst hlo
      simp only [Option.map_none, bndO] at e2
      cases e2
      exact ⟨Nat.zero_le _, .inl ⟨rfl, rfl⟩⟩
    | some x =>
      simp only [opdO, Option.map_eq_some_iff] at hlo
      obtain ⟨X, hX, rfl⟩ := hlo
      simp only [Option.map_some, bndO] at e2
      exact ⟨(bnd_ok (P := P) (code := .sliceB) e2 (opd_vr hX hf)).2, .inr ⟨x, rfl, fun code => (bnd_ok e2 (opd_vr hX hf)).1⟩⟩
  refine ⟨?_, hL.1, hM.1⟩
  rcases hM.2 with ⟨rfl, rfl⟩ | ⟨x, rfl, hx⟩ <;> rcases hL.2 with ⟨rfl, rfl⟩ | ⟨y, rfl, hy⟩ <;> simp [Instr.sliceBounds, *]
end
end Go.Ev

/- Each operation of the abstract machine stands for the machine's own: new memory, stores. -/
set_option linter.unusedVariables false
set_option linter.unusedSimpArgs false
namespace Go.Ev
variable [LoopSpec]
section
variable {P : Program} {ρ : Nat → Option (Nat × Nat)} {I : Nat → Prop} {h : AH} {w : World} {nt : Nat} {Bo : Nat × List Deferred × Bool} {a : Act} {s : Fr} {u u' : Value} {v X Y : PV}

omit [LoopSpec] in
theorem heap_alloc_new (w : World) (o : Obj) : (w.alloc o).heap[w.heap.size]? = some o := by
  show (w.heap.push o)[w.heap.size]? = some o
  simp

theorem SR.alloc (hs : SR ρ I h w) {C : Array Value} {T : TypeId} {cs : List PV} (hl : cs.length ≤ C.size) (hv : ∀ j (hj : j < cs.length), VR ρ I w (C.getD j undef) cs[j]) (ho : ∀ x ∈ cs, x.one = true) :
    SR (upd ρ h.nx (w.heap.size, 0)) I (h.push (.cells cs)) (w.alloc (.cells C T)) ∧ St ρ I h w (upd ρ h.nx (w.heap.size, 0)) I (h.push (.cells cs)) (w.alloc (.cells C T)) :=
  hs.new rfl rfl rfl (World.size_alloc _ _) (fun b hb => RowKit.Below.heap_alloc _ _ _ hb) fun st =>
    ⟨C, T, heap_alloc_new _ _, by omega, fun j hj => by rw [Nat.zero_add]; exact (hv j hj).step hs st, ho⟩

/-- New immutable memory. -/
theorem SR.allocI (hs : SR ρ I h w) (o : Obj) :
    SR ρ (fun b => I b ∨ b = w.heap.size) h (w.alloc o) ∧ St ρ I h w ρ (fun b => I b ∨ b = w.heap.size) h (w.alloc o) :=
  hs.grow rfl rfl rfl (by simp) (fun b hb => RowKit.Below.heap_alloc _ _ _ hb) (fun b e => .inl e) (fun b e => e.imp id fun e => by omega) (fun b e => by
    rcases e with e | e
    · have := hs.inI b e; simp; omega
    · simp; omega)

omit [LoopSpec] in
theorem VR.cells (hv : VR ρ I w u X) (hk : X.okc = true) : u.cells.size = X.cells.length ∧ (∀ j (hj : j < X.cells.length), VR ρ I w (u.cells.getD j Go.undef) X.cells[j]) ∧ ∀ x ∈ X.cells, x.one = true := by
  cases hv with
  | agg h1 hc ho => exact ⟨h1, hc, ho⟩
  | tup _ _ => cases hk
  | dfr _ => cases hk
  | any h1 =>
    have hc : u.cells = #[u] := by cases u <;> first | rfl | (simp [anyOk, Value.oneCell'] at h1)
    rw [hc]
    refine ⟨rfl, fun j hj => ?_, fun x hx => by simp [PV.cells] at hx; subst hx; rfl⟩
    have : j = 0 := by simp [PV.cells] at hj; exact hj
    subst this
    exact .any h1
  | _ =>
    refine ⟨rfl, fun j hj => ?_, fun x hx => by simp [PV.cells] at hx; subst hx; rfl⟩
    have : j = 0 := by simp [PV.cells] at hj; exact hj
    subst this
    constructor <;> assumption

omit [LoopSpec] in
theorem VR.one (hv : VR ρ I w u X) (h1 : X.one = true) : u.oneCell' = true := by
  cases hv <;> first | rfl | (simp [PV.one] at h1; done) | skip
  rename_i h2
  cases u <;> first | rfl | (simp [anyOk, Value.oneCell'] at h2)
omit [LoopSpec] in
theorem VR.anyOk (hv : VR ρ I w u X) (h1 : X.one = true) (h2 : ∀ b, X ≠ .bool b) : Go.Ev.anyOk u = true := by
  cases hv <;> first | rfl | (simp [PV.one] at h1; done) | (exact absurd rfl (h2 _)) | assumption

theorem box_out {T : TypeId} (hs : SR ρ I h w) (hv : VR ρ I w u X) (hk : X.okc = true) : Out ρ I h w (.pt h.nx 0) (h.push (.cells X.cells)) ((do pure (Next.value (← Instr.box T u)) : Sem Next).run P w) := by
  obtain ⟨h1, h2, h3⟩ := hv.cells hk
  obtain ⟨g1, g2⟩ := hs.alloc (T := T) (C := u.cells) (cs := X.cells) (by omega) h2 h3
  refine ⟨.pointer (some ⟨w.heap.size, 0, none⟩), w.alloc (.cells u.cells T), _, _, .inl ?_, g2, g1, ?_⟩
  · simp [Instr.box, newVar, newRow]
  · have : VR (upd ρ h.nx (w.heap.size, 0)) I (w.alloc (.cells u.cells T)) (.pointer (some ⟨w.heap.size, 0 + 0, none⟩)) (.pt h.nx 0) := .pt (by simp [upd])
    simpa using this

theorem boxT_out {T : TypeId} (hs : SR ρ I h w) (hv : VR ρ I w u X) (hk : X.okc = true) : ∃ p w' ρ', (Instr.box T u).run P w = .ok p w' ∧ St ρ I h w ρ' I (h.push (.cells X.cells)) w' ∧ SR ρ' I (h.push (.cells X.cells)) w' ∧ VR ρ' I w' p (.pt h.nx 0) ∧ ∃ b C f, ρ' h.nx = some (b, 0) ∧ w'.heap[b]? = some (Obj.cells C T f) := by
  obtain ⟨h1, h2, h3⟩ := hv.cells hk
  obtain ⟨g1, g2⟩ := hs.alloc (T := T) (C := u.cells) (cs := X.cells) (by omega) h2 h3
  refine ⟨.pointer (some ⟨w.heap.size, 0, none⟩), w.alloc (.cells u.cells T), _, ?_, g2, g1, ?_, w.heap.size, u.cells, (0, 0), by simp [upd], heap_alloc_new w _⟩
  · simp [Instr.box, newVar, newRow]
  · have : VR (upd ρ h.nx (w.heap.size, 0)) I (w.alloc (.cells u.cells T)) (.pointer (some ⟨w.heap.size, 0 + 0, none⟩)) (.pt h.nx 0) := .pt (by simp [upd])
    simpa using this

theorem boxi_out {T : TypeId} (hs : SR ρ I h w) (hv : VR ρ I w u X) (hk : X.okc = true) : Out ρ I h w (.pi X.cells) h ((do pure (Next.value (← Instr.box T u)) : Sem Next).run P w) := by
  obtain ⟨h1, h2, h3⟩ := hv.cells hk
  obtain ⟨g1, g2⟩ := hs.allocI (.cells u.cells T)
  refine ⟨.pointer (some ⟨w.heap.size, 0, none⟩), w.alloc (.cells u.cells T), _, _, .inl ?_, g2, g1, ?_⟩
  · simp [Instr.box, newVar, newRow]
  · exact .pi (fun j => u.cells.getD j undef) (.inr rfl) (fun j hj => by
      rw [Nat.zero_add, World.cell?_alloc_new]
      simp [Array.getD, show j < u.cells.size by omega]) (fun j hj => (h2 j hj).step hs g2) h3

theorem alloc_out {T : TypeId} {z : Value} {zs : List PV} (hs : SR ρ I h w) (hz : zeroT P T = some z) (hc : cstCells z.cells.toList = some zs) :
    Out ρ I h w (.pt h.nx 0) (h.push (.cells zs)) ((do pure (Next.value (← Instr.alloc T true (.tuple #[]))) : Sem Next).run P w) := by
  obtain ⟨h1, h2⟩ := cstCells_vr (ρ := ρ) (I := I) (w := w) _ _ hc
  obtain ⟨g1, g2⟩ := hs.alloc (T := T) (C := z.cells) (cs := zs) (by simpa using Nat.le_of_eq h1.symm) (fun j hj => by have := h2 j hj; simpa [Array.getD_eq_getD_getElem?] using this) (cstCells_one _ _ hc)
  refine ⟨.pointer (some ⟨w.heap.size, 0, none⟩), w.alloc (.cells z.cells T), _, _, .inl ?_, g2, g1, ?_⟩
  · simp [Instr.alloc, run_zeroValue hz, newVar, newRow]
  · have : VR (upd ρ h.nx (w.heap.size, 0)) I (w.alloc (.cells z.cells T)) (.pointer (some ⟨w.heap.size, 0 + 0, none⟩)) (.pt h.nx 0) := .pt (by simp [upd])
    simpa using this

/- Lists of cells, one part put in. -/
omit [LoopSpec] in
theorem splice_len {cs ys : List PV} {o : Nat} (hl : o + ys.length ≤ cs.length) : (splice cs o ys).length = cs.length := by
  simp [splice]; omega

omit [LoopSpec] in
theorem splice_get (cs ys : List PV) (o j : Nat) (ho : o ≤ cs.length) : (splice cs o ys)[j]? = if j < o then cs[j]? else if j < o + ys.length then ys[j - o]? else cs[j]? := by
  unfold splice
  simp only [List.append_assoc, List.getElem?_append, List.getElem?_take, List.length_take, List.getElem?_drop]
  by_cases h1 : j < o
  · simp [h1, Nat.min_eq_left ho]
  · rw [if_neg (by rw [Nat.min_eq_left ho]; exact h1), if_neg h1]
    rw [Nat.min_eq_left ho]
    by_cases h2 : j < o + ys.length
    · rw [if_pos (by omega), if_pos h2]
    · rw [if_neg (by omega), if_neg h2]
      congr 1
      omega

omit [LoopSpec] in
theorem row_get (C vs : List Value) (o j : Nat) (ho : o ≤ C.length) :
    (C.take o ++ vs ++ C.drop (o + vs.length))[j]? = if j < o then C[j]? else if j < o + vs.length then vs[j - o]? else C[j]? := by
  simp only [List.append_assoc, List.getElem?_append, List.getElem?_take, List.length_take, List.getElem?_drop]
  by_cases h1 : j < o
  · simp [h1, Nat.min_eq_left ho]
  · rw [if_neg (by rw [Nat.min_eq_left ho]; exact h1), if_neg h1]
    rw [Nat.min_eq_left ho]
    by_cases h2 : j < o + vs.length
    · rw [if_pos (by omega), if_pos h2]
    · rw [if_neg (by omega), if_neg h2]
      congr 1
      omega

omit [LoopSpec] in
theorem getD_of_some {C : Array Value} {j : Nat} {x : Value} (e : C[j]? = some x) : C.getD j undef = x := by
  simp [Array.getD_eq_getD_getElem?, e]

/-- A store of some cells into an own block. -/
theorem write_ok (hs : SR ρ I h w) {i b o' k : Nat} {cs ds : List PV} {vs : List Value} {C : Array Value} {T : TypeId} (hb : h.blk i = some (.cells cs)) (hi : ρ i = some (b, o')) (hg : w.heap[b]? = some (.cells C T (0, 0)))
    (hk : k ≤ cs.length) (hl : vs.length = ds.length) (hfit : o' + k + vs.length ≤ C.size) (hv : ∀ j (hj : j < ds.length), VR ρ I w (vs.getD j undef) ds[j]) (ho : ∀ x ∈ ds, x.one = true) :
    ∃ w', (storeCells ⟨b, o' + k, none⟩ vs).run P w = .ok () w' ∧ SR ρ I (h.set i (.cells (splice cs k ds))) w' ∧ St ρ I h w ρ I (h.set i (.cells (splice cs k ds))) w' := by
  obtain ⟨b2, o2, g2, hB⟩ := hs.live i _ hb
  rw [hi] at g2
  cases g2
  obtain ⟨C2, T2, e1, e2, e3, e4⟩ := hB
  rw [hg] at e1
  cases e1
  have h1 : ∀ x ∈ vs, x.oneCell' = true := by
    intro x hx
    obtain ⟨j, hj, rfl⟩ := List.mem_iff_getElem.1 hx
    have := hv j (by omega)
    have e : vs.getD j undef = vs[j] := by simp [List.getD, List.getElem?_eq_getElem hj]
    rw [e] at this
    exact this.one (ho _ (List.getElem_mem _))
  have hrun := run_storeCells_at P b (o' + k) T vs 0 C w hg (by omega) h1
  simp only [Nat.add_zero] at hrun
  generalize hL : (C.toList.take (o' + k) ++ vs ++ C.toList.drop (o' + k + vs.length)) = L at hrun
  have hLsz : L.length = C.size := by rw [← hL]; simp; omega
  refine ⟨_, hrun, hs.wrote (by rw [hb]; simp) hi rfl rfl rfl (by simp) (fun q hq => setRow_other _ _ _ _ hq) (fun C' T' f e => ?_) (.cells hg) fun st => ?_⟩
  · rw [hg] at e
    cases e
    exact ⟨L.toArray, _, setRow_heap w b C _ T _ hg, by simpa using hLsz⟩
  · refine ⟨L.toArray, T, setRow_heap w b C _ T _ hg, ?_, fun j hj => ?_, fun x hx => ?_⟩
    rotate_left 2
    · simp only [splice, List.append_assoc, List.mem_append] at hx
      rcases hx with hx | hx | hx
      · exact e4 x (List.mem_of_mem_take hx)
      · exact ho x hx
      · exact e4 x (List.mem_of_mem_drop hx)
    · simp only [splice, List.length_append, List.length_take, List.length_drop]
      simp only [List.size_toArray, hLsz]
      omega
    · have hj' : (splice cs k ds)[j]? = some (splice cs k ds)[j] := List.getElem?_eq_getElem hj
      have hget : L.toArray[o' + j]? = L[o' + j]? := by simp
      have hLj : L[o' + j]? = if o' + j < o' + k then C.toList[o' + j]? else if o' + j < o' + k + vs.length then vs[o' + j - (o' + k)]? else C.toList[o' + j]? := by
        rw [← hL]; exact row_get _ _ _ _ (by simp; omega)
      have hsp := splice_get cs ds k j hk
      rw [hj'] at hsp
      generalize (splice cs k ds)[j] = d at hj' hsp
      by_cases q1 : j < k
      · rw [if_pos q1] at hsp
        rw [if_pos (by omega)] at hLj
        have hlt : j < cs.length := by omega
        rw [List.getElem?_eq_getElem hlt] at hsp
        cases hsp
        have := (e3 j hlt).step hs st
        have hc : C[o' + j]? = some (C.getD (o' + j) undef) := by simp [Array.getD, show o' + j < C.size by omega]
        rw [getD_of_some (x := C.getD (o' + j) undef) (by rw [hget, hLj, Array.getElem?_toList]; exact hc)]
        exact this
      · rw [if_neg q1] at hsp
        rw [if_neg (by omega)] at hLj
        by_cases q2 : j < k + ds.length
        · rw [if_pos q2] at hsp
          rw [if_pos (by omega)] at hLj
          have hlt : j - k < ds.length := by omega
          rw [List.getElem?_eq_getElem hlt] at hsp
          cases hsp
          have := (hv (j - k) hlt).step hs st
          have hc : vs[o' + j - (o' + k)]? = some (vs.getD (j - k) undef) := by
            rw [show o' + j - (o' + k) = j - k by omega]
            simp [List.getD, List.getElem?_eq_getElem (show j - k < vs.length by omega)]
          rw [getD_of_some (x := vs.getD (j - k) undef) (by rw [hget, hLj]; exact hc)]
          exact this
        · rw [if_neg q2] at hsp
          rw [if_neg (by omega)] at hLj
          have hlt : j < cs.length := by
            rcases Nat.lt_or_ge j cs.length with q | q
            · exact q
            · rw [List.getElem?_eq_none q] at hsp; cases hsp
          rw [List.getElem?_eq_getElem hlt] at hsp
          cases hsp
          have := (e3 j hlt).step hs st
          have hc : C[o' + j]? = some (C.getD (o' + j) undef) := by simp [Array.getD, show o' + j < C.size by omega]
          rw [getD_of_some (x := C.getD (o' + j) undef) (by rw [hget, hLj, Array.getElem?_toList]; exact hc)]
          exact this

omit [LoopSpec] in
theorem row_blk {i : Nat} {cs : List PV} (e : h.row i = some cs) : h.blk i = some (.cells cs) := by
  unfold AH.row at e
  split at e
  · rename_i cs' hb; cases e; exact hb
  · cases e

theorem own_row (hs : SR ρ I h w) {i b o : Nat} {cs : List PV} (hb : h.blk i = some (.cells cs)) (hi : ρ i = some (b, o)) :
    ∃ C T, w.heap[b]? = some (.cells C T (0, 0)) ∧ o + cs.length ≤ C.size ∧ (∀ j (hj : j < cs.length), VR ρ I w (C.getD (o + j) undef) cs[j]) ∧ ∀ x ∈ cs, x.one = true := by
  obtain ⟨b2, o2, g2, hB⟩ := hs.live i _ hb
  rw [hi] at g2
  cases g2
  exact hB

omit [LoopSpec] in
theorem set_splice {cs : List PV} {o : Nat} {x : PV} (ho : o < cs.length) : cs.set o x = splice cs o [x] := by
  apply List.ext_getElem?
  intro j
  rw [splice_get _ _ _ _ (by omega), List.getElem?_set]
  simp only [List.length_singleton]
  by_cases h1 : o = j
  · subst h1; simp [ho]
  · by_cases h2 : j < o
    · simp [h1, h2]
    · rw [if_neg h1, if_neg h2, if_neg (by omega)]

theorem store_ok {t : TypeId} {n : Nat} {h' : AH} (hs : SR ρ I h w) (hn : szT P t = some n) (hp : VR ρ I w u X) (hx : VR ρ I w u' Y) (e : wr h X Y n = some h') :
    ∃ w', (Instr.storeAt t u u').run P w = .ok () w' ∧ SR ρ I h' w' ∧ St ρ I h w ρ I h' w' := by
  cases X with
  | pt i o =>
    simp only [wr] at e
    cases hr : h.row i with
    | none => simp [hr] at e
    | some cs =>
      simp only [hr] at e
      cases hp with
      | pt hρ =>
        rename_i b o'
        have hb := row_blk hr
        obtain ⟨C, T, g1, g2, g3⟩ := own_row hs hb hρ
        have hone : ∀ z : PV, Y = z → z.one = true → (if n = 1 ∧ o < cs.length then some (h.set i (.cells (cs.set o z))) else none) = some h' →
            ∃ w', (Instr.storeAt t (.pointer (some ⟨b, o' + o, none⟩)) u').run P w = .ok () w' ∧ SR ρ I h' w' ∧ St ρ I h w ρ I h' w' := by
          intro z hz h1 eq
          subst hz
          split at eq
          · rename_i hc
            obtain ⟨rfl, hlt⟩ := hc
            cases eq
            have hone' := hx.one h1
            have hcells : u'.cells = #[u'] := by cases u' <;> first | rfl | (simp [Value.oneCell'] at hone')
            obtain ⟨w', e1, e2, e3⟩ := write_ok (P := P) (k := o) (ds := [Y]) (vs := [u']) hs hb hρ g1 (by omega) rfl (by simp; omega)
              (fun j hj => by have : j = 0 := by simp at hj; exact hj
                              subst this; simpa using hx) (by simpa using h1)
            rw [← set_splice hlt] at e2 e3
            exact ⟨w', by simp [Instr.storeAt, Instr.sureAddr, storeVar, run_sizeOf hn, hcells, e1], e2, e3⟩
          · cases eq
        cases Y with
        | agg ys =>
          simp only at e
          split at e
          · rename_i hc
            obtain ⟨h1, h2⟩ := hc
            cases e
            cases hx with
            | agg h4 h5 h6 =>
              rename_i D
              obtain ⟨w', e1, e2, e3⟩ := write_ok (P := P) (k := o) (ds := ys) (vs := D.toList) hs hb hρ g1 (by omega) (by simpa using h4) (by simp; omega)
                (fun j hj => by have := h5 j hj; simpa [Array.getD_eq_getD_getElem?] using this)
                h6
              exact ⟨w', by simp [Instr.storeAt, Instr.sureAddr, storeVar, run_sizeOf hn, Value.cells, show D.size = n by omega, e1], e2, e3⟩
          · cases e
        | tup vs => simp at e
        | dfr _ => simp at e
        | _ => exact hone _ rfl rfl e
  | _ => simp [wr] at e
end
end Go.Ev

/- Each operation of the abstract machine stands for the machine's own: composite values, made slices, appends, copies. -/
set_option linter.unusedVariables false
set_option linter.unusedSimpArgs false
namespace Go.Ev
variable [LoopSpec]
section
variable {P : Program} {ρ : Nat → Option (Nat × Nat)} {I : Nat → Prop} {h : AH} {w : World} {nt : Nat} {Bo : Nat × List Deferred × Bool} {a : Act} {s : Fr} {u u' : Value} {v X Y : PV}

/-- Arrays and lists that stand for each other. -/
def VRA (ρ : Nat → Option (Nat × Nat)) (I : Nat → Prop) (w : World) (C : Array Value) (cs : List PV) : Prop :=
  C.size = cs.length ∧ (∀ j (hj : j < cs.length), VR ρ I w (C.getD j undef) cs[j]) ∧ ∀ x ∈ cs, x.one = true

omit [LoopSpec] in
theorem foldl_set (vs : List Value) : ∀ (k off : Nat) (C : Array Value), off + k + vs.length ≤ C.size →
    (vs.zipIdx k).foldl (fun cs (p : Value × Nat) => cs.setIfInBounds (off + p.2) p.1) C = (C.toList.take (off + k) ++ vs ++ C.toList.drop (off + k + vs.length)).toArray := by
  induction vs with
  | nil => intro k off C hl; simp
  | cons x vs ih =>
    intro k off C hl
    simp only [List.length_cons] at hl
    rw [List.zipIdx_cons, List.foldl_cons, ih (k + 1) off (C.setIfInBounds (off + k) x) (by simp; omega)]
    have e := list_seg_step C.toList (off + k) x vs (by simp; omega)
    simpa [Array.toList_setIfInBounds, Nat.add_assoc] using e

omit [LoopSpec] in
theorem VRA.splice {C : Array Value} {cs ds : List PV} {vs : List Value} {o : Nat} (hC : VRA ρ I w C cs) (hl : vs.length = ds.length) (ho : o + ds.length ≤ cs.length)
    (hv : ∀ j (hj : j < ds.length), VR ρ I w (vs.getD j undef) ds[j]) (hn : ∀ x ∈ ds, x.one = true) : VRA ρ I w (C.toList.take o ++ vs ++ C.toList.drop (o + vs.length)).toArray (splice cs o ds) := by
  obtain ⟨h1, h2, h3⟩ := hC
  have hlen := splice_len (cs := cs) (ys := ds) (o := o) ho
  refine ⟨by rw [hlen]; simp; omega, fun j hj => ?_, fun x hx => ?_⟩
  rotate_left
  · simp only [Ev.splice, List.append_assoc, List.mem_append] at hx
    rcases hx with hx | hx | hx
    · exact h3 x (List.mem_of_mem_take hx)
    · exact hn x hx
    · exact h3 x (List.mem_of_mem_drop hx)
  have hsp := splice_get cs ds o j (by omega)
  have hj' : (Ev.splice cs o ds)[j]? = some (Ev.splice cs o ds)[j] := List.getElem?_eq_getElem hj
  rw [hj'] at hsp
  generalize (Ev.splice cs o ds)[j] = d at hj' hsp
  have hrow := row_get C.toList vs o j (by simp; omega)
  by_cases q1 : j < o
  · rw [if_pos q1] at hsp hrow
    have hlt : j < cs.length := by omega
    rw [List.getElem?_eq_getElem hlt] at hsp
    cases hsp
    have hc : C.toList[j]? = some (C.getD j undef) := by simp [Array.getD, show j < C.size by omega]
    rw [getD_of_some (x := C.getD j undef) (by rw [List.getElem?_toArray, hrow]; exact hc)]
    exact h2 j hlt
  · rw [if_neg q1] at hsp hrow
    by_cases q2 : j < o + ds.length
    · rw [if_pos q2] at hsp
      rw [if_pos (by omega)] at hrow
      have hlt : j - o < ds.length := by omega
      rw [List.getElem?_eq_getElem hlt] at hsp
      cases hsp
      have hc : vs[j - o]? = some (vs.getD (j - o) undef) := by simp [List.getD, List.getElem?_eq_getElem (show j - o < vs.length by omega)]
      rw [getD_of_some (x := vs.getD (j - o) undef) (by rw [List.getElem?_toArray, hrow]; exact hc)]
      exact hv (j - o) hlt
    · rw [if_neg q2] at hsp
      rw [if_neg (by omega)] at hrow
      have hlt : j < cs.length := by omega
      rw [List.getElem?_eq_getElem hlt] at hsp
      cases hsp
      have hc : C.toList[j]? = some (C.getD j undef) := by simp [Array.getD, show j < C.size by omega]
      rw [getD_of_some (x := C.getD j undef) (by rw [List.getElem?_toArray, hrow]; exact hc)]
      exact h2 j hlt

omit [LoopSpec] in
/-- A composite literal's parts. -/
theorem fill_ok {place : Nat → Option (Nat × Nat)} : ∀ (parts : List (Nat × Operand)) (ps : List (Nat × Nat × Opd)) (C : Array Value) (cs ds : List PV), partsOf place parts = some ps → FR Bo ρ I w nt a s → VRA ρ I w C cs →
    fillP cs (ps.map fun p => (p.1, p.2.1, p.2.2.val s)) = some ds → ∃ D, Instr.fill place C (parts.map fun p => (p.1, a.eval p.2)) = some D ∧ VRA ρ I w D ds
  | [], ps, C, cs, ds, e, hf, hC, e' => by
    cases e
    cases e'
    exact ⟨C, rfl, hC⟩
  | (i, x) :: parts, ps, C, cs, ds, e, hf, hC, e' => by
    simp only [partsOf] at e
    split at e
    · rename_i off n X ps' h1 h2 h3
      cases e
      simp only [List.map_cons, fillP] at e'
      split at e'
      · rename_i hc
        obtain ⟨c0, c1, c2⟩ := hc
        obtain ⟨v1, v2, v3⟩ := (opd_vr h2 hf).cells c0
        have hC' : VRA ρ I w (((a.eval x).cells.zipIdx.foldl (fun cs (p : Value × Nat) => cs.setIfInBounds (off + p.2) p.1) C)) (splice cs off (X.val s).cells) := by
          have hz : ((a.eval x).cells.zipIdx.foldl (fun cs (p : Value × Nat) => cs.setIfInBounds (off + p.2) p.1) C) = (C.toList.take off ++ (a.eval x).cells.toList ++ C.toList.drop (off + (a.eval x).cells.toList.length)).toArray := by
            have := foldl_set (a.eval x).cells.toList 0 off C (by have := hC.1; simp; omega)
            rw [← Array.foldl_toList, Array.toList_zipIdx]
            simpa using this
          rw [hz]
          exact hC.splice (by simpa using v1) (by omega) (fun j hj => by have := v2 j hj; simpa [Array.getD_eq_getD_getElem?] using this) v3
        obtain ⟨D, d1, d2⟩ := fill_ok parts ps' _ _ ds h3 hf hC' e'
        refine ⟨D, ?_, d2⟩
        simp only [List.map_cons, Instr.fill, h1]
        rw [if_neg]
        · exact d1
        · have := hC.1
          simp only [ne_eq, decide_not, Bool.or_eq_true, Bool.not_eq_eq_eq_not, Bool.not_true, decide_eq_false_iff_not, decide_eq_true_eq, not_or, Decidable.not_not]
          omega
      · cases e'
    · cases e

omit [LoopSpec] in
theorem zero_vra {z : Value} {zs : List PV} (hc : cstCells z.cells.toList = some zs) : VRA ρ I w z.cells zs := by
  obtain ⟨h1, h2⟩ := cstCells_vr (ρ := ρ) (I := I) (w := w) _ _ hc
  exact ⟨by simpa using h1, fun j hj => by have := h2 j hj; simpa [Array.getD_eq_getD_getElem?] using this, cstCells_one _ _ hc⟩

omit [LoopSpec] in
theorem zeroCells_inv {t : TypeId} {zs : List PV} (e : zeroCells P t = some zs) : ∃ z, zeroT P t = some z ∧ cstCells z.cells.toList = some zs := by
  simpa [zeroCells, Option.bind_eq_some_iff] using e

omit [LoopSpec] in
theorem flatten_get {α : Type} (z : List α) (hz : 0 < z.length) : ∀ (n j : Nat), (List.replicate n z).flatten[j]? = if j < n * z.length then z[j % z.length]? else none
  | 0, j => by simp
  | n + 1, j => by
    rw [List.replicate_succ, List.flatten_cons, List.getElem?_append]
    have hm : (n + 1) * z.length = n * z.length + z.length := Nat.succ_mul _ _
    by_cases h1 : j < z.length
    · rw [if_pos h1, if_pos (by rw [hm]; omega), Nat.mod_eq_of_lt h1]
    · rw [if_neg h1, flatten_get z hz n (j - z.length)]
      have : j % z.length = (j - z.length) % z.length := by
        rw [Nat.mod_eq_sub_mod (by omega)]
      by_cases h2 : j < (n + 1) * z.length
      · rw [if_pos h2, if_pos (by rw [hm] at h2; omega), this]
      · rw [if_neg h2, if_neg (by rw [hm] at h2; omega)]

omit [LoopSpec] in
theorem reps_vra {z : Array Value} {zs : List PV} {n : Nat} (hz : VRA ρ I w z zs) (h0 : 0 < zs.length) :
    VRA ρ I w ((Array.range (n * zs.length)).map fun i => z[i % z.size]!) (List.replicate n zs).flatten := by
  have hlen : ((List.replicate n zs).flatten).length = n * zs.length := by simp
  refine ⟨by simp, fun j hj => ?_, fun x hx => ?_⟩
  rotate_left
  · simp only [List.mem_flatten, List.mem_replicate] at hx
    obtain ⟨l, ⟨_, rfl⟩, hx⟩ := hx
    exact hz.2.2 x hx
  have hj' : j < n * zs.length := by omega
  have hm : j % zs.length < zs.length := Nat.mod_lt _ h0
  have e := flatten_get zs h0 n j
  rw [if_pos hj', List.getElem?_eq_getElem hj, List.getElem?_eq_getElem hm] at e
  have e' := Option.some.inj e
  rw [e']
  have h1 : ((Array.range (n * zs.length)).map fun i => z[i % z.size]!).getD j undef = z.getD (j % zs.length) undef := by
    have hs := hz.1
    simp [Array.getD, hj', hs, hm]
  rw [h1]
  exact hz.2.1 _ hm

theorem bslice_out {t e : TypeId} {n z : Nat} {parts : Array (Nat × Operand)} {zs cs : List PV} {ps : List (Nat × Nat × Opd)} (hs : SR ρ I h w) (hf : FR Bo ρ I w nt a s) (hu : P.underlying t = some (.slice e)) (hz : szT P e = some z) (hzc : zeroCells P e = some zs)
    (hc : n * z ≤ 2 ^ 24 ∧ zs.length = z ∧ 0 < z) (hp : partsOf (fun i => some (i * z, z)) parts.toList = some ps) (e' : fillP (List.replicate n zs).flatten (ps.map fun p => (p.1, p.2.1, p.2.2.val s)) = some cs) :
    ∃ C, (Instr.buildSlice t n (parts.map fun (i, x) => (i, a.eval x))).run P w = .ok (.slice (some ⟨w.heap.size, 0, none⟩) n n) (w.alloc (.cells C e)) ∧ VRA ρ I w C cs := by
  obtain ⟨zv, z1, z2⟩ := zeroCells_inv hzc
  obtain ⟨c1, c2, c3⟩ := hc
  have hzv : VRA ρ I w zv.cells zs := zero_vra z2
  have hsz : zv.cells.size = z := by rw [hzv.1]; exact c2
  have hr := reps_vra (n := n) hzv (by omega)
  obtain ⟨D, d1, d2⟩ := fill_ok parts.toList ps _ _ cs hp hf hr e'
  rw [c2] at d1
  refine ⟨D, ?_, d2⟩
  have hpl : (parts.map fun (p : Nat × Operand) => (p.1, a.eval p.2)).toList = parts.toList.map fun p => (p.1, a.eval p.2) := by simp
  by_cases hnz : n * z = 0
  · have hn0 : n = 0 := by
      rcases Nat.mul_eq_zero.1 hnz with q | q
      · exact q
      · omega
    subst hn0
    simp only [Nat.zero_mul] at d1
    simp only [Instr.buildSlice, Sem.run_bind, run_underlying hu, Result.andThen_ok, run_sizeOf hz, Nat.zero_mul]
    simp only [show ¬ (0 > 2 ^ 24) by decide, if_false, if_true, Sem.run_bind, Sem.run_pure, Result.andThen_ok]
    have : ((Array.range 0).map fun x => (#[] : Array Value)[x % (#[] : Array Value).size]!) = ((Array.range 0).map fun i => zv.cells[i % zv.cells.size]!) := by simp
    rw [this, hpl, d1]
    simp [newRow]
  · simp only [Instr.buildSlice, Sem.run_bind, run_underlying hu, Result.andThen_ok, run_sizeOf hz]
    rw [if_neg (by omega)]
    simp only [if_neg hnz, Sem.run_bind, run_zeroValue z1, Sem.run_pure, Result.andThen_ok]
    rw [hpl, d1]
    simp [newRow]

end
end Go.Ev

/- Each operation of the abstract machine stands for the machine's own: slices made, cut, appended to, copied. -/
set_option linter.unusedVariables false
set_option linter.unusedSimpArgs false
namespace Go.Ev
variable [LoopSpec]
section
variable {P : Program} {ρ : Nat → Option (Nat × Nat)} {I : Nat → Prop} {h : AH} {w : World} {nt : Nat} {Bo : Nat × List Deferred × Bool} {a : Act} {s : Fr} {u u' : Value} {v X Y : PV}

omit [LoopSpec] in
theorem szT_info {t : TypeId} {n : Nat} (e : szT P t = some n) : ∃ i, P.info? t = some i ∧ i.size = n := by
  simpa [szT, Option.map_eq_some_iff] using e

omit [LoopSpec] in
theorem roomOk_le {n b : Nat} (e : roomOk n (b + 1) = true) : n * b ≤ 17592186044416 ∧ n ≤ 17592186044416 := by
  unfold roomOk at e
  have := of_decide_eq_true e
  rw [Nat.mul_succ] at this
  omega

/-- The elements of a slice, as the machine reads them. -/
theorem src_ok {z m : Nat} {ys : List PV} {tx e' : TypeId} (hs : SR ρ I h w) (hv : VR ρ I w u X) (e : src h z X = some (m, ys)) (hk : P.underlying tx = some (.slice e')) :
    ∃ A c vs, u = .slice A m c ∧ vs.length = ys.length ∧ ys.length = m * z ∧ Src P z tx u m vs w ∧ (∀ j (hj : j < ys.length), VR ρ I w (vs.getD j undef) ys[j]) ∧ ∀ x ∈ ys, x.one = true := by
  have fin : ∀ (b o c : Nat) (us : Nat → Value), u = .slice (some ⟨b, o, none⟩) m c → ys.length = m * z → (∀ j, j < ys.length → w.cell? ⟨b, o + j, none⟩ = some (us j)) → (∀ j (hj : j < ys.length), VR ρ I w (us j) ys[j]) → (∀ x ∈ ys, x.one = true) →
      ∃ A c vs, u = .slice A m c ∧ vs.length = ys.length ∧ ys.length = m * z ∧ Src P z tx u m vs w ∧ (∀ j (hj : j < ys.length), VR ρ I w (vs.getD j undef) ys[j]) ∧ ∀ x ∈ ys, x.one = true := by
    intro b o c us hu hl hc hr ho
    subst hu
    have hg : ∀ j, j < ys.length → ((List.range ys.length).map us).getD j undef = us j := fun j hj => by simp [List.getD, hj]
    refine ⟨_, c, (List.range ys.length).map us, rfl, by simp, hl, ?_, fun j hj => by rw [hg j hj]; exact hr j hj, ho⟩
    refine Src.ofSlice w hk ⟨b, o, none⟩ m c _ (by simpa using hl) (fun j x hx => ?_) (fun x hx => ?_)
    · simp only [List.getElem?_map, Option.map_eq_some_iff] at hx
      obtain ⟨i, hi, rfl⟩ := hx
      have hlt : j < ys.length := by
        rcases Nat.lt_or_ge j ys.length with q | q
        · exact q
        · rw [List.getElem?_eq_none (by simpa using q)] at hi; cases hi
      rw [List.getElem?_range hlt] at hi
      cases hi
      rw [Addr.add_mid]
      exact hc j hlt
    · obtain ⟨j, hj, rfl⟩ := List.mem_map.1 hx
      have hlt : j < ys.length := by simpa using hj
      exact (hr j hlt).one (ho _ (List.getElem_mem _))
  have nilc : ∀ (A : Option Addr) (c : Nat), u = .slice A 0 c → m = 0 → ys = [] →
      ∃ A c vs, u = .slice A m c ∧ vs.length = ys.length ∧ ys.length = m * z ∧ Src P z tx u m vs w ∧ (∀ j (hj : j < ys.length), VR ρ I w (vs.getD j undef) ys[j]) ∧ ∀ x ∈ ys, x.one = true := by
    intro A c hu hm hy
    subst hu hm hy
    refine ⟨A, c, [], rfl, rfl, by simp, ?_, fun j hj => absurd hj (Nat.not_lt_zero _), fun x hx => by cases hx⟩
    cases A with
    | none => exact Src.ofNil w hk c
    | some ad => exact Src.ofSlice w hk ad 0 c [] (by simp) (fun j x hx => by simp at hx) (fun x hx => by cases hx)
  cases X with
  | sl n cs =>
    simp only [src] at e
    split at e
    · rename_i hl
      cases e
      cases hv with
      | sl us hn hA hv ho =>
        rename_i A c
        by_cases hne : ys = []
        · subst hne
          by_cases hm : m = 0
          · exact nilc A c (by rw [hm]) hm rfl
          · -- elements without cells
            refine ⟨A, c, [], rfl, rfl, hl, ?_, fun j hj => absurd hj (Nat.not_lt_zero _), fun x hx => by cases hx⟩
            have hz : z = 0 := by
              simp only [List.length_nil] at hl
              rcases Nat.mul_eq_zero.1 hl.symm with q | q
              · exact absurd q hm
              · exact q
            subst hz
            cases A with
            | none =>
              exact ⟨.inl ⟨e', hk⟩, fun _ => rfl, by simp [Builtin.firstCells], by simp [Builtin.firstCells], by simp, fun x hx => by cases hx⟩
            | some ad => exact Src.ofSlice w hk ad m c [] (by simp) (fun j x hx => by simp at hx) (fun x hx => by cases hx)
        · obtain ⟨b, o, rfl, _, hc⟩ := hA hne
          exact fin b o c us rfl hl hc hv ho
    · cases e
  | emp =>
    simp only [src] at e
    cases e
    cases hv
    exact nilc _ _ rfl rfl rfl
  | rf z' i o n =>
    simp only [src] at e
    cases hr : h.row i with
    | none => simp [hr] at e
    | some cs =>
      simp only [hr] at e
      split at e
      · rename_i hl
        cases e
        cases hv with
        | rf hρ hn hw hc =>
          rename_i b o' c C T f
          obtain ⟨C2, T2, g1, g2, g3, g4⟩ := own_row hs (row_blk hr) hρ
          refine fin b (o' + o) c (fun j => C2.getD (o' + (o + j)) undef) rfl (by simp; omega) (fun j hj => ?_) (fun j hj => ?_) (fun x hx => g4 x (List.mem_of_mem_drop (List.mem_of_mem_take hx)))
          · have hj' : j < m * z := by simp at hj; omega
            simp only [World.cell?, g1]
            simp [Array.getD, Nat.add_assoc, show o' + (o + j) < C2.size by omega]
          · have hj' : j < m * z := by simp at hj; omega
            have := g3 (o + j) (by omega)
            simpa [List.getElem_take, List.getElem_drop] using this
        | rf0 => exact nilc _ _ rfl rfl (by simp)
      · cases e
  | _ => simp [src] at e

def isSl : PV → Bool
  | .sl _ _ | .emp | .rf _ _ _ _ => true
  | _ => false

omit [LoopSpec] in
theorem slice_cap (hv : VR ρ I w u X) (hX : isSl X = true) : ∃ A n c, u = .slice A n c ∧ n ≤ c := by
  cases hv with
  | sl us hn _ _ _ => exact ⟨_, _, _, rfl, hn⟩
  | emp => exact ⟨_, _, _, rfl, Nat.le_refl _⟩
  | rf h1 hn h2 h3 => exact ⟨_, _, _, rfl, hn⟩
  | rf0 => exact ⟨_, _, _, rfl, Nat.le_refl _⟩
  | _ => cases hX

omit [LoopSpec] in
/-- Nothing is appended: the slice itself. -/
theorem app_zero {t tx ty e : TypeId} {z : Nat} {A : Option Addr} {n c : Nat} {vs : List Value} (hu : P.underlying t = some (.slice e)) (hz : szT P e = some z) (hS : Src P z tx u' 0 vs w) (hnc : n ≤ c) :
    (Builtin.append_ #[t, tx] ty #[.slice A n c, u']).run P w = .ok (.slice A n c) w := by
  have hvs : vs = [] := by have := hS.newsLen; simp at this; exact this
  subst hvs
  obtain ⟨i, hi, hi2⟩ := szT_info hz
  cases A with
  | none => rcases hS.kind with ⟨e', hk⟩ | hk <;> simp [Builtin.append_, run_underlying hu, run_underlying hk, run_sizeOf hz, hS.len, hnc, hS.cells, storeCells]
  | some ad => rcases hS.kind with ⟨e', hk⟩ | hk <;> simp [Builtin.append_, run_underlying hu, run_underlying hk, run_sizeOf hz, hS.len, hnc, hS.cells, storeCells]

omit [LoopSpec] in
theorem AH.ext' {x y : AH} (h1 : x.nx = y.nx) (h0 : x.lo = y.lo) (h2 : ∀ i, x.blk i = y.blk i) (h3 : x.ty = y.ty) : x = y := by
  cases x; cases y; simp at h0 h1 h2 h3; simp [h1, h0, h3]; exact funext h2

/-- What is appended, as the model's append meets it. -/
structure ASrc (P : Program) (t tx ty e : TypeId) (z : Nat) (zv : Value) (i : TypeInfo) (u' : Value) (m : Nat) (vs : List Value) (w : World) : Prop where
  len : vs.length = m * z
  zero : ∀ A n c, n ≤ c → m = 0 → (Builtin.append_ #[t, tx] ty #[.slice A n c, u']).run P w = .ok (.slice A n c) w
  room : ∀ a n c w', n + m ≤ c → 0 < m → (storeCells (a.add (n * z)) vs).run P w = .ok () w' → (Builtin.append_ #[t, tx] ty #[.slice (some a) n c, u']).run P w = .ok (.slice (some a) (n + m) c) w'
  grow : ∀ A n c olds, (Builtin.firstCells i.size n (.slice A n c)).run P w.drew = .ok olds.toArray w.drew → 0 < m → c < n + m → ((n + m : Nat) : Int) ≤ 9223372036854775807 → Builtin.nextslicecap (n + m) c * i.bytes ≤ 281474976710656 → m * i.bytes ≤ 281474976710656 →
    (Builtin.append_ #[t, tx] ty #[.slice A n c, u']).run P w = .ok (.slice (some ⟨w.heap.size, 0, none⟩) (n + m) (grownCap w (n + m) c e)) (w.drew.alloc (.cells ((olds ++ vs).toArray ++ Builtin.zeroCells zv.cells (grownCap w (n + m) c e - (n + m))) e))

omit [LoopSpec] in
theorem ASrc.ofSrc {t tx ty e : TypeId} {z m : Nat} {zv : Value} {i : TypeInfo} {vs : List Value} (hu : P.underlying t = some (.slice e)) (hz : szT P e = some z) (hi : P.info? e = some i) (hi4 : i.zero = some zv) (hS : Src P z tx u' m vs w) :
    ASrc P t tx ty e z zv i u' m vs w where
  len := hS.newsLen
  zero := fun A n c hnc hm => by subst hm; exact app_zero hu hz hS hnc
  room := fun a n c w' hfit _ e1 => by
    rcases hS.kind with ⟨e'', hk'⟩ | hk' <;> simp [Builtin.append_, run_underlying hu, run_underlying hk', run_sizeOf hz, hS.len, hfit, hS.cells, e1]
  grow := fun A n c olds hold _ hg h63 hfit _ => by
    have hi2 : i.size = z := by
      obtain ⟨i', q1, q2⟩ := szT_info hz
      rw [hi] at q1; cases q1; exact q2
    exact run_append_grow_src (P := P) w t tx ty e i zv hu hi hi4 A n c olds hold u' m vs (by rw [hi2]; exact hS) hg h63 hfit

omit [LoopSpec] in
theorem ASrc.ofZeros {t tx ty e : TypeId} {z m : Nat} {zv : Value} {i : TypeInfo} {k kk : IntKind} (hu : P.underlying t = some (.slice e)) (hk : P.underlying tx = some (.int k)) (hz : szT P e = some z) (hi : P.info? e = some i) (hi4 : i.zero = some zv) (hzs : zv.cells.size = z)
    (hz0 : 0 < z) (h63 : (m : Int) ≤ 9223372036854775807) (h48 : m * i.bytes ≤ 281474976710656) : ASrc P t tx ty e z zv i (.int kk m) m (Builtin.zeroCells zv.cells m).toList w where
  len := by rw [Array.length_toList, size_zeroCells, hzs]
  zero := fun A n c hnc hm => by
    subst hm
    have hw : IntKind.i64.wrap (0 : Int) = 0 := by rw [IntKind.wrap_i64]; omega
    cases A <;> simp [Builtin.append_, run_underlying hu, run_underlying hk, run_sizeOf hz, asInt, asIntOf, hw, typeInfo, hi, hnc, storeCells]
  room := fun a n c w' hfit hm e1 => by
    have hw : IntKind.i64.wrap (m : Int) = m := by rw [IntKind.wrap_i64]; omega
    have h48' : ¬ ((281474976710656 : Int) < (m : Int) * (i.bytes : Int)) := by
      rw [← Int.natCast_mul]
      omega
    have hmz : ¬ (m * z = 0) := by
      intro q; rcases Nat.mul_eq_zero.1 q with q | q <;> omega
    have hm0 : ¬ ((m : Int) < 0) := by omega
    have hm' : m ≠ 0 := by omega
    have hz' : z ≠ 0 := by omega
    simp [Builtin.append_, run_underlying hu, run_underlying hk, run_sizeOf hz, asInt, asIntOf, hw, typeInfo, hi, h48', hm0, hm', hz', hfit, zeroValue, hi4, e1]
    exact fun q => absurd q hmz
  grow := fun A n c olds hold hm hg h63' hfit h48' => by
    have hi2 : i.size = z := by
      obtain ⟨i', q1, q2⟩ := szT_info hz
      rw [hi] at q1; cases q1; exact q2
    have := Lib.run_append_grow_zeros (P := P) w t tx ty e i zv kk k hu hk hi hi4 A n c olds hold m hm (by omega) hg h63' h48' hfit
    rw [this]
    have e : (olds ++ (Builtin.zeroCells zv.cells m).toList).toArray = olds.toArray ++ Builtin.zeroCells zv.cells m := by
      apply Array.ext'; simp
    rw [e]

/-- Appending where a new row is made. -/
theorem app_grow {t tx ty e : TypeId} {z by_ m n c : Nat} {zv : Value} {A : Option Addr} {vs olds : List Value} {ys os : List PV} {h0 : AH} {ρ0 : Nat → Option (Nat × Nat)} (hs : SR ρ0 I h0 w) (hu : P.underlying t = some (.slice e)) (hz : szT P e = some z) (hb : bytesT P e = some by_)
    (hzv : zeroT P e = some zv) (hzs : zv.cells.size = z) (hS : ∀ i, P.info? e = some i → i.zero = some zv → ASrc P t tx ty e z zv i u' m vs w) (hl : vs.length = ys.length) (hy : ∀ j (hj : j < ys.length), VR ρ0 I w (vs.getD j undef) ys[j]) (ho : ∀ x ∈ ys, x.one = true)
    (hold : (Builtin.firstCells z n (.slice A n c)).run P w.drew = .ok olds.toArray w.drew) (hlo : olds.length = os.length) (hln : os.length = n * z) (hos : ∀ j (hj : j < os.length), VR ρ0 I w (olds.getD j undef) os[j]) (hoo : ∀ x ∈ os, x.one = true)
    (hm : 0 < m) (hg : c < n + m) (hroom : roomOk (n + m) (by_ + 1) = true) :
    ∃ u w', (Builtin.append_ #[t, tx] ty #[.slice A n c, u']).run P w = .ok u w' ∧ SR (upd ρ0 h0.nx (w.heap.size, 0)) I (h0.push (.cells (os ++ ys))) w' ∧ St ρ0 I h0 w (upd ρ0 h0.nx (w.heap.size, 0)) I (h0.push (.cells (os ++ ys))) w' ∧
      VR (upd ρ0 h0.nx (w.heap.size, 0)) I w' u (.rf z h0.nx 0 (n + m)) ∧ w'.heap[w.heap.size]? = some (.cells ((olds ++ vs).toArray ++ Builtin.zeroCells zv.cells (grownCap w (n + m) c e - (n + m))) e (0, 0)) := by
  obtain ⟨i, hi, hi2⟩ := szT_info hz
  have hi3 : i.bytes = by_ := by simp [bytesT, hi] at hb; exact hb
  have hi4 : i.zero = some zv := by simp [zeroT, hi] at hzv; exact hzv
  obtain ⟨r1, r2⟩ := roomOk_le hroom
  have hfit : Builtin.nextslicecap (n + m) c * i.bytes ≤ 281474976710656 := growslice_fits hg (by rw [hi3]; omega)
  have hrun := (hS i hi hi4).grow A n c olds (by rw [hi2]; exact hold) hm hg (by omega) hfit (by rw [hi3]; have := Nat.mul_le_mul_right by_ (Nat.le_add_left m n); omega)
  have hge := grownCap_ge w (n + m) c e
  generalize grownCap w (n + m) c e = N at hrun hge
  obtain ⟨s1, s2⟩ := hs.drew
  have hzl : (Builtin.zeroCells zv.cells (N - (n + m))).size = (N - (n + m)) * z := by rw [size_zeroCells, hzs]
  have hys : ys.length = m * z := by rw [← hl, (hS i hi hi4).len]
  have hcells : ∀ j (hj : j < (os ++ ys).length), VR ρ0 I w.drew (((olds ++ vs).toArray ++ Builtin.zeroCells zv.cells (N - (n + m))).getD j undef) (os ++ ys)[j] := by
    intro j hj
    have hj2 : j < os.length + ys.length := by simpa using hj
    have e1 : ((olds ++ vs).toArray ++ Builtin.zeroCells zv.cells (N - (n + m))).getD j undef = if j < os.length then olds.getD j undef else vs.getD (j - os.length) undef := by
      simp only [Array.getD_eq_getD_getElem?, Array.getElem?_append, List.size_toArray, List.length_append]
      rw [if_pos (by omega)]
      simp only [List.getElem?_toArray, List.getElem?_append, List.getD_eq_getElem?_getD]
      by_cases q : j < os.length
      · rw [if_pos (by omega), if_pos q]
      · rw [if_neg (by omega), if_neg q, hlo]
    rw [e1, List.getElem_append]
    by_cases q : j < os.length
    · rw [if_pos q]
      simp only [q, dite_true]
      exact (hos j q).step hs s2
    · rw [if_neg q]
      simp only [q, dite_false]
      exact (hy (j - os.length) (by omega)).step hs s2
  have hone : ∀ x ∈ os ++ ys, x.one = true := fun x hx => by
    rcases List.mem_append.1 hx with q | q
    · exact hoo x q
    · exact ho x q
  obtain ⟨g1, g2⟩ := s1.alloc (T := e) (C := (olds ++ vs).toArray ++ Builtin.zeroCells zv.cells (N - (n + m))) (cs := os ++ ys) (by simp; omega) hcells hone
  refine ⟨_, _, hrun, g1, s2.trans g2, ?_, heap_alloc_new w.drew _⟩
  have hsz : ((olds ++ vs).toArray ++ Builtin.zeroCells zv.cells (N - (n + m))).size = N * z := by
    simp only [Array.size_append, List.size_toArray, List.length_append, hzl, hlo, hln, hl, hys]
    rw [← Nat.add_mul, ← Nat.add_mul]
    congr 1
    omega
  have : VR (upd ρ0 h0.nx (w.heap.size, 0)) I (w.drew.alloc (.cells ((olds ++ vs).toArray ++ Builtin.zeroCells zv.cells (N - (n + m))) e)) (.slice (some ⟨w.heap.size, 0 + 0, none⟩) (n + m) N) (.rf z h0.nx 0 (n + m)) :=
    .rf (by simp [upd]) hge (heap_alloc_new w.drew _) (by rw [hsz]; omega)
  simpa using this
end
end Go.Ev

/- Each operation of the abstract machine stands for the machine's own: append, copy, clear, make, maps. -/
set_option linter.unusedVariables false
set_option linter.unusedSimpArgs false
namespace Go.Ev
variable [LoopSpec]
section
variable {P : Program} {ρ : Nat → Option (Nat × Nat)} {I : Nat → Prop} {h : AH} {w : World} {nt : Nat} {Bo : Nat × List Deferred × Bool} {a : Act} {s : Fr} {u u' : Value} {v X Y : PV}

theorem old_cells {z i o n b o' c : Nat} {cs : List PV} (hs : SR ρ I h w) (hb : h.blk i = some (.cells cs)) (hi : ρ i = some (b, o')) (hle : o + n * z ≤ cs.length) :
    ∃ olds : List Value, (Builtin.firstCells z n (.slice (some ⟨b, o' + o, none⟩) n c)).run P w.drew = .ok olds.toArray w.drew ∧ olds.length = ((cs.drop o).take (n * z)).length ∧
      (∀ j (hj : j < ((cs.drop o).take (n * z)).length), VR ρ I w (olds.getD j undef) ((cs.drop o).take (n * z))[j]) ∧ ∀ x ∈ (cs.drop o).take (n * z), x.one = true := by
  obtain ⟨C2, T2, g1, g2, g3, g4⟩ := own_row hs hb hi
  have hlen : ((cs.drop o).take (n * z)).length = n * z := by simp; omega
  refine ⟨(List.range (n * z)).map fun j => C2.getD (o' + (o + j)) undef, ?_, by rw [hlen]; simp, fun j hj => ?_, fun x hx => g4 x (List.mem_of_mem_drop (List.mem_of_mem_take hx))⟩
  · refine run_firstCells_some w.drew z n ⟨b, o' + o, none⟩ n c _ (by simp) (fun j x hx => ?_)
    simp only [List.getElem?_map, Option.map_eq_some_iff] at hx
    obtain ⟨k, hk, rfl⟩ := hx
    have hlt : j < n * z := by
      rcases Nat.lt_or_ge j (n * z) with q | q
      · exact q
      · rw [List.getElem?_eq_none (by simpa using q)] at hk; cases hk
    rw [List.getElem?_range hlt] at hk
    cases hk
    rw [Addr.add_mid, World.cell?_drew]
    simp only [World.cell?, g1]
    simp [Array.getD, Nat.add_assoc, show o' + (o + j) < C2.size by omega]
  · have hj' : j < n * z := by omega
    have := g3 (o + j) (by omega)
    have e1 : ((List.range (n * z)).map fun j => C2.getD (o' + (o + j)) undef).getD j undef = C2.getD (o' + (o + j)) undef := by simp [List.getD, hj']
    rw [e1, List.getElem_take, List.getElem_drop]
    exact this

/-- The block that comes of an append to a block of the element's type is of that type. -/
def AppTyped (ρ ρ' : Nat → Option (Nat × Nat)) (h : AH) (w' : World) (e : TypeId) (X : PV) : Prop :=
  (X = .emp ∨ ∃ z i n, X = .rf z i 0 n ∧ h.ty i = some e) → ∃ b C f, ρ' h.nx = some (b, 0) ∧ w'.heap[b]? = some (Obj.cells C e f)

theorem app_okL {t tx ty e : TypeId} {z by_ m : Nat} {zv : Value} {h' : AH} {vs : List Value} {ys : List PV} (hs : SR ρ I h w) (hu : P.underlying t = some (.slice e)) (hz : szT P e = some z) (hb : bytesT P e = some by_)
    (hzv : zeroT P e = some zv) (hzs : zv.cells.size = z) (hx : VR ρ I w u X) (hS : ∀ i, P.info? e = some i → i.zero = some zv → ASrc P t tx ty e z zv i u' m vs w) (hl : vs.length = ys.length) (hlm : ys.length = m * z)
    (hvs : ∀ j (hj : j < ys.length), VR ρ I w (vs.getD j undef) ys[j]) (ho : ∀ x ∈ ys, x.one = true)
    (ev : evAppL h z by_ X (some (m, ys)) = some (v, h')) :
    ∃ r w' ρ' I', (Builtin.append_ #[t, tx] ty #[u, u']).run P w = .ok r w' ∧ St ρ I h w ρ' I' h' w' ∧ SR ρ' I' h' w' ∧ VR ρ' I' w' r v ∧ (0 < m → AppTyped ρ ρ' h w' e X) := by
  obtain ⟨ti, hti, hti2⟩ := szT_info hz
  have hti4 : ti.zero = some zv := by simp [zeroT, hti] at hzv; exact hzv
  have hS' := hS ti hti hti4
  cases m with
  | zero =>
    have hX : isSl X = true ∧ v = X ∧ h' = h := by
      cases X <;> simp [evAppL] at ev <;> exact ⟨rfl, ev.1.symm, ev.2.symm⟩
    obtain ⟨h1, rfl, rfl⟩ := hX
    obtain ⟨A, n, c, rfl, hnc⟩ := slice_cap hx h1
    exact ⟨_, w, ρ, I, hS'.zero A n c hnc rfl, .refl, hs, hx, fun q => absurd q (Nat.lt_irrefl 0)⟩
  | succ m =>
    simp only [evAppL] at ev
    have grow0 : ∀ (h0 : AH) (A : Option Addr), SR ρ I h0 w → St ρ I h w ρ I h0 w → h0.nx = h.nx → roomOk (m + 1) (by_ + 1) = true → v = .rf z h0.nx 0 (m + 1) → h' = h0.push (.cells ys) →
        ∃ r w' ρ' I', (Builtin.append_ #[t, tx] ty #[.slice A 0 0, u']).run P w = .ok r w' ∧ St ρ I h w ρ' I' h' w' ∧ SR ρ' I' h' w' ∧ VR ρ' I' w' r v ∧ (0 < m + 1 → AppTyped ρ ρ' h w' e X) := by
      intro h0 A hs0 st0 hnx hroom hv hh
      subst hv hh
      have hold : (Builtin.firstCells z 0 (.slice A 0 0)).run P w.drew = .ok ([] : List Value).toArray w.drew := by
        cases A with
        | none => simp [Builtin.firstCells]
        | some ad => exact run_firstCells_some w.drew z 0 ad 0 0 [] (by simp) (fun j x hx => by simp at hx)
      obtain ⟨r, w', k1, k2, k3, k4, k5⟩ := app_grow (P := P) (tx := tx) (ty := ty) (A := A) (n := 0) (c := 0) (os := []) hs0 hu hz hb hzv hzs hS hl hvs ho hold rfl (by simp) (fun j hj => absurd hj (Nat.not_lt_zero _)) (fun x hx => by cases hx) (by omega) (by omega) (by simpa using hroom)
      simp only [List.nil_append, Nat.zero_add] at k2 k3 k4
      exact ⟨r, w', _, _, k1, st0.trans k3, k2, k4, fun _ _ => ⟨w.heap.size, _, _, by simp [upd, hnx], k5⟩⟩
    cases X with
    | emp =>
      simp only at ev
      split at ev
      · rename_i hroom
        cases ev
        cases hx
        exact grow0 h _ hs .refl rfl hroom rfl rfl
      · cases ev
    | rf z' i o n =>
      simp only at ev
      cases hr : h.row i with
      | none => simp [hr] at ev
      | some cs =>
        simp only [hr] at ev
        split at ev
        · rename_i hc
          obtain ⟨rfl, hle, hroom⟩ := hc
          cases ev
          have hbk := row_blk hr
          cases hx with
          | rf0 =>
            obtain ⟨d1, d2⟩ := hs.gone i
            have := grow0 (h.del i) ‹Option Addr› d1 d2 rfl (by simpa using hroom) (by rw [Nat.zero_add]; rfl) (by simp)
            simpa using this
          | rf hρ hn hw hcap =>
            rename_i b o' c C T f
            obtain ⟨C2, T2, g1, g2, g3, g4⟩ := own_row hs hbk hρ
            rw [hw] at g1
            cases g1
            by_cases hfit : n + (m + 1) ≤ c
            · -- in place
              have hvl : vs.length = (m + 1) * z' := hS'.len
              have hmul : (n + (m + 1)) * z' ≤ c * z' := Nat.mul_le_mul_right _ hfit
              rw [Nat.add_mul] at hmul
              obtain ⟨w', e1, e2, e3⟩ := write_ok (P := P) (k := o + n * z') (ds := ys) (vs := vs) hs hbk hρ hw hle hl (by omega) hvs ho
              obtain ⟨m1, m2⟩ := e2.moved (i := i) (o := o) (n := n * z' + ys.length) (cs := splice cs (o + n * z') ys) (by rw [AH.set_blk, if_pos rfl]) hρ (by simp [splice]; omega)
              have heq : ((h.set i (.cells (splice cs (o + n * z') ys))).del i).push (.cells (((splice cs (o + n * z') ys).drop o).take (n * z' + ys.length))) = (h.del i).push (.cells ((cs.drop o).take (n * z') ++ ys)) := by
                have hcut : ((splice cs (o + n * z') ys).drop o).take (n * z' + ys.length) = (cs.drop o).take (n * z') ++ ys := by
                  simp only [splice]
                  rw [List.append_assoc, List.drop_append_of_le_length (by simp; omega), List.drop_take]
                  rw [show o + n * z' - o = n * z' by omega, ← List.append_assoc]
                  rw [List.take_append_of_le_length (by simp; omega)]
                  rw [List.take_of_length_le (by simp; omega)]
                rw [hcut]
                refine AH.ext' ?_ ?_ ?_ rfl
                · rfl
                · rfl
                · intro j
                  simp only [AH.push_blk, AH.del_blk, AH.set_blk]
                  have e1 : ((h.set i (.cells (splice cs (o + n * z') ys))).del i).nx = h.nx := rfl
                  have e2 : (h.del i).nx = h.nx := rfl
                  rw [e1, e2]
                  by_cases q1 : j = h.nx
                  · rw [if_pos q1, if_pos q1]
                  · rw [if_neg q1, if_neg q1]
                    by_cases q2 : j = i
                    · rw [if_pos q2, if_pos q2]
                    · rw [if_neg q2, if_neg q2, if_neg q2]
              rw [heq] at m1 m2
              obtain ⟨C3, f3, r1, r2⟩ := e3.row b C T (0, 0) hw
              refine ⟨.slice (some ⟨b, o' + o, none⟩) (n + (m + 1)) c, w', _, _, ?_, e3.trans m2, m1, ?_, ?_⟩
              · have := hS'.room ⟨b, o' + o, none⟩ n c w' hfit (by omega) (by simpa [Addr.add_mid, Nat.add_assoc] using e1)
                exact this
              · have : VR (upd ρ (h.set i (.cells (splice cs (o + n * z') ys))).nx (b, o' + o)) I w' (.slice (some ⟨b, o' + o + 0, none⟩) (n + (m + 1)) c) (.rf z' h.nx 0 (n + (m + 1))) :=
                  .rf (by show upd ρ h.nx (b, o' + o) h.nx = _; simp [upd]) hfit r1 (by rw [r2]; omega)
                simpa using this
              · rintro _ (q | ⟨z1, i1, n1, q, qt⟩)
                · cases q
                · cases q
                  obtain ⟨b1, C1, f1, t1, t2⟩ := hs.typ _ _ qt
                  rw [hρ] at t1
                  cases t1
                  rw [hw] at t2
                  cases t2
                  exact ⟨b, C3, f3, by show upd ρ h.nx (b, 0 + 0) h.nx = _; simp [upd], r1⟩
            · obtain ⟨olds, k1, k2, k3, k4⟩ := old_cells (P := P) (c := c) hs hbk hρ hle
              obtain ⟨d1, d2⟩ := hs.gone i
              obtain ⟨r, w', j1, j2, j3, j4, j5⟩ := app_grow (P := P) (tx := tx) (ty := ty) (n := n) (c := c) (h0 := h.del i) d1 hu hz hb hzv hzs hS hl hvs ho k1 k2 (by simp; omega) k3 k4 (by omega) (by omega) hroom
              exact ⟨r, w', _, _, j1, d2.trans j3, j2, j4, fun _ _ => ⟨w.heap.size, _, _, by show upd ρ (h.del i).nx _ h.nx = _; simp [upd, AH.del], j5⟩⟩
        · cases ev
    | _ => simp at ev

theorem app_ok {t tx ty e e' : TypeId} {z by_ : Nat} {zv : Value} {h' : AH} (hs : SR ρ I h w) (hu : P.underlying t = some (.slice e)) (hk : P.underlying tx = some (.slice e')) (hz : szT P e = some z) (hb : bytesT P e = some by_)
    (hzv : zeroT P e = some zv) (hzs : zv.cells.size = z) (hx : VR ρ I w u X) (hy : VR ρ I w u' Y)
    (ev : evApp h z by_ X Y = some (v, h')) :
    ∃ r w' ρ' I', (Builtin.append_ #[t, tx] ty #[u, u']).run P w = .ok r w' ∧ St ρ I h w ρ' I' h' w' ∧ SR ρ' I' h' w' ∧ VR ρ' I' w' r v := by
  unfold evApp at ev
  cases hsrc : src h z Y with
  | none => simp [hsrc, evAppL] at ev
  | some p =>
    obtain ⟨m, ys⟩ := p
    obtain ⟨A', c', vs, rfl, hl, hlm, hS, hvs, ho⟩ := src_ok hs hy hsrc hk
    rw [hsrc] at ev
    obtain ⟨r, w', ρ', I', k1, k2, k3, k4, _⟩ := app_okL (P := P) (ty := ty) hs hu hz hb hzv hzs hx (fun i hi hi4 => ASrc.ofSrc hu hz hi hi4 hS) hl hlm hvs ho ev
    exact ⟨r, w', ρ', I', k1, k2, k3, k4⟩

omit [LoopSpec] in
theorem strPV_vr (b : ByteArray) : (byteCells b).length = (strPV b).length ∧ (∀ j (hj : j < (strPV b).length), VR ρ I w ((byteCells b).getD j undef) (strPV b)[j]) ∧ ∀ x ∈ strPV b, x.one = true := by
  refine ⟨by simp [byteCells, strPV], fun j hj => ?_, fun x hx => ?_⟩
  · have hj' : j < b.data.toList.length := by simpa [strPV] using hj
    have e1 : (byteCells b).getD j undef = .int .u8 (b.data.toList[j]).toNat := by
      simp only [byteCells, List.getD_eq_getElem?_getD, List.getElem?_map, List.getElem?_eq_getElem hj']
      rfl
    have e2 : (strPV b)[j] = .int .u8 (b.data.toList[j]).toNat := by simp only [strPV, List.getElem_map]
    rw [e1, e2]
    exact .int _ _
  · simp only [strPV, List.mem_map] at hx
    obtain ⟨c, _, rfl⟩ := hx
    rfl

theorem s2b_ok {p q e : TypeId} {b : ByteArray} (hs : SR ρ I h w) (hp : P.underlying p = some .string) (hq : P.underlying q = some (.slice e)) (he : P.underlying e = some (.int .u8)) :
    ∃ r w' I', (convert p q (.string b)).run P w = .ok r w' ∧ St ρ I h w ρ I' h w' ∧ SR ρ I' h w' ∧ VR ρ I' w' r (.sl b.size (strPV b)) := by
  have hrun := Lib.run_convert_string_bytes (P := P) w p q e b hp hq he
  obtain ⟨g1, g2⟩ := hs.grow (w' := Lib.bytesWorld w e b) (I' := fun k => I k ∨ k = w.heap.size) rfl rfl rfl (by rw [Lib.bytesWorld_size]; omega) (fun k hk => Lib.bytesWorld_at_old w e b k hk) (fun _ q => .inl q) (fun k hk => by
    rcases hk with q | q
    · exact .inl q
    · exact .inr (by omega)) (fun k hk => by
    rw [Lib.bytesWorld_size]
    rcases hk with q | q
    · have := hs.inI k q; omega
    · omega)
  obtain ⟨k1, k2, k3⟩ := strPV_vr (ρ := ρ) (I := fun k => I k ∨ k = w.heap.size) (w := Lib.bytesWorld w e b) b
  have hlen : (strPV b).length = b.size := by rw [← k1, byteCells_length]
  refine ⟨_, _, _, hrun, g2, g1, .sl (fun j => .int .u8 (b.data.toList.getD j 0).toNat) (grownCap_ge w b.size 0 e) (fun _ => ⟨w.heap.size, 0, rfl, .inr rfl, fun j hj => ?_⟩) (fun j hj => ?_) k3⟩
  · rw [Nat.zero_add]; exact Lib.bytesWorld_cell w e b j (by omega)
  · have hj' : j < b.data.toList.length := by simpa [strPV] using hj
    have e2 : (strPV b)[j] = .int .u8 (b.data.toList[j]).toNat := by simp only [strPV, List.getElem_map]
    have e1 : b.data.toList.getD j 0 = b.data.toList[j] := by simp [List.getD_eq_getElem?_getD, List.getElem?_eq_getElem hj']
    rw [e2, e1]
    exact .int _ _

/-- A block's type is noted. -/
theorem SR.tagged (hs : SR ρ I h w) {i : Nat} {t : TypeId} {b : Nat} {C : Array Value} {f : Nat × Nat} (hi : ρ i = some (b, 0)) (hw : w.heap[b]? = some (.cells C t f)) : SR ρ I (h.tag i (some t)) w where
  live := hs.live
  inj := hs.inj
  apart := hs.apart
  nx := hs.nx
  inI := hs.inI
  typ := fun j t' e => by
    simp only [AH.tag] at e
    by_cases q : j = i
    · subst q
      rw [if_pos rfl] at e
      cases e
      exact ⟨b, C, f, hi, hw⟩
    · rw [if_neg q] at e
      exact hs.typ j t' e

omit [LoopSpec] in
theorem St.tagged {ρ' : Nat → Option (Nat × Nat)} {I' : Nat → Prop} {h' : AH} {w' : World} (st : St ρ I h w ρ' I' h' w') (i : Nat) (t : Option Nat) : St ρ I h w ρ' I' (h'.tag i t) w' :=
  ⟨st.ext, st.imm, st.immNew, st.os, st.tape, st.output, st.size, st.keep, st.row, st.oth, st.own, st.nxle, st.low⟩

theorem appT_ok {t tx ty e : TypeId} {str : Bool} {z by_ : Nat} {zv : Value} {h' : AH} (hs : SR ρ I h w) (hu : P.underlying t = some (.slice e)) (hk : if str then P.underlying tx = some .string else ∃ e', P.underlying tx = some (.slice e')) (hz : szT P e = some z) (hb : bytesT P e = some by_)
    (hzv : zeroT P e = some zv) (hzs : zv.cells.size = z) (hx : VR ρ I w u X) (hy : VR ρ I w u' Y)
    (ev : evAppT h e str z by_ X Y = some (v, h')) :
    ∃ r w' ρ' I', (Builtin.append_ #[t, tx] ty #[u, u']).run P w = .ok r w' ∧ St ρ I h w ρ' I' h' w' ∧ SR ρ' I' h' w' ∧ VR ρ' I' w' r v := by
  unfold evAppT at ev
  split at ev
  case isFalse => cases ev
  rename_i hT
  -- what is appended
  obtain ⟨m, ys, vs, hsrc, hl, hlm, hS, hvs, ho⟩ : ∃ m ys vs, appSrc h str z Y = some (m, ys) ∧ vs.length = ys.length ∧ ys.length = m * z ∧ Src P z tx u' m vs w ∧
      (∀ j (hj : j < ys.length), VR ρ I w (vs.getD j undef) ys[j]) ∧ ∀ x ∈ ys, x.one = true := by
    unfold appSrc at ev ⊢
    cases str with
    | true =>
      simp only [if_true] at ev hk ⊢
      cases Y with
      | str b =>
        simp only at ev ⊢
        by_cases hz1 : z = 1
        · subst hz1
          cases hy
          obtain ⟨g1, g2, g3⟩ := strPV_vr (ρ := ρ) (I := I) (w := w) b
          exact ⟨b.size, strPV b, byteCells b, rfl, g1, by rw [← g1, byteCells_length, Nat.mul_one], Src.ofString w hk b, g2, g3⟩
        · rw [if_neg hz1] at ev; simp [evAppL] at ev
      | _ => simp [evAppL] at ev
    | false =>
      simp only [Bool.false_eq_true, if_false] at ev hk ⊢
      obtain ⟨e', hk⟩ := hk
      cases hsrc : src h z Y with
      | none => simp [hsrc, evAppL] at ev
      | some p =>
        obtain ⟨m, ys⟩ := p
        obtain ⟨A', c', vs, rfl, hl, hlm, hS, hvs, ho⟩ := src_ok hs hy hsrc hk
        exact ⟨m, ys, vs, rfl, hl, hlm, hS, hvs, ho⟩
  rw [hsrc] at ev
  have hXT : X = .emp ∨ ∃ z i n, X = .rf z i 0 n ∧ h.ty i = some e := by
    unfold tyOk at hT
    split at hT
    · exact .inl rfl
    · rename_i z i n; exact .inr ⟨z, i, n, rfl, by simpa using hT⟩
    · cases hT
  cases hL : evAppL h z by_ X (some (m, ys)) with
  | none => rw [hL] at ev; cases ev
  | some p =>
    obtain ⟨v0, h0⟩ := p
    rw [hL] at ev
    obtain ⟨r, w', ρ', I', k1, k2, k3, k4, k5⟩ := app_okL (P := P) (ty := ty) hs hu hz hb hzv hzs hx (fun i hi hi4 => ASrc.ofSrc hu hz hi hi4 hS) hl hlm hvs ho hL
    have same : v0 = v → h0 = h' → ∃ r w' ρ' I', (Builtin.append_ #[t, tx] ty #[u, u']).run P w = .ok r w' ∧ St ρ I h w ρ' I' h' w' ∧ SR ρ' I' h' w' ∧ VR ρ' I' w' r v := by
      rintro rfl rfl; exact ⟨r, w', ρ', I', k1, k2, k3, k4⟩
    cases v0 with
    | rf z' i o n =>
      simp only at ev
      split at ev
      · rename_i hi
        cases ev
        have hm : 0 < m := by
          rcases Nat.eq_zero_or_pos m with q | q
          · subst q
            exfalso
            simp only [evAppL] at hL
            rcases hXT with rfl | ⟨z1, i1, n1, rfl, ht⟩
            · cases hL
            · simp only [Option.some.injEq, Prod.mk.injEq, PV.rf.injEq] at hL
              obtain ⟨b, C, f, q1, _⟩ := hs.typ _ _ ht
              have := hs.nx _ _ q1
              omega
          · exact q
        obtain ⟨b, C, f, q1, q2⟩ := k5 hm hXT
        rw [← hi] at q1
        exact ⟨r, w', ρ', I', k1, k2.tagged _ _, by rw [hi] at q1 ⊢; exact k3.tagged q1 q2, k4⟩
      · cases ev; exact same rfl rfl
    | _ => cases ev; exact same rfl rfl

theorem appz_ok {t tx ty e : TypeId} {k : IntKind} {z by_ : Nat} {zv : Value} {zs : List PV} {h' : AH} (hs : SR ρ I h w) (hu : P.underlying t = some (.slice e)) (hk : P.underlying tx = some (.int k)) (hz : szT P e = some z) (hb : bytesT P e = some by_)
    (hzv : zeroT P e = some zv) (hzc : zeroCells P e = some zs) (hzs : zv.cells.size = z) (hx : VR ρ I w u X) (hy : VR ρ I w u' Y)
    (ev : evAppz h z by_ zs X Y = some (v, h')) :
    ∃ r w' ρ' I', (Builtin.append_ #[t, tx] ty #[u, u']).run P w = .ok r w' ∧ St ρ I h w ρ' I' h' w' ∧ SR ρ' I' h' w' ∧ VR ρ' I' w' r v := by
  unfold evAppz at ev
  split at ev
  case h_2 => cases ev
  rename_i kk m
  split at ev
  case isFalse => cases ev
  rename_i hc
  obtain ⟨h0, hz1, hz0⟩ := hc
  obtain ⟨zv', z1, z2⟩ := zeroCells_inv hzc
  rw [hzv] at z1
  cases z1
  cases hy
  obtain ⟨m, rfl⟩ := Int.eq_ofNat_of_zero_le h0
  have hr := reps_vra (n := m) (zero_vra (ρ := ρ) (I := I) (w := w) z2) (by omega)
  have hcells : Builtin.zeroCells zv.cells m = (Array.range (m * zs.length)).map fun i => zv.cells[i % zv.cells.size]! := by
    simp only [Builtin.zeroCells, hzs, hz1]
  rw [← hcells] at hr
  simp only [Int.toNat_natCast] at ev
  have hroom : (m : Int) ≤ 9223372036854775807 ∧ m * by_ ≤ 281474976710656 := by
    cases m with
    | zero => simp
    | succ m =>
      simp only [evAppL] at ev
      have key : ∀ n, roomOk (n + (m + 1)) (by_ + 1) = true → ((m + 1 : Nat) : Int) ≤ 9223372036854775807 ∧ (m + 1) * by_ ≤ 281474976710656 := by
        intro n hr
        obtain ⟨r1, r2⟩ := roomOk_le hr
        have := Nat.mul_le_mul_right by_ (Nat.le_add_left (m + 1) n)
        exact ⟨by omega, by omega⟩
      split at ev
      · split at ev
        · rename_i hr; exact key 0 (by simpa using hr)
        · cases ev
      · split at ev
        · split at ev
          · rename_i hr; exact key _ hr.2.2
          · cases ev
        · cases ev
      · cases ev
  obtain ⟨r, w', ρ', I', k1, k2, k3, k4, _⟩ := app_okL (P := P) (ty := ty) (ys := (List.replicate m zs).flatten) (vs := (Builtin.zeroCells zv.cells m).toList) hs hu hz hb hzv hzs hx
    (fun i hi hi4 => ASrc.ofZeros hu hk hz hi hi4 hzs hz0 hroom.1 (by
      have : i.bytes = by_ := by simp [bytesT, hi] at hb; exact hb
      rw [this]; exact hroom.2)) (by rw [Array.length_toList]; exact hr.1) (by simp [hz1]) (fun j hj => by
      have := hr.2.1 j hj
      simpa [Array.getD_eq_getD_getElem?, List.getD_eq_getElem?_getD] using this) hr.2.2 ev
  exact ⟨r, w', ρ', I', k1, k2, k3, k4⟩

theorem mkslice_ok {t e : TypeId} {z by_ : Nat} {zs : List PV} {l c : Int} (hs : SR ρ I h w) (hu : P.underlying t = some (.slice e)) (hz : szT P e = some z) (hb : bytesT P e = some by_) (hzc : zeroCells P e = some zs) (hl : zs.length = z ∧ 0 < z)
    (h0 : 0 ≤ l ∧ l ≤ c ∧ roomOk c.toNat (by_ + 1) = true) :
    ∃ r w' ρ' I', (Instr.makeSlice t (.int .i64 l) (.int .i64 c)).run P w = .ok r w' ∧ St ρ I h w ρ' I' (h.push (.cells (List.replicate l.toNat zs).flatten)) w' ∧ SR ρ' I' (h.push (.cells (List.replicate l.toNat zs).flatten)) w' ∧ VR ρ' I' w' r (.rf z h.nx 0 l.toNat) := by
  obtain ⟨zv, z1, z2⟩ := zeroCells_inv hzc
  obtain ⟨i, hi, hi2⟩ := szT_info hz
  have hi3 : i.bytes = by_ := by simp [bytesT, hi] at hb; exact hb
  have hi4 : i.zero = some zv := by simp [zeroT, hi] at z1; exact z1
  obtain ⟨h1, h2, h3⟩ := h0
  obtain ⟨r1, r2⟩ := roomOk_le h3
  have hbytes : (i.bytes : Int) * c ≤ 281474976710656 := by
    rw [hi3]
    have : (by_ : Int) * c = ((c.toNat * by_ : Nat) : Int) := by
      rw [Int.natCast_mul, Int.toNat_of_nonneg (by omega), Int.mul_comm]
    rw [this]
    omega
  have hrun := run_make (P := P) w t e i zv hu hi hi4 .i64 .i64 l c h1 h2 hbytes (by omega)
  have hzv : VRA ρ I w zv.cells zs := zero_vra z2
  have hzlen : zs.length = z := hl.1
  have hr := reps_vra (n := c.toNat) hzv (by omega)
  have hpos : 0 < zs.length := by omega
  have hget : ∀ j (hj : j < ((List.replicate l.toNat zs).flatten).length), VR ρ I w ((madeCells zv.cells (c.toNat * i.size)).getD j undef) ((List.replicate l.toNat zs).flatten)[j] := by
    intro j hj
    have hj1 : j < l.toNat * zs.length := by simpa using hj
    have hle : l.toNat * zs.length ≤ c.toNat * zs.length := Nat.mul_le_mul_right _ (by omega)
    have hj2 : j < ((List.replicate c.toNat zs).flatten).length := by simp; omega
    have e1 := flatten_get zs hpos l.toNat j
    have e2 := flatten_get zs hpos c.toNat j
    rw [if_pos hj1, List.getElem?_eq_getElem hj] at e1
    rw [if_pos (by omega), List.getElem?_eq_getElem hj2] at e2
    have e3 : ((List.replicate l.toNat zs).flatten)[j] = ((List.replicate c.toNat zs).flatten)[j] := Option.some.inj (e1.trans e2.symm)
    rw [e3]
    have := hr.2.1 j hj2
    rw [hzlen] at this
    rw [hi2]
    exact this
  obtain ⟨g1, g2⟩ := hs.alloc (T := e) (C := madeCells zv.cells (c.toNat * i.size)) (cs := (List.replicate l.toNat zs).flatten) (by
    rw [size_madeCells, hi2]
    simp only [List.length_flatten, List.map_replicate, List.sum_replicate_nat, hzlen]
    exact Nat.mul_le_mul_right _ (by omega)) hget (fun x hx => by
      simp only [List.mem_flatten, List.mem_replicate] at hx
      obtain ⟨l', ⟨_, rfl⟩, hx⟩ := hx
      exact hzv.2.2 x hx)
  refine ⟨_, _, _, _, hrun, g2, g1, ?_⟩
  have : VR (upd ρ h.nx (w.heap.size, 0)) I (w.alloc (.cells (madeCells zv.cells (c.toNat * i.size)) e)) (.slice (some ⟨w.heap.size, 0 + 0, none⟩) l.toNat c.toNat) (.rf z h.nx 0 l.toNat) :=
    .rf (by simp [upd]) (by omega) (heap_alloc_new w _) (by rw [size_madeCells, hi2]; omega)
  simpa using this

theorem mkslI_ok {t e : TypeId} {z by_ : Nat} {zs : List PV} {l c : Int} (hs : SR ρ I h w) (hu : P.underlying t = some (.slice e)) (hz : szT P e = some z) (hb : bytesT P e = some by_) (hzc : zeroCells P e = some zs) (hl : zs.length = z ∧ 0 < z)
    (h0 : 0 ≤ l ∧ l ≤ c ∧ roomOk c.toNat (by_ + 1) = true) :
    ∃ r w' ρ' I', (Instr.makeSlice t (.int .i64 l) (.int .i64 c)).run P w = .ok r w' ∧ St ρ I h w ρ' I' h w' ∧ SR ρ' I' h w' ∧ VR ρ' I' w' r (.sl l.toNat (List.replicate l.toNat zs).flatten) := by
  obtain ⟨zv, z1, z2⟩ := zeroCells_inv hzc
  obtain ⟨i, hi, hi2⟩ := szT_info hz
  have hi3 : i.bytes = by_ := by simp [bytesT, hi] at hb; exact hb
  have hi4 : i.zero = some zv := by simp [zeroT, hi] at z1; exact z1
  obtain ⟨h1, h2, h3⟩ := h0
  obtain ⟨r1, r2⟩ := roomOk_le h3
  have hbytes : (i.bytes : Int) * c ≤ 281474976710656 := by
    rw [hi3]
    have : (by_ : Int) * c = ((c.toNat * by_ : Nat) : Int) := by
      rw [Int.natCast_mul, Int.toNat_of_nonneg (by omega), Int.mul_comm]
    rw [this]
    omega
  have hrun := run_make (P := P) w t e i zv hu hi hi4 .i64 .i64 l c h1 h2 hbytes (by omega)
  have hzv : VRA ρ I w zv.cells zs := zero_vra z2
  have hzlen : zs.length = z := hl.1
  have hr := reps_vra (n := c.toNat) hzv (by omega)
  have hpos : 0 < zs.length := by omega
  have hget : ∀ j (hj : j < ((List.replicate l.toNat zs).flatten).length), VR ρ I w ((madeCells zv.cells (c.toNat * i.size)).getD j undef) ((List.replicate l.toNat zs).flatten)[j] := by
    intro j hj
    have hj1 : j < l.toNat * zs.length := by simpa using hj
    have hle : l.toNat * zs.length ≤ c.toNat * zs.length := Nat.mul_le_mul_right _ (by omega)
    have hj2 : j < ((List.replicate c.toNat zs).flatten).length := by simp; omega
    have e1 := flatten_get zs hpos l.toNat j
    have e2 := flatten_get zs hpos c.toNat j
    rw [if_pos hj1, List.getElem?_eq_getElem hj] at e1
    rw [if_pos (by omega), List.getElem?_eq_getElem hj2] at e2
    have e3 : ((List.replicate l.toNat zs).flatten)[j] = ((List.replicate c.toNat zs).flatten)[j] := Option.some.inj (e1.trans e2.symm)
    rw [e3]
    have := hr.2.1 j hj2
    rw [hzlen] at this
    rw [hi2]
    exact this
  obtain ⟨g1, g2⟩ := hs.allocI (.cells (madeCells zv.cells (c.toNat * i.size)) e)
  refine ⟨_, _, _, _, hrun, g2, g1, .sl (fun j => (madeCells zv.cells (c.toNat * i.size)).getD j undef) (by omega) (fun _ => ⟨w.heap.size, 0, rfl, .inr rfl, fun j hj => ?_⟩) (fun j hj => (hget j hj).step hs g2) (fun x hx => ?_)⟩
  · rw [Nat.zero_add, World.cell?_alloc_new]
    have hle : l.toNat * zs.length ≤ c.toNat * zs.length := Nat.mul_le_mul_right _ (by omega)
    have hj' : j < (madeCells zv.cells (c.toNat * i.size)).size := by
      rw [size_madeCells, hi2]
      have : j < l.toNat * zs.length := by simpa using hj
      rw [← hzlen]; omega
    simp [Array.getD, hj']
  · simp only [List.mem_flatten, List.mem_replicate] at hx
    obtain ⟨l', ⟨_, rfl⟩, hx⟩ := hx
    exact hzv.2.2 x hx

end
end Go.Ev

/- Each operation of the abstract machine stands for the machine's own: slices of slices, copies, maps, the rest; and all of them together. -/
set_option linter.unusedVariables false
set_option linter.unusedSimpArgs false
namespace Go.Ev
variable [LoopSpec]
section
variable {P : Program} {ρ : Nat → Option (Nat × Nat)} {I : Nat → Prop} {h : AH} {w : World} {nt : Nat} {Bo : Nat × List Deferred × Bool} {a : Act} {s : Fr} {u u' : Value} {v X Y : PV}

omit [LoopSpec] in
theorem slice2_ok {t e : TypeId} {z : Nat} {lo hi : Option Operand} {Lo Hi : Option Opd} (hu : P.underlying t = some (.slice e)) (hz : szT P e = some z) (hlo : opdO lo = some Lo) (hhi : opdO hi = some Hi) (hf : FR Bo ρ I w nt a s)
    (hx : VR ρ I w u X) (ev : evSlice z X (Lo.map (Opd.val s)) (Hi.map (Opd.val s)) none = some v) :
    ∃ r, (Instr.sliceAt t u (lo.map a.eval) (hi.map a.eval) none).run P w = .ok r w ∧ VR ρ I w r v := by
  unfold evSlice at ev
  simp only at ev
  cases X with
  | sl n cs =>
    simp only at ev
    cases e1 : bndO (Hi.map (Opd.val s)) n n with
    | none => simp [e1] at ev
    | some m =>
      simp only [e1] at ev
      cases e2 : bndO (Lo.map (Opd.val s)) 0 m with
      | none => simp [e2] at ev
      | some l =>
        simp only [e2] at ev
        cases ev
        cases hx with
        | sl us hn hA hv ho =>
          rename_i A c
          obtain ⟨b1, b2, b3⟩ := bounds2 (P := P) (isS := true) hlo hhi hf hn e1 e2
          refine ⟨.slice (if c = l then A else A.map (·.add (l * z))) (m - l) (c - l), by simp [Instr.sliceAt, Instr.slice, run_underlying hu, b1, run_sizeOf hz], ?_⟩
          refine .sl (fun j => us (l * z + j)) (by omega) (fun hne => ?_) (fun j hj => ?_) (fun x hx => ho x (List.mem_of_mem_drop (List.mem_of_mem_take hx)))
          · have hne' : cs ≠ [] := by rintro rfl; simp at hne
            obtain ⟨b, o, rfl, hI, hc⟩ := hA hne'
            have hlt : l < m := by
              rcases Nat.lt_or_ge l m with q | q
              · exact q
              · have : m - l = 0 := by omega
                simp [this] at hne
            rw [if_neg (by omega)]
            refine ⟨b, o + l * z, by simp [Addr.add_mid], hI, fun j hj => ?_⟩
            simp only [List.length_take, List.length_drop] at hj
            rw [Nat.add_assoc]
            exact hc _ (by omega)
          · simp only [List.length_take, List.length_drop] at hj
            rw [List.getElem_take, List.getElem_drop]
            exact hv _ _
  | emp =>
    simp only at ev
    cases e1 : bndO (Hi.map (Opd.val s)) 0 0 with
    | none => simp [e1] at ev
    | some m =>
      simp only [e1] at ev
      cases e2 : bndO (Lo.map (Opd.val s)) 0 m with
      | none => simp [e2] at ev
      | some l =>
        simp only [e2] at ev
        cases ev
        cases hx
        rename_i A
        obtain ⟨b1, b2, b3⟩ := bounds2 (P := P) (isS := true) hlo hhi hf (Nat.le_refl 0) e1 e2
        have hm : m = 0 := by omega
        have hl : l = 0 := by omega
        subst hm hl
        exact ⟨_, by simp [Instr.sliceAt, Instr.slice, run_underlying hu, b1, run_sizeOf hz]; rfl, .emp⟩
  | rf z' i o n =>
    simp only at ev
    split at ev
    · rename_i hzz
      subst hzz
      cases e1 : bndO (Hi.map (Opd.val s)) n n with
      | none => simp [e1] at ev
      | some m =>
        simp only [e1] at ev
        cases e2 : bndO (Lo.map (Opd.val s)) 0 m with
        | none => simp [e2] at ev
        | some l =>
          simp only [e2] at ev
          cases ev
          cases hx with
          | rf0 =>
            obtain ⟨b1, b2, b3⟩ := bounds2 (P := P) (isS := true) hlo hhi hf (Nat.le_refl 0) e1 e2
            have hm : m = 0 := by omega
            have hl : l = 0 := by omega
            subst hm hl
            exact ⟨_, by simp [Instr.sliceAt, Instr.slice, run_underlying hu, b1, run_sizeOf hz]; rfl, .rf0⟩
          | rf hρ hn hw hc =>
            rename_i b o' c C T f
            obtain ⟨b1, b2, b3⟩ := bounds2 (P := P) (isS := true) hlo hhi hf hn e1 e2
            by_cases hcl : c = l
            · have h0 : m - l = 0 := by omega
              rw [h0]
              refine ⟨.slice (some ⟨b, o' + o, none⟩) (m - l) (c - l), by simp [Instr.sliceAt, Instr.slice, run_underlying hu, b1, run_sizeOf hz]; simp [hcl], ?_⟩
              rw [h0, show c - l = 0 by omega]
              exact .rf0
            · refine ⟨.slice (some ⟨b, o' + (o + l * z'), none⟩) (m - l) (c - l), by simp [Instr.sliceAt, Instr.slice, run_underlying hu, b1, run_sizeOf hz, hcl, Addr.add_mid, Nat.add_assoc], ?_⟩
              refine .rf hρ (by omega) hw ?_
              have : c * z' = l * z' + (c - l) * z' := by rw [← Nat.add_mul]; congr 1; omega
              omega
    · cases ev
  | _ => simp at ev

omit [LoopSpec] in
/-- Bounds with a third index: all that is wanted is that nothing is left. -/
theorem bounds3 {isS : Bool} {n c l m k : Nat} {lo : Option Operand} {x y : Operand} {Lo : Option Opd} {X Y : Opd} (hlo : opdO lo = some Lo) (hX : opd x = some X) (hY : opd y = some Y) (hf : FR Bo ρ I w nt a s) (hnc : n ≤ c)
    (e0 : bnd (Y.val s) n = some k) (e1 : bnd (X.val s) k = some m) (e2 : bndO (Lo.map (Opd.val s)) 0 m = some l) :
    (Instr.sliceBounds isS n c (lo.map a.eval) (some (a.eval x)) (some (a.eval y))).run P w = .ok (l, m, k) w ∧ l ≤ m ∧ m ≤ k ∧ k ≤ n := by
  have up : ∀ {X : PV} {y y' r : Nat}, bnd X y = some r → y ≤ y' → bnd X y' = some r := by
    intro X y y' r e hy
    cases X with
    | int k i =>
      simp only [bnd] at e ⊢
      split at e
      · rename_i hi'
        rw [if_pos ⟨hi'.1, by omega⟩]
        exact e
      · cases e
    | _ => simp [bnd] at e
  have hk := (bnd_ok (P := P) (code := .sliceB) e0 (opd_vr hY hf)).2
  have hm := (bnd_ok (P := P) (code := .sliceB) e1 (opd_vr hX hf)).2
  have hK : ∀ code, (Instr.sliceBound (a.eval y) c code).run P w = .ok k w := fun code => (bnd_ok (up e0 hnc) (opd_vr hY hf)).1
  have hM : ∀ code, (Instr.sliceBound (a.eval x) k code).run P w = .ok m w := fun code => (bnd_ok e1 (opd_vr hX hf)).1
  have hL : l ≤ m ∧ (lo = none ∧ l = 0 ∨ ∃ z, lo = some z ∧ ∀ code, (Instr.sliceBound (a.eval z) m code).run P w = .ok l w) := by
    cases lo with
    | none =>
      simp [opdO] at hlo
      subst hlo
      simp only [Option.map_none, bndO] at e2
      cases e2
      exact ⟨Nat.zero_le _, .inl ⟨rfl, rfl⟩⟩
    | some z =>
      simp only [opdO, Option.map_eq_some_iff] at hlo
      obtain ⟨Z, hZ, rfl⟩ := hlo
      simp only [Option.map_some, bndO] at e2
      exact ⟨(bnd_ok (P := P) (code := .sliceB) e2 (opd_vr hZ hf)).2, .inr ⟨z, rfl, fun code => (bnd_ok e2 (opd_vr hZ hf)).1⟩⟩
  refine ⟨?_, hL.1, hm, hk⟩
  rcases hL.2 with ⟨rfl, rfl⟩ | ⟨z, rfl, hz⟩ <;> simp [Instr.sliceBounds, *]

omit [LoopSpec] in
theorem slice3_ok {t e : TypeId} {z : Nat} {lo hi : Option Operand} {y : Operand} {Lo Hi : Option Opd} {Y' : Opd} (hu : P.underlying t = some (.slice e)) (hz : szT P e = some z) (hlo : opdO lo = some Lo) (hhi : opdO hi = some Hi) (hy : opd y = some Y') (hf : FR Bo ρ I w nt a s)
    (hx : VR ρ I w u X) (ev : evSlice z X (Lo.map (Opd.val s)) (Hi.map (Opd.val s)) (some (Y'.val s)) = some v) :
    ∃ r, (Instr.sliceAt t u (lo.map a.eval) (hi.map a.eval) (some (a.eval y))).run P w = .ok r w ∧ VR ρ I w r v := by
  have fin : ∀ (A : Option Addr) (n c k m l : Nat) (x : Operand) (Xo : Opd), u = .slice A n c → n ≤ c → hi = some x → opd x = some Xo → Hi = some Xo → bnd (Y'.val s) n = some k → bnd (Xo.val s) k = some m → bndO (Lo.map (Opd.val s)) 0 m = some l → l = k →
      ∃ r, (Instr.sliceAt t u (lo.map a.eval) (hi.map a.eval) (some (a.eval y))).run P w = .ok r w ∧ VR ρ I w r .emp := by
    rintro A n c k m l x Xo rfl hnc rfl hXo rfl e0 e1 e2 rfl
    obtain ⟨b1, b2, b3, b4⟩ := bounds3 (P := P) (isS := true) hlo hXo hy hf hnc e0 e1 e2
    have hm : m = l := by omega
    subst hm
    refine ⟨.slice A 0 0, ?_, .emp⟩
    simp [Instr.sliceAt, Instr.slice, run_underlying hu, b1, run_sizeOf hz]
  have hget : ∀ {k m : Nat}, bndO (Hi.map (Opd.val s)) 0 k = some m → (Hi.map (Opd.val s)).isSome → ∃ x Xo, hi = some x ∧ opd x = some Xo ∧ Hi = some Xo ∧ bnd (Xo.val s) k = some m := by
    intro k m e hs
    cases hi with
    | none => simp [opdO] at hhi; subst hhi; simp at hs
    | some x =>
      simp only [opdO, Option.map_eq_some_iff] at hhi
      obtain ⟨Xo, hXo, rfl⟩ := hhi
      simp only [Option.map_some, bndO] at e
      exact ⟨x, Xo, rfl, hXo, rfl, e⟩
  unfold evSlice at ev
  simp only at ev
  have gen : ∀ n : Nat, (∃ A c, u = .slice A n c ∧ n ≤ c) → (match bnd (Y'.val s) n with
      | some m => match bndO (Hi.map (Opd.val s)) 0 m, Hi.map (Opd.val s) with
        | some h, some _ => match bndO (Lo.map (Opd.val s)) 0 h with
          | some l => if l = m then some PV.emp else none
          | none => none
        | _, _ => none
      | none => none) = some v → ∃ r, (Instr.sliceAt t u (lo.map a.eval) (hi.map a.eval) (some (a.eval y))).run P w = .ok r w ∧ VR ρ I w r v := by
    rintro n ⟨A, c, hu', hnc⟩ ev
    cases e0 : bnd (Y'.val s) n with
    | none => simp [e0] at ev
    | some k =>
      simp only [e0] at ev
      cases e1 : bndO (Hi.map (Opd.val s)) 0 k with
      | none => simp [e1] at ev
      | some m =>
        have e1' := e1
        cases e3 : Hi.map (Opd.val s) with
        | none => rw [e3] at e1; simp only [e3, e1] at ev; cases ev
        | some q =>
          rw [e3] at e1
          simp only [e3, e1] at ev
          cases e2 : bndO (Lo.map (Opd.val s)) 0 m with
          | none => simp [e2] at ev
          | some l =>
            simp only [e2] at ev
            split at ev
            · rename_i hlk
              cases ev
              obtain ⟨x, Xo, h1, h2, h3, h4⟩ := hget e1' (by rw [e3]; rfl)
              exact fin A n c k m l x Xo hu' hnc h1 h2 h3 e0 h4 e2 hlk
            · cases ev
  cases X with
  | sl n cs =>
    cases hx with
    | sl us hn _ _ _ => exact gen n ⟨_, _, rfl, hn⟩ ev
  | rf z' i o n =>
    have : ∃ A c, u = .slice A n c ∧ n ≤ c := by
      cases hx with
      | rf _ hn _ _ => exact ⟨_, _, rfl, hn⟩
      | rf0 => exact ⟨_, _, rfl, Nat.le_refl _⟩
    exact gen n this ev
  | emp =>
    cases hx
    rename_i A
    refine gen 0 ⟨_, _, rfl, Nat.le_refl _⟩ ?_
    simp only at ev
    cases e0 : bnd (Y'.val s) 0 with
    | none => simp [e0] at ev
    | some k =>
      simp only [e0] at ev ⊢
      cases e1 : bndO (Hi.map (Opd.val s)) 0 k with
      | none => simp [e1] at ev
      | some m =>
        have e1' := e1
        cases e3 : Hi.map (Opd.val s) with
        | none => rw [e3] at e1; simp only [e3, e1] at ev; cases ev
        | some q =>
          rw [e3] at e1
          simp only [e3, e1] at ev
          simp only [e1]
          cases e2 : bndO (Lo.map (Opd.val s)) 0 m with
          | none => simp [e2] at ev
          | some l =>
            simp only [e2] at ev
            simp only [e2]
            have hk : k = 0 := by
              have := (bnd_ok (P := P) (code := .sliceB) e0 (opd_vr hy hf)).2
              omega
            obtain ⟨x, Xo, h1, h2, h3, h4⟩ := hget e1' (by rw [e3]; rfl)
            have hm := (bnd_ok (P := P) (code := .sliceB) h4 (opd_vr h2 hf)).2
            have hl : l ≤ m := by
              cases lo with
              | none => simp [opdO] at hlo; subst hlo; simp only [Option.map_none, bndO] at e2; cases e2; omega
              | some zz =>
                simp only [opdO, Option.map_eq_some_iff] at hlo
                obtain ⟨Z, hZ, rfl⟩ := hlo
                simp only [Option.map_some, bndO] at e2
                exact (bnd_ok (P := P) (code := .sliceB) e2 (opd_vr hZ hf)).2
            rw [if_pos (by omega)]
            exact ev
  | _ => simp at ev

omit [LoopSpec] in
theorem slstr_ok {t : TypeId} {lo hi : Option Operand} {Lo Hi : Option Opd} (hu : P.underlying t = some .string) (hlo : opdO lo = some Lo) (hhi : opdO hi = some Hi) (hf : FR Bo ρ I w nt a s)
    (hx : VR ρ I w u X) (ev : evSlstr X (Lo.map (Opd.val s)) (Hi.map (Opd.val s)) = some v) :
    ∃ r, (Instr.sliceAt t u (lo.map a.eval) (hi.map a.eval) none).run P w = .ok r w ∧ VR ρ I w r v := by
  unfold evSlstr at ev
  split at ev
  · rename_i b
    rw [hx.str_inv]
    cases e1 : bndO (Hi.map (Opd.val s)) b.size b.size with
    | none => simp [e1] at ev
    | some m =>
      simp only [e1] at ev
      cases e2 : bndO (Lo.map (Opd.val s)) 0 m with
      | none => simp [e2] at ev
      | some l =>
        simp only [e2] at ev
        cases ev
        obtain ⟨b1, b2, b3⟩ := bounds2 (P := P) (isS := false) hlo hhi hf (Nat.le_refl b.size) e1 e2
        exact ⟨.string (b.extract l m), by simp [Instr.sliceAt, Instr.slice, run_underlying hu, b1], .str _⟩
  · cases ev
end
end Go.Ev

/- Each operation of the abstract machine stands for the machine's own: maps, clear, built values, the rest. -/
set_option linter.unusedVariables false
set_option linter.unusedSimpArgs false
namespace Go.Ev
variable [LoopSpec]
open Go.MapKept (bytes_beq run_findKey heap_set)
section
variable {P : Program} {ρ : Nat → Option (Nat × Nat)} {I : Nat → Prop} {h : AH} {w : World} {nt : Nat} {Bo : Nat × List Deferred × Bool} {a : Act} {s : Fr} {u u' : Value} {v X Y : PV}

omit [LoopSpec] in
/-- The key's kind at its type. -/
theorem kind_cases {t : TypeId} (hb : isBasic P t = true) (hk : kindOk (kindT P t) X = true) (hv : VR ρ I w u X) :
    (∃ k k' n, P.underlying t = some (.int k) ∧ u = .int k' n ∧ X = .int k' n) ∨ (∃ b, P.underlying t = some .bool ∧ u = .bool b ∧ X = .bool b) ∨ (∃ b, P.underlying t = some .string ∧ u = .string b ∧ X = .str b) := by
  have hd : (∃ k, P.underlying t = some (.int k)) ∨ P.underlying t = some .bool ∨ P.underlying t = some .string := by
    unfold isBasic at hb
    split at hb
    · rename_i k hu; exact .inl ⟨k, hu⟩
    · rename_i hu; exact .inr (.inr hu)
    · rename_i hu; exact .inr (.inl hu)
    · cases hb
  rcases hd with ⟨k, hu⟩ | hu | hu
  · have : kindT P t = 0 := by simp [kindT, hu]
    rw [this] at hk
    cases X <;> simp [kindOk] at hk
    exact .inl ⟨k, _, _, hu, hv.int_inv, rfl⟩
  · have : kindT P t = 1 := by simp [kindT, hu]
    rw [this] at hk
    cases X <;> simp [kindOk] at hk
    exact .inr (.inl ⟨_, hu, hv.bool_inv, rfl⟩)
  · have : kindT P t = 2 := by simp [kindT, hu]
    rw [this] at hk
    cases X <;> simp [kindOk] at hk
    exact .inr (.inr ⟨_, hu, hv.str_inv, rfl⟩)

omit [LoopSpec] in
theorem checkKey_ok {t : TypeId} (hb : isBasic P t = true) (hk : kindOk (kindT P t) X = true) (hv : VR ρ I w u X) (e : Bool) (n : Nat) : (Instr.checkKey e (n + 1) t u).run P w = .ok () w := by
  rcases kind_cases hb hk hv with ⟨k, k', m, hu, rfl, rfl⟩ | ⟨b, hu, rfl, rfl⟩ | ⟨b, hu, rfl, rfl⟩ <;> simp [Instr.checkKey, run_underlying hu]

omit [LoopSpec] in
theorem sameNow_ok {t : TypeId} {d : TypeDesc} {K : PV} {x : Value} {r : Bool} (hd : P.underlying t = some d) (hb : isBasic P t = true) (hk : kindOk (kindT P t) X = true) (hv : VR ρ I w u X) (hx : VR ρ I w x K) (e : cellEq X K = some r) :
    Instr.sameNow d u x = some r ∧ (r = true → x = u) := by
  rcases kind_cases hb hk hv with ⟨k, k', m, hu, rfl, rfl⟩ | ⟨b, hu, rfl, rfl⟩ | ⟨b, hu, rfl, rfl⟩
  · rw [hd] at hu
    cases hu
    cases K <;> simp [cellEq] at e
    obtain ⟨rfl, rfl⟩ := e
    rw [hx.int_inv]
    exact ⟨by simp [Instr.sameNow], fun h => by simp at h; rw [h]⟩
  · rw [hd] at hu
    cases hu
    cases K <;> simp [cellEq] at e
    subst e
    rw [hx.bool_inv]
    exact ⟨by simp [Instr.sameNow], fun h => by simp at h; rw [h]⟩
  · rw [hd] at hu
    cases hu
    cases K <;> simp [cellEq] at e
    subst e
    rw [hx.str_inv]
    rename_i c
    refine ⟨?_, fun h => by simp at h; rw [h]⟩
    have : (b == c) = decide (b = c) := by
      rw [Bool.eq_iff_iff, bytes_beq, decide_eq_true_eq]
    simp [Instr.sameNow, this]

omit [LoopSpec] in
theorem findNow_ok {t : TypeId} {d : TypeDesc} (hd : P.underlying t = some d) (hb : isBasic P t = true) (hk : kindOk (kindT P t) X = true) (hv : VR ρ I w u X) :
    ∀ (es : List (PV × PV)) (l : List MapEntry) (i : Nat) (r : Option (Nat × PV)), l.length = es.length → (∀ j (hj : j < es.length) (hj' : j < l.length), VR ρ I w l[j].key es[j].1 ∧ VR ρ I w l[j].val es[j].2) → findK X es i = some r →
      (r = none ∧ Instr.findNow d u l i = some none) ∨ ∃ j x y e, r = some (i + j, x) ∧ Instr.findNow d u l i = some (some (i + j, y)) ∧ VR ρ I w y x ∧ l[j]? = some e ∧ e.key = u
  | [], l, i, r, hl, _, e => by
    cases l with
    | nil => cases e; exact .inl ⟨rfl, rfl⟩
    | cons _ _ => simp at hl
  | (K, V) :: es, l, i, r, hl, hr, e => by
    cases l with
    | nil => simp at hl
    | cons m l =>
      obtain ⟨h1, h2⟩ := hr 0 (by simp) (by simp)
      simp only [List.getElem_cons_zero] at h1 h2
      simp only [findK] at e
      cases hc : cellEq X K with
      | none => simp [hc] at e
      | some b =>
        obtain ⟨g1, g2⟩ := sameNow_ok hd hb hk hv h1 hc
        cases b with
        | true =>
          simp only [hc] at e
          cases e
          exact .inr ⟨0, V, m.val, m, rfl, by simp [Instr.findNow, g1], h2, rfl, g2 rfl⟩
        | false =>
          simp only [hc] at e
          have ih := findNow_ok hd hb hk hv es l (i + 1) r (by simpa using hl) (fun j hj hj' => by
            have := hr (j + 1) (by simp; omega) (by simp; omega)
            simpa using this) e
          rcases ih with ⟨q1, q2⟩ | ⟨j, x, y, en, q1, q2, q3, q4, q5⟩
          · exact .inl ⟨q1, by simp [Instr.findNow, g1, q2]⟩
          · exact .inr ⟨j + 1, x, y, en, by rw [q1]; congr 2; omega, by simp [Instr.findNow, g1, q2]; omega, q3, by simpa using q4, q5⟩

theorem own_map (hs : SR ρ I h w) {i b o : Nat} {es : List (PV × PV)} (hb : h.blk i = some (.map es)) (hi : ρ i = some (b, o)) :
    ∃ M clock, w.heap[b]? = some (.map M clock) ∧ M.size = es.length ∧ ∀ j (hj : j < es.length) (hj' : j < M.size), VR ρ I w M[j].key es[j].1 ∧ VR ρ I w M[j].val es[j].2 := by
  obtain ⟨b2, o2, g2, hB⟩ := hs.live i _ hb
  rw [hi] at g2
  cases g2
  exact hB

theorem lkp_ok {t kt et : TypeId} {zv : Value} {zp : PV} {ok : Bool} (hs : SR ρ I h w) (hm : P.underlying t = some (.map kt et)) (hb : isBasic P kt = true) (hz : zeroT P et = some zv) (hzp : cst zv = some zp) (hx : VR ρ I w u X) (hy : VR ρ I w u' Y)
    (ev : evLkp h (kindT P kt) zp ok X Y = some v) : ∃ r, (Instr.lookup t u u' ok).run P w = .ok r w ∧ VR ρ I w r v := by
  have hd : ∃ d, P.underlying kt = some d := by
    cases e : P.underlying kt with
    | none => simp [isBasic, e] at hb
    | some d => exact ⟨d, rfl⟩
  obtain ⟨d, hd⟩ := hd
  unfold evLkp at ev
  split at ev
  · rename_i hk
    have ck : ∀ e, (Instr.checkKey e 10000 kt u').run P w = .ok () w := fun e => checkKey_ok (n := 9999) hb hk hy e
    have fin : ∀ (r : Option PV) (x : Value), VR ρ I w x (r.getD zp) → VR ρ I w (if ok then .tuple #[x, .bool r.isSome] else x) (lkpFin zp ok r) := by
      intro r x hx
      unfold lkpFin
      cases ok with
      | false => simpa using hx
      | true =>
        simp only [if_true]
        refine .tup rfl fun j hj => ?_
        have : j = 0 ∨ j = 1 := by simp at hj; omega
        rcases this with rfl | rfl
        · exact hx
        · exact .bool _
    cases X with
    | nilm =>
      simp only at ev
      cases ev
      cases hx
      exact ⟨_, by simp [Instr.lookup, run_underlying hm, ck, run_findKey (P := P) (w := w) hd (show Instr.findNow d u' [] 0 = some none from rfl), run_zeroValue hz], fin none zv (cst_vr hzp)⟩
    | mp i =>
      simp only at ev
      cases hbk : h.blk i with
      | none => simp [hbk] at ev
      | some B =>
        cases B with
        | cells cs => simp [hbk] at ev
        | loop st => simp [hbk] at ev
        | map es =>
          simp only [hbk, Option.map_eq_some_iff] at ev
          obtain ⟨r, hr, rfl⟩ := ev
          cases hx with
          | mp hρ =>
            rename_i b o
            obtain ⟨M, clock, g1, g2, g3⟩ := own_map hs hbk hρ
            have hfind := findNow_ok (P := P) hd hb hk hy es M.toList 0 r (by simpa using g2) (fun j hj hj' => by simpa using g3 j hj (by simpa using hj')) hr
            rcases hfind with ⟨rfl, q2⟩ | ⟨j, x, y, e, rfl, q2, q3, q4, q5⟩
            · exact ⟨_, by simp [Instr.lookup, run_underlying hm, Go.MapKept.run_getObj_map g1, ck, run_findKey (P := P) (w := w) hd q2, run_zeroValue hz], fin none zv (cst_vr hzp)⟩
            · exact ⟨_, by simp [Instr.lookup, run_underlying hm, Go.MapKept.run_getObj_map g1, ck, run_findKey (P := P) (w := w) hd q2], fin (some x) y q3⟩
    | _ => simp at ev
  · cases ev

theorem upd_ok {t kt et : TypeId} {u'' : Value} {Z : PV} {h' : AH} (hs : SR ρ I h w) (hm : P.underlying t = some (.map kt et)) (hb : isBasic P kt = true) (hx : VR ρ I w u X) (hy : VR ρ I w u' Y) (hz : VR ρ I w u'' Z)
    (ev : evUpd h (kindT P kt) X Y Z = some (v, h')) : ∃ w', (Instr.mapUpdate t u u' u'').run P w = .ok () w' ∧ SR ρ I h' w' ∧ St ρ I h w ρ I h' w' ∧ v = .undef := by
  have hd : ∃ d, P.underlying kt = some d := by
    cases e : P.underlying kt with
    | none => simp [isBasic, e] at hb
    | some d => exact ⟨d, rfl⟩
  obtain ⟨d, hd⟩ := hd
  unfold evUpd at ev
  cases X with
  | mp i =>
    simp only at ev
    cases hbk : h.blk i with
    | none => simp [hbk] at ev
    | some B =>
      cases B with
      | cells cs => simp [hbk] at ev
      | loop st => simp [hbk] at ev
      | map es =>
        simp only [hbk] at ev
        split at ev
        · rename_i hk
          have ck : ∀ e, (Instr.checkKey e 10000 kt u').run P w = .ok () w := fun e => checkKey_ok (n := 9999) hb hk hy e
          cases hx with
          | mp hρ =>
            rename_i b o
            obtain ⟨M, clock, g1, g2, g3⟩ := own_map hs hbk hρ
            have hlt : b < w.heap.size := (Array.getElem?_eq_some_iff.1 g1).1
            have keyBits : ∀ n, Instr.sameBits n u' u' = true := by
              intro n
              rcases kind_cases hb hk hy with ⟨k, k', m, hu, rfl, rfl⟩ | ⟨b, hu, rfl, rfl⟩ | ⟨b, hu, rfl, rfl⟩ <;> simp [Instr.sameBits, bytes_beq]
            have wr : ∀ (M' : Array MapEntry) (c' : Nat) (es' : List (PV × PV)), M'.size = es'.length → (∀ j (hj : j < es'.length) (hj' : j < M'.size), VR ρ I w M'[j].key es'[j].1 ∧ VR ρ I w M'[j].val es'[j].2) →
                SR ρ I (h.set i (.map es')) { w with heap := w.heap.setIfInBounds b (.map M' c') } ∧ St ρ I h w ρ I (h.set i (.map es')) { w with heap := w.heap.setIfInBounds b (.map M' c') } := by
              intro M' c' es' e1 e2
              refine hs.wrote (by rw [hbk]; simp) hρ rfl rfl rfl (by simp) (fun q hq => (heap_set g1).2 q hq) (fun C T f e => by rw [g1] at e; cases e) (.map g1) fun st => ?_
              exact ⟨M', c', (heap_set g1).1, e1, fun j hj hj' => ⟨(e2 j hj hj').1.step hs st, (e2 j hj hj').2.step hs st⟩⟩
            cases hf : findK Y es 0 with
            | none => simp [hf] at ev
            | some r =>
              have hfind := findNow_ok (P := P) hd hb hk hy es M.toList 0 r (by simpa using g2) (fun j hj hj' => by simpa using g3 j hj (by simpa using hj')) hf
              rcases hfind with ⟨rfl, q2⟩ | ⟨j, x, y, e, rfl, q2, q3, q4, q5⟩
              · simp only [hf] at ev
                cases ev
                obtain ⟨k1, k2⟩ := wr (M.push { key := u', val := u'', born := clock }) (clock + 1) (es ++ [(Y, Z)]) (by simp [g2]) (fun j hj hj' => by
                  by_cases q : j < M.size
                  · have := g3 j (by omega) q
                    simp only [Array.getElem_push, q, dite_true, List.getElem_append, show j < es.length by omega]
                    exact this
                  · have hj2 : j = M.size := by simp at hj'; omega
                    subst hj2
                    simp only [Array.getElem_push, q, dite_false, List.getElem_append, show ¬ M.size < es.length by omega, g2]
                    simpa using ⟨hy, hz⟩)
                refine ⟨_, ?_, k1, k2, by first | rfl | trivial⟩
                simp [Instr.mapUpdate, run_underlying hm, Go.MapKept.run_getObj_map g1, ck, run_findKey (P := P) (w := w) hd q2, Go.MapKept.run_setObj_map _ g1]
              · simp only [hf] at ev
                cases ev
                have hjl : j < M.size := by
                  have := (List.getElem?_eq_some_iff.1 q4).1
                  simpa using this
                have hej : M[j]? = some e := by simpa using q4
                obtain ⟨k1, k2⟩ := wr (M.modify j fun e => { e with key := u', val := u'' }) clock (es.set j (Y, Z)) (by simp [g2]) (fun k hk' hk'' => by
                  simp only [Array.getElem_modify, List.getElem_set]
                  by_cases q : j = k
                  · rw [if_pos q, if_pos q]; exact ⟨hy, hz⟩
                  · rw [if_neg q, if_neg q]
                    exact g3 k (by simpa using hk') (by simpa using hk''))
                simp only [Nat.zero_add]
                refine ⟨_, ?_, k1, k2, by first | rfl | trivial⟩
                simp [Instr.mapUpdate, run_underlying hm, Go.MapKept.run_getObj_map g1, ck, run_findKey (P := P) (w := w) hd q2, hej, q5, Instr.keyThatStays, keyBits, Go.MapKept.run_setObj_map _ g1]
        · cases ev
  | _ => simp at ev
end
end Go.Ev

/- Each operation of the abstract machine stands for the machine's own: all of them together. -/
set_option linter.unusedVariables false
set_option linter.unusedSimpArgs false
namespace Go.Ev
variable [LoopSpec]
open Go.MapKept (bytes_beq run_findKey heap_set)
section
variable {P : Program} {ρ : Nat → Option (Nat × Nat)} {I : Nat → Prop} {h : AH} {w : World} {nt : Nat} {Bo : Nat × List Deferred × Bool} {a : Act} {s : Fr} {u u' : Value} {v X Y : PV}

omit [LoopSpec] in
theorem keep_inv {α : Option PV} {h' : AH} (e : keep h α = some (v, h')) : α = some v ∧ h' = h := by
  cases α with
  | none => cases e
  | some x => simp [keep] at e; exact ⟨by rw [e.1], e.2.symm⟩

theorem outS {r : Sem Value} {x : Value} (hr : r.run P w = .ok x w) (hs : SR ρ I h w) (hv : VR ρ I w x v) : Out ρ I h w v h ((do pure (Next.value (← r)) : Sem Next).run P w) :=
  .same (run_v r hr) hs hv

theorem outN {r : Sem Value} {x : Value} {w' : World} {h' : AH} {ρ' : Nat → Option (Nat × Nat)} {I' : Nat → Prop} (hr : r.run P w = .ok x w') (st : St ρ I h w ρ' I' h' w') (hs : SR ρ' I' h' w') (hv : VR ρ' I' w' x v) :
    Out ρ I h w v h' ((do pure (Next.value (← r)) : Sem Next).run P w) :=
  ⟨x, w', ρ', I', .inl (by simp [hr]), st, hs, hv⟩

theorem outU {r : Sem Unit} {w' : World} {h' : AH} (hr : r.run P w = .ok () w') (st : St ρ I h w ρ I h' w') (hs : SR ρ I h' w') : Out ρ I h w .undef h' ((do r; pure Next.skip : Sem Next).run P w) :=
  ⟨undef, w', ρ, I, .inr ⟨by simp [hr], rfl⟩, st, hs, VR.undef⟩

omit [LoopSpec] in
theorem un_ok {op : UnOp} (e : evUn op X = some v) (hx : VR ρ I w u X) : (Op.unary op u).run P w = .ok (conc v) w ∧ VR ρ I w (conc v) v := by
  unfold evUn at e
  split at e
  · rw [hx.int_inv]; cases e; exact ⟨by simp [Op.unary, Op.intArith, conc], .int _ _⟩
  · rw [hx.bool_inv]; cases e; exact ⟨by simp [Op.unary, conc], .bool _⟩
  · cases e

omit [LoopSpec] in
theorem mapM_places (fs : List Field) (hz : ∀ f ∈ fs, (szT P f.type).isSome = true) :
    (fs.mapM fun f => (do pure (f.offset, ← sizeOf f.type) : Sem (Nat × Nat))).run P w = .ok (fs.map fun f => (f.offset, (szT P f.type).getD 0)) w := by
  induction fs with
  | nil => simp
  | cons f fs ih =>
    obtain ⟨n, hn⟩ := Option.isSome_iff_exists.1 (hz f (by simp))
    have := ih (fun g hg => hz g (by simp [hg]))
    simp only [List.mapM_cons, Sem.run_bind, run_sizeOf hn, Result.andThen_ok, Sem.run_pure, this, List.map_cons, hn, Option.getD_some]

omit [LoopSpec] in
theorem build_struct {t : TypeId} {fs : Array Field} {parts : Array (Nat × Operand)} {zs cs : List PV} {ps : List (Nat × Nat × Opd)} (hf : FR Bo ρ I w nt a s) (hu : P.underlying t = some (.struct fs)) (hzc : zeroCells P t = some zs)
    (hall : fs.all (fun (f : Field) => (szT P f.type).isSome) = true) (hp : partsOf (fun (i : Nat) => (fs[i]?).bind fun (f : Field) => (szT P f.type).map fun n => (f.offset, n)) parts.toList = some ps)
    (e' : fillP zs (ps.map fun p => (p.1, p.2.1, p.2.2.val s)) = some cs) :
    ∃ C, (Instr.build t (parts.map fun (i, x) => (i, a.eval x))).run P w = .ok (.agg C) w ∧ VRA ρ I w C cs := by
  obtain ⟨zv, z1, z2⟩ := zeroCells_inv hzc
  have hzv : VRA ρ I w zv.cells zs := zero_vra z2
  have hz : ∀ f ∈ fs.toList, (szT P f.type).isSome = true := fun f hf => (Array.all_eq_true_iff_forall_mem.1 hall) f (by simpa using hf)
  have hpl := mapM_places (P := P) (w := w) fs.toList hz
  have hplace : (fun (i : Nat) => (fs[i]?).bind fun (f : Field) => (szT P f.type).map fun n => (f.offset, n)) = fun (i : Nat) => ((fs.toList.map fun (f : Field) => (f.offset, (szT P f.type).getD 0)).toArray)[i]? := by
    funext i
    simp only [List.getElem?_toArray, List.getElem?_map, Array.getElem?_toList]
    cases hi : fs[i]? with
    | none => rfl
    | some f =>
      have hm : f ∈ fs.toList := by
        have := Array.mem_of_getElem? hi
        simpa using this
      obtain ⟨n, hn⟩ := Option.isSome_iff_exists.1 (hz f hm)
      simp [hn]
  rw [hplace] at hp
  obtain ⟨D, d1, d2⟩ := fill_ok parts.toList ps _ _ cs hp hf hzv e'
  refine ⟨D, ?_, d2⟩
  have hma : (fs.mapM fun f => (do pure (f.offset, ← sizeOf f.type) : Sem (Nat × Nat))).run P w = .ok (fs.toList.map fun f => (f.offset, (szT P f.type).getD 0)).toArray w := by
    rw [Array.mapM_eq_mapM_toList, Sem.run_map, hpl]
    rfl
  have hpt : (parts.map fun (p : Nat × Operand) => (p.1, a.eval p.2)).toList = parts.toList.map fun p => (p.1, a.eval p.2) := by simp
  simp only [Instr.build, Sem.run_bind, run_zeroValue z1, Result.andThen_ok, run_underlying hu, hma]
  rw [hpt, d1]
  rfl

omit [LoopSpec] in
theorem build_array {t e : TypeId} {n z : Nat} {parts : Array (Nat × Operand)} {zs cs : List PV} {ps : List (Nat × Nat × Opd)} (hf : FR Bo ρ I w nt a s) (hu : P.underlying t = some (.array n e)) (hzc : zeroCells P t = some zs) (hz : szT P e = some z)
    (hp : partsOf (fun i => some (i * z, z)) parts.toList = some ps) (e' : fillP zs (ps.map fun p => (p.1, p.2.1, p.2.2.val s)) = some cs) :
    ∃ C, (Instr.build t (parts.map fun (i, x) => (i, a.eval x))).run P w = .ok (.agg C) w ∧ VRA ρ I w C cs := by
  obtain ⟨zv, z1, z2⟩ := zeroCells_inv hzc
  have hzv : VRA ρ I w zv.cells zs := zero_vra z2
  obtain ⟨D, d1, d2⟩ := fill_ok parts.toList ps _ _ cs hp hf hzv e'
  refine ⟨D, ?_, d2⟩
  have hpt : (parts.map fun (p : Nat × Operand) => (p.1, a.eval p.2)).toList = parts.toList.map fun p => (p.1, a.eval p.2) := by simp
  simp only [Instr.build, Sem.run_bind, run_zeroValue z1, Result.andThen_ok, run_underlying hu, run_sizeOf hz]
  rw [hpt, d1]
  rfl

omit [LoopSpec] in
theorem VRA.agg {C : Array Value} {cs : List PV} (hC : VRA ρ I w C cs) : VR ρ I w (.agg C) (.agg cs) := .agg hC.1 hC.2.1 hC.2.2

omit [LoopSpec] in
theorem minmax_fold {mx : Bool} {ty : TypeId} : ∀ (xs : List Value) (Xs : List PV) (k : IntKind) (n : Int) (r : PV), xs.length = Xs.length → (∀ j (hj : j < Xs.length), VR ρ I w (xs.getD j undef) Xs[j]) →
    Xs.foldl (fun acc v => match acc, v with
      | some (.int k x), .int k' y => if k = k' then some (PV.int k (if mx then (if y > x then y else x) else (if y < x then y else x))) else none
      | _, _ => none) (some (PV.int k n)) = some r → ∃ m, r = .int k m ∧ (xs.foldlM (if mx then Builtin.max2 else Builtin.min2) (Value.int k n)).run P w = .ok (.int k m) w
  | [], Xs, k, n, r, hl, _, e => by
    cases Xs with
    | nil => cases e; exact ⟨n, rfl, by simp⟩
    | cons _ _ => simp at hl
  | x :: xs, Xs, k, n, r, hl, hv, e => by
    cases Xs with
    | nil => simp at hl
    | cons X Xs =>
      have nofold : ∀ l : List PV, l.foldl (fun acc v => match acc, v with
          | some (.int k x), .int k' y => if k = k' then some (PV.int k (if mx then (if y > x then y else x) else (if y < x then y else x))) else none
          | _, _ => none) (none : Option PV) = none := by
        intro l
        induction l with
        | nil => rfl
        | cons y l ih => rw [List.foldl_cons]; exact ih
      rw [List.foldl_cons] at e
      have h0 := hv 0 (by simp)
      simp only [List.getElem_cons_zero] at h0
      cases X with
      | int k' m =>
        simp only at e
        by_cases hk : k = k'
        · subst hk
          rw [if_pos rfl] at e
          have hx : x = .int k m := by have := h0.int_inv; simpa using this
          subst hx
          obtain ⟨q, q1, q2⟩ := minmax_fold (mx := mx) (ty := ty) xs Xs k _ r (by simpa using hl) (fun j hj => by have := hv (j + 1) (by simp; omega); simpa using this) e
          refine ⟨q, q1, ?_⟩
          rw [List.foldlM_cons]
          cases mx with
          | true => simpa [Builtin.max2] using q2
          | false => simpa [Builtin.min2] using q2
        · rw [if_neg hk, nofold] at e; cases e
      | _ => simp only at e; rw [nofold] at e; cases e

end
end Go.Ev

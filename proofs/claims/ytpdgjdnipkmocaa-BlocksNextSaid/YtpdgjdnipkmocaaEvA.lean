/- The abstract machine of this seat's proofs: values without memory where memory is never written again, a small heap for what a call owns, an evaluator with fuel, and the translation of a loaded function into its code. Nothing here is assumed of a program. -/
import Derived.Calls
import Derived.Laws.Sem
import Derived.Laws.World
set_option linter.unusedVariables false
set_option linter.unusedSimpArgs false
namespace Go.Ev

/-- Values. 'sl n cs': a slice of n elements that nobody writes any more, its cells; 'emp': an empty slice without room; 'rf z i o n': n elements of z cells of the own block i from cell o on; 'pt': a pointer into an own block; 'pi cs': a pointer into memory that nobody writes, the cells from there on. -/
inductive PV where
  | bool (b : Bool)
  | int (k : IntKind) (n : Int)
  | str (s : ByteArray)
  | sl (n : Nat) (cs : List PV)
  | emp
  | rf (z i o n : Nat)
  | pt (i o : Nat)
  | pi (cs : List PV)
  | nilp
  | mp (i : Nat)
  | nilm
  | fn (f : Nat) (fs cs : List PV)
  | nilf
  | agg (cs : List PV)
  | tup (vs : List PV)

def PV.undef : PV := .tup []

/-- A function's second number: the same function, called otherwise. -/
def vb : Nat := 100000
def rl (f : Nat) : Nat := f % vb
def exb : Nat := 1000000000

def PV.cells : PV → List PV
  | .agg cs => cs
  | v => [v]

def PV.okc : PV → Bool
  | .tup _ => false
  | _ => true

def PV.one : PV → Bool
  | .agg _ | .tup _ => false
  | _ => true

inductive Blk where
  | cells (cs : List PV)
  | map (es : List (PV × PV))

/-- 'lo': nothing below it may be written. -/
structure AH where
  nx : Nat
  lo : Nat
  blk : Nat → Option Blk

def AH.zero : AH := ⟨0, 0, fun _ => .none⟩
def AH.push (h : AH) (B : Blk) : AH := ⟨h.nx + 1, h.lo, fun i => if i = h.nx then some B else h.blk i⟩
def AH.set (h : AH) (i : Nat) (B : Blk) : AH := ⟨h.nx, h.lo, fun j => if j = i then some B else h.blk j⟩
def AH.del (h : AH) (i : Nat) : AH := ⟨h.nx, h.lo, fun j => if j = i then .none else h.blk j⟩
def AH.row (h : AH) (i : Nat) : Option (List PV) := match h.blk i with | some (.cells cs) => some cs | _ => .none

abbrev Fr := Nat → PV

def Fr.put (s : Fr) (d : Option Nat) (v : PV) : Fr :=
  match d with
  | some d => fun t => if t = d then v else s t
  | .none => s

inductive Opd where
  | t (n : Nat)
  | c (v : PV)

def Opd.val (s : Fr) : Opd → PV
  | .t n => s n
  | .c v => v

inductive COp where
  | bad
  | mov (x : Opd)
  | nilchk (x : Opd)
  | pick (c a b : Opd)
  | alloc (zs : List PV)
  | box (x : Opd)
  | boxi (x : Opd)
  | blit (n : Nat) (zs : List PV) (parts : List (Nat × Nat × Opd))
  | clear (z : Nat) (zs : List PV) (x : Opd)
  | bslice (z : Nat) (n : Nat) (zs : List PV) (parts : List (Nat × Nat × Opd))
  | build (zs : List PV) (parts : List (Nat × Nat × Opd))
  | load (agg : Bool) (n : Nat) (a : Opd)
  | store (n : Nat) (a x : Opd)
  | bin (op : BinOp) (x y : Opd)
  | eqb (neg : Bool) (x y : Opd)
  | eqs (neg : Bool) (ks : List Nat) (x y : Opd)
  | isnil (neg : Bool) (k : Nat) (x : Opd)
  | un (op : UnOp) (x : Opd)
  | conv (k : IntKind) (x : Opd)
  | str (x : Opd)
  | mkfn (f : Nat) (first cap : List Opd)
  | mkmap
  | mkslice (z bytes : Nat) (zs : List PV) (len cap : Opd)
  | slice (z : Nat) (x : Opd) (lo hi mx : Option Opd)
  | slstr (x : Opd) (lo hi : Option Opd)
  | fld (off : Nat) (x : Opd)
  | fldv (agg : Bool) (off n : Nat) (x : Opd)
  | idx (z : Nat) (x i : Opd)
  | idxp (len z : Nat) (x i : Opd)
  | idxv (agg : Bool) (len z : Nat) (x i : Opd)
  | idxs (x i : Opd)
  | lkp (kd : Nat) (zero : PV) (ok : Bool) (m k : Opd)
  | upd (kd : Nat) (m k v : Opd)
  | ext (x : Opd) (i : Nat)
  | call (f : Nat) (args : List Opd)
  | callv (f : Opd) (args : List Opd)
  | len (k : Nat) (x : Opd)
  | app (z bytes : Nat) (s x : Opd)
  | minmax (mx : Bool) (xs : List Opd)
  | del (kd : Nat) (m k : Opd)

structure COper where
  dst : Option Nat
  op : COp
  guard : Option (Nat × Bool)

inductive CCode where
  | skip
  | bad
  | reg (ops : List COper)
  | seq (a b : CCode)
  | cond (c : Opd) (a b : CCode)
  | block (id : Nat) (c : CCode)
  | loop (c : CCode)
  | exit (id : Nat)
  | ret

/-- Where a result lies: in a slot, or behind the pointer in a slot. -/
inductive CRes where
  | t (n : Nat)
  | cell (agg : Bool) (n t : Nat)

/-- A function's code: 'pure': it is called on immutable copies of its arguments, in an empty heap, and its result is immutable; 'ext': it is called in the caller's heap, but writes only what it made itself. -/
structure CFun where
  pure : Bool
  ext : Bool
  body : CCode
  res : List CRes

/-- What a called function is: code, or a function of the library by its contract; 'pure': whether it leaves the heap alone. -/
inductive Fun where
  | code (c : CFun)
  | prim (pure : Bool) (g : List PV → AH → Option (PV × AH))

inductive EX where
  | nrm
  | exit (id : Nat)
  | ret

/- The pure parts. -/

def splice (cs : List PV) (o : Nat) (ys : List PV) : List PV := cs.take o ++ ys ++ cs.drop (o + ys.length)

/-- 'n' cells from a pointer on. -/
def rds (h : AH) (p : PV) (n : Nat) : Option (List PV) :=
  match p with
  | .pi cs => if n ≤ cs.length then some (cs.take n) else .none
  | .pt i o => match h.row i with
    | some cs => if o + n ≤ cs.length then some ((cs.drop o).take n) else .none
    | .none => .none
  | _ => .none

def rd1 (h : AH) (p : PV) : Option PV :=
  match p with
  | .pi cs => cs[0]?
  | .pt i o => match h.row i with
    | some cs => cs[o]?
    | .none => .none
  | _ => .none

def wr (h : AH) (p v : PV) (n : Nat) : Option AH :=
  match p with
  | .pt i o => match h.row i with
    | some cs => match v with
      | .agg ys => if ys.length = n ∧ o + n ≤ cs.length then some (h.set i (.cells (splice cs o ys))) else .none
      | .tup _ => .none
      | v => if n = 1 ∧ o < cs.length then some (h.set i (.cells (cs.set o v))) else .none
    | .none => .none
  | _ => .none

/-- The cells of a slice's elements. -/
def src (h : AH) (z : Nat) (x : PV) : Option (Nat × List PV) :=
  match x with
  | .sl n cs => if cs.length = n * z then some (n, cs) else .none
  | .emp => some (0, [])
  | .rf _ i o n => match h.row i with
    | some cs => if o + n * z ≤ cs.length then some (n, (cs.drop o).take (n * z)) else .none
    | .none => .none
  | _ => .none

def evBin (op : BinOp) (x y : PV) : Option PV :=
  match op, x, y with
  | .shl, .int k a, .int _ b => if b < 0 then .none else some (.int k (k.wrap (a * 2 ^ (min b.toNat k.bits))))
  | .shr, .int k a, .int _ b => if b < 0 then .none else some (.int k (a.fdiv (2 ^ (min b.toNat k.bits))))
  | op, .int k a, .int k' b => if k ≠ k' then .none else
    match op with
    | .add => some (.int k (k.wrap (a + b)))
    | .sub => some (.int k (k.wrap (a - b)))
    | .mul => some (.int k (k.wrap (a * b)))
    | .quo => if b = 0 then .none else some (.int k (k.wrap (a.tdiv b)))
    | .rem => if b = 0 then .none else some (.int k (a.tmod b))
    | .and => some (.int k (k.wrap (BitVec.ofInt k.bits a &&& BitVec.ofInt k.bits b).toNat))
    | .or => some (.int k (k.wrap (BitVec.ofInt k.bits a ||| BitVec.ofInt k.bits b).toNat))
    | .xor => some (.int k (k.wrap (BitVec.ofInt k.bits a ^^^ BitVec.ofInt k.bits b).toNat))
    | .eql => some (.bool (a == b))
    | .neq => some (.bool (a != b))
    | .lss => some (.bool (decide (a < b)))
    | .leq => some (.bool (decide (a ≤ b)))
    | .gtr => some (.bool (decide (a > b)))
    | .geq => some (.bool (decide (a ≥ b)))
    | _ => .none
  | .add, .str a, .str b => if ((a.size + b.size : Nat) : Int) > IntKind.i64.max then .none else some (.str (a ++ b))
  | .eql, .str a, .str b => some (.bool (decide (a = b)))
  | .neq, .str a, .str b => some (.bool (!decide (a = b)))
  | .lss, .str a, .str b => some (.bool (Op.bytesLess a.toList b.toList))
  | .leq, .str a, .str b => some (.bool (Op.bytesLess a.toList b.toList || decide (a = b)))
  | .gtr, .str a, .str b => some (.bool !(Op.bytesLess a.toList b.toList || decide (a = b)))
  | .geq, .str a, .str b => some (.bool !(Op.bytesLess a.toList b.toList))
  | _, _, _ => .none

/-- Equality of two cells that hold a number, a bool or a string (0, 1, 2: which). -/
def kindOk : Nat → PV → Bool
  | 0, .int _ _ | 1, .bool _ | 2, .str _ => true
  | _, _ => false

def cellEq : PV → PV → Option Bool
  | .int k a, .int k' b => if k = k' then some (a == b) else .none
  | .bool a, .bool b => some (a == b)
  | .str a, .str b => some (decide (a = b))
  | _, _ => .none

def cellsEq : List Nat → List PV → List PV → Option Bool
  | [], [], [] => some true
  | k :: ks, x :: xs, y :: ys => if kindOk k x then match cellEq x y, cellsEq ks xs ys with
    | some a, some b => some (a && b)
    | _, _ => .none
    else .none
  | _, _, _ => .none

def isNil : PV → Option Bool
  | .nilp | .nilm | .nilf => some true
  | .pt _ _ | .pi _ | .mp _ | .fn _ _ _ => some false
  | .sl (_ + 1) (_ :: _) => some false
  | .rf _ _ _ (_ + 1) => some false
  | _ => .none

/-- Nil or not, at a pointer's, a slice's, a map's, a function's type. -/
def isNilK : Nat → PV → Option Bool
  | 0, .nilp => some true
  | 0, .pt _ _ | 0, .pi _ => some false
  | 1, .sl (_ + 1) (_ :: _) => some false
  | 1, .rf _ _ _ (_ + 1) => some false
  | 2, .nilm => some true
  | 2, .mp _ => some false
  | 3, .nilf => some true
  | 3, .fn _ _ _ => some false
  | _, _ => .none

def evUn (op : UnOp) (x : PV) : Option PV :=
  match op, x with
  | .neg, .int k n => some (.int k (k.wrap (0 - n)))
  | .not, .bool b => some (.bool !b)
  | _, _ => .none

def findK (k : PV) : List (PV × PV) → Nat → Option (Option (Nat × PV))
  | [], _ => some .none
  | e :: es, i => match cellEq k e.1 with
    | some true => some (some (i, e.2))
    | some false => findK k es (i + 1)
    | .none => .none

def fillP : List PV → List (Nat × Nat × PV) → Option (List PV)
  | cs, [] => some cs
  | cs, (off, n, v) :: r => if v.okc = true ∧ v.cells.length = n ∧ off + n ≤ cs.length then fillP (splice cs off v.cells) r else .none

def bnd (x : PV) (y : Nat) : Option Nat :=
  match x with
  | .int _ i => if 0 ≤ i ∧ i ≤ y then some i.toNat else .none
  | _ => .none

def bndO (x : Option PV) (d y : Nat) : Option Nat :=
  match x with
  | some v => bnd v y
  | .none => some d

def evSlice (z : Nat) (x : PV) (lo hi mx : Option PV) : Option PV :=
  match mx with
  | .none =>
    match x with
    | .sl n cs => match bndO hi n n with
      | some h => match bndO lo 0 h with
        | some l => some (.sl (h - l) ((cs.drop (l * z)).take ((h - l) * z)))
        | .none => .none
      | .none => .none
    | .rf z' i o n => if z' = z then match bndO hi n n with
      | some h => match bndO lo 0 h with
        | some l => some (.rf z i (o + l * z) (h - l))
        | .none => .none
      | .none => .none
      else .none
    | .emp => match bndO hi 0 0 with
      | some h => match bndO lo 0 h with
        | some _ => some .emp
        | .none => .none
      | .none => .none
    | _ => .none
  | some m => match x with
    | .sl n _ | .rf _ _ _ n => match bnd m n with
      | some m => match bndO hi 0 m, hi with
        | some h, some _ => match bndO lo 0 h with
          | some l => if l = m then some .emp else .none
          | .none => .none
        | _, _ => .none
      | .none => .none
    | .emp => match bnd m 0 with
      | some m => match bndO hi 0 m, hi with
        | some h, some _ => match bndO lo 0 h with
          | some _ => some .emp
          | .none => .none
        | _, _ => .none
      | .none => .none
    | _ => .none

def evSlstr (x : PV) (lo hi : Option PV) : Option PV :=
  match x with
  | .str s => match bndO hi s.size s.size with
    | some h => match bndO lo 0 h with
      | some l => some (.str (s.extract l h))
      | .none => .none
    | .none => .none
  | _ => .none

def partP (agg : Bool) (cs : List PV) (off n : Nat) : Option PV :=
  if agg then (if off + n ≤ cs.length then some (.agg ((cs.drop off).take n)) else .none) else cs[off]?

def roomOk (n bytes : Nat) : Bool := decide (n * bytes ≤ 2 ^ 44)

/-- A pointer moved on by some cells. -/
def evFld (k : Nat) : PV → Option PV
  | .pt i o => some (.pt i (o + k))
  | .pi cs => some (.pi (cs.drop k))
  | _ => .none

def evIdx (z : Nat) (x : PV) (i : Int) : Option PV :=
  match x with
  | .sl n cs => if 0 ≤ i ∧ i < n ∧ cs.length = n * z ∧ 0 < z then some (.pi (cs.drop (i.toNat * z))) else .none
  | .rf z' b o n => if 0 ≤ i ∧ i < n ∧ z' = z then some (.pt b (o + i.toNat * z)) else .none
  | _ => .none

def lkpFin (zero : PV) (ok : Bool) (r : Option PV) : PV := if ok then .tup [r.getD zero, .bool r.isSome] else r.getD zero

def evLkp (h : AH) (kd : Nat) (zero : PV) (ok : Bool) (m k : PV) : Option PV :=
  if kindOk kd k then
    match m with
    | .nilm => some (lkpFin zero ok .none)
    | .mp i => match h.blk i with
      | some (.map es) => (findK k es 0).map fun r => lkpFin zero ok (r.map (·.2))
      | _ => .none
    | _ => .none
  else .none

def evUpd (h : AH) (kd : Nat) (m k v : PV) : Option (PV × AH) :=
  match m with
  | .mp i => match h.blk i with
    | some (.map es) => if kindOk kd k then match findK k es 0 with
        | some (some (j, _)) => some (.undef, h.set i (.map (es.set j (k, v))))
        | some .none => some (.undef, h.set i (.map (es ++ [(k, v)])))
        | .none => .none
      else .none
    | _ => .none
  | _ => .none

def evDel (h : AH) (kd : Nat) (m k : PV) : Option (PV × AH) :=
  match m with
  | .nilm => if kindOk kd k then some (.tup [], h) else .none
  | .mp i => match h.blk i with
    | some (.map es) => if kindOk kd k then match findK k es 0 with
        | some (some (j, _)) => some (.tup [], h.set i (.map (es.eraseIdx j)))
        | some .none => some (.tup [], h)
        | .none => .none
      else .none
    | _ => .none
  | _ => .none

def evClear (h : AH) (z : Nat) (zs : List PV) (x : PV) : Option (PV × AH) :=
  match x with
  | .rf z' i o n => (match h.row i with
    | some cs => if z' = z ∧ o + n * z ≤ cs.length ∧ zs.length = z then some (.tup [], h.set i (.cells (splice cs o (List.replicate n zs).flatten))) else .none
    | .none => .none)
  | .emp => some (.tup [], h)
  | _ => .none

def evApp (h : AH) (z bytes : Nat) (x y : PV) : Option (PV × AH) :=
  match src h z y with
  | some (0, _) => (match x with
    | .sl _ _ | .emp | .rf _ _ _ _ => some (x, h)
    | _ => .none)
  | some (m, ys) => (match x with
    | .emp => if roomOk m (bytes + 1) = true then some (.rf z h.nx 0 m, h.push (.cells ys)) else .none
    | .rf z' i o n => match h.row i with
      | some cs => if z' = z ∧ o + n * z ≤ cs.length ∧ roomOk (n + m) (bytes + 1) = true then
          some (.rf z h.nx 0 (n + m), (h.del i).push (.cells ((cs.drop o).take (n * z) ++ ys)))
        else .none
      | .none => .none
    | _ => .none)
  | .none => .none

def evMM (mx : Bool) (xs : List PV) : Option PV :=
  match xs with
  | .int k a :: r => r.foldl (fun acc v => match acc, v with
      | some (.int k x), .int k' y => if k = k' then some (.int k (if mx then (if y > x then y else x) else (if y < x then y else x))) else .none
      | _, _ => .none) (some (.int k a))
  | _ => .none

def allO (f : PV → Option PV) : List PV → Option (List PV)
  | [] => some []
  | v :: r => match f v, allO f r with
    | some u, some us => some (u :: us)
    | _, _ => .none

/-- Copies for a pure call: every own slice or pointer becomes an immutable one. -/
def snap (h : AH) : Nat → PV → Option PV
  | 0, _ => .none
  | d + 1, v => match v with
    | .sl n cs => (allO (snap h d) cs).map (.sl n)
    | .emp => some (.sl 0 [])
    | .rf z i o n => match h.row i with
      | some cs => if o + n * z ≤ cs.length then (allO (snap h d) ((cs.drop o).take (n * z))).map (.sl n) else .none
      | .none => .none
    | .pt i o => match h.row i with
      | some cs => (allO (snap h d) (cs.drop o)).map .pi
      | .none => .none
    | .pi cs => (allO (snap h d) cs).map .pi
    | .mp _ => .none
    | .fn f fs cs => match allO (snap h d) fs, allO (snap h d) cs with
      | some us, some ws => some (.fn f us ws)
      | _, _ => .none
    | .agg cs => (allO (snap h d) cs).map .agg
    | .tup cs => (allO (snap h d) cs).map .tup
    | v => some v

/-- Nothing in a value is immutable memory that was there before. -/
def noImm (h : AH) : Nat → PV → Bool
  | 0, _ => false
  | d + 1, v => match v with
    | .sl _ cs => cs.isEmpty
    | .pi _ => false
    | .rf z i o n => match h.row i with
      | some cs => ((cs.drop o).take (n * z)).all (noImm h d)
      | .none => false
    | .pt i o => match h.row i with
      | some cs => (cs.drop o).all (noImm h d)
      | .none => false
    | .mp _ => false
    | .fn _ fs cs => fs.all (noImm h d) && cs.all (noImm h d)
    | .agg cs | .tup cs => cs.all (noImm h d)
    | _ => true

/-- Does a value name own memory? -/
def own : Nat → PV → Bool
  | 0, _ => true
  | d + 1, v => match v with
    | .rf _ _ _ _ | .pt _ _ | .mp _ => true
    | .fn _ fs cs => fs.any (own d) || cs.any (own d)
    | .sl _ cs | .pi cs | .agg cs | .tup cs => cs.any (own d)
    | _ => false

def snapDepth : Nat := 12

/-- The length of a string, a slice, a map. -/
def evLen (h : AH) : Nat → PV → Option PV
  | 0, .str b => some (.int .i64 b.size)
  | 1, .sl n _ => some (.int .i64 n)
  | 1, .emp => some (.int .i64 0)
  | 1, .rf _ _ _ n => some (.int .i64 n)
  | 2, .nilm => some (.int .i64 0)
  | 2, .mp i => match h.blk i with
    | some (.map es) => some (.int .i64 es.length)
    | _ => .none
  | _, _ => .none

section
variable (call : Nat → List PV → AH → Option (PV × AH))

def keep (h : AH) (v : Option PV) : Option (PV × AH) := v.map fun v => (v, h)

def evOp (o : COp) (s : Fr) (h : AH) : Option (PV × AH) :=
  match o with
  | .bad => .none
  | .mov x => some (x.val s, h)
  | .nilchk x => match isNil (x.val s) with
    | some false => some (x.val s, h)
    | _ => .none
  | .pick c a b => match c.val s with
    | .bool t => some (if t then a.val s else b.val s, h)
    | _ => .none
  | .alloc zs => some (.pt h.nx 0, h.push (.cells zs))
  | .box x => if (x.val s).okc = true then some (.pt h.nx 0, h.push (.cells (x.val s).cells)) else .none
  | .boxi x => if (x.val s).okc = true then some (.pi (x.val s).cells, h) else .none
  | .blit n zs ps => keep h ((fillP zs (ps.map fun p => (p.1, p.2.1, p.2.2.val s))).map fun cs => if n = 0 then .emp else .sl n cs)
  | .clear z zs x => evClear h z zs (x.val s)
  | .bslice z n zs ps => match fillP zs (ps.map fun p => (p.1, p.2.1, p.2.2.val s)) with
    | some cs => some (.rf z h.nx 0 n, h.push (.cells cs))
    | .none => .none
  | .build zs ps => keep h ((fillP zs (ps.map fun p => (p.1, p.2.1, p.2.2.val s))).map .agg)
  | .load agg n a => keep h (if agg then (rds h (a.val s) n).map .agg else rd1 h (a.val s))
  | .store n a x => match wr h (a.val s) (x.val s) n with
    | some h' => some (.undef, h')
    | .none => .none
  | .bin op x y => keep h (evBin op (x.val s) (y.val s))
  | .eqb neg x y => keep h (match x.val s, y.val s with
    | .bool a, .bool b => some (.bool ((a == b) != neg))
    | _, _ => .none)
  | .eqs neg ks x y => keep h (match x.val s, y.val s with
    | .agg a, .agg b => (cellsEq ks a b).map fun t => .bool (t != neg)
    | _, _ => .none)
  | .isnil neg k x => keep h ((isNilK k (x.val s)).map fun t => .bool (t != neg))
  | .un op x => keep h (evUn op (x.val s))
  | .conv k x => keep h (match x.val s with
    | .int _ n => some (.int k (k.wrap n))
    | _ => .none)
  | .str x => keep h (match x.val s with
    | .str b => some (.str b)
    | _ => .none)
  | .mkfn f fs cs => some (.fn f (fs.map (Opd.val s)) (cs.map (Opd.val s)), h)
  | .mkmap => some (.mp h.nx, h.push (.map []))
  | .mkslice z bytes zs l c => match l.val s, c.val s with
    | .int .i64 l, .int .i64 c => if 0 ≤ l ∧ l ≤ c ∧ roomOk c.toNat (bytes + 1) = true then some (.rf z h.nx 0 l.toNat, h.push (.cells (List.replicate l.toNat zs).flatten)) else .none
    | _, _ => .none
  | .slice z x lo hi mx => keep h (evSlice z (x.val s) (lo.map (Opd.val s)) (hi.map (Opd.val s)) (mx.map (Opd.val s)))
  | .slstr x lo hi => keep h (evSlstr (x.val s) (lo.map (Opd.val s)) (hi.map (Opd.val s)))
  | .fld off x => keep h (evFld off (x.val s))
  | .fldv agg off n x => keep h (match x.val s with
    | .agg cs => partP agg cs off n
    | _ => .none)
  | .idx z x i => keep h (match i.val s with
    | .int _ i => evIdx z (x.val s) i
    | _ => .none)
  | .idxp len z x i => keep h (match i.val s with
    | .int _ i => if 0 ≤ i ∧ i < len then evFld (i.toNat * z) (x.val s) else .none
    | _ => .none)
  | .idxv agg len z x i => keep h (match x.val s, i.val s with
    | .agg cs, .int _ i => if 0 ≤ i ∧ i < len then partP agg cs (i.toNat * z) z else .none
    | _, _ => .none)
  | .idxs x i => keep h (match x.val s, i.val s with
    | .str b, .int _ i => if 0 ≤ i then match b[i.toNat]? with
      | some c => some (.int .u8 c.toNat)
      | .none => .none
      else .none
    | _, _ => .none)
  | .lkp kd zero ok m k => keep h (evLkp h kd zero ok (m.val s) (k.val s))
  | .upd kd m k v => evUpd h kd (m.val s) (k.val s) (v.val s)
  | .ext x i => keep h (match x.val s with
    | .tup vs => vs[i]?
    | _ => .none)
  | .call f as => call f (as.map (Opd.val s)) h
  | .callv f as => match f.val s with
    | .fn g fs cs => if g < vb then call g (fs ++ as.map (Opd.val s) ++ cs) h else .none
    | _ => .none
  | .len k x => keep h (evLen h k (x.val s))
  | .app z bytes x y => evApp h z bytes (x.val s) (y.val s)
  | .minmax mx xs => keep h (evMM mx (xs.map (Opd.val s)))
  | .del kd m k => evDel h kd (m.val s) (k.val s)

def wants (g : Option (Nat × Bool)) (s : Fr) : Bool :=
  match g with
  | .none => true
  | some (t, want) => match s t with
    | .bool b => b == want
    | _ => false

/-- What an operation writes. -/
def target : COp → Option Opd
  | .store _ a _ => some a
  | .upd _ m _ _ | .del _ m _ => some m
  | .clear _ _ x | .app _ _ x _ => some x
  | _ => .none

def lowOk (h : AH) : PV → Bool
  | .pt i _ | .mp i | .rf _ i _ _ => decide (h.lo ≤ i)
  | _ => true

def barOk (o : COp) (s : Fr) (h : AH) : Bool :=
  match target o with
  | some x => lowOk h (x.val s)
  | .none => true

def evOpB (o : COp) (s : Fr) (h : AH) : Option (PV × AH) := if barOk o s h then evOp call o s h else .none

def evOps : List COper → Fr → AH → Option (Fr × AH)
  | [], s, h => some (s, h)
  | o :: r, s, h =>
    if wants o.guard s then match evOpB call o.op s h with
      | some (v, h') => evOps r (Fr.put s o.dst v) h'
      | .none => .none
    else evOps r (Fr.put s o.dst .undef) h
end

def initFr (as : List PV) : Fr := fun t => as.getD t .undef

def resAt (h : AH) (s : Fr) : CRes → Option PV
  | .t n => some (s n)
  | .cell true n t => (rds h (s t) n).map .agg
  | .cell false _ t => rd1 h (s t)

def resAll (h : AH) (s : Fr) : List CRes → Option (List PV)
  | [] => some []
  | r :: rs => match resAt h s r, resAll h s rs with
    | some v, some vs => some (v :: vs)
    | _, _ => .none

def resOf (res : List CRes) (s : Fr) (h : AH) : Option PV :=
  match resAll h s res with
  | some [v] => some v
  | some vs => some (.tup vs)
  | .none => .none

/-- A pure call's result: nothing of what was lent is handed back. -/
def pureRes (c : CFun) (as : List PV) : Option (EX × Fr × AH) → Option PV
  | some (.nrm, s', h') | some (.ret, s', h') => match resOf c.res s' h' with
    | some r0 => if as.any (own snapDepth) && !noImm h' snapDepth r0 then .none else snap h' snapDepth r0
    | .none => .none
  | _ => .none

def AH.bar (h : AH) : AH := ⟨h.nx, h.nx, h.blk⟩
def AH.unbar (h h1 : AH) : AH := ⟨h1.nx, h.lo, h1.blk⟩

/-- One call, given how code is run. -/
def callW (T : Nat → Option Fun) (run : CCode → Fr → AH → Option (EX × Fr × AH)) (f : Nat) (as : List PV) (h : AH) : Option (PV × AH) :=
  match T f with
  | some (.prim _ g) => g as h
  | some (.code c) =>
    if c.pure then
      match allO (snap h snapDepth) as with
      | some as' => (pureRes c as (run c.body (initFr as') AH.zero)).map fun r => (r, h)
      | .none => .none
    else if c.ext then match run c.body (initFr as) h.bar with
      | some (.nrm, s', h') | some (.ret, s', h') => (resOf c.res s' h').map fun r => (r, h.unbar h')
      | _ => .none
    else match run c.body (initFr as) h with
      | some (.nrm, s', h') | some (.ret, s', h') => (resOf c.res s' h').map fun r => (r, h')
      | _ => .none
  | .none => .none

def evC (T : Nat → Option Fun) : Nat → CCode → Fr → AH → Option (EX × Fr × AH)
  | 0, _, _, _ => .none
  | n + 1, c, s, h => match c with
    | .skip => some (.nrm, s, h)
    | .bad => .none
    | .reg ops => match evOps (callW T (evC T n)) ops s h with
      | some (s', h') => some (.nrm, s', h')
      | .none => .none
    | .seq a b => match evC T n a s h with
      | some (.nrm, s', h') => evC T n b s' h'
      | r => r
    | .cond c a b => match c.val s with
      | .bool true => evC T n a s h
      | .bool false => evC T n b s h
      | _ => .none
    | .block id c => match evC T n c s h with
      | some (.exit i, s', h') => some (if i = id then .nrm else .exit i, s', h')
      | r => r
    | .loop c => match evC T n c s h with
      | some (.nrm, s', h') => evC T n (.loop c) s' h'
      | r => r
    | .exit id => some (.exit id, s, h)
    | .ret => some (.ret, s, h)

end Go.Ev

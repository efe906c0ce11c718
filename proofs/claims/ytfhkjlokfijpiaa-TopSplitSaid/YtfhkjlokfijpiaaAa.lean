/- The abstract machine: values without addresses, a heap of named objects, code with all types resolved, and a runner with fuel. Definitions alone. -/
import GoSem.Dispatch
import GoSem.Core.Machine
import Derived.RangeFuncLeaves
import Derived.OrdersIn
import Derived.Laws.World
import Derived.Laws.Sem
import Derived.Laws.AppendOwn
import Derived.Carry
import Derived.MapKept
set_option linter.unusedSimpArgs false
set_option linter.unusedVariables false
namespace Go.Ab

/-- Values of one cell without any address. -/
inductive AL where
  | int (k : IntKind) (n : Int)
  | bool (b : Bool)
  | str (s : ByteArray)
  | nilp | nils | nilm | nilf | nili | unit
  deriving DecidableEq, Inhabited

def AL.v : AL → Value
  | .int k n => .int k n
  | .bool b => .bool b
  | .str s => .string s
  | .nilp => .pointer none
  | .nils => .slice none 0 0
  | .nilm => .map none
  | .nilf => .nilFunc
  | .nili => .nilIface
  | .unit => .tuple #[]

/-- Abstract values. 'any': nothing is known. 'ptr i o': cell o of object i. 'rop xs k': cell k of a row that nobody writes. 'sl i o len sz': elements of sz cells in object i. 'ro xs len sz': a slice that nobody writes. 'emp': an empty slice without capacity. -/
inductive AV where
  | any
  | lit (l : AL)
  | ptr (i off : Nat)
  | rop (xs : List AV) (k : Nat)
  | sl (i off len sz : Nat)
  | ro (xs : List AV) (len sz : Nat)
  | emp
  | mp (i : Nat)
  | fn (f : Fn) (first cap : List AV)
  | yl (i : Nat)
  | ifc (t : TypeId) (x : AV)
  | agg (xs : List AV)
  | tup (xs : List AV)
  deriving Inhabited

mutual
def AV.same : AV → AV → Bool
  | .lit a, .lit b => a == b
  | .ptr i o, .ptr j p => i == j && o == p
  | .rop xs k, .rop ys l => AV.sames xs ys && k == l
  | .sl i o l s, .sl j p m t => i == j && o == p && l == m && s == t
  | .ro xs l s, .ro ys m t => AV.sames xs ys && l == m && s == t
  | .emp, .emp => true
  | .mp i, .mp j => i == j
  | .fn f a b, .fn g c d => f == g && AV.sames a c && AV.sames b d
  | .yl i, .yl j => i == j
  | .ifc t x, .ifc u y => t == u && AV.same x y
  | .agg xs, .agg ys => AV.sames xs ys
  | .tup xs, .tup ys => AV.sames xs ys
  | _, _ => false
def AV.sames : List AV → List AV → Bool
  | [], [] => true
  | x :: xs, y :: ys => AV.same x y && AV.sames xs ys
  | _, _ => false
end

abbrev AV.int (k : IntKind) (n : Int) : AV := .lit (.int k n)
abbrev AV.i64 (n : Int) : AV := .lit (.int .i64 n)
abbrev AV.bool (b : Bool) : AV := .lit (.bool b)

/-- May this lie in a cell? -/
def AV.cell : AV → Bool
  | .any | .agg _ | .tup _ | .lit .unit => false
  | _ => true

/-- May this be a map's value? -/
def AV.valOk : AV → Bool
  | .any => false
  | _ => true

def AV.cells : AV → List AV
  | .agg xs => xs
  | x => [x]

inductive Opd where
  | t (n : Nat)
  | c (v : AV)
  deriving Inhabited

/-- Operations with all types resolved. -/
inductive AOp where
  | mv (x : Opd)
  | pick (c a b : Opd)
  | new (cs : List AV)
  | box (x : Opd)
  | build (z : List AV) (ps : List (Nat × Nat × Opd))
  | rowlit (len sz : Nat) (z : List AV) (ps : List (Nat × Nat × Opd))
  | ld (n : Option Nat) (a : Opd)
  | st (n : Nat) (a x : Opd)
  | nilc (x : Opd)
  | bin (op : BinOp) (x y : Opd)
  | eqb (op : BinOp) (x y : Opd)
  | eqn (op : BinOp) (kd : Nat) (x y : Opd)
  | un (op : UnOp) (x : Opd)
  | conv (k : IntKind) (x : Opd)
  | convS (x : Opd)
  | bytes2str (x : Opd)
  | ifc (t : TypeId) (x : Opd)
  | func (f : Fn) (first cap : List Opd)
  | mkmap
  | mkslice (sz bytes : Nat) (z : List AV) (l c : Opd)
  | slice (sz : Nat) (x : Opd) (lo hi : Option Opd)
  | slice3 (sz : Nat) (x lo hi mx : Opd)
  | sliceS (x : Opd) (lo hi : Option Opd)
  | sliceA (n sz : Nat) (x : Opd) (lo hi : Option Opd)
  | arrp (n : Nat) (x : Opd)
  | faddr (off : Nat) (x : Opd)
  | fld (off : Nat) (n : Option Nat) (x : Opd)
  | iaddr (sz : Nat) (x i : Opd)
  | iaddrA (n sz : Nat) (x i : Opd)
  | idxA (n sz : Nat) (m : Option Nat) (x i : Opd)
  | idxS (x i : Opd)
  | lookup (kk : Nat) (z : AV) (x k : Opd) (ok : Bool)
  | mapup (kk : Nat) (m k x : Opd)
  | mapent (z : AV) (m k : Opd)
  | entst (m s x : Opd)
  | ext (x : Opd) (i : Nat)
  | app (str : Bool) (sz bytes : Nat) (s x : Opd)
  | appz (sz bytes : Nat) (z : List AV) (s x : Opd)
  | cpy (sz : Nat) (d s : Opd)
  | clearM (x : Opd)
  | clearS (sz : Nat) (z : List AV) (x : Opd)
  | del (kk : Nat) (m k : Opd)
  | len (kd : Nat) (x : Opd)
  | cnst (v : AV)
  | mx (xs : List Opd)
  | mn (xs : List Opd)
  | tass (t : TypeId) (x : Opd) (z : AV) (ok : Bool)
  | call (f : Opd) (args : List Opd)
  | inv (recv : Opd) (name : String) (args : List Opd)
  deriving Inhabited

structure AI where
  dst : Option Nat
  guard : Option (Nat × Bool)
  op : AOp
  deriving Inhabited

/-- An operation of a region that draws its order, in an order of ours: every call and every writer behind all that need not come behind it. 'ix': its place in the region. 'need': the temporaries that it looks at. 'req': places (ours) of operations that come before it in every order. 'mask': operations that make objects and need not come before. 'post': reads that stand before this call and need not come before it. -/
structure DI where
  ix : Nat
  ai : AI
  need : List Nat
  req : List Nat
  mask : List Nat
  post : List Nat
  deriving Inhabited

inductive AC where
  | skip
  | ops (l : List AI)
  | draw (l : List DI)
  | seq (a b : AC)
  | cond (c : Opd) (a b : AC)
  | block (id : Nat) (b : AC)
  | loop (live : List Nat) (b : AC)
  | rangeF (f : Opd) (ps : List Nat) (assign body : AC)
  | exit (id : Nat)
  | ret
  | stuck
  deriving Inhabited

abbrev Env := List (Nat × AV)

def Env.get : Env → Nat → AV
  | [], _ => .any
  | (s, v) :: e, t => if s = t then v else Env.get e t

def Env.put (e : Env) (d : Option Nat) (v : AV) : Env :=
  match d with
  | some t => (t, v) :: e
  | none => e

def Env.ev (e : Env) : Opd → AV
  | .t n => e.get n
  | .c v => v

/-- Only these temporaries are kept. -/
def Env.mask (e : Env) (l : List Nat) : Env := l.map fun t => (t, e.get t)

inductive Jump where
  | exit (id : Nat)
  | ret
  deriving DecidableEq, Inhabited

inductive LS where
  | ready | busy | done | over
  deriving DecidableEq, Inhabited

inductive AO where
  | dead
  | row (xs : List AV)
  | map (es : List (AV × AV))
  | loop (st : LS) (pend : Option Jump) (env : Env) (ps : List Nat) (assign body : AC)
  deriving Inhabited

abbrev Heap := List AO

/-! ### Pure parts -/

def binInt (op : BinOp) (k : IntKind) (x y : Int) : Option AL :=
  match op with
  | .add => some (.int k (k.wrap (x + y)))
  | .sub => some (.int k (k.wrap (x - y)))
  | .mul => some (.int k (k.wrap (x * y)))
  | .quo => if y = 0 then none else some (.int k (k.wrap (x.tdiv y)))
  | .rem => if y = 0 then none else some (.int k (x.tmod y))
  | .and => some (.int k (k.wrap (BitVec.ofInt k.bits x &&& BitVec.ofInt k.bits y).toNat))
  | .or => some (.int k (k.wrap (BitVec.ofInt k.bits x ||| BitVec.ofInt k.bits y).toNat))
  | .xor => some (.int k (k.wrap (BitVec.ofInt k.bits x ^^^ BitVec.ofInt k.bits y).toNat))
  | .andNot => some (.int k (k.wrap (BitVec.ofInt k.bits x &&& ~~~(BitVec.ofInt k.bits y)).toNat))
  | .eql => some (.bool (x == y))
  | .neq => some (.bool (x != y))
  | .lss => some (.bool (x < y))
  | .leq => some (.bool (x ≤ y))
  | .gtr => some (.bool (x > y))
  | .geq => some (.bool (x ≥ y))
  | _ => none

def shiftInt (op : BinOp) (k : IntKind) (x y : Int) : Option AL :=
  if y < 0 then none else
  match op with
  | .shl => some (.int k (k.wrap (x * 2 ^ (min y.toNat k.bits))))
  | .shr => some (.int k (x.fdiv (2 ^ (min y.toNat k.bits))))
  | _ => none

def binLit (op : BinOp) (a b : AL) : Option AL :=
  match a, b with
  | .int k x, .int k' y =>
    match op with
    | .shl | .shr => shiftInt op k x y
    | _ => if k = k' then binInt op k x y else none
  | .str x, .str y =>
    match op with
    | .eql => some (.bool (x.toList == y.toList))
    | .neq => some (.bool (!(x.toList == y.toList)))
    | .lss => some (.bool (Op.bytesLess x.toList y.toList))
    | _ => none
  | _, _ => none

def eqbA (op : BinOp) (x y : AV) : Option AV :=
  match op, x, y with
  | .eql, .lit (.bool a), .lit (.bool b) => some (.lit (.bool (a == b)))
  | .neq, .lit (.bool a), .lit (.bool b) => some (.lit (.bool (!(a == b))))
  | _, _, _ => none

/-- Is it nil? 1 slice, 2 map, 3 func, 4 interface, 5 pointer. -/
def isNilA : Nat → AV → Option Bool
  | 1, .lit .nils => some true
  | 1, .sl _ _ _ _ => some false
  | 1, .ro _ n _ => if 0 < n then some false else none
  | 2, .lit .nilm => some true
  | 2, .mp _ => some false
  | 3, .lit .nilf => some true
  | 3, .fn _ _ _ => some false
  | 4, .lit .nili => some true
  | 4, .ifc _ _ => some false
  | 5, .lit .nilp => some true
  | 5, .ptr _ _ => some false
  | _, _ => none

def eqNil (kd : Nat) (x y : AV) : Option Bool :=
  match isNilA kd x, isNilA kd y with
  | some true, some b => some b
  | some false, some true => some false
  | _, _ => none

def eqnA (op : BinOp) (kd : Nat) (x y : AV) : Option AV :=
  match op, eqNil kd x y with
  | .eql, some r => some (.bool r)
  | .neq, some r => some (.bool !r)
  | _, _ => none

def binA (op : BinOp) (x y : AV) : Option AV :=
  match x, y with
  | .lit a, .lit b => (binLit op a b).map .lit
  | _, _ => none

def unA (op : UnOp) (x : AV) : Option AV :=
  match op, x with
  | .neg, .lit (.int k n) => some (.int k (k.wrap (0 - n)))
  | .xor, .lit (.int k n) => some (.int k (k.wrap (BitVec.ofInt k.bits (if k.signed then -1 else k.max) ^^^ BitVec.ofInt k.bits n).toNat))
  | .not, .lit (.bool b) => some (.bool !b)
  | _, _ => none

/-- Cells put in from a place on. -/
def splice (xs : List AV) (off : Nat) : List AV → List AV
  | [] => xs
  | c :: cs => splice (xs.set off c) (off + 1) cs

def fillA (xs : List AV) (g : Opd → AV) : List (Nat × Nat × Opd) → Option (List AV)
  | [] => some xs
  | (off, n, x) :: ps =>
    let cs := (g x).cells
    if cs.length = n ∧ off + n ≤ xs.length ∧ cs.all AV.cell then fillA (splice xs off cs) g ps else none

def getO (h : Heap) (i : Nat) : AO := (h[i]?).getD .dead

def rowOf (h : Heap) (i : Nat) : Option (List AV) :=
  match h[i]? with
  | some (.row xs) => some xs
  | _ => none

def mapOf (h : Heap) (i : Nat) : Option (List (AV × AV)) :=
  match h[i]? with
  | some (.map es) => some es
  | _ => none

/-- The row that a pointer leads into, and where. -/
def baseOf (h : Heap) : AV → Option (List AV × Nat)
  | .ptr i off => match rowOf h i with
    | some xs => some (xs, off)
    | none => none
  | .rop xs k => some (xs, k)
  | _ => none

/-- A part of a row: one cell, or an aggregate of some cells. -/
def partA (xs : List AV) (off : Nat) : Option Nat → Option AV
  | none => xs[off]?
  | some m => if off + m ≤ xs.length then some (.agg ((xs.drop off).take m)) else none

def ldA (h : Heap) (n : Option Nat) (a : AV) : Option AV :=
  match baseOf h a with
  | some (xs, off) => partA xs off n
  | none => none

def stA (h : Heap) (n : Nat) (a x : AV) : Option Heap :=
  match a with
  | .ptr i off =>
    match rowOf h i with
    | some xs =>
      if x.cells.length = n ∧ off + n ≤ xs.length ∧ x.cells.all AV.cell then some (h.set i (.row (splice xs off x.cells))) else none
    | none => none
  | _ => none

/-- The elements of a slice: all its cells. -/
def sliceCells (h : Heap) (sz : Nat) : AV → Option (List AV × Nat)
  | .lit .nils => some ([], 0)
  | .emp => some ([], 0)
  | .sl i off len s =>
    match rowOf h i with
    | some xs => if s = sz ∧ off + len * sz ≤ xs.length then some ((xs.drop off).take (len * sz), len) else none
    | none => none
  | .ro xs len s => if s = sz then some (xs, len) else none
  | _ => none

/-- A length: of a string (0), a slice (1), a map (2). -/
def lenA (h : Heap) (kd : Nat) (x : AV) : Option Nat :=
  match kd, x with
  | 0, .lit (.str s) => some s.size
  | 1, .lit .nils => some 0
  | 1, .emp => some 0
  | 1, .sl _ _ len _ => some len
  | 1, .ro _ len _ => some len
  | 2, .lit .nilm => some 0
  | 2, .mp i => (mapOf h i).map (·.length)
  | _, _ => none

def iaddrS (sz : Nat) (x : AV) (i : Int) : Option AV :=
  match x with
  | .sl id off len s => if 0 ≤ i ∧ i < len ∧ s = sz then some (.ptr id (off + i.toNat * sz)) else none
  | .ro xs len s => if 0 ≤ i ∧ i < len ∧ s = sz then some (.rop xs (i.toNat * sz)) else none
  | _ => none

def offA (x : AV) (k : Nat) : Option AV :=
  match x with
  | .ptr i off => some (.ptr i (off + k))
  | .rop xs off => some (.rop xs (off + k))
  | _ => none

def intOf : AV → Option Int
  | .lit (.int _ n) => some n
  | _ => none

/-- The bounds of x[lo:hi] under a length. -/
def bounds (len : Nat) (lo hi : Option AV) : Option (Nat × Nat) :=
  match (match hi with | none => some (len : Int) | some v => intOf v), (match lo with | none => some 0 | some v => intOf v) with
  | some h, some l => if 0 ≤ l ∧ l ≤ h ∧ h ≤ len then some (l.toNat, h.toNat) else none
  | _, _ => none

def sliceSl (sz : Nat) (x : AV) (lo hi : Option AV) : Option AV :=
  match x with
  | .sl i off len s =>
    match bounds len lo hi with
    | some (l, h) => if s = sz then (if l = h ∧ l ≠ 0 then some (.ro [] 0 sz) else some (.sl i (off + l * sz) (h - l) sz)) else none
    | none => none
  | .ro xs len s =>
    match bounds len lo hi with
    | some (l, h) => if s = sz then some (.ro ((xs.drop (l * sz)).take ((h - l) * sz)) (h - l) sz) else none
    | none => none
  | .lit .nils => match bounds 0 lo hi with
    | some _ => some (.lit .nils)
    | none => none
  | .emp => match bounds 0 lo hi with
    | some _ => some .emp
    | none => none
  | _ => none

def keyEq : AV → AV → Option Bool
  | .lit (.int k a), .lit (.int k' b) => if k = k' then some (a == b) else none
  | .lit (.str a), .lit (.str b) => some (a == b)
  | .lit (.bool a), .lit (.bool b) => some (a == b)
  | _, _ => none

/-- Where a key stands in a map. 'none': the keys cannot be compared. -/
def findA (k : AV) : List (AV × AV) → Nat → Option (Option (Nat × AV))
  | [], _ => some none
  | (q, v) :: es, i =>
    match keyEq k q with
    | some true => some (some (i, v))
    | some false => findA k es (i + 1)
    | none => none

/-- Kinds of keys: 0 numbers, 1 strings, 2 bools. -/
def keyOk : Nat → AV → Bool
  | 0, .lit (.int _ _) => true
  | 1, .lit (.str _) => true
  | 2, .lit (.bool _) => true
  | _, _ => false

def foundA (z : AV) : Option (Nat × AV) → AV
  | some (_, v) => v
  | none => z

/-- The entries of a map, of a nil map too. -/
def entsOf (h : Heap) : AV → Option (List (AV × AV))
  | .lit .nilm => some []
  | .mp i => mapOf h i
  | _ => none

def setVal (es : List (AV × AV)) (i : Nat) (v : AV) : List (AV × AV) := es.modify i fun e => (e.1, v)

def putA (es : List (AV × AV)) (k x : AV) : Option (Nat × AV) → List (AV × AV)
  | some (j, _) => setVal es j x
  | none => es ++ [(k, x)]

def strOf : List AV → Option (List UInt8)
  | [] => some []
  | .lit (.int .u8 n) :: xs => (strOf xs).map (UInt8.ofNat n.toNat :: ·)
  | _ => none

def repl (n : Nat) (z : List AV) : List AV := (List.replicate n z).flatten

def maxInts : AV → List AV → Option AV
  | x, [] => some x
  | .lit (.int k x), .lit (.int k' y) :: r => if k = k' then maxInts (.int k (if y > x then y else x)) r else none
  | _, _ => none

def minInts : AV → List AV → Option AV
  | x, [] => some x
  | .lit (.int k x), .lit (.int k' y) :: r => if k = k' then minInts (.int k (if y < x then y else x)) r else none
  | _, _ => none

def room : Nat := 2 ^ 44

/-- What is appended: a string's bytes, or a slice's elements. -/
def srcA (h : Heap) (str : Bool) (sz : Nat) (x : AV) : Option (List AV × Nat) :=
  match str, x with
  | true, .lit (.str b) => if sz = 1 then some (b.data.toList.map (fun c => AV.int .u8 c.toNat), b.size) else none
  | true, _ => none
  | false, v => sliceCells h sz v

/-- One operation that is no call. -/
def aop (g : Opd → AV) (h : Heap) : AOp → Option (AV × Heap)
  | .mv x => some (g x, h)
  | .pick c a b => match g c with
    | .lit (.bool t) => some (if t then g a else g b, h)
    | _ => none
  | .new cs => some (.ptr h.length 0, h ++ [.row cs])
  | .box x => if (g x).cells.all AV.cell then some (.ptr h.length 0, h ++ [.row (g x).cells]) else none
  | .build z ps => (fillA z g ps).map fun cs => (.agg cs, h)
  | .rowlit len sz z ps => (fillA z g ps).map fun cs => (.sl h.length 0 len sz, h ++ [.row cs])
  | .ld n a => (ldA h n (g a)).map fun v => (v, h)
  | .st n a x => (stA h n (g a) (g x)).map fun h' => (.lit .unit, h')
  | .nilc x => match g x with
    | .ptr i o => some (.ptr i o, h)
    | .rop xs k => some (.rop xs k, h)
    | .fn (.func f) a b => some (.fn (.func f) a b, h)
    | .yl i => some (.yl i, h)
    | _ => none
  | .bin op x y => (binA op (g x) (g y)).map fun v => (v, h)
  | .eqb op x y => (eqbA op (g x) (g y)).map fun v => (v, h)
  | .eqn op kd x y => (eqnA op kd (g x) (g y)).map fun v => (v, h)
  | .un op x => (unA op (g x)).map fun v => (v, h)
  | .conv k x => (intOf (g x)).map fun n => (.int k (k.wrap n), h)
  | .convS x => match g x with
    | .lit (.str s) => some (.lit (.str s), h)
    | _ => none
  | .bytes2str x => match sliceCells h 1 (g x) with
    | some (cs, _) => (strOf cs).map fun l => (.lit (.str ⟨l.toArray⟩), h)
    | none => none
  | .ifc t x => some (.ifc t (g x), h)
  | .func f a b => some (.fn f (a.map g) (b.map g), h)
  | .mkmap => some (.mp h.length, h ++ [.map []])
  | .mkslice sz bytes z l c => match g l, g c with
    | .lit (.int .i64 l), .lit (.int .i64 c) => if 0 ≤ l ∧ l ≤ c ∧ c ≤ 2 ^ 62 ∧ bytes * c ≤ 2 ^ 44 then some (.sl h.length 0 l.toNat sz, h ++ [.row (repl l.toNat z)]) else none
    | _, _ => none
  | .slice sz x lo hi => (sliceSl sz (g x) (lo.map g) (hi.map g)).map fun v => (v, h)
  | .slice3 _ x lo hi mx => match g x, intOf (g lo), intOf (g hi), intOf (g mx) with
    | .sl _ _ _ _, some 0, some 0, some 0 => some (.emp, h)
    | .ro _ _ _, some 0, some 0, some 0 => some (.emp, h)
    | .emp, some 0, some 0, some 0 => some (.emp, h)
    | .lit .nils, some 0, some 0, some 0 => some (.lit .nils, h)
    | _, _, _, _ => none
  | .sliceS x lo hi => match g x with
    | .lit (.str s) => (bounds s.size (lo.map g) (hi.map g)).map fun (l, q) => (.lit (.str (s.extract l q)), h)
    | _ => none
  | .sliceA n sz x lo hi => match bounds n (lo.map g) (hi.map g), baseOf h (g x) with
    | some (l, q), some (xs, off) => if off + n * sz ≤ xs.length then
        (if l = q ∧ l ≠ 0 then some (AV.ro [] 0 sz) else match g x with
          | .ptr i o => some (.sl i (o + l * sz) (q - l) sz)
          | .rop ys k => some (.ro ((ys.drop (k + l * sz)).take ((q - l) * sz)) (q - l) sz)
          | _ => none).map fun v => (v, h)
      else none
    | _, _ => none
  | .arrp n x => match g x with
    | .sl i off len _ => if n ≤ len then some (.ptr i off, h) else none
    | .ro xs len _ => if n ≤ len ∧ 0 < len then some (.rop xs 0, h) else none
    | _ => none
  | .faddr off x => (offA (g x) off).map fun v => (v, h)
  | .fld off n x => match g x with
    | .agg cs => (partA cs off n).map fun v => (v, h)
    | _ => none
  | .iaddr sz x i => match intOf (g i) with
    | some k => (iaddrS sz (g x) k).map fun v => (v, h)
    | none => none
  | .iaddrA n sz x i => match intOf (g i) with
    | some k => if 0 ≤ k ∧ k < n then (offA (g x) (k.toNat * sz)).map fun v => (v, h) else none
    | none => none
  | .idxA n sz m x i => match g x, intOf (g i) with
    | .agg cs, some k => if 0 ≤ k ∧ k < n then (partA cs (k.toNat * sz) m).map fun v => (v, h) else none
    | _, _ => none
  | .idxS x i => match g x, intOf (g i) with
    | .lit (.str s), some k => if 0 ≤ k then (s.data[k.toNat]?).map fun b => (.int .u8 b.toNat, h) else none
    | _, _ => none
  | .lookup kk z x k ok => if !keyOk kk (g k) then none else
    match entsOf h (g x) with
    | some es => match findA (g k) es 0 with
      | some r => some (if ok then .tup [foundA z r, .bool r.isSome] else foundA z r, h)
      | none => none
    | none => none
  | .mapup kk m k x => if !(keyOk kk (g k) && AV.valOk (g x)) then none else match g m with
    | .mp i => match mapOf h i with
      | some es => match findA (g k) es 0 with
        | some r => some (.lit .unit, h.set i (.map (putA es (g k) (g x) r)))
        | none => none
      | none => none
    | _ => none
  | .mapent _ _ _ => none
  | .entst _ _ _ => none
  | .ext x i => match g x with
    | .tup xs => (xs[i]?).map fun v => (v, h)
    | _ => none
  | .app str sz bytes s x => match srcA h str sz (g x) with
    | some (ys, n) => match g s with
      | .lit .nils => if n = 0 then some (.lit .nils, h) else if bytes * n ≤ room ∧ n ≤ room ∧ ys.length = n * sz then some (.sl h.length 0 n sz, h ++ [.row ys]) else none
      | .emp => if n = 0 then some (.emp, h) else if bytes * n ≤ room ∧ n ≤ room ∧ ys.length = n * sz then some (.sl h.length 0 n sz, h ++ [.row ys]) else none
      | .sl i off len q => match rowOf h i with
        | some xs => if off = 0 ∧ q = sz ∧ xs.length = len * sz ∧ bytes * (len + n) ≤ room ∧ len + n ≤ room ∧ ys.length = n * sz then
            some (.sl h.length 0 (len + n) sz, (h.set i .dead) ++ [.row (xs ++ ys)]) else none
        | none => none
      | _ => none
    | none => none
  | .appz _ _ _ _ _ => none
  | .cpy sz d s => match sliceCells h sz (g s) with
    | some (ys, n) => match g d with
      | .sl i off len q => match rowOf h i with
        | some xs => if q = sz ∧ off + len * sz ≤ xs.length then
            some (.i64 (min n len : Nat), h.set i (.row (splice xs off (ys.take (min n len * sz))))) else none
        | none => none
      | .lit .nils | .emp | .ro _ 0 _ => some (.i64 0, h)
      | _ => none
    | none => none
  | .clearM x => match g x with
    | .mp i => (mapOf h i).map fun _ => (.lit .unit, h.set i (.map []))
    | .lit .nilm => some (.lit .unit, h)
    | _ => none
  | .clearS sz z x => match g x with
    | .lit .nils | .emp | .ro _ 0 _ => some (.lit .unit, h)
    | .sl i off len q => match rowOf h i with
      | some xs => if q = sz ∧ off + len * sz ≤ xs.length then some (.lit .unit, h.set i (.row (splice xs off (repl len z)))) else none
      | none => none
    | _ => none
  | .del kk m k => if !keyOk kk (g k) then none else match g m with
    | .mp i => match mapOf h i with
      | some es => match findA (g k) es 0 with
        | some (some (j, _)) => some (.lit .unit, h.set i (.map (es.eraseIdx j)))
        | some none => some (.lit .unit, h)
        | none => none
      | none => none
    | .lit .nilm => some (.lit .unit, h)
    | _ => none
  | .len kd x => match lenA h kd (g x) with
    | some n => some (.i64 (n : Nat), h)
    | none => none
  | .cnst v => some (v, h)
  | .mx xs => match xs.map g with
    | x :: r => (maxInts x r).map fun v => (v, h)
    | [] => none
  | .mn xs => match xs.map g with
    | x :: r => (minInts x r).map fun v => (v, h)
    | [] => none
  | .tass t x z ok => match g x with
    | .ifc u v => if ok then (if u = t then some (.tup [v, .bool true], h) else some (.tup [z, .bool false], h)) else (if u = t then some (v, h) else none)
    | .lit .nili => if ok then some (.tup [z, .bool false], h) else none
    | _ => none
  | .call _ _ => none
  | .inv _ _ _ => none

/-! ### The runner -/

inductive Ex where
  | normal
  | jump (j : Jump)
  deriving DecidableEq, Inhabited

inductive AR where
  | tmp (t : Nat)
  | cell (a : Nat) (n : Option Nat)
  deriving Inhabited

structure AFn where
  np : Nat
  N : Nat
  res : List AR
  body : AC
  deriving Inhabited

inductive Entry where
  | code (f : AFn)
  | prim (f : List AV → Heap → Option (AV × Heap))

structure Tab where
  fn : FuncId → Option Entry
  meth : TypeId → String → Option FuncId

def resA (env : Env) (h : Heap) : List AR → Option (List AV)
  | [] => some []
  | .tmp t :: r => (resA env h r).map (env.get t :: ·)
  | .cell a n :: r => match ldA h n (env.get a), resA env h r with
    | some v, some vs => some (v :: vs)
    | _, _ => none

def result : List AV → AV
  | [v] => v
  | vs => .tup vs

def enter (args : List AV) : Env := args.zipIdx.map fun (v, i) => (i, v)

/-- Is a guarded operation wanted? 'none': it cannot be told. -/
def wanted (env : Env) : Option (Nat × Bool) → Option Bool
  | none => some true
  | some (t, want) => match env.get t with
    | .lit (.bool b) => some (b == want)
    | .lit .unit => some false
    | _ => none

def maskH (h : Heap) (ps : List Nat) : Heap := ps.foldl (fun h p => h.set p .dead) h

/-- After work on a masked heap: the masked objects come back. -/
def unmaskH (h h' : Heap) (ps : List Nat) : Heap := ps.foldl (fun q p => q.set p (getO h p)) h'

/-- 0: looks at nothing but temporaries; 1: reads the heap; 2: makes one object; 3: a call, or a writer. -/
def clsOf : AOp → Nat
  | .mv _ | .pick _ _ _ | .build _ _ | .nilc _ | .bin _ _ _ | .eqb _ _ _ | .eqn _ _ _ _ | .un _ _ | .conv _ _ | .convS _ | .ifc _ _ | .func _ _ _ | .slice _ _ _ _ | .slice3 _ _ _ _ _ | .sliceS _ _ _ | .arrp _ _
  | .faddr _ _ | .fld _ _ _ | .iaddr _ _ _ | .iaddrA _ _ _ _ | .idxA _ _ _ _ _ | .idxS _ _ | .ext _ _ | .cnst _ | .mx _ | .mn _ | .tass _ _ _ _ => 0
  | .ld _ _ | .bytes2str _ | .sliceA _ _ _ _ _ | .lookup _ _ _ _ _ | .len _ _ => 1
  | .new _ | .box _ | .rowlit _ _ _ _ | .mkmap | .mkslice _ _ _ _ _ => 2
  | _ => 3

structure DS where
  env : Env
  heap : Heap
  made : List (Nat × Nat)

def DS.positions (s : DS) (l : List Nat) : List Nat := l.filterMap fun k => s.made.lookup k

/-- The reads before a call read the same behind it. -/
def rereads (all : List DI) (s : DS) (js : List Nat) : Bool :=
  js.all fun j => match all[j]? with
    | some d => match wanted (s.env.mask d.need) d.ai.guard with
      | some true => match aop (s.env.mask d.need).ev (maskH s.heap (s.positions d.mask)) d.ai.op with
        | some (v, _) => match d.ai.dst with
          | some t => AV.same v (s.env.get t)
          | none => true
        | none => false
      | some false => true
      | none => false
    | none => false

mutual
/-- A function value is called. -/
def call (T : Tab) : Nat → AV → List AV → Heap → Option (AV × Heap)
  | 0, _, _, _ => none
  | n + 1, .fn (.func f) first cap, args, h =>
    match T.fn f with
    | some (.prim p) => p (first ++ args ++ cap) h
    | some (.code af) =>
      if (first ++ args ++ cap).length = af.np then
        match run T n af.body (enter (first ++ args ++ cap)) h with
        | some (.normal, env, h') | some (.jump .ret, env, h') => (resA env h' af.res).map fun vs => (result vs, h')
        | _ => none
      else none
    | none => none
  | n + 1, .yl l, args, h =>
    match h[l]? with
    | some (.loop .ready _ env ps assign body) =>
      if args.length = ps.length then
        match run T n assign ((ps.zip args).reverse ++ env) h with
        | some (.normal, env1, h1) =>
          match h1[l]? with
          | some (.loop .ready pend1 e1 p1 a1 b1) =>
            match run T n body env1 (h1.set l (.loop .busy pend1 e1 p1 a1 b1)) with
            | some (x, _, h2) =>
              match h2[l]? with
              | some (.loop _ _ e2 p2 a2 b2) =>
                match x with
                | .normal => some (.bool true, h2.set l (.loop .ready none e2 p2 a2 b2))
                | .jump j => some (.bool false, h2.set l (.loop .done (some j) e2 p2 a2 b2))
              | _ => none
            | none => none
          | _ => none
        | _ => none
      else none
    | _ => none
  | _ + 1, _, _, _ => none
/-- An operation, calls taken in. -/
def opC (T : Tab) : Nat → Env → Heap → AOp → Option (AV × Heap)
  | 0, _, _, _ => none
  | n + 1, env, h, .call f args => call T n (env.ev f) (args.map env.ev) h
  | n + 1, env, h, .inv recv name args =>
    match env.ev recv with
    | .ifc t v => match T.meth t name with
      | some f => call T n (.fn (.func f) [] []) (v :: args.map env.ev) h
      | none => none
    | _ => none
  | _ + 1, env, h, o => aop env.ev h o
def ops (T : Tab) : Nat → List AI → Env → Heap → Option (Env × Heap)
  | 0, _, _, _ => none
  | _ + 1, [], env, h => some (env, h)
  | n + 1, i :: l, env, h =>
    match wanted env i.guard with
    | some true => match opC T n env h i.op with
      | some (v, h') => ops T n l (env.put i.dst v) h'
      | none => none
    | some false => ops T n l (env.put i.dst (.lit .unit)) h
    | none => none
def draw (T : Tab) : Nat → List DI → Nat → List DI → DS → Option (Env × Heap)
  | 0, _, _, _, _ => none
  | _ + 1, _, _, [], s => some (s.env, s.heap)
  | n + 1, all, k, d :: l, s =>
    match wanted (s.env.mask d.need) d.ai.guard with
    | some false => draw T n all (k + 1) l { s with env := s.env.put d.ai.dst (.lit .unit) }
    | none => none
    | some true =>
      match opC T n (s.env.mask d.need) (maskH s.heap (s.positions d.mask)) d.ai.op with
      | none => none
      | some (v, h1) =>
        match clsOf d.ai.op with
        | 0 => draw T n all (k + 1) l { s with env := s.env.put d.ai.dst v }
        | 1 => draw T n all (k + 1) l { s with env := s.env.put d.ai.dst v }
        | 2 => draw T n all (k + 1) l { env := s.env.put d.ai.dst v, heap := unmaskH s.heap h1 (s.positions d.mask), made := (k, s.heap.length) :: s.made }
        | _ =>
          if s.heap.length ≤ h1.length ∧ rereads all { s with env := s.env.put d.ai.dst v, heap := unmaskH s.heap h1 (s.positions d.mask) } d.post = true then
            draw T n all (k + 1) l { s with env := s.env.put d.ai.dst v, heap := unmaskH s.heap h1 (s.positions d.mask) }
          else none
def run (T : Tab) : Nat → AC → Env → Heap → Option (Ex × Env × Heap)
  | 0, _, _, _ => none
  | _ + 1, .skip, env, h => some (.normal, env, h)
  | n + 1, .ops l, env, h => (ops T n l env h).map fun (e, h) => (.normal, e, h)
  | n + 1, .draw l, env, h => (draw T n l 0 l { env, heap := h, made := [] }).map fun (e, h) => (.normal, e, h)
  | n + 1, .seq a b, env, h =>
    match run T n a env h with
    | some (.normal, env', h') => run T n b env' h'
    | r => r
  | n + 1, .cond c a b, env, h =>
    match env.ev c with
    | .lit (.bool t) => run T n (if t then a else b) env h
    | _ => none
  | n + 1, .block id b, env, h =>
    match run T n b env h with
    | some (.jump (.exit id'), env', h') => if id' = id then some (.normal, env', h') else some (.jump (.exit id'), env', h')
    | r => r
  | n + 1, .loop live b, env, h =>
    match run T n b (env.mask live) h with
    | some (.normal, env', h') => run T n (.loop live b) env' h'
    | r => r
  | n + 1, .rangeF f ps assign body, env, h =>
    match env.ev f with
    | .fn (.func g) first cap =>
      match call T n (.fn (.func g) first cap) [.yl h.length] (h ++ [.loop .ready none env ps assign body]) with
      | some (_, h') =>
        match h'[h.length]? with
        | some (.loop s pend e1 p1 a1 b1) =>
          if s = .busy then none else
          match pend with
          | none => some (.normal, env, h'.set h.length (.loop .over none e1 p1 a1 b1))
          | some j => some (.jump j, env, h'.set h.length (.loop .over (some j) e1 p1 a1 b1))
        | _ => none
      | none => none
    | _ => none
  | _ + 1, .exit id, env, h => some (.jump (.exit id), env, h)
  | _ + 1, .ret, env, h => some (.jump .ret, env, h)
  | _ + 1, .stuck, _, _ => none
end

end Go.Ab

/- From the model's operations to abstract ones: all types resolved. Definitions alone. -/
namespace Go.Ab

def ofL : Value → Option AL
  | .int k n => some (.int k n)
  | .bool b => some (.bool b)
  | .string s => some (.str s)
  | .pointer none => some .nilp
  | .slice none 0 0 => some .nils
  | .map none => some .nilm
  | .nilFunc => some .nilf
  | .nilIface => some .nili
  | _ => none

def ofLs : List Value → Option (List AV)
  | [] => some []
  | v :: vs => match ofL v, ofLs vs with
    | some l, some ls => some (.lit l :: ls)
    | _, _ => none

def ofV : Value → Option AV
  | .agg cs => (ofLs cs.toList).map .agg
  | .iface t v => (ofL v).map fun l => .ifc t (.lit l)
  | v => (ofL v).map .lit

def trOpd : Operand → Option Opd
  | .tmp t => some (.t t)
  | .const v => (ofV v).map .c
  | .func f => some (.c (.fn (.func f) [] []))
  | .global _ => none

def trOpds : List Operand → Option (List Opd)
  | [] => some []
  | x :: xs => match trOpd x, trOpds xs with
    | some y, some ys => some (y :: ys)
    | _, _ => none

def trOO : Option Operand → Option (Option Opd)
  | none => some none
  | some x => (trOpd x).map some

def szOf (P : Program) (t : TypeId) : Option Nat := (P.info? t).map (·.size)
def bytesOf (P : Program) (t : TypeId) : Option Nat := (P.info? t).map (·.bytes)

/-- The cells of a type's zero value. -/
def zeroOf (P : Program) (t : TypeId) : Option (List AV) :=
  match P.info? t with
  | some i => match i.zero with
    | some z => match ofLs z.cells.toList with
      | some l => if l.length = i.size then some l else none
      | none => none
    | none => none
  | none => none

/-- The zero value itself. -/
def zeroAV (P : Program) (t : TypeId) : Option AV :=
  match P.info? t with
  | some i => match i.zero with
    | some z => ofV z
    | none => none
  | none => none

/-- none: one cell; some n: an aggregate of n cells. -/
def aggOf (P : Program) (t : TypeId) : Option (Option Nat) :=
  match P.underlying t, szOf P t with
  | some (.struct _), some n | some (.array _ _), some n => some (some n)
  | some _, some n => if n = 1 then some none else none
  | _, _ => none

def isStructArr : TypeDesc → Bool
  | .struct _ | .array _ _ => true
  | _ => false

def trParts (P : Program) (place : Nat → Option (Nat × Nat)) : List (Nat × Operand) → Option (List (Nat × Nat × Opd))
  | [] => some []
  | (i, x) :: ps => match place i, trOpd x, trParts P place ps with
    | some (o, n), some y, some r => some ((o, n, y) :: r)
    | _, _, _ => none

def placesL (P : Program) : List Field → Option (List (Nat × Nat))
  | [] => some []
  | f :: fs => match szOf P f.type, placesL P fs with
    | some n, some l => some ((f.offset, n) :: l)
    | _, _ => none

def isNilC : Operand → Bool
  | .const .nilIface => true
  | _ => false

/-- Kinds of '==' with nil: 1 slice, 2 map, 3 func, 4 interface, 5 pointer. -/
def eqKind : TypeDesc → Nat
  | .slice _ => 1
  | .map _ _ => 2
  | .func _ _ _ => 3
  | .interface _ => 4
  | .pointer _ => 5
  | _ => 0

def keyKind : TypeDesc → Option Nat
  | .int _ => some 0
  | .string => some 1
  | .bool => some 2
  | _ => none

/-- The kind of a map's keys, by the map's type; its elements' type. -/
def mapKind (P : Program) (t : TypeId) : Option (Nat × TypeId) :=
  match P.underlying t with
  | some (.map kt e) => match P.underlying kt with
    | some d => (keyKind d).map fun k => (k, e)
    | none => none
  | _ => none

/-- The function behind a method of a type, its receiver handed on as it is. -/
def methOf (P : Program) (t : TypeId) (name : String) : Option FuncId :=
  match P.info? t with
  | some i => match i.methods.find? (·.name == name) with
    | some m => match m.func, m.path.toList, P.underlying t with
      | some (f, true), [], some (.pointer _) => some f
      | some (_, _), [], some (.pointer _) => none
      | some (f, false), [], some _ => some f
      | _, _, _ => none
    | none => none
  | none => none

def trOp (P : Program) (o : Oper) : Option AOp :=
  match o.op with
  | .move x | .assign x => (trOpd x).map .mv
  | .pick c a b => match trOpd c, trOpd a, trOpd b with
    | some c, some a, some b => some (.pick c a b)
    | _, _, _ => none
  | .alloc t => (zeroOf P t).map .new
  | .box _ x => (trOpd x).map .box
  | .build t parts => match P.underlying t, zeroOf P t with
    | some (.struct fs), some z => match placesL P fs.toList with
      | some pl => (trParts P (fun i => pl[i]?) parts.toList).map (.build z)
      | none => none
    | some (.array _ e), some z => match szOf P e with
      | some n => (trParts P (fun i => some (i * n, n)) parts.toList).map (.build z)
      | none => none
    | _, _ => none
  | .buildSlice t len parts => match P.underlying t with
    | some (.slice e) => match szOf P e, zeroOf P e with
      | some n, some z => if 0 < n ∧ len * n ≤ 2 ^ 24 then (trParts P (fun i => some (i * n, n)) parts.toList).map (.rowlit len n (repl len z)) else none
      | _, _ => none
    | _ => none
  | .load t a => match aggOf P t, trOpd a with
    | some n, some a => some (.ld n a)
    | _, _ => none
  | .store t a x => match szOf P t, trOpd a, trOpd x with
    | some n, some a, some x => some (.st n a x)
    | _, _, _ => none
  | .nilCheck x => (trOpd x).map .nilc
  | .binOp op t x y _ => match P.underlying t, trOpd x, trOpd y with
    | some (.int _), some x, some y | some .string, some x, some y => some (.bin op x y)
    | some .bool, some x, some y => match op with
      | .eql | .neq => some (.eqb op x y)
      | _ => none
    | some d, some x', some y' => if eqKind d = 0 then none else match op with
      | .eql | .neq => if eqKind d = 4 ∧ !(isNilC x || isNilC y) then none else some (.eqn op (eqKind d) x' y')
      | _ => none
    | _, _, _ => none
  | .unOp op _ x => (trOpd x).map (.un op)
  | .convert src dst x => match P.underlying src, P.underlying dst, trOpd x with
    | some (.int _), some (.int k), some x => some (.conv k x)
    | some .string, some .string, some x => some (.convS x)
    | _, _, _ => none
  | .makeInterface t x => match P.underlying t with
    | some (.interface _) => none
    | some _ => (trOpd x).map (.ifc t)
    | none => none
  | .makeFunc f a b => match f with
    | .func _ => match trOpds a.toList, trOpds b.toList with
      | some a, some b => some (.func f a b)
      | _, _ => none
    | _ => none
  | .makeMap _ r => match r with
    | none => some .mkmap
    | some _ => none
  | .makeSlice t l c => match P.underlying t with
    | some (.slice e) => match szOf P e, bytesOf P e, zeroOf P e, trOpd l, trOpd c with
      | some n, some b, some z, some l, some c => if 0 < n then some (.mkslice n b z l c) else none
      | _, _, _, _, _ => none
    | _ => none
  | .slice t x lo hi mx => match P.underlying t with
    | some (.slice e) => match szOf P e, trOpd x, trOO lo, trOO hi, trOO mx with
      | some n, some x, some lo, some hi, some none => if 0 < n then some (.slice n x lo hi) else none
      | some n, some x, some (some lo), some (some hi), some (some mx) => some (.slice3 n x lo hi mx)
      | _, _, _, _, _ => none
    | some .string => match trOpd x, trOO lo, trOO hi, mx with
      | some x, some lo, some hi, none => some (.sliceS x lo hi)
      | _, _, _, _ => none
    | some (.array k e) => match szOf P e, trOpd x, trOO lo, trOO hi, mx with
      | some n, some x, some lo, some hi, none => if 0 < n then some (.sliceA k n x lo hi) else none
      | _, _, _, _, _ => none
    | _ => none
  | .sliceToArrayPointer t x => match P.underlying t with
    | some (.array n _) => (trOpd x).map (.arrp n)
    | _ => none
  | .fieldAddr t x i => match P.underlying t with
    | some (.struct fs) => match fs[i]? with
      | some f => match szOf P f.type with
        | some n => if 0 < n then (trOpd x).map (.faddr f.offset) else none
        | none => none
      | none => none
    | _ => none
  | .field t x i => match P.underlying t with
    | some (.struct fs) => match fs[i]? with
      | some f => match aggOf P f.type, trOpd x with
        | some n, some x => some (.fld f.offset n x)
        | _, _ => none
      | none => none
    | _ => none
  | .indexAddr t x i => match P.underlying t with
    | some (.slice e) => match szOf P e, trOpd x, trOpd i with
      | some n, some x, some i => some (.iaddr n x i)
      | _, _, _ => none
    | some (.array k e) => match szOf P e, trOpd x, trOpd i with
      | some n, some x, some i => some (.iaddrA k n x i)
      | _, _, _ => none
    | _ => none
  | .index t x i => match P.underlying t with
    | some (.array k e) => match szOf P e, aggOf P e, trOpd x, trOpd i with
      | some n, some m, some x, some i => some (.idxA k n m x i)
      | _, _, _, _ => none
    | some .string => match trOpd x, trOpd i with
      | some x, some i => some (.idxS x i)
      | _, _ => none
    | _ => none
  | .lookup t x k ok => match mapKind P t with
    | some (kk, e) => match zeroAV P e, trOpd x, trOpd k with
      | some z, some x, some k => some (.lookup kk z x k ok)
      | _, _, _ => none
    | none => none
  | .mapUpdate t m k x | .insert t m k x => match mapKind P t with
    | some (kk, _) => match trOpd m, trOpd k, trOpd x with
      | some m, some k, some x => some (.mapup kk m k x)
      | _, _, _ => none
    | none => none
  | .extract x i => (trOpd x).map fun x => .ext x i
  | .typeAssert x _ t ok => match P.underlying t with
    | some (.interface _) => none
    | some _ => match trOpd x, zeroAV P t with
      | some x, some z => some (.tass t x z ok)
      | _, _ => none
    | none => none
  | .call c => match c.callee with
    | .value f => match trOpd f, trOpds c.args.toList with
      | some f, some args => some (.call f args)
      | _, _ => none
    | .invoke r name => match trOpd r, trOpds c.args.toList with
      | some r, some args => some (.inv r name args)
      | _, _ => none
    | .builtin b => match b, c.args.toList, c.argTypes.toList with
      | .len, [x], [t] => match P.underlying t with
        | some .string => (trOpd x).map (.len 0)
        | some (.slice _) => (trOpd x).map (.len 1)
        | some (.map _ _) => (trOpd x).map (.len 2)
        | some (.array n _) => some (.cnst (.i64 n))
        | _ => none
      | .append, [s, x], [t, xt] => match P.underlying t with
        | some (.slice e) => match szOf P e, bytesOf P e, zeroOf P e, trOpd s, trOpd x with
          | some n, some b, some z, some s, some x => if 0 < n then match P.underlying xt with
            | some (.int _) => some (.appz n b z s x)
            | some (.slice _) => some (.app false n b s x)
            | some .string => if n = 1 then some (.app true n b s x) else none
            | _ => none else none
          | _, _, _, _, _ => none
        | _ => none
      | .copy, [d, s], [t, _] => match P.underlying t with
        | some (.slice e) => match szOf P e, trOpd d, trOpd s with
          | some n, some d, some s => some (.cpy n d s)
          | _, _, _ => none
        | _ => none
      | .clear, [x], [t] => match P.underlying t with
        | some (.map _ _) => (trOpd x).map .clearM
        | some (.slice e) => match szOf P e, zeroOf P e, trOpd x with
          | some n, some z, some x => if 0 < n then some (.clearS n z x) else none
          | _, _, _ => none
        | _ => none
      | .delete, [m, k], t :: _ => match mapKind P t with
        | some (kk, _) => match trOpd m, trOpd k with
          | some m, some k => some (.del kk m k)
          | _, _ => none
        | none => none
      | .max, xs, _ => (trOpds xs).map .mx
      | .min, xs, _ => (trOpds xs).map .mn
      | _, _, _ => none
  | _ => none

end Go.Ab

/- The relation between abstract states and worlds. -/
namespace Go.Ab

structure RC where
  D : Nat → Prop
  ρ : Nat → Nat
  own : Nat → Prop
  /-- Blocks that somebody else owns. -/
  frn : Nat → Prop
  /-- No name below this is newly given. -/
  lo : Nat
  w : World

def RC.hot (c : RC) (b : Nat) : Prop := c.own b ∨ c.frn b

mutual
def VR (c : RC) : AV → Value → Prop
  | .any, _ => True
  | .lit l, v => v = l.v
  | .ptr i off, v => c.D i ∧ v = .pointer (some ⟨c.ρ i, off, none⟩)
  | .rop xs k, v => ∃ b o, v = .pointer (some ⟨b, o + k, none⟩) ∧ b < c.w.heap.size ∧ ¬ c.hot b ∧ CR c b o xs
  | .sl i off len sz, v => c.D i ∧ ∃ cap, v = .slice (some ⟨c.ρ i, off, none⟩) len cap ∧ len ≤ cap ∧
      ∃ cs e fr, c.w.heap[c.ρ i]? = some (.cells cs e fr) ∧ off + cap * sz ≤ cs.size
  | .ro xs len sz, v => xs.length = len * sz ∧
      ((len = 0 ∧ ∃ a cap, v = .slice a 0 cap) ∨
       (0 < len ∧ ∃ b o cap, v = .slice (some ⟨b, o, none⟩) len cap ∧ len ≤ cap ∧ b < c.w.heap.size ∧ ¬ c.hot b ∧ CR c b o xs))
  | .emp, v => ∃ a, v = .slice a 0 0
  | .mp i, v => c.D i ∧ v = .map (some (c.ρ i))
  | .fn f fs cs, v => ∃ fv cv, v = .func f fv cv ∧ LR c fs fv.toList ∧ LR c cs cv.toList
  | .yl i, v => c.D i ∧ v = .func (.yield (c.ρ i)) #[] #[]
  | .ifc t x, v => ∃ u, v = .iface t u ∧ VR c x u
  | .agg xs, v => ∃ cs, v = .agg cs ∧ LR c xs cs.toList
  | .tup xs, v => ∃ vs, v = .tuple vs ∧ LR c xs vs.toList
def LR (c : RC) : List AV → List Value → Prop
  | [], vs => vs = []
  | x :: xs, vs => ∃ v r, vs = v :: r ∧ VR c x v ∧ LR c xs r
def CR (c : RC) (b o : Nat) : List AV → Prop
  | [] => True
  | x :: xs => (∃ v, c.w.cell? ⟨b, o, none⟩ = some v ∧ v.oneCell' = true ∧ VR c x v) ∧ CR c b (o + 1) xs
end

theorem LR.iff {c : RC} : ∀ {xs : List AV} {vs : List Value}, LR c xs vs ↔ xs.length = vs.length ∧ ∀ (i : Nat) (x : AV) (v : Value), xs[i]? = some x → vs[i]? = some v → VR c x v
  | [], vs => by
    simp only [LR]
    constructor
    · rintro rfl; simp
    · rintro ⟨h, -⟩; simpa using h.symm
  | x :: xs, vs => by
    simp only [LR]
    constructor
    · rintro ⟨v, r, rfl, hv, hr⟩
      obtain ⟨hl, h⟩ := LR.iff.1 hr
      refine ⟨by simp [hl], ?_⟩
      intro i y u hy hu
      cases i with
      | zero => simp at hy hu; subst hy; subst hu; exact hv
      | succ i => simp at hy hu; exact h i y u hy hu
    · rintro ⟨hl, h⟩
      cases vs with
      | nil => simp at hl
      | cons v r =>
        refine ⟨v, r, rfl, h 0 x v (by simp) (by simp), LR.iff.2 ⟨by simpa using hl, ?_⟩⟩
        intro i y u hy hu
        exact h (i + 1) y u (by simpa using hy) (by simpa using hu)

theorem CR.iff {c : RC} {b : Nat} : ∀ {xs : List AV} {o : Nat}, CR c b o xs ↔ ∀ (i : Nat) (x : AV), xs[i]? = some x → ∃ v, c.w.cell? ⟨b, o + i, none⟩ = some v ∧ v.oneCell' = true ∧ VR c x v
  | [], o => by simp [CR]
  | x :: xs, o => by
    simp only [CR]
    constructor
    · rintro ⟨h0, h⟩ i y hy
      cases i with
      | zero => simp at hy; subst hy; simpa using h0
      | succ i =>
        have := CR.iff.1 h i y (by simpa using hy)
        rwa [show o + 1 + i = o + (i + 1) by omega] at this
    · intro h
      refine ⟨by simpa using h 0 x (by simp), CR.iff.2 ?_⟩
      intro i y hy
      have := h (i + 1) y (by simpa using hy)
      rwa [show o + (i + 1) = o + 1 + i by omega] at this

theorem LR.len {c : RC} {xs : List AV} {vs : List Value} (h : LR c xs vs) : xs.length = vs.length := (LR.iff.1 h).1

theorem LR.get {c : RC} {xs : List AV} {vs : List Value} (h : LR c xs vs) {i : Nat} {x : AV} (hx : xs[i]? = some x) : ∃ v, vs[i]? = some v ∧ VR c x v := by
  obtain ⟨hl, hh⟩ := LR.iff.1 h
  have hi : i < xs.length := by
    rcases Nat.lt_or_ge i xs.length with h' | h'
    · exact h'
    · simp [List.getElem?_eq_none h'] at hx
  have : ∃ v, vs[i]? = some v := ⟨vs[i]'(hl ▸ hi), by simp [hl ▸ hi]⟩
  obtain ⟨v, hv⟩ := this
  exact ⟨v, hv, hh i x v hx hv⟩

theorem LR.drop {c : RC} : ∀ (k : Nat) {xs : List AV} {vs : List Value}, LR c xs vs → LR c (xs.drop k) (vs.drop k)
  | 0, _, _, h => by simpa using h
  | k + 1, [], vs, h => by simp only [LR] at h; subst h; simp [LR]
  | k + 1, x :: xs, vs, h => by
    simp only [LR] at h
    obtain ⟨v, r, rfl, -, h⟩ := h
    simpa using LR.drop k h

theorem LR.take {c : RC} : ∀ (k : Nat) {xs : List AV} {vs : List Value}, LR c xs vs → LR c (xs.take k) (vs.take k)
  | 0, _, _, _ => by simp [LR]
  | k + 1, [], vs, h => by simp only [LR] at h; subst h; simp [LR]
  | k + 1, x :: xs, vs, h => by
    simp only [LR] at h
    obtain ⟨v, r, rfl, hv, h⟩ := h
    simp only [List.take_succ_cons, LR]
    exact ⟨v, _, rfl, hv, LR.take k h⟩

theorem LR.append {c : RC} : ∀ {xs : List AV} {vs : List Value} {ys : List AV} {us : List Value}, LR c xs vs → LR c ys us → LR c (xs ++ ys) (vs ++ us)
  | [], vs, ys, us, h, h' => by simp only [LR] at h; subst h; simpa using h'
  | x :: xs, vs, ys, us, h, h' => by
    simp only [LR] at h
    obtain ⟨v, r, rfl, hv, h⟩ := h
    simp only [List.cons_append, LR]
    exact ⟨v, _, rfl, hv, LR.append h h'⟩

theorem LR.lits {c : RC} : ∀ (ls : List AL), LR c (ls.map .lit) (ls.map AL.v)
  | [] => by simp [LR]
  | l :: ls => by simp only [List.map_cons, LR]; exact ⟨_, _, rfl, by simp [VR], LR.lits ls⟩

theorem LR.singleton {c : RC} {x : AV} {v : Value} (h : VR c x v) : LR c [x] [v] := by simp [LR, h]

/-- The world goes on: what is not owned stays; names keep their meaning. -/
structure Ext (c c' : RC) : Prop where
  D : ∀ i, c.D i → c'.D i ∧ c'.ρ i = c.ρ i
  size : c.w.heap.size ≤ c'.w.heap.size
  keep : ∀ b, b < c.w.heap.size → ¬ c.own b → c'.w.heap[b]? = c.w.heap[b]?
  own : ∀ b, c'.own b → c.own b ∨ c.w.heap.size ≤ b
  frn : ∀ b, c'.frn b ↔ c.frn b
  lo : c'.lo = c.lo
  new : ∀ i, c'.D i → c.D i ∨ c.lo ≤ i
  shape : ∀ (b : Nat) (cs : Array Value) (e : TypeId) (fr : Nat × Nat), c.w.heap[b]? = some (Obj.cells cs e fr) → ∃ (cs' : Array Value) (e' : TypeId) (fr' : Nat × Nat), c'.w.heap[b]? = some (Obj.cells cs' e' fr') ∧ cs'.size = cs.size
  loops : ∀ (b : Nat) (l : Loop), c.w.heap[b]? = some (Obj.loop l) → ∃ l', c'.w.heap[b]? = some (Obj.loop l')
  os : c'.w.os = c.w.os
  tape : c'.w.tape = c.w.tape
  output : c'.w.output = c.w.output

theorem Ext.refl (c : RC) : Ext c c := ⟨fun _ h => ⟨h, rfl⟩, Nat.le_refl _, fun _ _ _ => rfl, fun _ h => .inl h, fun _ => .rfl, rfl, fun _ h => .inl h, fun _ cs e fr h => ⟨cs, e, fr, h, rfl⟩, fun _ l h => ⟨l, h⟩, rfl, rfl, rfl⟩

theorem Ext.trans {a b c : RC} (h : Ext a b) (k : Ext b c) : Ext a c where
  D i hi := let ⟨h1, h2⟩ := h.D i hi; let ⟨k1, k2⟩ := k.D i h1; ⟨k1, k2.trans h2⟩
  size := Nat.le_trans h.size k.size
  keep x hx ho := by
    rw [k.keep x (by have := h.size; omega) (fun hb => (h.own x hb).elim ho (by omega)), h.keep x hx ho]
  own x hx := by
    rcases k.own x hx with h1 | h1
    · exact h.own x h1
    · exact .inr (by have := h.size; omega)
  frn x := (k.frn x).trans (h.frn x)
  lo := k.lo.trans h.lo
  new i hi := (k.new i hi).elim (h.new i) fun h1 => .inr (h.lo ▸ h1)
  shape x cs e fr hx := by
    obtain ⟨cs', e', fr', h1, h2⟩ := h.shape x cs e fr hx
    obtain ⟨cs'', e'', fr'', h3, h4⟩ := k.shape x cs' e' fr' h1
    exact ⟨cs'', e'', fr'', h3, h4.trans h2⟩
  loops x l hx := let ⟨l', h1⟩ := h.loops x l hx; k.loops x l' h1
  os := k.os.trans h.os
  tape := k.tape.trans h.tape
  output := k.output.trans h.output

theorem Ext.hot {c c' : RC} (h : Ext c c') {b : Nat} (hb : b < c.w.heap.size) (hn : ¬ c.hot b) : ¬ c'.hot b := by
  rintro (h1 | h1)
  · rcases h.own b h1 with h2 | h2
    · exact hn (.inl h2)
    · omega
  · exact hn (.inr ((h.frn b).1 h1))

theorem cell_of_block {w w' : World} {b o : Nat} (h : w'.heap[b]? = w.heap[b]?) : w'.cell? ⟨b, o, none⟩ = w.cell? ⟨b, o, none⟩ := by
  simp [World.cell?, h]

/-- The same, where blocks that are no cells may have turned. -/
structure ExtW (c c' : RC) : Prop where
  D : ∀ i, c.D i → c'.D i ∧ c'.ρ i = c.ρ i
  size : c.w.heap.size ≤ c'.w.heap.size
  keep : ∀ (b : Nat) (cs : Array Value) (e : TypeId) (fr : Nat × Nat), ¬ c.hot b → c.w.heap[b]? = some (Obj.cells cs e fr) → c'.w.heap[b]? = some (Obj.cells cs e fr)
  hot' : ∀ b, b < c.w.heap.size → c'.hot b → c.hot b
  shape : ∀ (b : Nat) (cs : Array Value) (e : TypeId) (fr : Nat × Nat), c.w.heap[b]? = some (Obj.cells cs e fr) → ∃ (cs' : Array Value) (e' : TypeId) (fr' : Nat × Nat), c'.w.heap[b]? = some (Obj.cells cs' e' fr') ∧ cs'.size = cs.size

theorem ExtW.hot {c c' : RC} (h : ExtW c c') {b : Nat} (hb : b < c.w.heap.size) (hn : ¬ c.hot b) : ¬ c'.hot b :=
  fun h1 => hn (h.hot' b hb h1)

theorem ExtW.cell {c c' : RC} (h : ExtW c c') {b o : Nat} {v : Value} (hn : ¬ c.hot b) (hc : c.w.cell? ⟨b, o, none⟩ = some v) : c'.w.cell? ⟨b, o, none⟩ = some v := by
  unfold World.cell? at hc ⊢
  split at hc
  · rename_i cs e fr hb
    simp only [h.keep b cs e fr hn hb]
    exact hc
  · cases hc

theorem Ext.W {c c' : RC} (h : Ext c c') : ExtW c c' where
  D := h.D
  size := h.size
  keep b cs e fr hn hb := by
    have hlt : b < c.w.heap.size := by
      rcases Nat.lt_or_ge b c.w.heap.size with h' | h'
      · exact h'
      · simp [Array.getElem?_eq_none h'] at hb
    rw [h.keep b hlt (fun h1 => hn (.inl h1))]; exact hb
  hot' b hb h1 := Classical.byContradiction fun hn => h.hot hb hn h1
  shape := h.shape

mutual
theorem VR.extW {c c' : RC} (h : ExtW c c') : ∀ (x : AV) (v : Value), VR c x v → VR c' x v
  | .any, v, _ => by simp [VR]
  | .lit l, v, hv => by simpa [VR] using hv
  | .ptr i off, v, hv => by
    simp only [VR] at *
    obtain ⟨h1, h2⟩ := h.D i hv.1
    exact ⟨h1, by rw [h2]; exact hv.2⟩
  | .rop xs k, v, hv => by
    simp only [VR] at *
    obtain ⟨b, o, e, hb, ho, hc⟩ := hv
    exact ⟨b, o, e, by have := h.size; omega, h.hot hb ho, CR.extW h b o hb ho xs hc⟩
  | .sl i off len sz, v, hv => by
    simp only [VR] at *
    obtain ⟨hi, cap, e, hle, cs, el, fr, hb, hs⟩ := hv
    obtain ⟨h1, h2⟩ := h.D i hi
    obtain ⟨cs', e', fr', h3, h4⟩ := h.shape _ cs el fr hb
    exact ⟨h1, cap, by rw [h2]; exact e, hle, cs', e', fr', by rw [h2]; exact h3, by omega⟩
  | .ro xs len sz, v, hv => by
    simp only [VR] at *
    refine ⟨hv.1, hv.2.imp id ?_⟩
    rintro ⟨h0, b, o, cap, e, hle, hb, ho, hc⟩
    exact ⟨h0, b, o, cap, e, hle, by have := h.size; omega, h.hot hb ho, CR.extW h b o hb ho xs hc⟩
  | .emp, v, hv => by simpa [VR] using hv
  | .mp i, v, hv => by
    simp only [VR] at *
    obtain ⟨h1, h2⟩ := h.D i hv.1
    exact ⟨h1, by rw [h2]; exact hv.2⟩
  | .fn f fs cs, v, hv => by
    simp only [VR] at *
    obtain ⟨fv, cv, e, h1, h2⟩ := hv
    exact ⟨fv, cv, e, LR.extW h fs _ h1, LR.extW h cs _ h2⟩
  | .yl i, v, hv => by
    simp only [VR] at *
    obtain ⟨h1, h2⟩ := h.D i hv.1
    exact ⟨h1, by rw [h2]; exact hv.2⟩
  | .ifc t x, v, hv => by
    simp only [VR] at *
    obtain ⟨u, e, hu⟩ := hv
    exact ⟨u, e, VR.extW h x u hu⟩
  | .agg xs, v, hv => by
    simp only [VR] at *
    obtain ⟨cs, e, hu⟩ := hv
    exact ⟨cs, e, LR.extW h xs _ hu⟩
  | .tup xs, v, hv => by
    simp only [VR] at *
    obtain ⟨cs, e, hu⟩ := hv
    exact ⟨cs, e, LR.extW h xs _ hu⟩
theorem LR.extW {c c' : RC} (h : ExtW c c') : ∀ (xs : List AV) (vs : List Value), LR c xs vs → LR c' xs vs
  | [], vs, hv => by simpa [LR] using hv
  | x :: xs, vs, hv => by
    simp only [LR] at *
    obtain ⟨v, r, e, h1, h2⟩ := hv
    exact ⟨v, r, e, VR.extW h x v h1, LR.extW h xs r h2⟩
theorem CR.extW {c c' : RC} (h : ExtW c c') (b o : Nat) (hb : b < c.w.heap.size) (ho : ¬ c.hot b) : ∀ (xs : List AV), CR c b o xs → CR c' b o xs
  | [], _ => by simp [CR]
  | x :: xs, hv => by
    simp only [CR] at *
    obtain ⟨⟨v, hc, h1, hv⟩, hr⟩ := hv
    exact ⟨⟨v, h.cell ho hc, h1, VR.extW h x v hv⟩, CR.extW h b (o + 1) hb ho xs hr⟩
end

theorem VR.ext {c c' : RC} (h : Ext c c') (x : AV) (v : Value) (hv : VR c x v) : VR c' x v := VR.extW h.W x v hv
theorem LR.ext {c c' : RC} (h : Ext c c') (xs : List AV) (vs : List Value) (hv : LR c xs vs) : LR c' xs vs := LR.extW h.W xs vs hv

/-- The same with what is owned made smaller (or names given up), the world as it is. -/
structure Weak (c c' : RC) : Prop where
  D : ∀ i, c.D i → c'.D i
  ρ : ∀ i, c.D i → c'.ρ i = c.ρ i
  own : ∀ b, c'.own b → c.own b
  frn : ∀ b, c'.frn b ↔ c.frn b
  lo : c'.lo = c.lo
  new : ∀ i, c'.D i → c.D i
  w : c'.w = c.w

theorem Weak.ext {c c' : RC} (h : Weak c c') : Ext c c' where
  D i hi := ⟨h.D i hi, h.ρ i hi⟩
  size := by rw [h.w]; exact Nat.le_refl _
  keep b _ _ := by rw [h.w]
  own b hb := .inl (h.own b hb)
  frn := h.frn
  lo := h.lo
  new i hi := .inl (h.new i hi)
  shape b cs e fr hb := ⟨cs, e, fr, by rw [h.w]; exact hb, rfl⟩
  loops b l hb := ⟨l, by rw [h.w]; exact hb⟩
  os := by rw [h.w]
  tape := by rw [h.w]
  output := by rw [h.w]

end Go.Ab

/- Heaps: what a world says of them, and how it goes on. -/
namespace Go.Ab

/-- A code's abstract form, for so many temporaries. -/
abbrev KP := Code → AC → Nat → Prop

def EnvR (c : RC) (env : Env) (tmps : Array Value) : Prop := ∀ t, VR c (env.get t) (tmps.getD t undef)

def LS.st : LS → LoopState
  | .ready => .ready
  | .busy => .busy
  | .done => .done
  | .over => .exhausted

def Jump.code : Jump → Code
  | .exit id => .exit id
  | .ret => .ret

def MapR (c : RC) (es : List (AV × AV)) (ents : Array MapEntry) : Prop :=
  es.length = ents.size ∧ ∀ (i : Nat) (k x : AV) (e : MapEntry), es[i]? = some (k, x) → ents[i]? = some e →
    (∃ l : AL, k = .lit l ∧ e.key = l.v) ∧ VR c x e.val

/-- The cells of a row lie in an array. -/
def ArrR (c : RC) (xs : List AV) (cs : Array Value) : Prop :=
  ∀ (i : Nat) (x : AV), xs[i]? = some x → ∃ v, cs[i]? = some v ∧ v.oneCell' = true ∧ VR c x v

/-- No cell is frozen. -/
def NF (fr : Nat × Nat) (n : Nat) : Prop := ∀ o, o < n → ¬ (fr.1 ≤ o ∧ o < fr.2)

theorem ArrR.ext {c c' : RC} {xs : List AV} {cs : Array Value} (h : Ext c c') (ha : ArrR c xs cs) : ArrR c' xs cs :=
  fun i x hx => let ⟨v, h1, h2, h3⟩ := ha i x hx; ⟨v, h1, h2, VR.ext h _ _ h3⟩

theorem ArrR.le {c : RC} {xs : List AV} {cs : Array Value} (ha : ArrR c xs cs) : xs.length ≤ cs.size := by
  rcases Nat.lt_or_ge cs.size xs.length with h | h
  · obtain ⟨v, hv, -⟩ := ha cs.size (xs[cs.size]'h) (by simp [h])
    simp at hv
  · exact h

def OR (K : KP) (c : RC) : AO → Nat → Prop
  | .dead, _ => True
  | .row xs, b => ∃ (cs : Array Value) (e : TypeId) (fr : Nat × Nat), c.w.heap[b]? = some (Obj.cells cs e fr) ∧ NF fr cs.size ∧ ArrR c xs cs
  | .map es, b => ∃ (ents : Array MapEntry) (clock : Nat), c.w.heap[b]? = some (Obj.map ents clock) ∧ MapR c es ents ∧ MapKept.Stamped ents clock
  | .loop st pend env ps assign body, b => ∃ l : Loop, c.w.heap[b]? = some (Obj.loop l) ∧ l.state = st.st ∧ l.pending = pend.map Jump.code ∧
      EnvR c env l.tmps ∧ l.params = ps.toArray ∧ (∀ t ∈ ps, t < l.tmps.size) ∧ K l.assign assign l.tmps.size ∧ K l.body body l.tmps.size

structure HR (K : KP) (c : RC) (h : Heap) : Prop where
  live : ∀ (i : Nat) (o : AO), h[i]? = some o → o ≠ .dead → c.D i ∧ c.own (c.ρ i) ∧ c.ρ i < c.w.heap.size ∧ OR K c o (c.ρ i)
  inj : ∀ (i j : Nat) (oi oj : AO), h[i]? = some oi → h[j]? = some oj → oi ≠ .dead → oj ≠ .dead → c.ρ i = c.ρ j → i = j
  own : ∀ b, c.own b → ∃ (i : Nat) (o : AO), h[i]? = some o ∧ o ≠ .dead ∧ c.ρ i = b
  dom : ∀ i, c.D i → i < h.length
  lo : c.lo ≤ h.length

theorem EnvR.ext {c c' : RC} {env : Env} {tmps : Array Value} (h : Ext c c') (he : EnvR c env tmps) : EnvR c' env tmps := fun t => VR.ext h _ _ (he t)

theorem MapR.ext {c c' : RC} {es : List (AV × AV)} {ents : Array MapEntry} (h : Ext c c') (hm : MapR c es ents) : MapR c' es ents :=
  ⟨hm.1, fun i k x e h1 h2 => let ⟨a, b⟩ := hm.2 i k x e h1 h2; ⟨a, VR.ext h _ _ b⟩⟩

theorem EnvR.extW {c c' : RC} {env : Env} {tmps : Array Value} (h : ExtW c c') (he : EnvR c env tmps) : EnvR c' env tmps := fun t => VR.extW h _ _ (he t)

theorem MapR.extW {c c' : RC} {es : List (AV × AV)} {ents : Array MapEntry} (h : ExtW c c') (hm : MapR c es ents) : MapR c' es ents :=
  ⟨hm.1, fun i k x e h1 h2 => let ⟨a, b⟩ := hm.2 i k x e h1 h2; ⟨a, VR.extW h _ _ b⟩⟩

theorem ArrR.extW {c c' : RC} {xs : List AV} {cs : Array Value} (h : ExtW c c') (ha : ArrR c xs cs) : ArrR c' xs cs :=
  fun i x hx => let ⟨v, h1, h2, h3⟩ := ha i x hx; ⟨v, h1, h2, VR.extW h _ _ h3⟩

/-- An object whose block is as it was. -/
theorem OR.extW {K : KP} {c c' : RC} {o : AO} {b : Nat} (h : ExtW c c') (hb : c'.w.heap[b]? = c.w.heap[b]?) (ho : OR K c o b) : OR K c' o b := by
  cases o with
  | dead => trivial
  | row xs =>
    obtain ⟨cs, e, fr, h1, h2, h3⟩ := ho
    exact ⟨cs, e, fr, by rw [hb]; exact h1, h2, h3.extW h⟩
  | map es =>
    obtain ⟨ents, clock, h1, h2, h3⟩ := ho
    exact ⟨ents, clock, by rw [hb]; exact h1, h2.extW h, h3⟩
  | loop st pend env ps assign body =>
    obtain ⟨l, h1, h2, h3, h4, h5⟩ := ho
    exact ⟨l, by rw [hb]; exact h1, h2, h3, h4.extW h, h5⟩

theorem OR.ext {K : KP} {c c' : RC} {o : AO} {b : Nat} (h : Ext c c') (hb : c'.w.heap[b]? = c.w.heap[b]?) (ho : OR K c o b) : OR K c' o b := OR.extW h.W hb ho

theorem HR.drew {K : KP} {c : RC} {h : Heap} (H : HR K c h) (n : Nat) : HR K { c with w := { c.w with drawn := n } } h ∧ Ext c { c with w := { c.w with drawn := n } } := by
  have e : Ext c { c with w := { c.w with drawn := n } } := ⟨fun _ h => ⟨h, rfl⟩, Nat.le_refl _, fun _ _ _ => rfl, fun _ h => .inl h, fun _ => .rfl, rfl, fun _ h => .inl h, fun _ cs e fr h => ⟨cs, e, fr, h, rfl⟩, fun _ l h => ⟨l, h⟩, rfl, rfl, rfl⟩
  exact ⟨⟨fun i o hi hd => let ⟨h1, h2, h3, h4⟩ := H.live i o hi hd; ⟨h1, h2, h3, h4.ext e rfl⟩, H.inj, H.own, H.dom, H.lo⟩, e⟩

/-- After a new block, under a new name. -/
def RC.push (c : RC) (n : Nat) (ob : Obj) : RC where
  D i := c.D i ∨ i = n
  ρ i := if i = n then c.w.heap.size else c.ρ i
  own b := c.own b ∨ b = c.w.heap.size
  frn := c.frn
  lo := c.lo
  w := c.w.alloc ob

theorem heap_alloc_lt {w : World} {ob : Obj} {b : Nat} (h : b < w.heap.size) : (w.alloc ob).heap[b]? = w.heap[b]? := by
  show (w.heap.push ob)[b]? = _
  rw [Array.getElem?_push, if_neg (by omega)]

theorem heap_alloc_new {w : World} {ob : Obj} : (w.alloc ob).heap[w.heap.size]? = some ob := by
  show (w.heap.push ob)[w.heap.size]? = _
  simp

theorem lt_of_some {α : Type} {xs : Array α} {b : Nat} {x : α} (h : xs[b]? = some x) : b < xs.size := by
  rcases Nat.lt_or_ge b xs.size with h' | h'
  · exact h'
  · simp [Array.getElem?_eq_none h'] at h

theorem lt_of_someL {α : Type} {xs : List α} {b : Nat} {x : α} (h : xs[b]? = some x) : b < xs.length := by
  rcases Nat.lt_or_ge b xs.length with h' | h'
  · exact h'
  · simp [List.getElem?_eq_none h'] at h

theorem RC.push_ext {K : KP} {c : RC} {h : Heap} (H : HR K c h) (ob : Obj) : Ext c (c.push h.length ob) where
  D i hi := ⟨.inl hi, by have := H.dom i hi; simp only [RC.push]; rw [if_neg (by omega)]⟩
  size := by simp [RC.push]
  keep b hb _ := heap_alloc_lt hb
  own b hb := by
    rcases hb with hb | hb
    · exact .inl hb
    · exact .inr (by omega)
  frn _ := .rfl
  lo := rfl
  new i hi := by
    rcases hi with hi | hi
    · exact .inl hi
    · exact .inr (hi ▸ H.lo)
  shape b cs e fr hb := ⟨cs, e, fr, by simp only [RC.push]; rw [heap_alloc_lt (lt_of_some hb)]; exact hb, rfl⟩
  loops b l hb := ⟨l, by simp only [RC.push]; rw [heap_alloc_lt (lt_of_some hb)]; exact hb⟩
  os := rfl
  tape := rfl
  output := rfl

theorem HR.push {K : KP} {c : RC} {h : Heap} (H : HR K c h) (ob : Obj) (o : AO) (ho : OR K (c.push h.length ob) o c.w.heap.size) (hd : o ≠ .dead) :
    HR K (c.push h.length ob) (h ++ [o]) := by
  have e := RC.push_ext H ob
  have old : ∀ (i : Nat) (x : AO), (h ++ [o])[i]? = some x → (h[i]? = some x ∧ i < h.length) ∨ (i = h.length ∧ x = o) := by
    intro i x hx
    rw [List.getElem?_append] at hx
    split at hx
    · exact .inl ⟨hx, by assumption⟩
    · rename_i hi
      have hlt := lt_of_someL hx
      simp at hlt
      have : i = h.length := by omega
      subst this
      simp at hx
      exact .inr ⟨rfl, hx.symm⟩
  have rold : ∀ i, i < h.length → (c.push h.length ob).ρ i = c.ρ i := fun i hi => by simp only [RC.push]; rw [if_neg (by omega)]
  have rnew : (c.push h.length ob).ρ h.length = c.w.heap.size := by simp [RC.push]
  refine ⟨?_, ?_, ?_, ?_, by have := H.lo; simp [RC.push]; omega⟩
  · intro i x hx hxd
    rcases old i x hx with ⟨hx, hi⟩ | ⟨rfl, rfl⟩
    · obtain ⟨h1, h2, h3, h4⟩ := H.live i x hx hxd
      rw [rold i hi]
      refine ⟨.inl h1, .inl h2, by simp only [RC.push, World.size_alloc]; omega, h4.ext e (heap_alloc_lt h3)⟩
    · rw [rnew]
      exact ⟨.inr rfl, .inr rfl, by simp [RC.push], ho⟩
  · intro i j x y hx hy hxd hyd hr
    rcases old i x hx with ⟨gx, hi⟩ | ⟨hi, gx⟩ <;> rcases old j y hy with ⟨gy, hj⟩ | ⟨hj, gy⟩
    · rw [rold i hi, rold j hj] at hr
      exact H.inj i j x y gx gy hxd hyd hr
    · rw [rold i hi, hj, rnew] at hr
      have := (H.live i x gx hxd).2.2.1
      omega
    · rw [hi, rnew, rold j hj] at hr
      have := (H.live j y gy hyd).2.2.1
      omega
    · rw [hi, hj]
  · intro b hb
    rcases hb with hb | hb
    · obtain ⟨i, x, hx, hxd, hr⟩ := H.own b hb
      have hi := lt_of_someL hx
      exact ⟨i, x, by rw [List.getElem?_append_left hi]; exact hx, hxd, by rw [rold i hi]; exact hr⟩
    · exact ⟨h.length, o, by simp, hd, by rw [rnew, hb]⟩
  · intro i hi
    rcases hi with hi | hi
    · have := H.dom i hi; simp; omega
    · simp; omega

/-- A new row. -/
theorem HR.new_row {K : KP} {c : RC} {h : Heap} (H : HR K c h) {xs : List AV} {cs : Array Value} {e : TypeId} {fr : Nat × Nat} (hf : NF fr cs.size)
    (hx : ArrR c xs cs) : HR K (c.push h.length (.cells cs e fr)) (h ++ [.row xs]) :=
  H.push _ _ ⟨cs, e, fr, heap_alloc_new, hf, hx.ext (RC.push_ext H _)⟩ (by simp)

theorem NF.zero (n : Nat) : NF (0, 0) n := fun o _ h => by simp at h

/-- One owned object is written. -/
theorem HR.upd {K : KP} {c : RC} {h : Heap} (H : HR K c h) {i : Nat} {oi o' : AO} (hi : h[i]? = some oi) (hd : oi ≠ .dead) {w' : World}
    (hsize : w'.heap.size = c.w.heap.size) (hoth : ∀ b, b ≠ c.ρ i → w'.heap[b]? = c.w.heap[b]?)
    (hshape : ∀ (cs : Array Value) (e : TypeId) (fr : Nat × Nat), c.w.heap[c.ρ i]? = some (Obj.cells cs e fr) → ∃ (cs' : Array Value) (e' : TypeId) (fr' : Nat × Nat), w'.heap[c.ρ i]? = some (Obj.cells cs' e' fr') ∧ cs'.size = cs.size)
    (hloop : ∀ l, c.w.heap[c.ρ i]? = some (Obj.loop l) → ∃ l', w'.heap[c.ρ i]? = some (Obj.loop l'))
    (hos : w'.os = c.w.os) (htape : w'.tape = c.w.tape) (hout : w'.output = c.w.output)
    (ho : Ext c { c with w := w' } → OR K { c with w := w' } o' (c.ρ i)) (hd' : o' ≠ .dead) :
    Ext c { c with w := w' } ∧ HR K { c with w := w' } (h.set i o') := by
  have hown : c.own (c.ρ i) := (H.live i oi hi hd).2.1
  have hlt := lt_of_someL hi
  have e : Ext c { c with w := w' } := ⟨fun _ h => ⟨h, rfl⟩, by simp [hsize], fun b _ hb => hoth b (fun h => hb (h ▸ hown)), fun _ h => .inl h, fun _ => .rfl, rfl, fun _ h => .inl h,
    fun b cs e fr hb => by
      by_cases hbi : b = c.ρ i
      · subst hbi; exact hshape cs e fr hb
      · exact ⟨cs, e, fr, by simp only; rw [hoth b hbi]; exact hb, rfl⟩,
    fun b l hb => by
      by_cases hbi : b = c.ρ i
      · subst hbi; exact hloop l hb
      · exact ⟨l, by simp only; rw [hoth b hbi]; exact hb⟩, hos, htape, hout⟩
  have get : ∀ (j : Nat) (x : AO), (h.set i o')[j]? = some x → (j = i ∧ x = o') ∨ (j ≠ i ∧ h[j]? = some x) := by
    intro j x hx
    by_cases hj : j = i
    · subst hj; simp [hlt] at hx; exact .inl ⟨rfl, hx.symm⟩
    · rw [List.getElem?_set_ne (fun h => hj h.symm)] at hx; exact .inr ⟨hj, hx⟩
  refine ⟨e, ?_, ?_, ?_, ?_, by have := H.lo; simp; omega⟩
  · intro j x hx hxd
    rcases get j x hx with ⟨rfl, rfl⟩ | ⟨hj, hx⟩
    · obtain ⟨h1, h2, h3, -⟩ := H.live j oi hi hd
      exact ⟨h1, h2, by simp [hsize]; exact h3, ho e⟩
    · obtain ⟨h1, h2, h3, h4⟩ := H.live j x hx hxd
      exact ⟨h1, h2, by simp [hsize]; exact h3, h4.ext e (hoth _ (fun hr => hj (H.inj j i x oi hx hi hxd hd hr)))⟩
  · intro j k x y hx hy hxd hyd hr
    have fix : ∀ (j : Nat) (x : AO), (h.set i o')[j]? = some x → x ≠ .dead → ∃ x', h[j]? = some x' ∧ x' ≠ .dead := by
      intro j x hx hxd
      rcases get j x hx with ⟨rfl, rfl⟩ | ⟨hj, hx⟩
      · exact ⟨oi, hi, hd⟩
      · exact ⟨x, hx, hxd⟩
    obtain ⟨x', h1, h2⟩ := fix j x hx hxd
    obtain ⟨y', h3, h4⟩ := fix k y hy hyd
    exact H.inj j k x' y' h1 h3 h2 h4 hr
  · intro b hb
    obtain ⟨j, x, hx, hxd, hr⟩ := H.own b hb
    by_cases hj : j = i
    · subst hj; exact ⟨j, o', by simp [hlt], hd', hr⟩
    · exact ⟨j, x, by rw [List.getElem?_set_ne (fun h => hj h.symm)]; exact hx, hxd, hr⟩
  · intro j hj; simp; exact H.dom j hj

/-- An object is given up. -/
theorem HR.kill {K : KP} {c : RC} {h : Heap} (H : HR K c h) (i : Nat) :
    Weak c { c with own := fun b => ∃ (j : Nat) (o : AO), j ≠ i ∧ h[j]? = some o ∧ o ≠ .dead ∧ c.ρ j = b } ∧
    HR K { c with own := fun b => ∃ (j : Nat) (o : AO), j ≠ i ∧ h[j]? = some o ∧ o ≠ .dead ∧ c.ρ j = b } (h.set i .dead) := by
  have wk : Weak c { c with own := fun b => ∃ (j : Nat) (o : AO), j ≠ i ∧ h[j]? = some o ∧ o ≠ .dead ∧ c.ρ j = b } :=
    ⟨fun _ h => h, fun _ _ => rfl, fun b ⟨j, o, _, h1, h2, h3⟩ => h3 ▸ (H.live j o h1 h2).2.1, fun _ => .rfl, rfl, fun _ h => h, rfl⟩
  have get : ∀ (j : Nat) (x : AO), (h.set i .dead)[j]? = some x → x ≠ .dead → j ≠ i ∧ h[j]? = some x := by
    intro j x hx hxd
    by_cases hj : j = i
    · subst hj
      have hlt := lt_of_someL hx
      simp at hlt
      simp [hlt] at hx
      exact absurd hx.symm hxd
    · rw [List.getElem?_set_ne (fun h => hj h.symm)] at hx; exact ⟨hj, hx⟩
  refine ⟨wk, ?_, ?_, ?_, ?_, by have := H.lo; simp; omega⟩
  · intro j x hx hxd
    obtain ⟨hj, hx⟩ := get j x hx hxd
    obtain ⟨h1, h2, h3, h4⟩ := H.live j x hx hxd
    exact ⟨h1, ⟨j, x, hj, hx, hxd, rfl⟩, h3, h4.ext wk.ext rfl⟩
  · intro j k x y hx hy hxd hyd hr
    exact H.inj j k x y (get j x hx hxd).2 (get k y hy hyd).2 hxd hyd hr
  · rintro b ⟨j, o, hj, h1, h2, h3⟩
    exact ⟨j, o, by rw [List.getElem?_set_ne (fun h => hj h.symm)]; exact h1, h2, h3⟩
  · intro j hj; simp; exact H.dom j hj

end Go.Ab

/-
  The abstract machine: values, heap, code, and its meaning as a predicate transformer.
-/
import GoSem.Dispatch
import Derived.CallsIn
import Derived.Laws.World
import Derived.Laws.Rows
import Derived.Laws.Sem
namespace Go.Abs

/-- a slice's capacity: known; or not known (its elements have so many cells) -/
inductive Cap where
  | k (c : Nat)
  | u (esz : Nat)
  deriving Inhabited, Repr, DecidableEq

/-- abstract values -/
inductive V where
  | bad
  | bool (b : Bool)
  | int (k : IntKind) (n : Int)
  | str (l : List UInt8)
  | nilp
  | ptr (b o : Nat)
  | nils
  | sl (b o len : Nat) (cap : Cap)
  | nilm
  | map (b : Nat)
  | nilf
  | fn (f : Fn) (first cap : List V)
  | nili
  | iface (t : TypeId) (v : V)
  | agg (l : List V)
  | tup (l : List V)
  deriving Inhabited, Repr

def Cap.least (len : Nat) : Cap → Nat
  | .k c => c
  | .u _ => len
def Cap.fits (sz : Nat) : Cap → Bool
  | .k _ => true
  | .u e => e == sz
def Cap.less (a : Nat) : Cap → Cap
  | .k c => .k (c - a)
  | .u e => .u e

def V.cells : V → List V
  | .agg l => l
  | v => [v]

/-- may stand in a cell, and is known -/
def V.cellOK : V → Bool
  | .bad | .agg _ | .tup _ => false
  | _ => true

mutual
def V.beq : V → V → Bool
  | .bad, .bad => true
  | .bool a, .bool b => a == b
  | .int k n, .int k' n' => k == k' && n == n'
  | .str a, .str b => a == b
  | .nilp, .nilp => true
  | .ptr a b, .ptr c d => a == c && b == d
  | .nils, .nils => true
  | .sl a b c d, .sl a' b' c' d' => a == a' && b == b' && c == c' && d == d'
  | .nilm, .nilm => true
  | .map a, .map b => a == b
  | .nilf, .nilf => true
  | .fn f a b, .fn g c d => f == g && V.beqs a c && V.beqs b d
  | .nili, .nili => true
  | .iface t v, .iface u x => t == u && V.beq v x
  | .agg a, .agg b => V.beqs a b
  | .tup a, .tup b => V.beqs a b
  | _, _ => false
def V.beqs : List V → List V → Bool
  | [], [] => true
  | a :: l, b :: m => V.beq a b && V.beqs l m
  | _, _ => false
end

/-- operands -/
inductive A where
  | l (i : Nat)
  | t (s : Nat)
  | c (v : V)
  | g (n : Nat)
  | f (n : Nat)
  deriving Inhabited, Repr

/-- where a result goes: a local, a temporary, nowhere -/
inductive D where
  | l (i : Nat)
  | t (s : Nat)
  | n
  deriving Inhabited, Repr

/-- kinds of plain cells -/
inductive CK where
  | bool
  | int
  | str
  deriving Inhabited, Repr, DecidableEq

/-- kinds of types that have a nil -/
inductive NK where
  | ptr
  | sl
  | map
  | fn
  | ifc
  deriving Inhabited, Repr, DecidableEq

/-- kinds of types that len takes -/
inductive LK where
  | str
  | sl
  | map
  deriving Inhabited, Repr, DecidableEq

/-- how two values of a type are compared: one plain cell; or cells, all plain -/
inductive EqD where
  | one (k : CK)
  | many (ks : List CK)
  deriving Inhabited, Repr

/-- operations, with sizes looked up -/
inductive AOp where
  | mv (x : A)
  | pick (c a b : A)
  | alloc (z : List V)
  | box (x : A)
  | build (z : List V) (parts : List (Nat × Nat × A))
  | bslice (z : List V) (sz len : Nat) (parts : List (Nat × Nat × A))
  | load (agg : Bool) (n : Nat) (x : A)
  | store (n : Nat) (x v : A)
  | nilck (x : A)
  | bin (op : BinOp) (x y : A)
  | eq (neg : Bool) (d : EqD) (x y : A)
  | eqnil (k : NK) (neg : Bool) (x y : A)
  | eqI (neg : Bool) (ts : List TypeId) (x y : A)
  | un (op : UnOp) (x : A)
  | cvInt (k : IntKind) (x : A)
  | cvStr (x : A)
  | cvIntStr (x : A)
  | cvBytes (x : A)
  | cvToBytes (x : A)
  | mkIface (t : TypeId) (x : A)
  | mkFn (f : Fn) (first cap : List A)
  | mkMap (r : Option A)
  | mkSlice (z : List V) (bytes : Nat) (len cap : A)
  | slStr (x : A) (lo hi : Option A)
  | slSl (sz : Nat) (x : A) (lo hi mx : Option A)
  | slArr (n sz : Nat) (x : A) (lo hi mx : Option A)
  | faddr (off : Nat) (x : A)
  | field (off sz : Nat) (agg : Bool) (x : A)
  | iaddr (sz : Nat) (x i : A)
  | iaddrArr (n sz : Nat) (x i : A)
  | idxStr (x i : A)
  | idxArr (n sz : Nat) (agg : Bool) (x i : A)
  | lookup (d : EqD) (zero : V) (m k : A) (ok : Bool)
  | mput (d : EqD) (m k v : A)
  | mentry (d : EqD) (zero : V) (m k : A)
  | mestore (m s v : A)
  | rngStr (x : A)
  | rngMap (x : A)
  | nextStr (x : A)
  | nextMap (x : A)
  | entry (x : A)
  | tassert (x : A) (t : TypeId) (zero : V)
  | tassertI (x : A) (ok : List TypeId)
  | extract (x : A) (i : Nat)
  | len (k : LK) (x : A)
  | capOf (x : A)
  | append (sz bytes : Nat) (s x : A)
  | copy (sz : Nat) (d s : A)
  | minmax (mx : Bool) (xs : List A)
  | clearSl (z : List V) (x : A)
  | call (f : A) (args : List A)
  | defer (f : A) (args : List A)
  | panic (x : A)
  | recover
  deriving Inhabited, Repr

structure AOper where
  d : D
  op : AOp
  grd : Option (A × Bool) := none
  bf : Nat := 0
  deriving Inhabited, Repr

inductive ACode where
  | skip
  | region (ops : List AOper)
  | draw (ops : List (Nat × AOper))
  | seq (a b : ACode)
  | cond (c : A) (a b : ACode)
  | block (id : Nat) (b : ACode)
  | loop (b : ACode)
  | rfun (f : A) (ps : List D) (assign body : ACode)
  | exit (id : Nat)
  | ret
  | refuse
  deriving Inhabited, Repr

inductive X where
  | nrm
  | exit (id : Nat)
  | ret
  | pan (v : V)
  deriving Inhabited

inductive O where
  | cells (c : List V)
  | rcells (c : List V)
  | map (es : List (V × V × Nat)) (clock : Nat)
  | umap (es : List (V × V))
  | miter (m : Option Nat) (since : Nat) (seen : List Nat) (stepped : Nat)
  | siter (s : List UInt8) (pos : Nat)
  | loop (st : LoopState) (pend : Option X) (fn : FuncId) (loc : List V) (ps : List D) (assign body : ACode)
  | dead
  deriving Inhabited

/-! ### the heap: a trie -/
inductive Tr (α : Type) where
  | leaf
  | node (v : Option α) (l r : Tr α)
  deriving Inhabited

namespace Tr
variable {α : Type}
def get : Tr α → Nat → Option α
  | .leaf, _ => none
  | .node v l r, n => if n = 0 then v else if n % 2 = 0 then l.get (n / 2 - 1) else r.get (n / 2)
def single : Nat → Nat → α → Tr α
  | 0, _, _ => .leaf
  | f + 1, n, x => if n = 0 then .node (some x) .leaf .leaf else if n % 2 = 0 then .node none (single f (n / 2 - 1) x) .leaf else .node none .leaf (single f (n / 2) x)
def set : Tr α → Nat → α → Tr α
  | .leaf, n, x => single (n + 1) n x
  | .node v l r, n, x => if n = 0 then .node (some x) l r else if n % 2 = 0 then .node v (l.set (n / 2 - 1) x) r else .node v l (r.set (n / 2) x)
end Tr

structure H where
  t : Tr O
  next : Nat
  deriving Inhabited

namespace H
def get (h : H) (b : Nat) : Option O := h.t.get b
def set (h : H) (b : Nat) (o : O) : H := { h with t := h.t.set b o }
def push (h : H) (o : O) : H := { t := h.t.set h.next o, next := h.next + 1 }
/-- n cells -/
def rd (h : H) (b o n : Nat) : Option (List V) :=
  match h.get b with
  | some (.cells c) => if o + n ≤ c.length then some ((c.drop o).take n) else none
  | some (.rcells c) => if o + n ≤ c.length then some ((c.drop o).take n) else none
  | _ => none
/-- cells that may be written -/
def rdc (h : H) (b o n : Nat) : Option (List V) :=
  match h.get b with
  | some (.cells c) => if o + n ≤ c.length then some ((c.drop o).take n) else none
  | _ => none
def wr (h : H) (b o : Nat) (vs : List V) : Option H :=
  match h.get b with
  | some (.cells c) => if o + vs.length ≤ c.length then some (h.set b (.cells (c.take o ++ (vs ++ c.drop (o + vs.length))))) else none
  | _ => none
end H

/-! ### operands -/
def tget : List (Nat × V) → Nat → V
  | [], _ => .bad
  | (s, v) :: l, n => if s = n then v else tget l n

def evA (loc : List V) (tl : List (Nat × V)) : A → V
  | .l i => loc.getD i .bad
  | .t s => tget tl s
  | .c v => v
  | .g n => .ptr n 0
  | .f n => .fn (.func n) [] []

/-! ### operations on plain values -/
def arith (op : BinOp) (k : IntKind) (x y : Int) : Option V :=
  match op with
  | .add => some (.int k (k.wrap (x + y)))
  | .sub => some (.int k (k.wrap (x - y)))
  | .mul => some (.int k (k.wrap (x * y)))
  | .quo => if y = 0 then none else some (.int k (k.wrap (x.tdiv y)))
  | .rem => if y = 0 then none else some (.int k (x.tmod y))
  | .and => some (.int k (k.wrap (BitVec.ofInt k.bits x &&& BitVec.ofInt k.bits y).toNat))
  | .or => some (.int k (k.wrap (BitVec.ofInt k.bits x ||| BitVec.ofInt k.bits y).toNat))
  | .xor => some (.int k (k.wrap (BitVec.ofInt k.bits x ^^^ BitVec.ofInt k.bits y).toNat))
  | .andNot => some (.int k (k.wrap (BitVec.ofInt k.bits x &&& ~~~ BitVec.ofInt k.bits y).toNat))
  | .eql => some (.bool (x == y))
  | .neq => some (.bool (x != y))
  | .lss => some (.bool (decide (x < y)))
  | .leq => some (.bool (decide (x ≤ y)))
  | .gtr => some (.bool (decide (x > y)))
  | .geq => some (.bool (decide (x ≥ y)))
  | _ => none

def shift (op : BinOp) (k : IntKind) (x y : Int) : Option V :=
  if y < 0 then none else
  match op with
  | .shl => some (.int k (k.wrap (x * 2 ^ (min y.toNat k.bits))))
  | .shr => some (.int k (x.fdiv (2 ^ (min y.toNat k.bits))))
  | _ => none

def strOp (op : BinOp) (x y : List UInt8) : Option V :=
  match op with
  | .add => if x.length + y.length < 2 ^ 62 then some (.str (x ++ y)) else none
  | .eql => some (.bool (x == y))
  | .neq => some (.bool !(x == y))
  | .lss => some (.bool (Op.bytesLess x y))
  | .leq => some (.bool (Op.bytesLess x y || x == y))
  | .gtr => some (.bool !(Op.bytesLess x y || x == y))
  | .geq => some (.bool !(Op.bytesLess x y))
  | _ => none

def isShift : BinOp → Bool
  | .shl | .shr => true
  | _ => false

def binV (op : BinOp) (x y : V) : Option V :=
  match x, y with
  | .int k a, .int k' b => if isShift op then shift op k a b else if k = k' then arith op k a b else none
  | .str a, .str b => strOp op a b
  | _, _ => none

/-- two plain cells of a kind -/
def eqCell : CK → V → V → Option Bool
  | .bool, .bool a, .bool b => some (a == b)
  | .int, .int k a, .int k' b => if k = k' then some (a == b) else none
  | .str, .str a, .str b => some (a == b)
  | _, _, _ => none

def eqCells : List CK → List V → List V → Option Bool
  | [], [], [] => some true
  | k :: ks, a :: l, b :: m =>
    match eqCell k a b with
    | some true => eqCells ks l m
    | some false => some false
    | none => none
  | _, _, _ => none

def eqD : EqD → V → V → Option Bool
  | .one k, x, y => eqCell k x y
  | .many ks, .agg x, .agg y => if x.length = ks.length ∧ y.length = ks.length then eqCells ks x y else none
  | _, _, _ => none

def eqNil : NK → V → V → Option Bool
  | .ptr, .nilp, .nilp | .sl, .nils, .nils | .map, .nilm, .nilm | .fn, .nilf, .nilf | .ifc, .nili, .nili => some true
  | .ptr, .nilp, .ptr _ _ | .ptr, .ptr _ _, .nilp | .sl, .nils, .sl .. | .sl, .sl .., .nils | .map, .nilm, .map _ | .map, .map _, .nilm
  | .fn, .nilf, .fn .. | .fn, .fn .., .nilf | .ifc, .nili, .iface .. | .ifc, .iface .., .nili => some false
  | .ptr, .ptr a o, .ptr b p => if a = b then some (o == p) else none
  | _, _, _ => none

/-- interface values; ts: dynamic types of one plain cell -/
def eqIface (ts : List TypeId) : V → V → Option Bool
  | .nili, .iface .. | .iface .., .nili => some false
  | .iface t x, .iface u y => if t ≠ u then some false else if ts.contains t then eqCell .int x y else none
  | _, _ => none

def unV (op : UnOp) (x : V) : Option V :=
  match op, x with
  | .neg, .int k n => some (.int k (k.wrap (0 - n)))
  | .xor, .int k n => some (.int k (k.wrap (BitVec.ofInt k.bits (if k.signed then -1 else k.max) ^^^ BitVec.ofInt k.bits n).toNat))
  | .not, .bool b => some (.bool !b)
  | _, _ => none

/-- cells of a known value -/
def V.parts : V → Option (List V)
  | .bad | .tup _ => none
  | v => some v.cells

def fill (e : A → V) (cs : List V) : List (Nat × Nat × A) → Option (List V)
  | [] => some cs
  | (off, sz, a) :: r =>
    match (e a).parts with
    | none => none
    | some p => if p.length = sz ∧ off + sz ≤ cs.length then fill e (cs.take off ++ (p ++ cs.drop (off + sz))) r else none

def reps (z : List V) : Nat → List V
  | 0 => []
  | n + 1 => z ++ reps z n

def natOf : V → Option Nat
  | .int _ n => if 0 ≤ n then some n.toNat else none
  | _ => none

/-- a bound: absent, or a number from 0 up -/
def bndOf (e : A → V) (d : Nat) : Option A → Option Nat
  | none => some d
  | some a => natOf (e a)

/-- the elements of a slice or a string: how many, and their cells -/
def srcOf (h : H) (sz : Nat) : V → Option (Nat × List V)
  | .nils => some (0, [])
  | .sl b o n _ => (h.rd b o (n * sz)).map (n, ·)
  | .str l => if sz = 1 then some (l.length, l.map fun c => .int .u8 c.toNat) else none
  | _ => none

def findE (d : EqD) (k : V) : List (V × V × Nat) → Nat → Option (Option (Nat × V × V × Nat))
  | [], _ => some none
  | (k', v, n) :: r, i =>
    match eqD d k k' with
    | some true => some (some (i, k', v, n))
    | some false => findE d k r (i + 1)
    | none => none

def um : Option O → Option (List (V × V))
  | some (.umap es) => some es
  | _ => none

/-- the one entry of a key, in whatever order the entries lie -/
def findU (d : EqD) (k : V) : List (V × V) → Option (Option V)
  | [] => some none
  | (k', v) :: r =>
    match eqD d k k', findU d k r with
    | some true, some none => some (some v)
    | some false, some x => some x
    | _, _ => none

def okCell : CK → V → Bool
  | .bool, .bool _ => true
  | .int, .int .. => true
  | .str, .str _ => true
  | _, _ => false

def okCells : List CK → List V → Bool
  | [], [] => true
  | k :: ks, a :: l => okCell k a && okCells ks l
  | _, _ => false

/-- a key whose comparison is plain -/
def keyOK : EqD → V → Bool
  | .one k, v => okCell k v
  | .many ks, .agg l => okCells ks l
  | _, _ => false

def bytesOf : List V → Option (List UInt8)
  | [] => some []
  | .int .u8 n :: r => (bytesOf r).map (UInt8.ofNat n.toNat :: ·)
  | _ => none

def minV (mx : Bool) : V → V → Option V
  | .int k x, .int k' y => if k = k' then some (.int k (if mx then (if x < y then y else x) else (if y < x then y else x))) else none
  | _, _ => none

def foldV (mx : Bool) : V → List V → Option V
  | v, [] => some v
  | v, x :: r => match minV mx v x with | some u => foldV mx u r | none => none

def nilckOK : V → Bool
  | .ptr .. | .fn (.func _) .. | .fn (.yield _) .. | .iface .. | .map _ => true
  | _ => false

def roomOK (n bytes : Nat) : Bool := decide ((2 * n + 200) * (bytes + 1) ≤ 2 ^ 46)

/-- append: n > 0 new elements, their cells cs -/
def appendV (sz bytes : Nat) (s : V) (n : Nat) (cs : List V) (h : H) : Option (V × H) :=
  if n = 0 then
    (match s with
    | .nils | .sl .. => some (s, h)
    | _ => none)
  else if !cs.all V.cellOK then none else
  match s with
  | .nils => if roomOK n bytes then some (.sl h.next 0 n (.u sz), h.push (.cells cs)) else none
  | .sl b o len (.k c) =>
    if len + n ≤ c then (h.wr b (o + len * sz) cs).map fun h' => (.sl b o (len + n) (.k c), h')
    else if !roomOK (len + n) bytes then none
    else match h.rd b o (len * sz) with
      | some old => some (.sl h.next 0 (len + n) (.u sz), h.push (.cells (old ++ cs)))
      | none => none
  | .sl b o len (.u esz) =>
    if !roomOK (len + n) bytes || esz != sz then none else
    match h.rdc b o (len * sz) with
    | some old => some (.sl h.next 0 (len + n) (.u sz), (h.set b .dead).push (.cells (old ++ cs)))
    | none => none
  | _ => none

def lkOK : LK → V → Bool
  | .str, .str _ | .sl, .nils | .sl, .sl .. | .map, .nilm | .map, .map _ => true
  | _, _ => false

def lenV (h : H) : V → Option Nat
  | .str l => some l.length
  | .nils => some 0
  | .sl _ _ n _ => some n
  | .nilm => some 0
  | .map b => match h.get b with
    | some (.map es _) => some es.length
    | o => (um o).map (·.length)
  | _ => none

def isStrV : V → Bool
  | .str _ => true
  | _ => false

def evEntry (x : V) (h : H) : Option (V × H) := match x with
    | .ptr b 0 => match h.get b with
      | some (.miter (some m) _ seen st) => match seen.getLast?, h.get m with
        | some stamp, some (.map es cl) => if cl ≠ st then none else
          (match es.find? (fun x => x.2.2 == stamp) with
          | some (k, v, _) => some (.tup [k, v], h)
          | none => none)
        | _, _ => none
      | _ => none
    | _ => none

def evOp (op : AOp) (e : A → V) (h : H) : Option (V × H) :=
  match op with
  | .mv x => some (e x, h)
  | .pick c a b => match e c with
    | .bool t => some (if t then e a else e b, h)
    | _ => none
  | .alloc z => some (.ptr h.next 0, h.push (.cells z))
  | .box x => (e x).parts.map fun p => (.ptr h.next 0, h.push (.cells p))
  | .build z ps => (fill e z ps).map fun c => (.agg c, h)
  | .bslice z sz len ps => if z.length = sz then (fill e (reps z len) ps).map fun c => (.sl h.next 0 len (.k len), h.push (.cells c)) else none
  | .load agg n x => match e x with
    | .ptr b o => if agg then (h.rd b o n).map fun c => (.agg c, h) else
      (match h.rd b o 1 with
      | some [v] => some (v, h)
      | _ => none)
    | _ => none
  | .store n x v => match e x, (e v).parts with
    | .ptr b o, some c => if c.length = n ∧ c.all V.cellOK = true then (h.wr b o c).map fun h' => (.tup [], h') else none
    | _, _ => none
  | .nilck x => if nilckOK (e x) then some (e x, h) else none
  | .bin op x y => (binV op (e x) (e y)).map (·, h)
  | .eq neg d x y => (eqD d (e x) (e y)).map fun t => (.bool (if neg then !t else t), h)
  | .eqnil k neg x y => (eqNil k (e x) (e y)).map fun t => (.bool (if neg then !t else t), h)
  | .eqI neg ts x y => (eqIface ts (e x) (e y)).map fun t => (.bool (if neg then !t else t), h)
  | .un op x => (unV op (e x)).map (·, h)
  | .cvInt k x => match e x with
    | .int _ n => some (.int k (k.wrap n), h)
    | _ => none
  | .cvStr x => match e x with
    | .str l => some (.str l, h)
    | _ => none
  | .cvIntStr x => match e x with
    | .int _ n => some (.str (Utf8.encode n).data.toList, h)
    | _ => none
  | .cvBytes x => if isStrV (e x) then none else match srcOf h 1 (e x) with
    | some (_, c) => (bytesOf c).map fun l => (.str l, h)
    | none => none
  | .cvToBytes x => match e x with
    | .str l => if l.length < 2 ^ 46 then some (.sl h.next 0 l.length (.u 1), h.push (.cells (l.map fun c => .int .u8 c.toNat))) else none
    | _ => none
  | .mkIface t x => some (.iface t (e x), h)
  | .mkFn f a b => some (.fn f (a.map e) (b.map e), h)
  | .mkMap r => match r with
    | none => some (.map h.next, h.push (.map [] 0))
    | some a => match e a with
      | .int _ _ => some (.map h.next, h.push (.map [] 0))
      | _ => none
  | .mkSlice z bytes l c => match natOf (e l), natOf (e c) with
    | some n, some m => if n ≤ m ∧ roomOK m bytes = true then some (.sl h.next 0 n (.k m), h.push (.cells (reps z m))) else none
    | _, _ => none
  | .slStr x lo hi => match e x with
    | .str l => match bndOf e 0 lo, bndOf e l.length hi with
      | some a, some b => if a ≤ b ∧ b ≤ l.length then some (.str ((l.drop a).take (b - a)), h) else none
      | _, _ => none
    | _ => none
  | .slSl sz x lo hi mx => match e x with
    | .nils => match bndOf e 0 lo, bndOf e 0 hi, bndOf e 0 mx with
      | some 0, some 0, some 0 => some (.nils, h)
      | _, _, _ => none
    | .sl b o len cap => match bndOf e 0 lo, bndOf e len hi with
      | some a, some z => match mx with
        | some mx => match natOf (e mx) with
          | some m => if a ≤ z ∧ z ≤ m ∧ m ≤ cap.least len then some (.sl b (o + a * sz) (z - a) (.k (m - a)), h) else none
          | none => none
        | none => if a ≤ z ∧ z ≤ cap.least len ∧ cap.fits sz = true then some (.sl b (o + a * sz) (z - a) (cap.less a), h) else none
      | _, _ => none
    | _ => none
  | .slArr n sz x lo hi mx => match e x with
    | .ptr b o => match bndOf e 0 lo, bndOf e n hi, bndOf e n mx with
      | some a, some z, some m => if a ≤ z ∧ z ≤ m ∧ m ≤ n then some (.sl b (o + a * sz) (z - a) (.k (m - a)), h) else none
      | _, _, _ => none
    | _ => none
  | .faddr off x => match e x with
    | .ptr b o => some (.ptr b (o + off), h)
    | _ => none
  | .field off sz agg x => match e x with
    | .agg l => if off + sz ≤ l.length then
        (if agg then some (.agg ((l.drop off).take sz), h) else (l[off]?).map (·, h)) else none
    | _ => none
  | .iaddr sz x i => match e x, e i with
    | .sl b o len _, .int _ n => if 0 ≤ n ∧ n < len then some (.ptr b (o + n.toNat * sz), h) else none
    | _, _ => none
  | .iaddrArr len sz x i => match e x, e i with
    | .ptr b o, .int _ n => if 0 ≤ n ∧ n < len then some (.ptr b (o + n.toNat * sz), h) else none
    | _, _ => none
  | .idxStr x i => match e x, e i with
    | .str l, .int _ n => if 0 ≤ n then (l[n.toNat]?).map fun c => (.int .u8 c.toNat, h) else none
    | _, _ => none
  | .idxArr len sz agg x i => match e x, e i with
    | .agg l, .int _ n => if 0 ≤ n ∧ n < len ∧ n.toNat * sz + sz ≤ l.length then
        (if agg then some (.agg ((l.drop (n.toNat * sz)).take sz), h) else (l[n.toNat * sz]?).map (·, h)) else none
    | _, _ => none
  | .lookup d z m k ok => if !keyOK d (e k) then none else
    let out (v : V) (t : Bool) : V × H := (if ok then .tup [v, .bool t] else v, h)
    match e m with
    | .nilm => some (out z false)
    | .map b => match h.get b with
      | some (.map es _) => match findE d (e k) es 0 with
        | some (some (_, _, v, _)) => some (out v true)
        | some none => some (out z false)
        | none => none
      | o => match um o with
        | some es => (match findU d (e k) es with
          | some (some v) => some (out v true)
          | some none => some (out z false)
          | none => none)
        | none => none
    | _ => none
  | .mput d m k v => if !keyOK d (e k) then none else
    match e m with
    | .map b => match h.get b with
      | some (.map es cl) => match findE d (e k) es 0 with
        | some (some (i, _, _, n)) => some (.tup [], h.set b (.map (es.set i (e k, e v, n)) cl))
        | some none => some (.tup [], h.set b (.map (es ++ [(e k, e v, cl)]) (cl + 1)))
        | none => none
      | o => match um o with
        | some es => (match findU d (e k) es with
          | some none => some (.tup [], h.set b (.umap (es ++ [(e k, e v)])))
          | _ => none)
        | none => none
    | _ => none
  | .mentry d z m k => if !keyOK d (e k) then none else
    match e m with
    | .map b => match h.get b with
      | some (.map es cl) => match findE d (e k) es 0 with
        | some (some (i, _, v, n)) => some (.tup [v, .int .i64 n], h.set b (.map (es.set i (e k, v, n)) cl))
        | some none => some (.tup [z, .int .i64 cl], h.set b (.map (es ++ [(e k, z, cl)]) (cl + 1)))
        | none => none
      | _ => none
    | _ => none
  | .mestore m s v => match e m, e s with
    | .map b, .int _ n => match h.get b with
      | some (.map es cl) => match es.findIdx? (fun x => (x.2.2 : Int) == n) with
        | some i => match es[i]? with
          | some (k, _, n) => some (.tup [], h.set b (.map (es.set i (k, e v, n)) cl))
          | none => none
        | none => none
      | _ => none
    | _, _ => none
  | .rngStr x => match e x with
    | .str l => some (.ptr h.next 0, h.push (.siter l 0))
    | _ => none
  | .rngMap x => match e x with
    | .nilm => some (.ptr h.next 0, h.push (.miter none 0 [] 0))
    | .map b => match h.get b with
      | some (.map _ cl) => some (.ptr h.next 0, h.push (.miter (some b) cl [] cl))
      | _ => none
    | _ => none
  | .nextStr x => match e x with
    | .ptr b 0 => match h.get b with
      | some (.siter s p) => if p < s.length then
          (match Utf8.decode ⟨s.toArray⟩ p with
           | (c, w) => some (.tup [.bool true, .int .i64 p, .int .i32 c], h.set b (.siter s (p + w))))
        else some (.tup [.bool false], h)
      | _ => none
    | _ => none
  | .entry x => evEntry (e x) h
  | .tassert x t z => match e x with
    | .nili => some (.tup [z, .bool false], h)
    | .iface u v => some (if u = t then .tup [v, .bool true] else .tup [z, .bool false], h)
    | _ => none
  | .extract x i => match e x with
    | .tup l => (l[i]?).map (·, h)
    | _ => none
  | .len k x => if lkOK k (e x) then (lenV h (e x)).map fun n : Nat => (.int .i64 n, h) else none
  | .capOf x => match e x with
    | .nils => some (.int .i64 0, h)
    | .sl _ _ _ (.k c) => some (.int .i64 c, h)
    | _ => none
  | .append sz bytes s x => match srcOf h sz (e x) with
    | some (n, cs) => appendV sz bytes (e s) n cs h
    | none => none
  | .copy sz d s => match e d, srcOf h sz (e s) with
    | .nils, some _ => some (.int .i64 0, h)
    | .sl b o n _, some (m, cs) => let k := min m n
      let c := cs.take (k * sz)
      if c.all V.cellOK then (h.wr b o c).map fun h' => (.int .i64 k, h') else none
    | _, _ => none
  | .minmax mx xs => match xs.map e with
    | [] => none
    | v :: r => (foldV mx v r).map (·, h)
  | .clearSl z x => match e x with
    | .nils => some (.tup [], h)
    | .sl b o n _ => if n = 0 then some (.tup [], h) else if z.all V.cellOK then (h.wr b o (reps z n)).map fun h' => (.tup [], h') else none
    | _ => none
  | .tassertI .. | .nextMap _ | .call .. | .defer .. | .panic _ | .recover => none

/-! ### states -/
structure St where
  loc : List V
  tl : List (Nat × V)
  df : List (V × List V)
  h : H
  deriving Inhabited

structure Cx where
  fn : FuncId
  rnd : Option Nat

inductive Ret where
  | ret (v : V)
  | pan (v : V)
  deriving Inhabited

def St.put (st : St) (d : D) (v : V) : St :=
  match d with
  | .l i => { st with loc := st.loc.set i v }
  | .t s => { st with tl := (s, v) :: st.tl }
  | .n => st

abbrev CVT := V → List V → H → (Ret → H → Prop) → Prop

/-- the candidates for the next entry of a ranged map -/
def leftOf (es : List (V × V × Nat)) (seen : List Nat) : List (V × V × Nat) := es.filter fun x => !seen.contains x.2.2

def stepOp (CV : CVT) (cx : Cx) (op : AOp) (st : St) (K : V → St → Prop) (Q : X → St → Prop) : Prop :=
  match op with
  | .call f args => CV (evA st.loc st.tl f) (args.map (evA st.loc st.tl)) st.h fun r h' =>
      match r with
      | .ret v => K v { st with h := h' }
      | .pan v => Q (.pan v) { st with h := h' }
  | .defer f args => match cx.rnd, evA st.loc st.tl f with
    | none, .fn (.func g) a b => K (.tup []) { st with df := (.fn (.func g) a b, args.map (evA st.loc st.tl)) :: st.df }
    | _, _ => False
  | .panic x => match evA st.loc st.tl x with
    | .iface t v => Q (.pan (.iface t v)) st
    | _ => False
  | .recover => False
  | .nextMap x => match evA st.loc st.tl x with
    | .ptr b 0 => match st.h.get b with
      | some (.miter none _ _ _) => K (.tup [.bool false]) st
      | some (.miter (some m) since seen stp) => match st.h.get m with
        | some (.map es cl) =>
          cl = stp ∧ since = stp ∧ (es.all fun x => x.2.2 < cl) = true ∧
          (leftOf es seen = [] → K (.tup [.bool false]) st) ∧
          ∀ x ∈ leftOf es seen, K (.tup [.bool true, x.1, x.2.1]) { st with h := st.h.set b (.miter (some m) since (seen ++ [x.2.2]) cl) }
        | _ => False
      | _ => False
    | _ => False
  | op => match evOp op (evA st.loc st.tl) st.h with
    | some (v, h') => K v { st with h := h' }
    | none => False

def wantedA (st : St) : Option (A × Bool) → Option Bool
  | none => some true
  | some (a, t) => match evA st.loc st.tl a with
    | .bool b => some (b == t)
    | .tup [] => some false
    | _ => none

def opsN (CV : CVT) (cx : Cx) : List AOper → St → (X → St → Prop) → Prop
  | [], st, Q => Q .nrm st
  | o :: r, st, Q =>
    match wantedA st o.grd with
    | none => False
    | some false => opsN CV cx r (st.put o.d (.tup [])) Q
    | some true => stepOp CV cx o.op st (fun v st' => opsN CV cx r (st'.put o.d v) Q) Q

/-! ### regions that draw their order -/
def isEff : AOp → Bool
  | .store .. | .append .. | .copy .. | .mput .. | .mestore .. | .mentry .. | .nextStr _ | .nextMap _ | .clearSl .. | .call .. | .defer .. | .panic _ | .recover | .rngStr _ | .rngMap _ | .cvToBytes _ => true
  | _ => false

def isRead : AOp → Bool
  | .load .. | .lookup .. | .len .. | .entry _ | .cvBytes _ => true
  | _ => false

def isAlloc : AOp → Bool
  | .alloc _ | .box _ | .bslice .. | .mkMap _ | .mkSlice .. => true
  | _ => false

/-- what an operation names -/
def AOp.args : AOp → List A
  | .mv x | .box x | .nilck x | .un _ x | .cvInt _ x | .cvStr x | .cvIntStr x | .cvBytes x | .cvToBytes x | .mkIface _ x | .faddr _ x | .field _ _ _ x
  | .rngStr x | .rngMap x | .nextStr x | .nextMap x | .entry x | .tassert x _ _ | .tassertI x _ | .extract x _ | .len _ x | .capOf x | .clearSl _ x | .panic x | .load _ _ x => [x]
  | .pick c a b => [c, a, b]
  | .alloc _ | .recover => []
  | .build _ ps | .bslice _ _ _ ps => ps.map (·.2.2)
  | .store _ x y | .bin _ x y | .eq _ _ x y | .eqnil _ _ x y | .eqI _ _ x y | .mkSlice _ _ x y | .iaddr _ x y | .iaddrArr _ _ x y | .idxStr x y | .idxArr _ _ _ x y
  | .lookup _ _ x y _ | .mentry _ _ x y | .append _ _ x y | .copy _ x y => [x, y]
  | .mkFn _ a b => a ++ b
  | .mkMap r => r.toList
  | .slStr x lo hi => x :: (lo.toList ++ hi.toList)
  | .slSl _ x lo hi mx | .slArr _ _ x lo hi mx => x :: (lo.toList ++ (hi.toList ++ mx.toList))
  | .mput _ x y z | .mestore x y z => [x, y, z]
  | .minmax _ xs => xs
  | .call f xs | .defer f xs => f :: xs

def AOper.uses (o : AOper) : List A := o.op.args ++ (o.grd.map (·.1)).toList

def D.hits : D → A → Bool
  | .l i, .l j => i == j
  | .t s, .t u => s == u
  | _, _ => false

/-- a read that was made: its place in the text, the read, and what it gave -/
structure Rec where
  i : Nat
  op : AOp
  loc : List V
  tl : List (Nat × V)
  v : V

def Rec.again (r : Rec) (h : H) : Bool :=
  match evOp r.op (evA r.loc r.tl) h with
  | some (v, _) => V.beq v r.v
  | none => false

/-- locals that a region may set are forgotten -/
def forget (loc : List V) : List (Nat × AOper) → List V
  | [] => loc
  | o :: r => match o.2.d with
    | .l i => forget (loc.set i .bad) r
    | _ => forget loc r

/-- rs: the reads so far -/
def opsD (CV : CVT) (cx : Cx) (all : List (Nat × AOper)) : List (Nat × AOper) → List Rec → St → (X → St → Prop) → Prop
  | [], _, st, Q => Q .nrm st
  | o :: r, rs, st, Q =>
    match wantedA st o.2.grd with
    | none => False
    | some false => opsD CV cx all r rs (st.put o.2.d (.tup [])) Q
    | some true =>
      if isEff o.2.op then
        stepOp CV cx o.2.op st
          (fun v st' => (rs.all fun q => o.2.bf.testBit q.i || q.again st'.h) = true ∧ opsD CV cx all r rs (st'.put o.2.d v) Q)
          (fun x st' => Q x { st' with loc := forget st.loc all, tl := [] })
      else
        match evOp o.2.op (evA st.loc st.tl) st.h with
        | none => False
        | some (v, h') => opsD CV cx all r (if isRead o.2.op then ⟨o.1, o.2.op, st.loc, st.tl, v⟩ :: rs else rs) ({ st with h := h' }.put o.2.d v) Q

/-! ### functions -/
inductive Res where
  | loc (i : Nat)
  | cell (i : Nat) (agg : Bool) (n : Nat)
  deriving Inhabited, Repr

structure AFunc where
  np : Nat
  nl : Nat
  lm : List Nat
  rcv : Option Nat
  body : ACode
  res : List Res
  deriving Inhabited, Repr

def resOf (loc : List V) (h : H) : Res → Option V
  | .loc i => loc[i]?
  | .cell i agg n => match loc[i]? with
    | some (.ptr b o) => if agg then (h.rd b o n).map .agg else
      (match h.rd b o 1 with
      | some [v] => some v
      | _ => none)
    | _ => none

def resList (loc : List V) (h : H) : List Res → Option (List V)
  | [] => some []
  | r :: l => match resOf loc h r, resList loc h l with
    | some v, some vs => some (v :: vs)
    | _, _ => none

def resAll (loc : List V) (h : H) (rs : List Res) : Option V :=
  (resList loc h rs).map fun | [v] => v | l => .tup l

/-- external contracts -/
abbrev Ext := FuncId → Option (List V → H → (Ret → H → Prop) → Prop)

structure Env where
  ft : FuncId → Option AFunc
  ext : Ext

/-- code's meaning and frames' meaning, one fuel less -/
structure Sems where
  code : Cx → ACode → St → (X → St → Prop) → Prop
  frame : FuncId → List V → Option (Option V) → H → (Ret → Bool → H → Prop) → Prop

def callF (E : Env) (S : Sems) (f : FuncId) (args : List V) (h : H) (R : Ret → H → Prop) : Prop :=
  match E.ext f with
  | some c => c args h R
  | none => (E.ft f).any (·.rcv.isNone) = true ∧ S.frame f args none h fun r _ h' => R r h'

/-- one round of a range over a function -/
def roundF (S : Sems) (l : Nat) (args : List V) (h : H) (R : Ret → H → Prop) : Prop :=
  match h.get l with
  | some (.loop .ready none fn loc ps assign body) =>
    if args.length = ps.length then
      let st : St := (ps.zip args).foldl (fun st p => st.put p.1 p.2) { loc := loc, tl := [], df := [], h := h }
      S.code ⟨fn, some l⟩ assign st fun x st1 =>
        match x with
        | .nrm => match st1.h.get l with
          | some (.loop .ready none fn' loc' ps' as' body') =>
            S.code ⟨fn, some l⟩ body { st1 with tl := [], h := st1.h.set l (.loop .busy none fn' loc' ps' as' body') } fun y st2 =>
              match y, st2.h.get l with
              | .nrm, some (.loop .busy none f2 l2 p2 a2 b2) => R (.ret (.bool true)) (st2.h.set l (.loop .ready none f2 l2 p2 a2 b2))
              | .ret, some (.loop .busy none f2 l2 p2 a2 b2) => R (.ret (.bool false)) (st2.h.set l (.loop .done (some .ret) f2 l2 p2 a2 b2))
              | .exit id, some (.loop .busy none f2 l2 p2 a2 b2) => R (.ret (.bool false)) (st2.h.set l (.loop .done (some (.exit id)) f2 l2 p2 a2 b2))
              | _, _ => False
          | _ => False
        | _ => False
    else False
  | _ => False

def callV (E : Env) (S : Sems) (f : V) (args : List V) (h : H) (R : Ret → H → Prop) : Prop :=
  match f with
  | .fn (.func g) a b => callF E S g (a ++ args ++ b) h R
  | .fn (.yield l) a _ => roundF S l (a ++ args) h R
  | _ => False

/-- in a round: its loop is there -/
def roundOK (cx : Cx) (h : H) : Prop :=
  match cx.rnd with
  | none => True
  | some l => match h.get l with
    | some (.loop ..) => True
    | _ => False

def isFuncV : V → Bool
  | .fn (.func _) _ _ => true
  | _ => false

def codeF (E : Env) (S : Sems) (cx : Cx) (c : ACode) (st : St) (Q : X → St → Prop) : Prop :=
  match c with
  | .skip => Q .nrm st
  | .region ops => opsN (callV E S) cx ops { st with tl := [] } Q
  | .draw ops => opsD (callV E S) cx ops ops [] { st with tl := [] } Q
  | .seq a b => S.code cx a st fun x st' =>
      match x with
      | .nrm => S.code cx b st' Q
      | x => Q x st'
  | .cond c a b => match evA st.loc st.tl c with
    | .bool t => S.code cx (if t then a else b) { st with tl := [] } Q
    | _ => False
  | .block id b => S.code cx b st fun x st' =>
      match x with
      | .exit i => if i = id then Q .nrm { st' with tl := [] } else Q (.exit i) st'
      | x => Q x st'
  | .loop b => S.code cx b { st with tl := [] } fun x st' =>
      match x with
      | .nrm => S.code cx (.loop b) st' Q
      | x => Q x st'
  | .rfun g ps assign body =>
    let l := st.h.next
    roundOK cx st.h ∧ isFuncV (evA st.loc st.tl g) = true ∧
    callV E S (evA st.loc st.tl g) [.fn (.yield l) [] []] (st.h.push (.loop .ready none cx.fn st.loc ps assign body)) fun r h' =>
      match r with
      | .pan _ => False
      | .ret _ => match h'.get l with
        | some (.loop s pend f2 l2 p2 a2 b2) =>
          let st' : St := { st with tl := [], h := h'.set l (.loop .exhausted pend f2 l2 p2 a2 b2) }
          (match s, pend with
          | .busy, _ => False
          | _, none => Q .nrm st'
          | _, some x => Q x st')
        | _ => False
  | .exit id => Q (.exit id) st
  | .ret => Q .ret st
  | .refuse => False

/-- deferred calls, then the results; pan: the panic under way -/
def leaveF (S : Sems) (fn : AFunc) (loc : List V) (R : Ret → H → Prop) : List (V × List V) → Option V → H → Prop
  | [], some v, h => R (.pan v) h
  | [], none, h => match resAll loc h fn.res with
    | some v => R (.ret v) h
    | none => False
  | (.fn (.func g) a b, args) :: ds, pan, h =>
    S.frame g (a ++ args ++ b) (some pan) h fun r got h' =>
      match r with
      | .ret _ => leaveF S fn loc R ds (if got then none else pan) h'
      | .pan _ => False
  | _ :: _, _, _ => False

def enterLoc (fn : AFunc) (args : List V) (pd : Option V) : List V :=
  let l := args ++ List.replicate (fn.nl - args.length) (V.tup [])
  match fn.rcv with
  | some i => l.set i (pd.getD V.nili)
  | none => l

def enterSt (fn : AFunc) (args : List V) (pd : Option V) (h : H) : St := { loc := enterLoc fn args pd, tl := [], df := [], h := h }

/-- pd: called as a deferred call, with the panic under way below -/
def frameF (E : Env) (S : Sems) (f : FuncId) (args : List V) (pd : Option (Option V)) (h : H) (R : Ret → Bool → H → Prop) : Prop :=
  match E.ft f with
  | none => False
  | some fn =>
    args.length = fn.np ∧
    S.code ⟨f, none⟩ fn.body (enterSt fn args (pd.getD none) h) fun x st =>
      let got := fn.rcv.isSome && (pd.getD none).isSome
      (pd.isSome = true → st.df = []) ∧
      match x with
      | .nrm | .ret => leaveF S fn st.loc (fun r h => R r got h) st.df none st.h
      | .pan v => leaveF S fn st.loc (fun r h => R r got h) st.df (some v) st.h
      | .exit _ => False

def sems (E : Env) : Nat → Sems
  | 0 => ⟨fun _ _ _ _ => False, fun _ _ _ _ _ => False⟩
  | k + 1 => ⟨codeF E (sems E k), frameF E (sems E k)⟩

end Go.Abs

namespace Go.Abs

mutual
def ofV : Value → Option V
  | .bool b => some (.bool b)
  | .int k n => some (.int k n)
  | .string s => some (.str s.data.toList)
  | .pointer none => some .nilp
  | .slice none 0 0 => some .nils
  | .map none => some .nilm
  | .nilFunc => some .nilf
  | .nilIface => some .nili
  | .agg ⟨l⟩ => (ofVs l).map .agg
  | .tuple ⟨l⟩ => (ofVs l).map .tup
  | _ => none
def ofVs : List Value → Option (List V)
  | [] => some []
  | v :: l => match ofV v, ofVs l with
    | some x, some r => some (x :: r)
    | _, _ => none
end

variable (P : Program) (lm : List Nat)

def idxOf (t : Nat) : List Nat → Nat → Option Nat
  | [], _ => none
  | s :: l, i => if s = t then some i else idxOf t l (i + 1)

def trA : Operand → Option A
  | .tmp t => match idxOf t lm 0 with
    | some i => some (.l i)
    | none => some (.t t)
  | .const v => (ofV v).map .c
  | .global g => if g < P.globals.size then some (.g g) else none
  | .func f => some (.f f)

def trD : Option Tmp → D
  | none => .n
  | some t => match idxOf t lm 0 with
    | some i => .l i
    | none => .t t

def trAs : List Operand → Option (List A)
  | [] => some []
  | x :: l => match trA P lm x, trAs l with
    | some a, some r => some (a :: r)
    | _, _ => none

def szOf (t : TypeId) : Option Nat := (P.info? t).map (·.size)

def zeroV (t : TypeId) : Option V := ((P.info? t).bind (·.zero)).bind ofV

def zeroC (t : TypeId) : Option (List V) := (zeroV P t).bind V.parts

def isAggT (t : TypeId) : Option Bool := (P.underlying t).map fun | .struct _ | .array _ _ => true | _ => false

/-- the kinds of a type's cells, plain data alone; fields lie one behind the other -/
def kindsF (K : TypeId → Option (List CK)) : List Field → Nat → Option (List CK)
  | [], _ => some []
  | f :: r, at_ =>
    if f.offset = at_ ∧ f.name ≠ "_" then
      match K f.type with
      | some k => if szOf P f.type = some k.length then (kindsF K r (at_ + k.length)).map (k ++ ·) else none
      | none => none
    else none

def kindsT : Nat → TypeId → Option (List CK)
  | 0, _ => none
  | d + 1, t =>
    match P.underlying t with
    | some .bool => some [.bool]
    | some (.int _) => some [.int]
    | some .string => some [.str]
    | some (.struct fs) => if P.stoodInHeld t then none else kindsF P (kindsT d) fs.toList 0
    | _ => none

def trEqD (t : TypeId) : Option EqD :=
  match P.underlying t with
  | some .bool => some (.one .bool)
  | some (.int _) => some (.one .int)
  | some .string => some (.one .str)
  | some (.struct _) => if P.eqGuardType P.depth t then none else (kindsT P 20 t).map .many
  | _ => none

/-- named whole numbers' types that can be compared -/
def plainTypes : List TypeId :=
  (List.range P.types.size).filter fun t =>
    match P.info? t with
    | some { desc := .named _ u, comparable := true, .. } => (match P.info? u with | some { desc := .int _, .. } => true | _ => false)
    | _ => false

def isNilC : Operand → Bool
  | .const .nilIface => true
  | _ => false

def trParts (place : Nat → Option (Nat × Nat)) : List (Nat × Operand) → Option (List (Nat × Nat × A))
  | [] => some []
  | (i, x) :: r => match place i, trA P lm x, trParts place r with
    | some (o, s), some a, some l => some ((o, s, a) :: l)
    | _, _, _ => none

def callable (f : FuncId) : Bool :=
  match P.funcs[f]? with
  | some fn => fn.body.isSome && fn.name != "runtime.NumGoroutine"
  | none => false

def trOpt (x : Option Operand) : Option (Option A) :=
  match x with
  | none => some none
  | some x => (trA P lm x).map some

def trCallee (f : Operand) : Option A :=
  match f with
  | .func f => if callable P f then some (.f f) else none
  | .tmp t => trA P lm (.tmp t)
  | _ => none

def sliceOrStr : Option TypeDesc → Bool
  | some (.slice _) | some .string => true
  | _ => false

/-- comparisons for like and unlike -/
def trCmp (op : BinOp) (neg : Bool) (t : TypeId) (nilc : Bool) (a b : A) : Option AOp :=
  match P.underlying t with
  | some (.int _) | some .string => some (.bin op a b)
  | some .bool => some (.eq neg (.one .bool) a b)
  | some (.struct _) => (trEqD P t).map fun d => .eq neg d a b
  | some (.pointer e) => if (szOf P e).getD 0 = 0 then none else some (.eqnil .ptr neg a b)
  | some (.slice _) => some (.eqnil .sl neg a b)
  | some (.map _ _) => some (.eqnil .map neg a b)
  | some (.func ..) => some (.eqnil .fn neg a b)
  | some (.interface _) => if nilc then some (.eqnil .ifc neg a b) else some (.eqI neg (plainTypes P) a b)
  | _ => none

def trBin (op : BinOp) (t : TypeId) (nilc : Bool) (a b : A) : Option AOp :=
  match op with
  | .eql => trCmp P .eql false t nilc a b
  | .neq => trCmp P .neq true t nilc a b
  | op => some (.bin op a b)

def trBuild (t : TypeId) (ps : List (Nat × Operand)) (z : List V) : Option AOp :=
  match P.underlying t with
  | some (.struct fs) =>
    if fs.toList.all (fun f => (szOf P f.type).isSome) then
      (trParts P lm (fun i => match fs[i]? with | some f => (szOf P f.type).map (f.offset, ·) | none => none) ps).map (.build z)
    else none
  | some (.array _ e) => match szOf P e with
    | some s => (trParts P lm (fun i => some (i * s, s)) ps).map (.build z)
    | none => none
  | _ => none

def trBSlice (t : TypeId) (n : Nat) (ps : List (Nat × Operand)) : Option AOp :=
  match P.underlying t with
  | some (.slice e) => match szOf P e, zeroC P e with
    | some s, some z => if z.length = s ∧ 0 < s ∧ n * s ≤ 2 ^ 24 then (trParts P lm (fun i => some (i * s, s)) ps).map (.bslice z s n) else none
    | _, _ => none
  | _ => none

def trConv (s d : TypeId) (a : A) : Option AOp :=
  match P.underlying s, P.underlying d with
  | some (.int _), some (.int k) => some (.cvInt k a)
  | some (.int _), some .string => some (.cvIntStr a)
  | some .string, some .string => some (.cvStr a)
  | some (.slice e), some .string => (match P.underlying e with | some (.int .u8) => some (.cvBytes a) | _ => none)
  | some .string, some (.slice e) => (match P.underlying e with | some (.int .u8) => some (.cvToBytes a) | _ => none)
  | _, _ => none

def trMkSlice (t : TypeId) (l c : A) : Option AOp :=
  match P.underlying t with
  | some (.slice e) => match zeroC P e, P.info? e with
    | some z, some i => if z.length = i.size ∧ 0 < i.size then some (.mkSlice z i.bytes l c) else none
    | _, _ => none
  | _ => none

def trSlice (t : TypeId) (nohi : Bool) (nomx : Bool) (a : A) (l h m : Option A) : Option AOp :=
  match P.underlying t with
  | some .string => if nomx then some (.slStr a l h) else none
  | some (.slice e) => if !nomx && nohi then none else (szOf P e).map fun s => .slSl s a l h m
  | some (.array n e) => if !nomx && nohi then none else (szOf P e).map fun s => .slArr n s a l h m
  | some (.pointer ar) => (match P.underlying ar with
    | some (.array n e) => if !nomx && nohi then none else (szOf P e).map fun s => .slArr n s a l h m
    | _ => none)
  | _ => none

def trFAddr (t : TypeId) (f : Nat) (a : A) : Option AOp :=
  match P.underlying t with
  | some (.struct fs) => match fs[f]? with
    | some fd => if (szOf P fd.type).getD 0 = 0 then none else some (.faddr fd.offset a)
    | none => none
  | _ => none

def trField (t : TypeId) (f : Nat) (a : A) : Option AOp :=
  match P.underlying t with
  | some (.struct fs) => match fs[f]? with
    | some fd => match isAggT P fd.type, szOf P fd.type with
      | some ag, some s => if ag || s == 1 then some (.field fd.offset s ag a) else none
      | _, _ => none
    | none => none
  | _ => none

def trIAddr (t : TypeId) (a i : A) : Option AOp :=
  match P.underlying t with
  | some (.slice e) => (szOf P e).map fun s => .iaddr s a i
  | some (.array n e) => (szOf P e).map fun s => .iaddrArr n s a i
  | _ => none

def trIndex (t : TypeId) (a i : A) : Option AOp :=
  match P.underlying t with
  | some .string => some (.idxStr a i)
  | some (.array n e) => match isAggT P e, szOf P e with
    | some ag, some s => if ag || s == 1 then some (.idxArr n s ag a i) else none
    | _, _ => none
  | _ => none

/-- a map's: how keys are compared, and the zero of its elements -/
def mapD (t : TypeId) : Option (EqD × V) :=
  match P.underlying t with
  | some (.map kt et) => match trEqD P kt, zeroV P et with
    | some d, some z => some (d, z)
    | _, _ => none
  | _ => none

def trBuilt (b : Builtin) (t0 t1 : Option TypeId) (xs : List A) : Option AOp :=
  match b, t0, xs with
  | .len, some t0, [x] => (match P.underlying t0 with
    | some .string => some (.len .str x)
    | some (.slice _) => some (.len .sl x)
    | some (.map _ _) => some (.len .map x)
    | _ => none)
  | .cap, some t0, [x] => (match P.underlying t0 with
    | some (.slice _) => some (.capOf x)
    | _ => none)
  | .append, some t0, [s, x] => (match P.underlying t0, t1 with
    | some (.slice e), some t1 => (match P.info? e, zeroC P e with
      | some i, some z => if sliceOrStr (P.underlying t1) = true ∧ 0 < i.size ∧ i.bytes ≠ 0 ∧ z.length = i.size then some (.append i.size i.bytes s x) else none
      | _, _ => none)
    | _, _ => none)
  | .copy, some t0, [d, s] => (match P.underlying t0 with
    | some (.slice e) => (szOf P e).map fun n => .copy n d s
    | _ => none)
  | .max, _, xs => some (.minmax true xs)
  | .min, _, xs => some (.minmax false xs)
  | .clear, some t0, [x] => (match P.underlying t0 with
    | some (.slice e) => (zeroC P e).map fun z => .clearSl z x
    | _ => none)
  | _, _, _ => none

def trCall (c : Call) : Option AOp :=
  match c.callee, trAs P lm c.args.toList with
  | .value f, some xs => (trCallee P lm f).map fun f => .call f xs
  | .builtin b, some xs => trBuilt P b c.argTypes[0]? c.argTypes[1]? xs
  | _, _ => none

def trDefer (c : Call) : Option AOp :=
  match c.callee, trAs P lm c.args.toList with
  | .value f, some xs => (trCallee P lm f).map fun f => .defer f xs
  | _, _ => none

def isIfaceT (t : TypeId) : Bool :=
  match P.underlying t with
  | some (.interface _) => true
  | none => true
  | _ => false

def trRange (t : TypeId) (a : A) : Option AOp :=
  match P.underlying t with
  | some .string => some (.rngStr a)
  | some (.map _ _) => some (.rngMap a)
  | _ => none

def isMapT (t : TypeId) : Bool :=
  match P.underlying t with
  | some (.map _ _) => true
  | _ => false

def trOp (op : Op) : Option AOp :=
  match op with
  | .move x | .assign x => (trA P lm x).map .mv
  | .pick c a b => match trA P lm c, trA P lm a, trA P lm b with
    | some c, some a, some b => some (.pick c a b)
    | _, _, _ => none
  | .alloc t => (zeroC P t).map .alloc
  | .box _ x => (trA P lm x).map .box
  | .build t ps => (zeroC P t).bind (trBuild P lm t ps.toList)
  | .buildSlice t n ps => trBSlice P lm t n ps.toList
  | .load t a => match isAggT P t, szOf P t, trA P lm a with
    | some g, some n, some a => some (.load g n a)
    | _, _, _ => none
  | .store t a v => match szOf P t, trA P lm a, trA P lm v with
    | some n, some a, some v => some (.store n a v)
    | _, _, _ => none
  | .nilCheck x => (trA P lm x).map .nilck
  | .binOp op t x y _ => match trA P lm x, trA P lm y with
    | some a, some b => trBin P op t (isNilC x || isNilC y) a b
    | _, _ => none
  | .unOp op _ x => (trA P lm x).map (.un op)
  | .convert s d x => (trA P lm x).bind (trConv P s d)
  | .makeInterface t x => if isIfaceT P t then none else (trA P lm x).map (.mkIface t)
  | .makeFunc (.func f) a b => if callable P f then
      (match trAs P lm a.toList, trAs P lm b.toList with
      | some a, some b => some (.mkFn (.func f) a b)
      | _, _ => none) else none
  | .makeMap t r => if isMapT P t then (trOpt P lm r).map .mkMap else none
  | .makeSlice t l c => match trA P lm l, trA P lm c with
    | some l, some c => trMkSlice P t l c
    | _, _ => none
  | .slice t x lo hi mx => match trA P lm x, trOpt P lm lo, trOpt P lm hi, trOpt P lm mx with
    | some a, some l, some h, some m => trSlice P t hi.isNone mx.isNone a l h m
    | _, _, _, _ => none
  | .fieldAddr t x f => (trA P lm x).bind (trFAddr P t f)
  | .field t x f => (trA P lm x).bind (trField P t f)
  | .indexAddr t x i => match trA P lm x, trA P lm i with
    | some a, some i => trIAddr P t a i
    | _, _ => none
  | .index t x i => match trA P lm x, trA P lm i with
    | some a, some i => trIndex P t a i
    | _, _ => none
  | .lookup t m k ok => match mapD P t, trA P lm m, trA P lm k with
    | some (d, z), some m, some k => some (.lookup d z m k ok)
    | _, _, _ => none
  | .mapUpdate t m k v | .insert t m k v => match mapD P t, trA P lm m, trA P lm k, trA P lm v with
    | some (d, _), some m, some k, some v => some (.mput d m k v)
    | _, _, _, _ => none
  | .mapEntry t m k => match mapD P t, trA P lm m, trA P lm k with
    | some (d, z), some m, some k => some (.mentry d z m k)
    | _, _, _ => none
  | .entryStore _ m s v => match trA P lm m, trA P lm s, trA P lm v with
    | some m, some s, some v => some (.mestore m s v)
    | _, _, _ => none
  | .range t x => (trA P lm x).bind (trRange P t)
  | .next x true => (trA P lm x).map .nextStr
  | .next x false => (trA P lm x).map .nextMap
  | .entry x => (trA P lm x).map .entry
  | .typeAssert x _ t true => if isIfaceT P t then none else
    (match trA P lm x, zeroV P t with
    | some a, some z => some (.tassert a t z)
    | _, _ => none)
  | .extract x i => (trA P lm x).map fun a => .extract a i
  | .call c => trCall P lm c
  | .defer c => trDefer P lm c
  | .panic x => (trA P lm x).map .panic
  | _ => none

def trOpers (nt : Nat) (ops : Array Oper) (bf : Array Nat) : List Oper → Nat → Option (List AOper)
  | [], _ => some []
  | o :: r, i =>
    let g : Option (Option (A × Bool)) := match o.guard with
      | none => some none
      | some (j, t) => match (ops[j]?).bind (·.dst) with
        | some d => (trA P lm (.tmp d)).map fun a => some (a, t)
        | none => none
    match trOp P lm o.op, g, trOpers nt ops bf r (i + 1) with
    | some op, some g, some l => if (o.dst.getD 0) < nt then some ({ d := trD lm o.dst, op := op, grd := g, bf := bf.getD i 0 } :: l) else none
    | _, _, _ => none

def bfOf (L : List (Nat × AOper)) (i : Nat) : Nat :=
  match L.find? (·.1 == i) with
  | some o => o.2.bf
  | none => 0

/-- a: ahead of b in the list -/
def pairOK (a b : Nat × AOper) : Bool :=
  a.1 != b.1 && !a.2.bf.testBit b.1 &&
  (match a.2.d, b.2.d with
   | .l i, .l j => i != j
   | .t s, .t u => s != u
   | _, _ => true) &&
  (b.2.bf.testBit a.1 || (!isEff a.2.op && !b.2.uses.any a.2.d.hits && !a.2.uses.any b.2.d.hits))

def pairsOK : List (Nat × AOper) → Bool
  | [] => true
  | a :: l => l.all (pairOK a) && pairsOK l

/-- one operation against its edges -/
def edgeOK (ops : Array Oper) (L : List (Nat × AOper)) (o : Nat × AOper) : Bool :=
  match ops[o.1]? with
  | some c =>
    (List.range ops.size).all fun j => !o.2.bf.testBit j || c.after.any fun e => Region.binds .any e && (e.on == j || (bfOf L e.on).testBit j)
  | none => false

/-- edges lead back in the list -/
def edgesBack (ops : Array Oper) : List (Nat × AOper) → List Nat → Bool
  | [], _ => true
  | o :: r, seen => (match ops[o.1]? with
      | some c => c.after.all fun e => !Region.binds .any e || seen.contains e.on
      | none => false) && edgesBack ops r (o.1 :: seen)

def drawOK (ops : Array Oper) (L : List (Nat × AOper)) : Bool :=
  pairsOK L && L.all (edgeOK ops L) && edgesBack ops L [] && (List.range ops.size).all (fun i => L.any (·.1 == i)) && L.all (fun o => o.1 < ops.size)

/-- whatever is no effect as early as may be -/
def takeD (p : Nat × AOper → Bool) : List (Nat × AOper) → Option ((Nat × AOper) × List (Nat × AOper))
  | [] => none
  | o :: r => if p o then some (o, r) else (takeD p r).map fun q => (q.1, o :: q.2)

def orderD : Nat → List Nat → List (Nat × AOper) → List (Nat × AOper)
  | 0, _, _ => []
  | n + 1, seen, l =>
    let free (o : Nat × AOper) : Bool := l.all fun q => !o.2.bf.testBit q.1
    match takeD (fun o => free o && !isEff o.2.op) l with
    | some (o, r) => o :: orderD n (o.1 :: seen) r
    | none => match takeD free l with
      | some (o, r) => o :: orderD n (o.1 :: seen) r
      | none => []

def numD : List AOper → Nat → List (Nat × AOper)
  | [], _ => []
  | o :: r, i => (i, o) :: numD r (i + 1)

def trCode (nt : Nat) (c : Code) : Option ACode :=
  match c with
  | .skip | .label _ => some .skip
  | .region _ ops false => (trOpers P lm nt ops #[] ops.toList 0).map .region
  | .region _ ops true =>
    match trOpers P lm nt ops (Region.before ops) ops.toList 0 with
    | none => none
    | some l => let L := orderD (l.length) [] (numD l 0)
      if drawOK ops L then some (.draw L) else none
  | .seq a b => match trCode nt a, trCode nt b with
    | some a, some b => some (.seq a b)
    | _, _ => none
  | .cond c a b => match trA P lm c, trCode nt a, trCode nt b with
    | some c, some a, some b => some (.cond c a b)
    | _, _, _ => none
  | .block id b => (trCode nt b).map (.block id)
  | .loop b => (trCode nt b).map .loop
  | .rangeFunc f ps a b => match trCallee P lm f, trCode nt a, trCode nt b with
    | some f, some a, some b => if ps.toList.all (· < nt) then some (.rfun f (ps.toList.map fun t => trD lm (some t)) a b) else none
    | _, _, _ => none
  | .exit id => some (.exit id)
  | .scope b => trCode nt b
  | .ret => some .ret
  | .refuse _ => some .refuse
  | .goto _ => none

def trRes : ResultVar → Option Res
  | .tmp t => (idxOf t lm 0).map .loc
  | .cell t ty => match idxOf t lm 0, isAggT P ty, szOf P ty with
    | some i, some a, some n => if a || n == 1 then some (.cell i a n) else none
    | _, _, _ => none

def trRess : List ResultVar → Option (List Res)
  | [] => some []
  | r :: l => match trRes P lm r, trRess l with
    | some a, some b => some (a :: b)
    | _, _ => none

/-- a body that begins with a region that is a call of recover -/
def splitRec : Code → Option (Tmp × Code)
  | .seq (.region _ ops false) c => match ops.toList with
    | [{ dst := some d, op := .call { callee := .builtin .recover, args := as_, .. }, guard := none, .. }] => if as_.isEmpty then some (d, c) else none
    | _ => none
  | _ => none

def nodup : List Nat → Bool
  | [] => true
  | a :: l => !l.contains a && nodup l

def trFunc (fn : Func) : Option AFunc :=
  match fn.body with
  | none => none
  | some c =>
    let np := fn.params.size + fn.nfree
    if nodup lm && lm.all (· < fn.ntmps) && (lm.take np == List.range np) && np ≤ lm.length && np ≤ fn.ntmps && fn.name != "runtime.NumGoroutine" then
      match splitRec c with
      | some (d, c') =>
        (match idxOf d lm 0, trCode P lm fn.ntmps c', trRess P lm fn.results.toList with
        | some i, some b, some rs => some { np := np, nl := lm.length, lm := lm, rcv := some i, body := b, res := rs }
        | _, _, _ => none)
      | none =>
        (match trCode P lm fn.ntmps c, trRess P lm fn.results.toList with
        | some b, some rs => some { np := np, nl := lm.length, lm := lm, rcv := none, body := b, res := rs }
        | _, _ => none)
    else none

/-! ### which slots are locals: no law leans on it -/
def Op.tmps (o : Op) : List Tmp := o.operands.toList.filterMap fun | .tmp t => some t | _ => none

def readsOf (o : Oper) (ops : Array Oper) : List Nat :=
  Op.tmps o.op ++ (match o.guard with | some (j, _) => ((ops[j]?).bind (·.dst)).toList | none => [])

def regionReads (ops : Array Oper) : List Nat × List Nat :=
  ops.toList.foldl (fun (r, w) o => (((readsOf o ops).filter fun t => !w.contains t) ++ r, o.dst.toList ++ w)) ([], [])

end Go.Abs

namespace Go.Abs

/-! ### the trie -/
namespace Tr
variable {α : Type}

theorem get_single : ∀ (f n : Nat) (x : α) (k : Nat), n < f → (single f n x).get k = if k = n then some x else none := by
  intro f
  induction f with
  | zero => intro n x k h; omega
  | succ f ih =>
    intro n x k h
    simp only [single]
    by_cases hn : n = 0
    · subst hn
      simp only [if_true, get]
      by_cases hk : k = 0
      · simp [hk]
      · simp only [if_neg hk]; split <;> simp []
    · simp only [if_neg hn]
      by_cases he : n % 2 = 0
      · simp only [if_pos he, get]
        by_cases hk : k = 0
        · subst hk; rw [if_pos rfl, if_neg (by omega)]
        · simp only [if_neg hk]
          by_cases hke : k % 2 = 0
          · simp only [if_pos hke]
            rw [ih _ _ _ (by omega)]
            by_cases e : k = n
            · subst e; simp
            · rw [if_neg (by omega), if_neg e]
          · simp only [if_neg hke]; rw [if_neg (by omega)]
      · simp only [if_neg he, get]
        by_cases hk : k = 0
        · subst hk; rw [if_pos rfl, if_neg (by omega)]
        · simp only [if_neg hk]
          by_cases hke : k % 2 = 0
          · simp only [if_pos hke]; rw [if_neg (by omega)]
          · simp only [if_neg hke]
            rw [ih _ _ _ (by omega)]
            by_cases e : k = n
            · subst e; simp
            · rw [if_neg (by omega), if_neg e]

theorem get_set (t : Tr α) : ∀ (n : Nat) (x : α) (k : Nat), (t.set n x).get k = if k = n then some x else t.get k := by
  induction t with
  | leaf => intro n x k; simp only [set]; rw [get_single _ _ _ _ (by omega)]; rfl
  | node v l r ihl ihr =>
    intro n x k
    simp only [set]
    by_cases hn : n = 0
    · subst hn
      simp only [if_true, get]
      by_cases hk : k = 0 <;> simp [hk]
    · simp only [if_neg hn]
      by_cases he : n % 2 = 0
      · simp only [if_pos he, get]
        by_cases hk : k = 0
        · subst hk; simp only [if_true]; rw [if_neg (by omega)]
        · simp only [if_neg hk]
          by_cases hke : k % 2 = 0
          · simp only [if_pos hke]
            rw [ihl]
            by_cases e : k = n
            · subst e; simp
            · rw [if_neg (by omega), if_neg e]
          · simp only [if_neg hke]; rw [if_neg (by omega)]
      · simp only [if_neg he, get]
        by_cases hk : k = 0
        · subst hk; simp only [if_true]; rw [if_neg (by omega)]
        · simp only [if_neg hk]
          by_cases hke : k % 2 = 0
          · simp only [if_pos hke]; rw [if_neg (by omega)]
          · simp only [if_neg hke]
            rw [ihr]
            by_cases e : k = n
            · subst e; simp
            · rw [if_neg (by omega), if_neg e]
end Tr

namespace H
theorem get_set (h : H) (b : Nat) (o : O) (k : Nat) : (h.set b o).get k = if k = b then some o else h.get k := Tr.get_set _ _ _ _
theorem get_push (h : H) (o : O) (k : Nat) : (h.push o).get k = if k = h.next then some o else h.get k := Tr.get_set _ _ _ _
theorem next_set (h : H) (b : Nat) (o : O) : (h.set b o).next = h.next := rfl
theorem next_push (h : H) (o : O) : (h.push o).next = h.next + 1 := rfl
end H

/-! ### values -/
/-- where a block lies: its block, its first cell's place there, how many cells are its own -/
structure MB where
  blk : Nat
  sh : Nat
  lim : Nat

abbrev Mp := Nat → Option MB

def FnR (m : Mp) : Fn → Fn → Prop
  | .func f, g => g = .func f
  | .yield l, g => ∃ x, m l = some x ∧ g = .yield x.blk
  | _, _ => False

mutual
def VR (m : Mp) : V → Value → Prop
  | .bad, _ => True
  | .bool b, v => v = .bool b
  | .int k n, v => v = .int k n
  | .str l, v => ∃ s : ByteArray, v = .string s ∧ s.data.toList = l
  | .nilp, v => v = .pointer none
  | .ptr b o, v => ∃ x, m b = some x ∧ v = .pointer (some ⟨x.blk, x.sh + o, none⟩)
  | .nils, v => v = .slice none 0 0
  | .sl b o len cap, v => ∃ ca cp, v = .slice (some ca) len cp ∧ len ≤ cp ∧ (∀ c, cap = .k c → cp = c) ∧
      ∃ x, m b = some x ∧ (cp = 0 ∨ ca = ⟨x.blk, x.sh + o, none⟩ ∧ (∀ z, cap = .u z → o + cp * z ≤ x.lim))
  | .nilm, v => v = .map none
  | .map b, v => ∃ x, m b = some x ∧ v = .map (some x.blk)
  | .nilf, v => v = .nilFunc
  | .fn f a b, v => ∃ (f' : Fn) (a' b' : Array Value), v = .func f' a' b' ∧ FnR m f f' ∧ VRs m a a'.toList ∧ VRs m b b'.toList
  | .nili, v => v = .nilIface
  | .iface t x, v => ∃ x', v = .iface t x' ∧ VR m x x'
  | .agg l, v => ∃ a : Array Value, v = .agg a ∧ VRs m l a.toList
  | .tup l, v => ∃ a : Array Value, v = .tuple a ∧ VRs m l a.toList
def VRs (m : Mp) : List V → List Value → Prop
  | [], r => r = []
  | a :: l, r => ∃ x r', r = x :: r' ∧ VR m a x ∧ VRs m l r'
end

def Mle (m m' : Mp) : Prop := ∀ b x, m b = some x → m' b = some x

theorem Mle.refl (m : Mp) : Mle m m := fun _ _ h => h
theorem Mle.trans {a b c : Mp} (h : Mle a b) (k : Mle b c) : Mle a c := fun _ _ e => k _ _ (h _ _ e)

theorem FnR.mono {m m' : Mp} (h : Mle m m') {f g : Fn} (r : FnR m f g) : FnR m' f g := by
  cases f <;> simp only [FnR] at r ⊢
  · exact r
  · obtain ⟨x, h1, h2⟩ := r; exact ⟨x, h _ _ h1, h2⟩

mutual
theorem VR.mono {m m' : Mp} (h : Mle m m') : ∀ {v : V} {x : Value}, VR m v x → VR m' v x
  | .bad, _, _ => by simp only [VR]
  | .bool _, _, r => by simpa only [VR] using r
  | .int _ _, _, r => by simpa only [VR] using r
  | .str _, _, r => by simpa only [VR] using r
  | .nilp, _, r => by simpa only [VR] using r
  | .ptr _ _, _, r => by simp only [VR] at r ⊢; obtain ⟨x, a, b⟩ := r; exact ⟨x, h _ _ a, b⟩
  | .nils, _, r => by simpa only [VR] using r
  | .sl .., _, r => by
    simp only [VR] at r ⊢
    obtain ⟨ca, cp, a, b, c, x, d, e⟩ := r
    exact ⟨ca, cp, a, b, c, x, h _ _ d, e⟩
  | .nilm, _, r => by simpa only [VR] using r
  | .map _, _, r => by simp only [VR] at r ⊢; obtain ⟨x, a, b⟩ := r; exact ⟨x, h _ _ a, b⟩
  | .nilf, _, r => by simpa only [VR] using r
  | .fn _ _ _, _, r => by
    simp only [VR] at r ⊢
    obtain ⟨f', a', b', e, hf, ha, hb⟩ := r
    exact ⟨f', a', b', e, hf.mono h, VRs.mono h ha, VRs.mono h hb⟩
  | .nili, _, r => by simpa only [VR] using r
  | .iface _ _, _, r => by simp only [VR] at r ⊢; obtain ⟨x, a, b⟩ := r; exact ⟨x, a, VR.mono h b⟩
  | .agg _, _, r => by simp only [VR] at r ⊢; obtain ⟨x, a, b⟩ := r; exact ⟨x, a, VRs.mono h b⟩
  | .tup _, _, r => by simp only [VR] at r ⊢; obtain ⟨x, a, b⟩ := r; exact ⟨x, a, VRs.mono h b⟩
theorem VRs.mono {m m' : Mp} (h : Mle m m') : ∀ {l : List V} {r : List Value}, VRs m l r → VRs m' l r
  | [], _, r => by simpa only [VRs] using r
  | _ :: _, _, r => by
    simp only [VRs] at r ⊢
    obtain ⟨x, r', e, a, b⟩ := r
    exact ⟨x, r', e, VR.mono h a, VRs.mono h b⟩
end

theorem VRs.nil {m : Mp} : VRs m [] [] := by simp only [VRs]
theorem VRs.cons {m : Mp} {v : V} {l : List V} {x : Value} {r : List Value} (h : VR m v x) (k : VRs m l r) : VRs m (v :: l) (x :: r) := by
  simp only [VRs]; exact ⟨x, r, rfl, h, k⟩
theorem VRs.length {m : Mp} : ∀ {l : List V} {r : List Value}, VRs m l r → l.length = r.length
  | [], _, h => by simp only [VRs] at h; subst h; rfl
  | _ :: l, _, h => by simp only [VRs] at h; obtain ⟨x, r', rfl, _, b⟩ := h; simp [VRs.length b]
theorem VRs.append {m : Mp} : ∀ {l l' : List V} {r r' : List Value}, VRs m l r → VRs m l' r' → VRs m (l ++ l') (r ++ r')
  | [], _, _, _, h, k => by simp only [VRs] at h; subst h; exact k
  | _ :: l, _, _, _, h, k => by
    simp only [VRs] at h; obtain ⟨x, r', rfl, a, b⟩ := h
    exact VRs.cons a (VRs.append b k)
theorem VRs.drop {m : Mp} : ∀ (n : Nat) {l : List V} {r : List Value}, VRs m l r → VRs m (l.drop n) (r.drop n)
  | 0, _, _, h => by simpa using h
  | n + 1, [], _, h => by simp only [VRs] at h; subst h; simpa using VRs.nil
  | n + 1, _ :: l, _, h => by
    simp only [VRs] at h; obtain ⟨x, r', rfl, a, b⟩ := h
    simpa using VRs.drop n b
theorem VRs.take {m : Mp} : ∀ (n : Nat) {l : List V} {r : List Value}, VRs m l r → VRs m (l.take n) (r.take n)
  | 0, _, _, h => by simpa using VRs.nil
  | n + 1, [], _, h => by simp only [VRs] at h; subst h; simpa using VRs.nil
  | n + 1, _ :: l, _, h => by
    simp only [VRs] at h; obtain ⟨x, r', rfl, a, b⟩ := h
    simpa using VRs.cons a (VRs.take n b)
theorem VRs.get {m : Mp} : ∀ {l : List V} {r : List Value} {i : Nat} {v : V}, VRs m l r → l[i]? = some v → ∃ x, r[i]? = some x ∧ VR m v x
  | [], _, i, v, _, h => by simp at h
  | _ :: l, _, 0, v, h, e => by
    simp only [VRs] at h; obtain ⟨x, r', rfl, a, b⟩ := h
    simp at e; subst e; exact ⟨x, by simp, a⟩
  | _ :: l, _, i + 1, v, h, e => by
    simp only [VRs] at h; obtain ⟨x, r', rfl, a, b⟩ := h
    simp at e; simpa using VRs.get b e
theorem VRs.set {m : Mp} : ∀ {l : List V} {r : List Value} (i : Nat) {v : V} {x : Value}, VRs m l r → VR m v x → VRs m (l.set i v) (r.set i x)
  | [], _, _, _, _, h, _ => by simp only [VRs] at h; subst h; simpa using VRs.nil
  | _ :: l, _, 0, _, _, h, k => by
    simp only [VRs] at h; obtain ⟨x, r', rfl, a, b⟩ := h
    simpa using VRs.cons k b
  | _ :: l, _, i + 1, _, _, h, k => by
    simp only [VRs] at h; obtain ⟨x, r', rfl, a, b⟩ := h
    simpa using VRs.cons a (VRs.set i b k)
theorem VRs.replicate {m : Mp} {v : V} {x : Value} (h : VR m v x) : ∀ n, VRs m (List.replicate n v) (List.replicate n x)
  | 0 => by simpa using VRs.nil
  | n + 1 => by simpa [List.replicate_succ] using VRs.cons h (VRs.replicate h n)

/-! ### objects -/
def ER (m : Mp) (e : V × V × Nat) (c : MapEntry) : Prop := VR m e.1 c.key ∧ VR m e.2.1 c.val ∧ e.2.2 = c.born

def ERs (m : Mp) : List (V × V × Nat) → List MapEntry → Prop
  | [], r => r = []
  | a :: l, r => ∃ x r', r = x :: r' ∧ ER m a x ∧ ERs m l r'

theorem ER.mono {m m' : Mp} (h : Mle m m') {e : V × V × Nat} {c : MapEntry} (r : ER m e c) : ER m' e c := ⟨VR.mono h r.1, VR.mono h r.2.1, r.2.2⟩
theorem ERs.mono {m m' : Mp} (h : Mle m m') : ∀ {l : List (V × V × Nat)} {r : List MapEntry}, ERs m l r → ERs m' l r
  | [], _, r => r
  | _ :: _, _, r => by
    simp only [ERs] at r ⊢
    obtain ⟨x, r', e, a, b⟩ := r
    exact ⟨x, r', e, a.mono h, ERs.mono h b⟩

/-- a frame's locals -/
def LocR (m : Mp) (lm : List Nat) (loc : List V) (tmps : Array Value) : Prop :=
  loc.length = lm.length ∧ ∀ (i s : Nat), lm[i]? = some s → ∃ v cv, loc[i]? = some v ∧ tmps[s]? = some cv ∧ VR m v cv

theorem LocR.mono {m m' : Mp} (h : Mle m m') {lm : List Nat} {loc : List V} {tmps : Array Value} (r : LocR m lm loc tmps) : LocR m' lm loc tmps :=
  ⟨r.1, fun i s e => let ⟨v, cv, a, b, c⟩ := r.2 i s e; ⟨v, cv, a, b, VR.mono h c⟩⟩

def PendR : Option X → Option Code → Prop
  | none, c => c = none
  | some .ret, c => c = some .ret
  | some (.exit id), c => c = some (.exit id)
  | _, _ => False

def LmOK (lm : List Nat) (nt : Nat) : Prop := lm.Nodup ∧ ∀ s ∈ lm, s < nt

def OR (P : Program) (m : Mp) (x : MB) : O → Obj → Prop
  | .cells c, co => ∃ (cc : Array Value) (e : TypeId) (fr : Nat × Nat), co = .cells cc e fr ∧ c.length ≤ x.lim ∧ x.sh + x.lim ≤ cc.size ∧
      (∀ i, i < x.lim → (decide (fr.1 ≤ x.sh + i) && decide (x.sh + i < fr.2)) = false) ∧
      VRs m c ((cc.toList.drop x.sh).take c.length)
  | .rcells c, co => ∃ (cc : Array Value) (e : TypeId) (fr : Nat × Nat), co = .cells cc e fr ∧ c.length ≤ x.lim ∧ x.sh + x.lim ≤ cc.size ∧
      VRs m c ((cc.toList.drop x.sh).take c.length)
  | .map es cl, co => ∃ es' : Array MapEntry, co = .map es' cl ∧ ERs m es es'.toList
  | .umap es, co => ∃ (l : List (V × V × Nat)) (cl : Nat) (es' : Array MapEntry), co = .map es' cl ∧ ERs m l es'.toList ∧ (l.map fun e => (e.1, e.2.1)).Perm es
  | .miter mm since seen st, co => x.sh = 0 ∧ ∃ mm' : Option Nat, co = .mapIter mm' since seen.toArray st ∧
      (match mm with
       | none => mm' = none
       | some b => ∃ y, m b = some y ∧ mm' = some y.blk)
  | .siter s p, co => x.sh = 0 ∧ ∃ bs : ByteArray, co = .stringIter bs p ∧ bs.data.toList = s
  | .loop st pend _ loc ps assign body, co => ∃ L : Loop, co = .loop L ∧ L.state = st ∧ PendR pend L.pending ∧
      ∃ lm : List Nat, LmOK lm L.tmps.size ∧ trCode P lm L.tmps.size L.assign = some assign ∧ trCode P lm L.tmps.size L.body = some body ∧
        ps = L.params.toList.map (fun t => trD lm (some t)) ∧ (∀ t ∈ L.params.toList, t < L.tmps.size) ∧ LocR m lm loc L.tmps
  | .dead, _ => True

theorem OR.mono {P : Program} {m m' : Mp} (h : Mle m m') {x : MB} : ∀ {o : O} {co : Obj}, OR P m x o co → OR P m' x o co
  | .cells .., _, r => by
    obtain ⟨cc, e, fr, a, b, c, d, g⟩ := r
    exact ⟨cc, e, fr, a, b, c, d, VRs.mono h g⟩
  | .rcells .., _, r => by
    obtain ⟨cc, e, fr, a, b, c, g⟩ := r
    exact ⟨cc, e, fr, a, b, c, VRs.mono h g⟩
  | .map .., _, r => by obtain ⟨es', a, b⟩ := r; exact ⟨es', a, ERs.mono h b⟩
  | .umap .., _, r => by obtain ⟨l, cl, es', a, b, c⟩ := r; exact ⟨l, cl, es', a, ERs.mono h b, c⟩
  | .miter mm _ _ _, _, r => by
    obtain ⟨a, mm', b, c⟩ := r
    refine ⟨a, mm', b, ?_⟩
    cases mm with
    | none => exact c
    | some b => obtain ⟨y, d, e⟩ := c; exact ⟨y, h _ _ d, e⟩
  | .siter .., _, r => r
  | .loop .., _, r => by
    obtain ⟨L, a, b, c, lm, e, f, g, i, j, k⟩ := r
    exact ⟨L, a, b, c, lm, e, f, g, i, j, k.mono h⟩
  | .dead, _, _ => trivial

/-! ### heaps -/
abbrev G := Nat → Option O

def live (g : G) (b : Nat) : Prop := ∃ o, g b = some o ∧ o ≠ .dead

structure Sim (P : Program) (m : Mp) (g : G) (nx : Nat) (w : World) : Prop where
  dom : ∀ b x, m b = some x → b < nx ∧ x.blk < w.heap.size
  obj : ∀ b x o, m b = some x → g b = some o → o ≠ .dead → ∃ co, w.heap[x.blk]? = some co ∧ OR P m x o co
  inj : ∀ b b' x x', m b = some x → m b' = some x' → live g b → live g b' → x.blk = x'.blk → b = b'
  glob : ∀ i, i < P.globals.size → ∃ x, m i = some x ∧ x.blk = i ∧ x.sh = 0
  top : ∀ b, nx ≤ b → ¬ live g b

structure Ex (m : Mp) (g : G) (nx : Nat) (w : World) (m' : Mp) (g' : G) (nx' : Nat) (w' : World) : Prop where
  next : nx ≤ nx'
  size : w.heap.size ≤ w'.heap.size
  old : ∀ b, b < nx → m' b = m b
  new : ∀ b x, nx ≤ b → m' b = some x → w.heap.size ≤ x.blk ∨ ∃ b0 x0, m b0 = some x0 ∧ live g b0 ∧ x0.blk = x.blk
  keep : ∀ r, r < w.heap.size → (∀ b x, m b = some x → live g b → x.blk ≠ r) → w'.heap[r]? = w.heap[r]?
  ghost : ∀ b, b < nx → m b = none → g' b = g b
  lv : ∀ b, b < nx → live g' b → live g b
  ro : ∀ b x c, b < nx → x.blk < w.heap.size → m b = some x → g b = some (.rcells c) → live g' b → g' b = some (.rcells c) ∧ w'.heap[x.blk]? = w.heap[x.blk]?
  rest : w'.tape = w.tape ∧ w'.os = w.os ∧ w'.output = w.output

theorem Ex.refl (m : Mp) (g : G) (nx : Nat) (w : World) (h : ∀ b x, m b = some x → b < nx) : Ex m g nx w m g nx w :=
  ⟨Nat.le_refl _, Nat.le_refl _, fun _ _ => rfl, fun b x hb e => absurd (h b x e) (by omega), fun _ _ _ => rfl, fun _ _ _ => rfl, fun _ _ h => h, fun _ _ _ _ _ _ h _ => ⟨h, rfl⟩, rfl, rfl, rfl⟩

theorem Ex.le {P : Program} {m m' : Mp} {g g' : G} {nx nx' : Nat} {w w' : World} (e : Ex m g nx w m' g' nx' w') (s : Sim P m g nx w) : Mle m m' :=
  fun b x h => (e.old b (s.dom b x h).1).trans h

theorem Ex.trans {m m' m'' : Mp} {g g' g'' : G} {nx nx' nx'' : Nat} {w w' w'' : World} (h : Ex m g nx w m' g' nx' w')
    (k : Ex m' g' nx' w' m'' g'' nx'' w'') : Ex m g nx w m'' g'' nx'' w'' where
  next := Nat.le_trans h.next k.next
  size := Nat.le_trans h.size k.size
  old b hb := (k.old b (Nat.lt_of_lt_of_le hb h.next)).trans (h.old b hb)
  new b x hb hx := by
    by_cases hb' : b < nx'
    · exact h.new b x hb ((k.old b hb').symm.trans hx)
    · rcases k.new b x (by omega) hx with e | ⟨b0, x0, h0, l0, e0⟩
      · exact .inl (Nat.le_trans h.size e)
      · by_cases hb0 : b0 < nx
        · exact .inr ⟨b0, x0, (h.old b0 hb0).symm.trans h0, h.lv b0 hb0 l0, e0⟩
        · rw [← e0]; exact h.new b0 x0 (by omega) h0
  keep r hr hn := by
    rw [k.keep r (Nat.lt_of_lt_of_le hr h.size) ?_, h.keep r hr hn]
    intro b x hb hl
    by_cases hb' : b < nx
    · exact hn b x ((h.old b hb').symm.trans hb) (h.lv b hb' hl)
    · rcases h.new b x (by omega) hb with e | ⟨b0, x0, h0, l0, e0⟩
      · omega
      · rw [← e0]; exact hn b0 x0 h0 l0
  ghost b hb hm := (k.ghost b (Nat.lt_of_lt_of_le hb h.next) ((h.old b hb).trans hm)).trans (h.ghost b hb hm)
  lv b hb hl := h.lv b hb (k.lv b (Nat.lt_of_lt_of_le hb h.next) hl)
  ro b x c hb hs hm hg hl := by
    have hb' := Nat.lt_of_lt_of_le hb h.next
    obtain ⟨h1, h2⟩ := h.ro b x c hb hs hm hg (k.lv b hb' hl)
    obtain ⟨h3, h4⟩ := k.ro b x c hb' (Nat.lt_of_lt_of_le hs h.size) ((h.old b hb).trans hm) h1 hl
    exact ⟨h3, h4.trans h2⟩
  rest := ⟨k.rest.1.trans h.rest.1, k.rest.2.1.trans h.rest.2.1, k.rest.2.2.trans h.rest.2.2⟩

end Go.Abs

namespace Go.Abs

def upd {α : Type} (f : Nat → α) (b : Nat) (x : α) : Nat → α := fun k => if k = b then x else f k

theorem upd_same {α : Type} (f : Nat → α) (b : Nat) (x : α) : upd f b x b = x := if_pos rfl
theorem upd_ne {α : Type} (f : Nat → α) (b : Nat) (x : α) {k : Nat} (h : k ≠ b) : upd f b x k = f k := if_neg h

theorem get_set_upd (h : H) (b : Nat) (o : O) : (h.set b o).get = upd h.get b (some o) := funext fun k => H.get_set h b o k
theorem get_push_upd (h : H) (o : O) : (h.push o).get = upd h.get h.next (some o) := funext fun k => H.get_push h o k

theorem Mle.upd {P : Program} {m : Mp} {g : G} {nx : Nat} {w : World} (s : Sim P m g nx w) (x : MB) : Mle m (upd m nx (some x)) :=
  fun b y h => by rw [upd_ne _ _ _ (by have := (s.dom b y h).1; omega)]; exact h

/-- a world in which things are in other places alone: draws -/
theorem Sim.heap {P : Program} {m : Mp} {g : G} {nx : Nat} {w w' : World} (s : Sim P m g nx w) (h : w'.heap = w.heap) : Sim P m g nx w' :=
  ⟨fun b x e => by rw [h]; exact s.dom b x e, fun b x o e k l => by rw [h]; exact s.obj b x o e k l, s.inj, s.glob, s.top⟩

theorem Ex.heap {P : Program} {m : Mp} {g : G} {nx : Nat} {w w' : World} (s : Sim P m g nx w) (h : w'.heap = w.heap)
    (hr : w'.tape = w.tape ∧ w'.os = w.os ∧ w'.output = w.output) : Ex m g nx w m g nx w' :=
  ⟨Nat.le_refl _, by rw [h]; exact Nat.le_refl _, fun _ _ => rfl, fun b x hb e => absurd (s.dom b x e).1 (by omega), fun r _ _ => by rw [h], fun _ _ _ => rfl, fun _ _ h => h, fun _ _ _ _ _ _ e _ => ⟨e, by rw [h]⟩, hr⟩

theorem get?_push_lt {α : Type} (a : Array α) (x : α) {i : Nat} (h : i < a.size) : (a.push x)[i]? = a[i]? := by
  rw [Array.getElem?_push]; rw [if_neg (by omega)]

theorem get?_push_size {α : Type} (a : Array α) (x : α) : (a.push x)[a.size]? = some x := by
  rw [Array.getElem?_push]; simp

/-- a new block -/
theorem Sim.push {P : Program} {m : Mp} {g : G} {nx : Nat} {w w' : World} (s : Sim P m g nx w) {o : O} {co : Obj} {x : MB}
    (hx : x.blk = w.heap.size) (hw : w'.heap = w.heap.push co) (ho : OR P (upd m nx (some x)) x o co) :
    Sim P (upd m nx (some x)) (upd g nx (some o)) (nx + 1) w' where
  dom b y e := by
    rw [hw, Array.size_push]
    by_cases hb : b = nx
    · subst hb; rw [upd_same] at e; cases e; exact ⟨by omega, by omega⟩
    · rw [upd_ne _ _ _ hb] at e; have := s.dom b y e; exact ⟨by omega, by omega⟩
  obj b y o' e k l := by
    by_cases hb : b = nx
    · subst hb
      rw [upd_same] at e k; cases e; cases k
      exact ⟨co, by rw [hw, hx]; exact get?_push_size _ _, ho⟩
    · rw [upd_ne _ _ _ hb] at e k
      obtain ⟨co', h1, h2⟩ := s.obj b y o' e k l
      exact ⟨co', by rw [hw, get?_push_lt _ _ (s.dom b y e).2]; exact h1, h2.mono (Mle.upd s x)⟩
  inj b b' y y' e e' l l' q := by
    by_cases hb : b = nx
    · by_cases hb' : b' = nx
      · rw [hb, hb']
      · subst hb; rw [upd_same] at e; cases e
        rw [upd_ne _ _ _ hb'] at e'
        have := (s.dom b' y' e').2; omega
    · by_cases hb' : b' = nx
      · subst hb'; rw [upd_same] at e'; cases e'
        rw [upd_ne _ _ _ hb] at e
        have := (s.dom b y e).2; omega
      · rw [upd_ne _ _ _ hb] at e; rw [upd_ne _ _ _ hb'] at e'
        unfold live at l l'
        rw [upd_ne _ _ _ hb] at l; rw [upd_ne _ _ _ hb'] at l'
        exact s.inj b b' y y' e e' l l' q
  glob i hi := by
    obtain ⟨y, e, h1, h2⟩ := s.glob i hi
    exact ⟨y, Mle.upd s x _ _ e, h1, h2⟩
  top b hb l := by
    unfold live at l; rw [upd_ne _ _ _ (by omega)] at l
    exact s.top b (by omega) l

theorem Ex.push {P : Program} {m : Mp} {g : G} {nx : Nat} {w w' : World} (s : Sim P m g nx w) {o : O} {co : Obj} {x : MB}
    (hx : x.blk = w.heap.size) (hw : w'.heap = w.heap.push co) (hr : w'.tape = w.tape ∧ w'.os = w.os ∧ w'.output = w.output) :
    Ex m g nx w (upd m nx (some x)) (upd g nx (some o)) (nx + 1) w' where
  next := by omega
  size := by rw [hw, Array.size_push]; omega
  old b hb := upd_ne _ _ _ (by omega)
  new b y hb e := by
    by_cases hb' : b = nx
    · subst hb'; rw [upd_same] at e; cases e; exact .inl (by omega)
    · rw [upd_ne _ _ _ hb'] at e; have := (s.dom b y e).1; omega
  keep r hr _ := by rw [hw, get?_push_lt _ _ hr]
  ghost b hb _ := upd_ne _ _ _ (by omega)
  lv b hb l := by unfold live at l ⊢; rwa [upd_ne _ _ _ (by omega)] at l
  ro b y c hb hs _ hg _ := ⟨by rw [upd_ne _ _ _ (by omega)]; exact hg, by rw [hw, get?_push_lt _ _ hs]⟩
  rest := hr

/-- a block is written -/
theorem Sim.set {P : Program} {m : Mp} {g : G} {nx : Nat} {w w' : World} (s : Sim P m g nx w) {b : Nat} {o : O} {co : Obj} {x : MB}
    (hb : m b = some x) (hl : live g b) (hsz : w'.heap.size = w.heap.size) (hat : w'.heap[x.blk]? = some co) (hne : ∀ k, k ≠ x.blk → w'.heap[k]? = w.heap[k]?)
    (ho : OR P m x o co) : Sim P m (upd g b (some o)) nx w' where
  dom c y e := by rw [hsz]; exact s.dom c y e
  obj c y o' e k l := by
    by_cases hc : c = b
    · subst hc; rw [upd_same] at k; cases k; rw [hb] at e; cases e; exact ⟨co, hat, ho⟩
    · rw [upd_ne _ _ _ hc] at k
      obtain ⟨co', h1, h2⟩ := s.obj c y o' e k l
      exact ⟨co', by rw [hne _ (fun q => hc (s.inj c b y x e hb ⟨o', k, l⟩ hl q))]; exact h1, h2⟩
  inj c c' y y' e e' l l' q := by
    have lv : ∀ d, live (upd g b (some o)) d → live g d := fun d l => by
      by_cases hd : d = b
      · subst hd; exact hl
      · unfold live at l; rwa [upd_ne _ _ _ hd] at l
    exact s.inj c c' y y' e e' (lv c l) (lv c' l') q
  glob := s.glob
  top c hc l := by
    have := (s.dom b x hb).1
    unfold live at l; rw [upd_ne _ _ _ (by omega)] at l
    exact s.top c hc l

theorem Ex.set {P : Program} {m : Mp} {g : G} {nx : Nat} {w w' : World} (s : Sim P m g nx w) {b : Nat} {o : O} {x : MB}
    (hb : m b = some x) (hl : live g b) (hsz : w'.heap.size = w.heap.size) (hne : ∀ k, k ≠ x.blk → w'.heap[k]? = w.heap[k]?)
    (hno : ∀ c, g b ≠ some (.rcells c)) (hr : w'.tape = w.tape ∧ w'.os = w.os ∧ w'.output = w.output) : Ex m g nx w m (upd g b (some o)) nx w' where
  next := Nat.le_refl _
  size := by rw [hsz]; exact Nat.le_refl _
  old _ _ := rfl
  new c y hc e := absurd (s.dom c y e).1 (by omega)
  keep r _ h := hne r (fun q => h b x hb hl q.symm)
  ghost c _ hm := by
    by_cases hc : c = b
    · subst hc; rw [hb] at hm; cases hm
    · exact upd_ne _ _ _ hc
  lv c _ l := by
    by_cases hd : c = b
    · subst hd; exact hl
    · unfold live at l; rwa [upd_ne _ _ _ hd] at l
  ro c y l _ _ hm hg _ := by
    by_cases hc : c = b
    · subst hc; exact absurd hg (hno _)
    · exact ⟨by rw [upd_ne _ _ _ hc]; exact hg, hne _ fun q => hc (s.inj c b y x hm hb ⟨_, hg, by nofun⟩ hl q)⟩
  rest := hr

/-- a block is forgotten, and a new one takes its place -/
theorem Sim.adopt {P : Program} {m : Mp} {g : G} {nx : Nat} {w w' : World} (s : Sim P m g nx w) {b : Nat} {o : O} {co : Obj} {x x' : MB}
    (hb : m b = some x) (hl : live g b) (hx : x'.blk = x.blk) (hsz : w'.heap.size = w.heap.size) (hat : w'.heap[x.blk]? = some co)
    (hne : ∀ k, k ≠ x.blk → w'.heap[k]? = w.heap[k]?) (ho : OR P (upd m nx (some x')) x' o co) :
    Sim P (upd m nx (some x')) (upd (upd g b (some .dead)) nx (some o)) (nx + 1) w' where
  dom c y e := by
    rw [hsz]
    by_cases hc : c = nx
    · subst hc; rw [upd_same] at e; cases e; rw [hx]; exact ⟨by omega, (s.dom b x hb).2⟩
    · rw [upd_ne _ _ _ hc] at e; have := s.dom c y e; exact ⟨by omega, this.2⟩
  obj c y o' e k l := by
    by_cases hc : c = nx
    · subst hc; rw [upd_same] at e k; cases e; cases k; exact ⟨co, by rw [hx]; exact hat, ho⟩
    · rw [upd_ne _ _ _ hc] at e k
      by_cases hcb : c = b
      · subst hcb; rw [upd_same] at k; cases k; exact absurd rfl l
      · rw [upd_ne _ _ _ hcb] at k
        obtain ⟨co', h1, h2⟩ := s.obj c y o' e k l
        exact ⟨co', by rw [hne _ (fun q => hcb (s.inj c b y x e hb ⟨o', k, l⟩ hl q))]; exact h1, h2.mono (Mle.upd s x')⟩
  inj c c' y y' e e' l l' q := by
    have nb : b ≠ nx := by have := (s.dom b x hb).1; omega
    have lv : ∀ d, d ≠ nx → live (upd (upd g b (some .dead)) nx (some o)) d → d ≠ b ∧ live g d := fun d hd l => by
      obtain ⟨o', k, l⟩ := l
      rw [upd_ne _ _ _ hd] at k
      by_cases hdb : d = b
      · subst hdb; rw [upd_same] at k; cases k; exact absurd rfl l
      · rw [upd_ne _ _ _ hdb] at k; exact ⟨hdb, o', k, l⟩
    by_cases hc : c = nx
    · by_cases hc' : c' = nx
      · rw [hc, hc']
      · exfalso
        subst hc; rw [upd_same] at e; cases e
        rw [upd_ne _ _ _ hc'] at e'
        obtain ⟨h1, h2⟩ := lv c' hc' l'
        exact h1 (s.inj c' b y' x e' hb h2 hl (q.symm.trans hx))
    · by_cases hc' : c' = nx
      · exfalso
        subst hc'; rw [upd_same] at e'; cases e'
        rw [upd_ne _ _ _ hc] at e
        obtain ⟨h1, h2⟩ := lv c hc l
        exact h1 (s.inj c b y x e hb h2 hl (q.trans hx))
      · rw [upd_ne _ _ _ hc] at e; rw [upd_ne _ _ _ hc'] at e'
        exact s.inj c c' y y' e e' (lv c hc l).2 (lv c' hc' l').2 q
  glob i hi := by
    obtain ⟨y, e, h1, h2⟩ := s.glob i hi
    exact ⟨y, Mle.upd s x' _ _ e, h1, h2⟩
  top c hc l := by
    obtain ⟨o', k, l⟩ := l
    rw [upd_ne _ _ _ (by omega)] at k
    by_cases hdb : c = b
    · subst hdb; rw [upd_same] at k; cases k; exact absurd rfl l
    · rw [upd_ne _ _ _ hdb] at k; exact s.top c (by omega) ⟨o', k, l⟩

theorem Ex.adopt {P : Program} {m : Mp} {g : G} {nx : Nat} {w w' : World} (s : Sim P m g nx w) {b : Nat} {o : O} {x x' : MB}
    (hb : m b = some x) (hl : live g b) (hx : x'.blk = x.blk) (hsz : w'.heap.size = w.heap.size)
    (hne : ∀ k, k ≠ x.blk → w'.heap[k]? = w.heap[k]?) (hr : w'.tape = w.tape ∧ w'.os = w.os ∧ w'.output = w.output) :
    Ex m g nx w (upd m nx (some x')) (upd (upd g b (some .dead)) nx (some o)) (nx + 1) w' where
  next := by omega
  size := by rw [hsz]; exact Nat.le_refl _
  old c hc := upd_ne _ _ _ (by omega)
  new c y hc e := by
    by_cases hc' : c = nx
    · subst hc'; rw [upd_same] at e; cases e; exact .inr ⟨b, x, hb, hl, hx.symm⟩
    · rw [upd_ne _ _ _ hc'] at e; have := (s.dom c y e).1; omega
  keep r _ h := hne r (fun q => h b x hb hl q.symm)
  ghost c hc hm := by
    have : c ≠ b := fun q => by subst q; rw [hb] at hm; cases hm
    rw [upd_ne _ _ _ (by omega), upd_ne _ _ _ this]
  lv c hc l := by
    obtain ⟨o', k, l⟩ := l
    rw [upd_ne _ _ _ (by omega)] at k
    by_cases hcb : c = b
    · subst hcb; exact hl
    · rw [upd_ne _ _ _ hcb] at k; exact ⟨o', k, l⟩
  ro c y l hc _ hm hg hlv := by
    have hcb : c ≠ b := fun q => by
      obtain ⟨o', k, l'⟩ := hlv
      rw [upd_ne _ _ _ (by omega), q, upd_same] at k
      cases k; exact l' rfl
    exact ⟨by rw [upd_ne _ _ _ (by omega), upd_ne _ _ _ hcb]; exact hg, hne _ fun q => hcb (s.inj c b y x hm hb ⟨_, hg, by nofun⟩ hl q)⟩
  rest := hr

/-- a block is forgotten, and new memory takes its place -/
theorem Sim.kill {P : Program} {m : Mp} {g : G} {nx : Nat} {w : World} (s : Sim P m g nx w) (b : Nat) : Sim P m (upd g b (some .dead)) nx w where
  dom := s.dom
  obj c y o' e k l := by
    by_cases hcb : c = b
    · subst hcb; rw [upd_same] at k; cases k; exact absurd rfl l
    · rw [upd_ne _ _ _ hcb] at k; exact s.obj c y o' e k l
  inj c c' y y' e e' l l' q := by
    have lv : ∀ d, live (upd g b (some .dead)) d → live g d := fun d ⟨o', k, l⟩ => by
      by_cases hdb : d = b
      · subst hdb; rw [upd_same] at k; cases k; exact absurd rfl l
      · rw [upd_ne _ _ _ hdb] at k; exact ⟨o', k, l⟩
    exact s.inj c c' y y' e e' (lv c l) (lv c' l') q
  glob := s.glob
  top c hc l := by
    obtain ⟨o', k, l⟩ := l
    by_cases hdb : c = b
    · subst hdb; rw [upd_same] at k; cases k; exact absurd rfl l
    · rw [upd_ne _ _ _ hdb] at k; exact s.top c hc ⟨o', k, l⟩

theorem Ex.kill {P : Program} {m : Mp} {g : G} {nx : Nat} {w : World} (s : Sim P m g nx w) {b : Nat} {x : MB} (hb : m b = some x) :
    Ex m g nx w m (upd g b (some .dead)) nx w where
  next := Nat.le_refl _
  size := Nat.le_refl _
  old _ _ := rfl
  new c y hc e := absurd (s.dom c y e).1 (by omega)
  keep _ _ _ := rfl
  ghost c _ hm := upd_ne _ _ _ (fun q => by subst q; rw [hb] at hm; cases hm)
  lv c _ l := by
    obtain ⟨o', k, l⟩ := l
    by_cases hcb : c = b
    · subst hcb; rw [upd_same] at k; cases k; exact absurd rfl l
    · rw [upd_ne _ _ _ hcb] at k; exact ⟨o', k, l⟩
  ro c y l _ _ _ hg hlv := by
    have hcb : c ≠ b := fun q => by
      obtain ⟨o', k, l'⟩ := hlv
      rw [q, upd_same] at k
      cases k; exact l' rfl
    exact ⟨by rw [upd_ne _ _ _ hcb]; exact hg, rfl⟩
  rest := ⟨rfl, rfl, rfl⟩

end Go.Abs

namespace Go.Abs
section
variable {P : Program}

theorem run_load_at {w : World} {r off : Nat} {cc : Array Value} {e : TypeId} {fr : Nat × Nat} {v : Value} (hr : w.heap[r]? = some (.cells cc e fr)) (hv : cc[off]? = some v) :
    (load ⟨r, off, none⟩).run P w = .ok v w := by
  have hc : w.cell? ⟨r, off, none⟩ = some v := by simp [World.cell?, hr, hv]
  simp [load, Sem.run, hc]

theorem add_off (r off i : Nat) : Addr.add ⟨r, off, none⟩ i = ⟨r, off + i, none⟩ := by
  unfold Addr.add; split
  · next h => subst h; rfl
  · rfl

theorem run_loadCellsFrom {w : World} {r : Nat} {cc : Array Value} {e : TypeId} {fr : Nat × Nat} (hr : w.heap[r]? = some (.cells cc e fr)) (off : Nat) :
    ∀ (n i : Nat) (acc : Array Value), off + i + n ≤ cc.size → (loadCellsFrom ⟨r, off, none⟩ i n acc).run P w = .ok (acc ++ ((cc.toList.drop (off + i)).take n).toArray) w := by
  intro n
  induction n with
  | zero => intro i acc _; simp [loadCellsFrom]
  | succ n ih =>
    intro i acc h
    have hlt : off + i < cc.size := by omega
    have hl := run_load_at (P := P) (w := w) hr (Array.getElem?_eq_getElem hlt)
    simp only [loadCellsFrom, add_off, Sem.run_bind, hl, Result.andThen_ok]
    rw [ih (i + 1) _ (by omega)]
    have : (cc.toList.drop (off + i)).take (n + 1) = cc[off + i] :: (cc.toList.drop (off + (i + 1))).take n := by
      rw [List.drop_eq_getElem_cons (by simpa using hlt)]
      simp [Nat.add_assoc]
    rw [this]
    congr 1
    apply Array.ext'
    simp

theorem run_loadCells {w : World} {r : Nat} {cc : Array Value} {e : TypeId} {fr : Nat × Nat} (hr : w.heap[r]? = some (.cells cc e fr)) (off n : Nat)
    (h : off + n ≤ cc.size) : (loadCells ⟨r, off, none⟩ n).run P w = .ok ((cc.toList.drop off).take n).toArray w := by
  have := run_loadCellsFrom (P := P) hr off n 0 #[] (by omega)
  simpa [loadCells] using this

/-- no aggregate -/
def flat : Value → Bool
  | .agg _ | .tuple _ => false
  | _ => true

theorem cells_flat {v : Value} (h : flat v = true) : v.cells = #[v] := by cases v <;> first | rfl | simp [flat] at h

theorem flat_of {m : Mp} : ∀ {v : V} {x : Value}, V.cellOK v = true → VR m v x → flat x = true := by
  intro v x h r
  cases v <;> simp only [VR] at r <;> first
    | (simp [V.cellOK] at h; done)
    | (subst r; rfl)
    | (obtain ⟨_, rfl, _⟩ := r; rfl)
    | (obtain ⟨_, _, rfl⟩ := r; rfl)
    | (obtain ⟨_, _, rfl, _⟩ := r; rfl)
    | (obtain ⟨_, _, _, rfl, _⟩ := r; rfl)

theorem flats_of {m : Mp} : ∀ {l : List V} {r : List Value}, l.all V.cellOK = true → VRs m l r → ∀ x ∈ r, flat x = true
  | [], _, _, h, x, hx => by simp only [VRs] at h; subst h; cases hx
  | v :: l, _, ha, h, x, hx => by
    simp only [VRs] at h; obtain ⟨y, r', rfl, a, b⟩ := h
    simp only [List.all_cons, Bool.and_eq_true] at ha
    rcases List.mem_cons.1 hx with e | e
    · subst e; exact flat_of ha.1 a
    · exact flats_of ha.2 b x e

theorem run_store_at {w : World} {r off : Nat} {cc : Array Value} {e : TypeId} {fr : Nat × Nat} {v : Value} (hr : w.heap[r]? = some (.cells cc e fr)) (hlt : off < cc.size)
    (hf : (decide (fr.1 ≤ off) && decide (off < fr.2)) = false) (hv : flat v = true) :
    (store ⟨r, off, none⟩ v).run P w = .ok () (w.setCell ⟨r, off, none⟩ v) := by
  have hc : w.cell? ⟨r, off, none⟩ = some cc[off] := by simp [World.cell?, hr, hlt]
  have hz : w.frozen? ⟨r, off, none⟩ = false := by simpa [World.frozen?, hr] using hf
  cases v <;> first
    | (simp [flat] at hv; done)
    | simp [store, Sem.run, hc, hz]

theorem heap_setCell {w : World} {r off : Nat} {cc : Array Value} {e : TypeId} {fr : Nat × Nat} {v : Value} (hr : w.heap[r]? = some (.cells cc e fr)) :
    (w.setCell ⟨r, off, none⟩ v).heap[r]? = some (.cells (cc.setIfInBounds off v) e fr) := by
  simp only [World.setCell, Array.getElem?_modify, hr]
  simp

theorem list_set_split {α : Type} (l : List α) (o : Nat) (v : α) (h : o < l.length) : l.set o v = l.take o ++ v :: l.drop (o + 1) := by
  rw [List.set_eq_take_append_cons_drop]; simp [h]

theorem run_storeCells (r off : Nat) : ∀ (vs : List Value) (i : Nat) (w : World) (cc : Array Value) (e : TypeId) (fr : Nat × Nat),
    w.heap[r]? = some (.cells cc e fr) → off + i + vs.length ≤ cc.size → (∀ j, off + i ≤ j → j < off + i + vs.length → (decide (fr.1 ≤ j) && decide (j < fr.2)) = false) →
    (∀ v ∈ vs, flat v = true) →
    ∃ w', (storeCells ⟨r, off, none⟩ vs i).run P w = .ok () w' ∧ w'.heap.size = w.heap.size ∧
      w'.heap[r]? = some (.cells (cc.toList.take (off + i) ++ (vs ++ cc.toList.drop (off + i + vs.length))).toArray e fr) ∧
      (∀ k, k ≠ r → w'.heap[k]? = w.heap[k]?) ∧ (w'.tape = w.tape ∧ w'.os = w.os ∧ w'.output = w.output) := by
  intro vs
  induction vs with
  | nil =>
    intro i w cc e fr hr _ _ _
    refine ⟨w, by simp [storeCells], rfl, ?_, fun _ _ => rfl, rfl, rfl, rfl⟩
    rw [hr]; simp [List.take_append_drop]
  | cons v vs ih =>
    intro i w cc e fr hr hle hfr hfl
    simp only [List.length_cons] at hle hfr
    have hlt : off + i < cc.size := by omega
    have h1 := run_store_at (P := P) hr hlt (hfr _ (by omega) (by omega)) (hfl v (by simp))
    obtain ⟨w', a, b, c, d, f⟩ := ih (i + 1) (w.setCell ⟨r, off + i, none⟩ v) (cc.setIfInBounds (off + i) v) e fr (heap_setCell hr)
      (by simp; omega) (fun j h h' => hfr j (by omega) (by omega)) (fun x hx => hfl x (by simp [hx]))
    refine ⟨w', ?_, by rw [b]; simp, ?_, fun k hk => by rw [d k hk]; exact heap_setCell_other _ _ _ _ (by simpa using hk), ?_⟩
    · simp only [storeCells, add_off, Sem.run_bind, h1, Result.andThen_ok]; exact a
    · rw [c]
      have hl : off + i < cc.toList.length := by simpa using hlt
      simp only [Array.toList_setIfInBounds, list_set_split _ _ _ hl, List.length_cons]
      have e1 : (cc.toList.take (off + i) ++ v :: cc.toList.drop (off + i + 1)).take (off + (i + 1)) = cc.toList.take (off + i) ++ [v] := by
        rw [List.take_append, List.take_of_length_le (by simp; omega)]
        simp only [List.length_take, Nat.min_eq_left (Nat.le_of_lt hl)]
        rw [show off + (i + 1) - (off + i) = 1 from by omega]
        simp
      have e2 : (cc.toList.take (off + i) ++ v :: cc.toList.drop (off + i + 1)).drop (off + (i + 1) + vs.length) = cc.toList.drop (off + i + (vs.length + 1)) := by
        rw [List.drop_append, List.drop_of_length_le (by simp; omega), List.nil_append]
        simp only [List.length_take, Nat.min_eq_left (Nat.le_of_lt hl)]
        rw [show off + (i + 1) + vs.length - (off + i) = vs.length + 1 from by omega, List.drop_succ_cons, List.drop_drop]
        congr 1; omega
      rw [e1, e2]
      simp
    · rw [f.1, f.2.1, f.2.2]; exact ⟨rfl, rfl, rfl⟩

end

/-! ### the abstract side -/
theorem rd_some {h : H} {b o n : Nat} {c : List V} (e : h.rd b o n = some c) :
    ∃ cs, (h.get b = some (.cells cs) ∨ h.get b = some (.rcells cs)) ∧ o + n ≤ cs.length ∧ c = (cs.drop o).take n := by
  unfold H.rd at e
  split at e
  · rename_i cs hg
    split at e
    · rename_i hle; cases e; exact ⟨cs, .inl hg, hle, rfl⟩
    · cases e
  · rename_i cs hg
    split at e
    · rename_i hle; cases e; exact ⟨cs, .inr hg, hle, rfl⟩
    · cases e
  · cases e

theorem rdc_some {h : H} {b o n : Nat} {c : List V} (e : h.rdc b o n = some c) :
    ∃ cs, h.get b = some (.cells cs) ∧ o + n ≤ cs.length ∧ c = (cs.drop o).take n := by
  unfold H.rdc at e
  split at e
  · rename_i cs hg
    split at e
    · rename_i hle; cases e; exact ⟨cs, hg, hle, rfl⟩
    · cases e
  · cases e
theorem rdc_rd {h : H} {b o n : Nat} {c : List V} (e : h.rdc b o n = some c) : h.rd b o n = some c := by
  obtain ⟨cs, hg, hle, rfl⟩ := rdc_some e
  unfold H.rd; rw [hg]; dsimp only; rw [if_pos hle]
theorem rdc_eq {h : H} {b : Nat} {c : List V} (hg : h.get b = some (.cells c)) (o n : Nat) : h.rdc b o n = h.rd b o n := by
  unfold H.rd H.rdc; rw [hg]

theorem Sim.cells {P : Program} {m : Mp} {g : G} {nx : Nat} {w : World} (s : Sim P m g nx w) {b : Nat} {x : MB} {cs : List V}
    (hb : m b = some x) (hg : g b = some (.cells cs)) : ∃ (cc : Array Value) (e : TypeId) (fr : Nat × Nat), w.heap[x.blk]? = some (.cells cc e fr) ∧ cs.length ≤ x.lim ∧ x.sh + x.lim ≤ cc.size ∧
      (∀ i, i < x.lim → (decide (fr.1 ≤ x.sh + i) && decide (x.sh + i < fr.2)) = false) ∧ VRs m cs ((cc.toList.drop x.sh).take cs.length) := by
  obtain ⟨co, h1, h2⟩ := s.obj b x _ hb hg (by simp)
  obtain ⟨cc, e, fr, rfl, h3⟩ := h2
  exact ⟨cc, e, fr, h1, h3⟩

theorem Sim.rcells {P : Program} {m : Mp} {g : G} {nx : Nat} {w : World} (s : Sim P m g nx w) {b : Nat} {x : MB} {cs : List V}
    (hb : m b = some x) (hg : g b = some (.cells cs) ∨ g b = some (.rcells cs)) : ∃ (cc : Array Value) (e : TypeId) (fr : Nat × Nat), w.heap[x.blk]? = some (.cells cc e fr) ∧ cs.length ≤ x.lim ∧ x.sh + x.lim ≤ cc.size ∧
      VRs m cs ((cc.toList.drop x.sh).take cs.length) := by
  rcases hg with hg | hg
  · obtain ⟨cc, e, fr, a, b, c, _, d⟩ := s.cells hb hg
    exact ⟨cc, e, fr, a, b, c, d⟩
  · obtain ⟨co, h1, h2⟩ := s.obj b x _ hb hg (by simp)
    obtain ⟨cc, e, fr, rfl, h3⟩ := h2
    exact ⟨cc, e, fr, h1, h3⟩

/-- a read of n cells -/
theorem Sim.rd {P : Program} {m : Mp} {h : H} {w : World} (s : Sim P m h.get h.next w) {b o n : Nat} {x : MB} {c : List V}
    (hb : m b = some x) (hr : h.rd b o n = some c) : ∃ cv : List Value, VRs m c cv ∧ cv.length = n ∧ (loadCells ⟨x.blk, x.sh + o, none⟩ n).run P w = .ok cv.toArray w := by
  obtain ⟨cs, hg, hle, rfl⟩ := rd_some hr
  obtain ⟨cc, e, fr, hw, h1, h2, h3⟩ := s.rcells hb hg
  refine ⟨(cc.toList.drop (x.sh + o)).take n, ?_, by simp; omega, run_loadCells hw _ _ (by omega)⟩
  have := (h3.drop o).take n
  rwa [List.drop_take, List.drop_drop, List.take_take, Nat.min_eq_left (by omega)] at this

/-- a read of one cell -/
theorem Sim.rd1 {P : Program} {m : Mp} {h : H} {w : World} (s : Sim P m h.get h.next w) {b o : Nat} {x : MB} {v : V}
    (hb : m b = some x) (hr : h.rd b o 1 = some [v]) : ∃ cv : Value, VR m v cv ∧ (load ⟨x.blk, x.sh + o, none⟩).run P w = .ok cv w := by
  obtain ⟨cs, hg, hle, hc⟩ := rd_some hr
  obtain ⟨cc, e, fr, hw, h1, h2, h3⟩ := s.rcells hb hg
  have hlt : x.sh + o < cc.size := by omega
  have := (h3.drop o).take 1
  rw [List.drop_take, List.drop_drop, List.take_take, Nat.min_eq_left (by omega), ← hc, List.drop_eq_getElem_cons (by simpa using hlt)] at this
  simp only [VRs, List.take_succ_cons, List.take_zero] at this
  obtain ⟨y, r', e1, e2, e3⟩ := this
  cases e1
  exact ⟨_, e2, run_load_at hw (by simp [hlt])⟩

theorem list_write {α : Type} (L vs : List α) (sh o n : Nat) (h : o + vs.length ≤ n) (h' : sh + n ≤ L.length) :
    ((L.take (sh + o) ++ (vs ++ L.drop (sh + o + vs.length))).drop sh).take n = ((L.drop sh).take n).take o ++ (vs ++ ((L.drop sh).take n).drop (o + vs.length)) := by
  apply List.ext_getElem?
  intro i
  simp only [List.getElem?_take, List.getElem?_drop, List.getElem?_append, List.length_take, List.length_drop]
  rw [Nat.min_eq_left (show sh + o ≤ L.length by omega), Nat.min_eq_left (show n ≤ L.length - sh by omega), Nat.min_eq_left (show o ≤ n by omega)]
  by_cases h1 : i < n
  · rw [if_pos h1]
    by_cases h2 : i < o
    · rw [if_pos (by omega), if_pos (by omega), if_pos h2, if_pos h2, if_pos h1]
    · rw [if_neg (by omega), if_neg h2]
      by_cases h3 : i - o < vs.length
      · rw [if_pos (by omega), if_pos (by omega)]; congr 1; omega
      · rw [if_neg (by omega), if_neg (by omega), if_pos (by omega)]
        congr 1; omega
  · rw [if_neg h1, if_neg (by omega)]
    by_cases h3 : i - o < vs.length
    · omega
    · rw [if_neg h3, if_neg (by omega)]

/-- a write -/
theorem Sim.wr {P : Program} {m : Mp} {h h' : H} {w : World} (s : Sim P m h.get h.next w) {b o : Nat} {x : MB} {vs : List V} {cv : List Value}
    (hb : m b = some x) (hr : h.wr b o vs = some h') (hv : VRs m vs cv) (hok : vs.all V.cellOK = true) :
    ∃ w', (storeCells ⟨x.blk, x.sh + o, none⟩ cv).run P w = .ok () w' ∧ Sim P m h'.get h'.next w' ∧ Ex m h.get h.next w m h'.get h'.next w' := by
  unfold H.wr at hr
  split at hr
  · rename_i cs hg
    split at hr
    · rename_i hle
      cases hr
      obtain ⟨cc, e, fr, hw, h1, h2, h3, h5⟩ := s.cells hb hg
      have hlen := hv.length
      obtain ⟨w', a, b', c, d, f⟩ := run_storeCells (P := P) x.blk (x.sh + o) cv 0 w cc e fr hw (by omega)
        (fun j hj hj' => by
          have := h3 (j - x.sh) (by omega)
          rwa [show x.sh + (j - x.sh) = j from by omega] at this) (flats_of hok hv)
      have hl : live h.get b := ⟨_, hg, by simp⟩
      refine ⟨w', a, ?_, ?_⟩
      · rw [get_set_upd]
        refine s.set hb hl b' c d ⟨_, e, fr, rfl, ?_, ?_, h3, ?_⟩
        · simp; omega
        · simp; omega
        · have hcl : (cs.take o ++ (vs ++ cs.drop (o + vs.length))).length = cs.length := by simp; omega
          rw [hcl]
          simp only [Nat.add_zero]
          rw [list_write _ _ _ _ _ (by omega) (by simp; omega)]
          rw [← hlen]
          exact (h5.take o).append (hv.append (h5.drop _))
      · rw [get_set_upd]
        exact Ex.set s hb hl b' d (fun c e => by rw [hg] at e; cases e) f
    · cases hr
  · cases hr

end Go.Abs

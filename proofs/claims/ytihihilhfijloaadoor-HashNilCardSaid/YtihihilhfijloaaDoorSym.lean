/- The symbolic evaluator: data, and what each operation does to them. Definitions alone. -/
import Derived.WalkKit
import Derived.ProofKit
namespace Go.Gx
set_option linter.unusedVariables false

/-- The shape of a type. -/
inductive Ty where
  | int (k : IntKind) | bool | str | ptr | slice | func | iface
  | arr (n : Nat) (e : Ty)
  | struct (fs : List Ty)
  deriving Inhabited

mutual
def Ty.size : Ty → Nat
  | .arr n e => n * e.size
  | .struct fs => Ty.sizes fs
  | _ => 1
def Ty.sizes : List Ty → Nat
  | [] => 0
  | t :: r => t.size + Ty.sizes r
end

/-- A known type: its shape; of a pointer or a slice its element's number; its bytes. -/
structure TInfo where
  ty : Ty
  elem : Nat := 0
  bytes : Nat := 8
  deriving Inhabited

/-- A number; 'st': is it known while evaluating? -/
structure SI where
  st : Bool
  z : Int
  deriving Inhabited

/-- A shape of data that is only read. -/
inductive Sh where
  | i (k : IntKind) | tb | ts
  | arr (n : Nat) (k : IntKind)
  | r (fs : List Sh)
  | ints (k : IntKind)
  | l (e : Sh)
  deriving Inhabited

/-- Data that is only read. -/
inductive RO where
  | i (z : Int) | b (x : Bool) | s (x : ByteArray) | l (l : List Int) | r (xs : List RO)
  deriving Inhabited

def roZ : RO → Int | .i z => z | _ => 0
def roB : RO → Bool | .b z => z | _ => false
def roS : RO → ByteArray | .s z => z | _ => ByteArray.empty
def roL : RO → List Int | .l z => z | _ => []
def roX : RO → List RO | .r z => z | _ => []
def roN (d : RO) (j : Nat) : RO := (roX d).getD j (.r [])

mutual
def shSize : Sh → Nat
  | .arr n _ => n
  | .r fs => shSizes fs
  | _ => 1
def shSizes : List Sh → Nat
  | [] => 0
  | s :: r => shSize s + shSizes r
end

/-- A slice's elements: their size; how many. -/
def shEl : Sh → Nat
  | .l e => shSize e
  | _ => 1
def roLen : Sh → RO → Nat
  | .ints _, d => (roL d).length
  | .l _, d => (roX d).length
  | _, _ => 0
def roSub : Sh → RO → Nat → Nat → RO
  | .ints _, d, a, n => .l (((roL d).drop a).take n)
  | _, d, a, n => .r (((roX d).drop a).take n)

/-- A symbolic value. 'ex': is the list written out? -/
inductive SV where
  | i (k : IntKind) (a : SI)
  | b (st : Bool) (v : Bool)
  | s (v : ByteArray)
  | np
  | nsl
  | p (key c : Nat)
  | pd (key c est : Nat) (x : Int) (j : Nat)
  | sl (key c est : Nat) (off len : SI)
  | arr (k : IntKind) (n : Nat) (ex : Bool) (l : List Int)
  | agg (xs : List SV)
  | tup (xs : List SV)
  | fn (f : Nat)
  | ro (key : Nat) (sh : Sh) (d : RO)
  | rop (key : Nat) (sh : Sh) (d : RO) (x : Int) (j : Nat)
  | val (v : Value)
  | any
  deriving Inhabited

/-- A piece of a block. -/
inductive Seg where
  | one (x : SV)
  | arr (k : IntKind) (n : Nat) (ex : Bool) (l : List Int)
  | rowI (k : IntKind) (l : List Int)
  | rowA (k : IntKind) (n : Nat) (l : List (List Int))
  deriving Inhabited

inductive SB where
  | segs (ro : Bool) (l : List Seg)
  | world
  | gone
  deriving Inhabited

abbrev Heap := List (Nat × SB)

def assoc {α : Type} : List (Nat × α) → Nat → Option α
  | [], _ => none
  | (k, b) :: r, n => match Nat.beq k n with | true => some b | false => assoc r n

def hset : Heap → Nat → SB → Option Heap
  | [], k, b => some [(k, b)]
  | (k', b') :: r, k, b => match Nat.beq k' k with
    | true => some ((k, b) :: r)
    | false => (match hset r k b with | some r' => some ((k', b') :: r') | none => none)

/-- Reading a heap. -/
inductive RP (α : Type) where
  | ret (a : α)
  | fail
  | get (k : Nat) (f : Option SB → RP α)

def RP.run {α : Type} (h : Nat → Option SB) : RP α → List Nat → Option (α × List Nat)
  | .ret a, rs => some (a, rs)
  | .fail, _ => none
  | .get k f, rs => (f (h k)).run h (k :: rs)

/-- What an operation does: what must hold, its value, the blocks that it writes; 'gen': are its numbers to get names? -/
structure Delta where
  pre : List Prop
  v : SV
  ws : List (Nat × SB)
  gen : Bool

abbrev Ctr := (stamp : Nat) → List SV → RP Delta

structure St where
  tmps : List SV
  heap : Heap
  ctr : Nat

/-- The tables: types, contracts, the globals that lie in every heap. -/
structure Tab where
  ty : List (Nat × TInfo)
  ctr : List (Nat × Ctr)
  gl : List Nat := []
  gh : Heap := []

def memN (x : Nat) : List Nat → Bool
  | [] => false
  | y :: r => match Nat.beq x y with | true => true | false => memN x r

def tget : List SV → Nat → SV
  | [], _ => .any
  | x :: _, 0 => x
  | _ :: r, n + 1 => tget r n

def nth {α : Type} : List α → Nat → Option α
  | [], _ => none
  | x :: _, 0 => some x
  | _ :: r, n + 1 => nth r n

def setn {α : Type} : List α → Nat → α → Option (List α)
  | [], _, _ => none
  | _ :: r, 0, v => some (v :: r)
  | x :: r, n + 1, v => match setn r n v with
    | some r' => some (x :: r')
    | none => none

/-- 'n' copies, written out. -/
def reps {α : Type} (x : α) : Nat → List α
  | 0 => []
  | n + 1 => x :: reps x n

/-! ### Numbers -/

def InR : IntKind → Int → Prop
  | .i8, z => -128 ≤ z ∧ z < 128
  | .i16, z => -32768 ≤ z ∧ z < 32768
  | .i32, z => -2147483648 ≤ z ∧ z < 2147483648
  | .i64, z => -9223372036854775808 ≤ z ∧ z < 9223372036854775808
  | .u8, z => 0 ≤ z ∧ z < 256
  | .u16, z => 0 ≤ z ∧ z < 65536
  | .u32, z => 0 ≤ z ∧ z < 4294967296
  | .u64, z => 0 ≤ z ∧ z < 18446744073709551616

def AllR (k : IntKind) (l : List Int) : Prop := ∀ z ∈ l, InR k z
def AllA (k : IntKind) (n : Nat) (l : List (List Int)) : Prop := ∀ a ∈ l, a.length = n ∧ AllR k a

def andI (k : IntKind) (x y : Int) : Int := k.wrap (BitVec.ofInt k.bits x &&& BitVec.ofInt k.bits y).toNat
def orI (k : IntKind) (x y : Int) : Int := k.wrap (BitVec.ofInt k.bits x ||| BitVec.ofInt k.bits y).toNat
def xorI (k : IntKind) (x y : Int) : Int := k.wrap (BitVec.ofInt k.bits x ^^^ BitVec.ofInt k.bits y).toNat
def andNotI (k : IntKind) (x y : Int) : Int := k.wrap (BitVec.ofInt k.bits x &&& ~~~ BitVec.ofInt k.bits y).toNat
def notI (k : IntKind) (x : Int) : Int := xorI k (if k.signed then -1 else k.max) x
def shlI (k : IntKind) (x y : Int) : Int := k.wrap (x * 2 ^ (min y.toNat k.bits))
def shrI (k : IntKind) (x y : Int) : Int := x.fdiv (2 ^ (min y.toNat k.bits))

/-- A number, computed. -/
def litI : Int → Int
  | .ofNat 0 => .ofNat 0
  | .ofNat (n + 1) => .ofNat (n + 1)
  | .negSucc 0 => .negSucc 0
  | .negSucc (n + 1) => .negSucc (n + 1)

def keq : IntKind → IntKind → Bool
  | .i8, .i8 => true | .i16, .i16 => true | .i32, .i32 => true | .i64, .i64 => true
  | .u8, .u8 => true | .u16, .u16 => true | .u32, .u32 => true | .u64, .u64 => true
  | _, _ => false

def arith (op : BinOp) (k : IntKind) (x y : Int) : Option Int :=
  match op with
  | .add => some (k.wrap (x + y))
  | .sub => some (k.wrap (x - y))
  | .mul => some (k.wrap (x * y))
  | .quo => some (k.wrap (x.tdiv y))
  | .rem => some (x.tmod y)
  | .and => some (andI k x y)
  | .or => some (orI k x y)
  | .xor => some (xorI k x y)
  | .andNot => some (andNotI k x y)
  | .shl => some (shlI k x y)
  | .shr => some (shrI k x y)
  | _ => none

def cmp (op : BinOp) (x y : Int) : Option Bool :=
  match op with
  | .eql => some (x == y)
  | .neq => some (x != y)
  | .lss => some (decide (x < y))
  | .leq => some (decide (x ≤ y))
  | .gtr => some (decide (x > y))
  | .geq => some (decide (x ≥ y))
  | _ => none

/-- A static test: must hold now. -/
def tst (b : Bool) : Option (List Prop) := match b with | true => some [] | false => none

/-- A bound on an index: a static one is looked at, another one is asked for. -/
def bound (a : SI) (n : SI) : Option (List Prop) :=
  match a.st, n.st with
  | true, true => tst (decide (0 ≤ a.z) && decide (a.z < n.z))
  | _, _ => some [0 ≤ a.z ∧ a.z < n.z]

/-- The divisor, the shift's count. -/
def arithPre (op : BinOp) (y : SI) : Option (List Prop) :=
  match op with
  | .quo | .rem => (match y.st with | true => tst (y.z != 0) | false => some [y.z ≠ 0])
  | .shl | .shr => (match y.st with | true => tst (decide (0 ≤ y.z)) | false => some [0 ≤ y.z])
  | _ => some []

def isShift : BinOp → Bool
  | .shl | .shr => true
  | _ => false

def ret (v : SV) : RP Delta := .ret ⟨[], v, [], false⟩
def retg (pre : List Prop) (v : SV) : RP Delta := .ret ⟨pre, v, [], true⟩

/-- An operation on two numbers. -/
def numOp (op : BinOp) (k : IntKind) (x y : SI) : RP Delta :=
  match cmp op x.z y.z with
  | some v => (match x.st, y.st with
    | true, true => (match v with | true => ret (.b true true) | false => ret (.b true false))
    | _, _ => ret (.b false v))
  | none =>
    match arithPre op y, arith op k x.z y.z with
    | some pre, some z => (match x.st, y.st with
      | true, true => (match InRb k z with | true => .ret ⟨pre, .i k ⟨true, litI z⟩, [], false⟩ | false => .fail)
      | _, _ => retg pre (.i k ⟨false, z⟩))
    | _, _ => .fail
where
  InRb : IntKind → Int → Bool
  | .i8, z => decide (-128 ≤ z) && decide (z < 128)
  | .i16, z => decide (-32768 ≤ z) && decide (z < 32768)
  | .i32, z => decide (-2147483648 ≤ z) && decide (z < 2147483648)
  | .i64, z => decide (-9223372036854775808 ≤ z) && decide (z < 9223372036854775808)
  | .u8, z => decide (0 ≤ z) && decide (z < 256)
  | .u16, z => decide (0 ≤ z) && decide (z < 65536)
  | .u32, z => decide (0 ≤ z) && decide (z < 4294967296)
  | .u64, z => decide (0 ≤ z) && decide (z < 18446744073709551616)

def eqOp (op : BinOp) (v : Bool) : RP Delta :=
  match op with
  | .eql => ret (.b false v)
  | .neq => ret (.b false (!v))
  | _ => .fail

def eqSt (op : BinOp) (v : Bool) : RP Delta :=
  match op, v with
  | .eql, true => ret (.b true true)
  | .eql, false => ret (.b true false)
  | .neq, true => ret (.b true false)
  | .neq, false => ret (.b true true)
  | _, _ => .fail

/-- 'x op y'. -/
def binop (ty : List (Nat × TInfo)) (op : BinOp) (t : TypeId) (x y : SV) : RP Delta :=
  match x, y with
  | .i k a, .i k' c => (match isShift op || keq k k' with
    | true => numOp op k a c
    | false => .fail)
  | .b _ a, .b _ c => (match assoc ty t with
    | some ti => (match ti.ty with | .bool => eqOp op (a == c) | _ => .fail)
    | none => .fail)
  | .s a, .s c => eqOp op (a.toList == c.toList)
  | .arr k n _ a, .arr k' m _ c => (match keq k k' && Nat.beq n m, assoc ty t with
    | true, some ti => (match ti.ty with
      | .arr n' (.int k2) => (match Nat.beq n n' with | true => eqOp op (a == c) | false => .fail)
      | _ => .fail)
    | _, _ => .fail)
  | .p _ _, .np => (match assoc ty t with
    | some ti => (match ti.ty with | .ptr => eqSt op false | _ => .fail)
    | none => .fail)
  | .np, .np => (match assoc ty t with
    | some ti => (match ti.ty with | .ptr => eqSt op true | _ => .fail)
    | none => .fail)
  | _, _ => .fail

def unop (op : UnOp) (x : SV) : RP Delta :=
  match op, x with
  | .not, .b true v => (match v with | true => ret (.b true false) | false => ret (.b true true))
  | .not, .b false v => ret (.b false (!v))
  | .neg, .i k a => numOp .sub k ⟨true, 0⟩ a
  | .xor, .i k a => retg [] (.i k ⟨false, notI k a.z⟩)
  | _, _ => .fail

/-! ### Memory -/

mutual
def zero : Ty → SV
  | .int k => .i k ⟨true, 0⟩
  | .bool => .b true false
  | .str => .s ByteArray.empty
  | .ptr => .np
  | .slice => .nsl
  | .func => .val .nilFunc
  | .iface => .val .nilIface
  | .arr n (.int k) => (match Nat.ble n 16 with | true => .arr k n true (reps 0 n) | false => .arr k n false (List.replicate n 0))
  | .arr n e => .agg (reps (zero e) n)
  | .struct fs => .agg (zeros fs)
def zeros : List Ty → List SV
  | [] => []
  | t :: r => zero t :: zeros r
end

mutual
/-- A value's pieces in memory. -/
def segsOf : SV → Option (List Seg)
  | .arr k n ex l => some [.arr k n ex l]
  | .agg xs => segsAll xs
  | .tup _ => none
  | .pd .. => none
  | .rop .. => none
  | .val _ => none
  | .any => none
  | x => some [.one x]
def segsAll : List SV → Option (List Seg)
  | [] => some []
  | x :: r => match segsOf x, segsAll r with
    | some a, some b => some (a ++ b)
    | _, _ => none
end

/-- The value of a single cell's type. -/
def fits : Ty → SV → Bool
  | .int k, .i k' _ => keq k k'
  | .bool, .b _ _ => true
  | .str, .s _ => true
  | .ptr, .np => true
  | .ptr, .p _ _ => true
  | .slice, .nsl => true
  | .slice, .sl .. => true
  | .slice, .ro .. => true
  | .func, .fn _ => true
  | _, _ => false

def segLen : Seg → Option Nat
  | .one _ => some 1
  | .arr _ n _ _ => some n
  | _ => none

/-- The piece that holds a cell, and the cell's place in it. -/
def segAt : List Seg → Nat → Option (Seg × Nat)
  | [], _ => none
  | g :: r, c => match segLen g with
    | some n => (match Nat.ble n c with | true => segAt r (c - n) | false => some (g, c))
    | none => some (g, c)

/-- The pieces with another one in the place of the one that holds a cell. -/
def segSet : List Seg → Nat → Seg → Option (List Seg)
  | [], _, _ => none
  | g :: r, c, g' => match segLen g with
    | some n => (match Nat.ble n c with
      | true => (match segSet r (c - n) g' with | some r' => some (g :: r') | none => none)
      | false => some (g' :: r))
    | none => some (g' :: r)

/-- 'n' elements of a list, written out. -/
def getAll (l : List Int) : (n j : Nat) → List Int
  | 0, _ => []
  | n + 1, j => l.getD j 0 :: getAll l n (j + 1)

/-- An element. -/
def getI (ex : Bool) (l : List Int) (j : Nat) : Option Int :=
  match ex with
  | true => nth l j
  | false => some (l.getD j 0)

def setI (ex : Bool) (l : List Int) (j : Nat) (z : Int) : Option (List Int) :=
  match ex with
  | true => setn l j z
  | false => some (l.set j z)

/-- What stands at a known place of a piece. -/
def readSeg (g : Seg) (j : Nat) (t : Ty) : Option (List Prop × SV) :=
  match g, t with
  | .one x, t => (match fits t x with | true => some ([], x) | false => none)
  | .arr k _ ex l, .int k' => (match keq k k', getI ex l j with | true, some z => some ([], .i k ⟨false, z⟩) | _, _ => none)
  | .arr k m ex l, .arr n (.int k') => (match keq k k' && Nat.beq n m && Nat.beq j 0 with | true => some ([], .arr k n ex l) | false => none)
  | .rowI k l, .int k' => (match keq k k' with | true => some ([j < l.length], .i k ⟨false, l.getD j 0⟩) | false => none)
  | .rowA k n l, .int k' => (match keq k k' && Nat.blt 0 n with | true => some ([j / n < l.length], .i k ⟨false, (l.getD (j / n) []).getD (j % n) 0⟩) | false => none)
  | .rowA k m l, .arr n (.int k') => (match keq k k' && Nat.beq n m && Nat.beq (j % n) 0 with
      | true => some ([j / n < l.length], .arr k n true (getAll (l.getD (j / n) []) n 0)) | false => none)
  | _, _ => none

def readCell (l : List Seg) (c : Nat) (t : Ty) : Option (List Prop × SV) :=
  match segAt l c with
  | some (g, j) => readSeg g j t
  | none => none

mutual
/-- A variable's value. -/
def readVar (l : List Seg) (c : Nat) : Ty → Option (List Prop × SV)
  | .struct fs => (match readAll l c fs, fs with | some (p, xs), _ :: _ => some (p, .agg xs) | _, _ => none)
  | .arr n e => readCell l c (.arr n e)
  | .int k => readCell l c (.int k)
  | .bool => readCell l c .bool
  | .str => readCell l c .str
  | .ptr => readCell l c .ptr
  | .slice => readCell l c .slice
  | .func => readCell l c .func
  | .iface => none
def readAll (l : List Seg) (c : Nat) : List Ty → Option (List Prop × List SV)
  | [] => some ([], [])
  | t :: ts => match readVar l c t, readAll l (c + t.size) ts with
    | some (p, x), some (q, r) => some (p ++ q, x :: r)
    | _, _ => none
end

/-- A piece stored at a known place of another one: what must hold, the piece that results. -/
def putSeg (g : Seg) (j : Nat) (x : Seg) : Option (List Prop × Seg) :=
  match g, x with
  | .one _, .one v => some ([], .one v)
  | .arr k n ex l, .one (.i k' a) => (match keq k k', setI ex l j a.z with | true, some l' => some ([], .arr k n ex l') | _, _ => none)
  | .rowI k l, .one (.i k' a) => (match keq k k' with | true => some ([j < l.length], .rowI k (l.set j a.z)) | false => none)
  | .rowA k n l, .one (.i k' a) => (match keq k k' && Nat.blt 0 n with | true => some ([j / n < l.length], .rowA k n (l.set (j / n) ((l.getD (j / n) []).set (j % n) a.z))) | false => none)
  | .arr k n _ _, .arr k' m ex l => (match keq k k' && Nat.beq n m && Nat.beq j 0 with | true => some ([], .arr k n ex l) | false => none)
  | .rowA k n l, .arr k' m _ y => (match keq k k' && Nat.beq n m && Nat.beq (j % n) 0 with | true => some ([j / n < l.length], .rowA k n (l.set (j / n) y)) | false => none)
  | _, _ => none

def segSize : Seg → Nat
  | .one _ => 1
  | .arr _ n _ _ => n
  | _ => 0

/-- Pieces stored one behind the other, from a cell on. -/
def writeSegs : List Seg → Nat → List Seg → Option (List Prop × List Seg)
  | l, _, [] => some ([], l)
  | l, c, x :: r => match segAt l c with
    | some (g, j) => (match putSeg g j x with
      | some (p, g') => (match segSet l c g' with
        | some l' => (match writeSegs l' (c + segSize x) r with
          | some (q, l'') => some (p ++ q, l'')
          | none => none)
        | none => none)
      | none => none)
    | none => none

/-- What stands at a place that is reckoned. -/
def readDyn (g : Seg) (x : Int) (j est : Nat) (t : Ty) : Option (List Prop × SV) :=
  match g, t with
  | .arr k n _ l, .int k' => (match keq k k' && Nat.beq j 0 && Nat.beq est 1 with | true => some ([0 ≤ x ∧ x < (n : Int)], .i k ⟨false, l.getD x.toNat 0⟩) | false => none)
  | .rowI k l, .int k' => (match keq k k' && Nat.beq j 0 && Nat.beq est 1 with | true => some ([0 ≤ x ∧ x < (l.length : Int)], .i k ⟨false, l.getD x.toNat 0⟩) | false => none)
  | .rowA k n l, .int k' => (match keq k k' && Nat.beq n est && Nat.blt j n with | true => some ([0 ≤ x ∧ x < (l.length : Int)], .i k ⟨false, (l.getD x.toNat []).getD j 0⟩) | false => none)
  | .rowA k n l, .arr m (.int k') => (match keq k k' && Nat.beq n est && Nat.beq n m && Nat.beq j 0 with
    | true => some ([0 ≤ x ∧ x < (l.length : Int)], .arr k n true (getAll (l.getD x.toNat []) n 0)) | false => none)
  | _, _ => none

def writeDyn (g : Seg) (x : Int) (j est : Nat) (v : SV) : Option (List Prop × Seg) :=
  match g, v with
  | .arr k n _ l, .i k' a => (match keq k k' && Nat.beq j 0 && Nat.beq est 1 with | true => some ([0 ≤ x ∧ x < (n : Int)], .arr k n false (l.set x.toNat a.z)) | false => none)
  | .rowI k l, .i k' a => (match keq k k' && Nat.beq j 0 && Nat.beq est 1 with | true => some ([0 ≤ x ∧ x < (l.length : Int)], .rowI k (l.set x.toNat a.z)) | false => none)
  | .rowA k n l, .i k' a => (match keq k k' && Nat.beq n est && Nat.blt j n with | true => some ([0 ≤ x ∧ x < (l.length : Int)], .rowA k n (l.set x.toNat ((l.getD x.toNat []).set j a.z))) | false => none)
  | .rowA k n l, .arr k' m _ y => (match keq k k' && Nat.beq n est && Nat.beq n m && Nat.beq j 0 with
    | true => some ([0 ≤ x ∧ x < (l.length : Int)], .rowA k n (l.set x.toNat y)) | false => none)
  | _, _ => none

/-! ### Data that is only read -/

mutual
def shFits : Ty → Sh → Bool
  | .int k, .i k' => keq k k'
  | .bool, .tb => true
  | .str, .ts => true
  | .arr n (.int k), .arr m k' => Nat.beq n m && keq k k'
  | .struct (t :: ts), .r (s :: ss) => shFits t s && shFitss ts ss
  | .slice, .ints _ => true
  | .slice, .l _ => true
  | _, _ => false
def shFitss : List Ty → List Sh → Bool
  | [], [] => true
  | t :: ts, s :: ss => shFits t s && shFitss ts ss
  | _, _ => false
end

mutual
/-- The value that stands for data of a shape. -/
def svOf (key : Nat) : Sh → RO → SV
  | .i k, d => .i k ⟨false, roZ d⟩
  | .tb, d => .b false (roB d)
  | .ts, d => .s (roS d)
  | .arr n k, d => .arr k n false (roL d)
  | .r fs, d => .agg (svOfs key fs d 0)
  | .ints k, d => .ro key (.ints k) d
  | .l e, d => .ro key (.l e) d
def svOfs (key : Nat) : List Sh → RO → Nat → List SV
  | [], _, _ => []
  | s :: r, d, i => svOf key s (roN d i) :: svOfs key r d (i + 1)
end

mutual
/-- What stands at a cell of data of a shape. -/
def readSh (key : Nat) : Sh → RO → Nat → Ty → Option SV
  | .r fs, d, j, t => (match Nat.beq j 0 && shFits t (.r fs) with
    | true => some (svOf key (.r fs) d)
    | false => readShs key fs d 0 j t)
  | .arr n k, d, j, t => (match t with
    | .int k' => (match keq k k' && Nat.blt j n with | true => some (.i k ⟨false, (roL d).getD j 0⟩) | false => none)
    | t => (match Nat.beq j 0 && shFits t (.arr n k) with | true => some (svOf key (.arr n k) d) | false => none))
  | .i k, d, j, t => (match Nat.beq j 0 && shFits t (.i k) with | true => some (svOf key (.i k) d) | false => none)
  | .tb, d, j, t => (match Nat.beq j 0 && shFits t .tb with | true => some (svOf key .tb d) | false => none)
  | .ts, d, j, t => (match Nat.beq j 0 && shFits t .ts with | true => some (svOf key .ts d) | false => none)
  | .ints k, d, j, t => (match Nat.beq j 0 && shFits t (.ints k) with | true => some (svOf key (.ints k) d) | false => none)
  | .l e, d, j, t => (match Nat.beq j 0 && shFits t (.l e) with | true => some (svOf key (.l e) d) | false => none)
def readShs (key : Nat) : List Sh → RO → Nat → Nat → Ty → Option SV
  | [], _, _, _, _ => none
  | s :: r, d, i, j, t => (match Nat.ble (shSize s) j with
    | true => readShs key r d (i + 1) (j - shSize s) t
    | false => readSh key s (roN d i) j t)
end

/-- An element of a slice. -/
def readEl (key : Nat) (sh : Sh) (d : RO) (x : Int) (j : Nat) (t : Ty) : Option SV :=
  match sh, t with
  | .ints k, .int k' => (match keq k k' && Nat.beq j 0 with | true => some (.i k ⟨false, (roL d).getD x.toNat 0⟩) | false => none)
  | .l e, t => readSh key e (roN d x.toNat) j t
  | _, _ => none

/-- A piece that begins just at this cell. -/
def segHead (l : List Seg) (c : Nat) : Option Seg :=
  match segAt l c with
  | some (g, 0) => some g
  | _ => none

def loadOp (t : TInfo) (a : SV) : RP Delta :=
  match a with
  | .p key c => .get key fun b => match b with
    | some (.segs _ l) => (match readVar l c t.ty with | some (p, v) => .ret ⟨p, v, [], false⟩ | none => .fail)
    | _ => .fail
  | .pd key c est x j => .get key fun b => match b with
    | some (.segs _ l) => (match segHead l c with
      | some g => (match readDyn g x j est t.ty with | some (p, v) => .ret ⟨p, v, [], true⟩ | none => .fail)
      | none => .fail)
    | _ => .fail
  | .rop key sh d x j => .get key fun b => match b with
    | some .world => (match readEl key sh d x j t.ty with | some v => .ret ⟨[], v, [], true⟩ | none => .fail)
    | _ => .fail
  | _ => .fail

def storeOp (a v : SV) : RP Delta :=
  match a with
  | .p key c => .get key fun b => match b with
    | some (.segs false l) => (match segsOf v with
      | some x => (match writeSegs l c x with | some (p, l') => .ret ⟨p, .any, [(key, .segs false l')], false⟩ | none => .fail)
      | none => .fail)
    | _ => .fail
  | .pd key c est x j => .get key fun b => match b with
    | some (.segs false l) => (match segHead l c with
      | some g => (match writeDyn g x j est v with
        | some (p, g') => (match segSet l c g' with | some l' => .ret ⟨p, .any, [(key, .segs false l')], true⟩ | none => .fail)
        | none => .fail)
      | none => .fail)
    | _ => .fail
  | _ => .fail

/-- A new block. -/
def fresh (stamp : Nat) (l : List Seg) (v : SV) (pre : List Prop) (gen : Bool) : RP Delta :=
  .get stamp fun b => match b with
    | none => .ret ⟨pre, v, [(stamp, .segs false l)], gen⟩
    | some _ => .fail

def boxOp (stamp : Nat) (v : SV) : RP Delta :=
  match segsOf v with
  | some l => fresh stamp l (.p stamp 0) [] false
  | none => .fail

def addI (x y : SI) : SI :=
  match x, y with
  | ⟨true, x⟩, ⟨true, y⟩ => ⟨true, litI (x + y)⟩
  | ⟨true, .ofNat 0⟩, ⟨false, y⟩ => ⟨false, y⟩
  | ⟨false, x⟩, ⟨true, .ofNat 0⟩ => ⟨false, x⟩
  | ⟨_, x⟩, ⟨_, y⟩ => ⟨false, x + y⟩

def subI (x y : SI) : SI :=
  match x, y with
  | ⟨true, x⟩, ⟨true, y⟩ => ⟨true, litI (x - y)⟩
  | ⟨false, x⟩, ⟨true, .ofNat 0⟩ => ⟨false, x⟩
  | ⟨_, x⟩, ⟨_, y⟩ => ⟨false, x - y⟩

/-- An address by an index. -/
def ptrAt (key c est : Nat) (x : SI) : Option SV :=
  match x with
  | ⟨true, .ofNat m⟩ => some (.p key (c + est * m))
  | ⟨true, _⟩ => none
  | ⟨false, z⟩ => some (.pd key c est z 0)

/-- The element number 'i' of an array or slice: its address. -/
def indexAddrOp (ty : List (Nat × TInfo)) (t : TInfo) (x i : SV) : RP Delta :=
  match x, i, t.ty with
  | .p key c, .i _ a, .arr n e => (match bound a ⟨true, n⟩, ptrAt key c e.size a with
    | some p, some v => .ret ⟨p, v, [], false⟩
    | _, _ => .fail)
  | .pd key c est x j, .i _ a, .arr n e => (match bound a ⟨true, n⟩, a with
    | some p, ⟨true, .ofNat m⟩ => .ret ⟨p, .pd key c est x (j + e.size * m), [], false⟩
    | _, _ => .fail)
  | .sl key c est off len, .i _ a, .slice => (match assoc ty t.elem with
    | some te => (match Nat.beq te.ty.size est, bound a len, ptrAt key c est (addI off a) with
      | true, some p, some v => .ret ⟨p, v, [], false⟩
      | _, _, _ => .fail)
    | none => .fail)
  | .ro key sh d, .i _ a, .slice => (match assoc ty t.elem with
    | some te => (match Nat.beq te.ty.size (shEl sh) with
      | true => .ret ⟨[0 ≤ a.z ∧ a.z < (roLen sh d : Int)], .rop key sh d a.z 0, [], false⟩
      | false => .fail)
    | none => .fail)
  | _, _, _ => .fail

def indexOp (t : TInfo) (x i : SV) : RP Delta :=
  match x, i, t.ty with
  | .arr k m ex l, .i _ a, .arr n (.int _) => (match Nat.beq n m, bound a ⟨true, n⟩ with
    | true, some p => (match a with
      | ⟨true, .ofNat j⟩ => (match getI ex l j with | some z => .ret ⟨p, .i k ⟨false, z⟩, [], false⟩ | none => .fail)
      | ⟨true, _⟩ => .fail
      | ⟨false, z⟩ => retg p (.i k ⟨false, l.getD z.toNat 0⟩))
    | _, _ => .fail)
  | .s v, .i _ a, .str => retg [0 ≤ a.z ∧ a.z < (v.size : Int)] (.i .u8 ⟨false, ((v.data.getD a.z.toNat 0).toNat : Int)⟩)
  | _, _, _ => .fail

/-- '0 ≤ l ≤ h ≤ n'. -/
def bounds3 (l h n : SI) : Option (List Prop) :=
  match l.st, h.st, n.st with
  | true, true, true => tst (decide (0 ≤ l.z) && decide (l.z ≤ h.z) && decide (h.z ≤ n.z))
  | _, _, _ => some [0 ≤ l.z ∧ l.z ≤ h.z ∧ h.z ≤ n.z]

def optI (d : SI) : Option SV → Option SI
  | none => some d
  | some (.i _ a) => some a
  | _ => none

def sliceOp (t : TInfo) (x : SV) (lo hi : Option SV) : RP Delta :=
  match x, t.ty, optI ⟨true, 0⟩ lo with
  | .p key c, .arr n (.int k), some l => .get key fun b => match b with
    | some (.segs _ gs) => (match segAt gs c with
      | some (.arr _ m _ _, 0) => (match Nat.beq n m && Nat.ble n 1000000, optI ⟨true, n⟩ hi with
        | true, some h => (match bounds3 l h ⟨true, n⟩ with
          | some p => .ret ⟨p, .sl key c 1 l (subI h l), [], false⟩
          | none => .fail)
        | _, _ => .fail)
      | _ => .fail)
    | _ => .fail
  | .sl key c est off len, .slice, some l => (match optI len hi with
    | some h => (match bounds3 l h len with
      | some p => .ret ⟨p, .sl key c est (addI off l) (subI h l), [], false⟩
      | none => .fail)
    | none => .fail)
  | .ro key sh d, .slice, some l => (match optI ⟨false, (roLen sh d : Int)⟩ hi with
    | some h => .get key fun b => (match b with
      | some .world => .ret ⟨[0 ≤ l.z ∧ l.z ≤ h.z ∧ h.z ≤ (roLen sh d : Int)], .ro key sh (roSub sh d l.z.toNat (h.z - l.z).toNat), [], false⟩
      | _ => .fail)
    | none => .fail)
  | .s v, .str, some l => (match optI ⟨false, v.size⟩ hi with
    | some h => .ret ⟨[0 ≤ l.z ∧ l.z ≤ h.z ∧ h.z ≤ (v.size : Int)], .s (v.extract l.z.toNat h.z.toNat), [], false⟩
    | none => .fail)
  | _, _, _ => .fail

def fieldOff : List Ty → Nat → Nat
  | [], _ => 0
  | _, 0 => 0
  | t :: r, n + 1 => t.size + fieldOff r n

def fieldAddrOp (t : TInfo) (x : SV) (f : Nat) : RP Delta :=
  match x, t.ty with
  | .p key c, .struct fs => (match Nat.blt f fs.length with | true => ret (.p key (c + fieldOff fs f)) | false => .fail)
  | .rop key sh d x j, .struct fs => (match Nat.blt f fs.length with | true => ret (.rop key sh d x (j + fieldOff fs f)) | false => .fail)
  | _, _ => .fail

/-- The elements of a slice. -/
inductive Con where
  | ints (k : IntKind) (l : List Int)
  | arrs (k : IntKind) (n : Nat) (l : List (List Int))

def conSeg (g : Seg) (est : Nat) (off len : SI) : Option (List Prop × Con) :=
  match g with
  | .rowI k l => (match Nat.beq est 1 with | true => some ([off.z + len.z ≤ (l.length : Int)], .ints k ((l.drop off.z.toNat).take len.z.toNat)) | false => none)
  | .arr k n _ l => (match Nat.beq est 1, (match off.st, len.st with | true, true => tst (decide (off.z + len.z ≤ (n : Int))) | _, _ => some [off.z + len.z ≤ (n : Int)]) with
    | true, some p => some (p, .ints k ((l.drop off.z.toNat).take len.z.toNat))
    | _, _ => none)
  | .rowA k n l => (match Nat.beq est n with | true => some ([off.z + len.z ≤ (l.length : Int)], .arrs k n ((l.drop off.z.toNat).take len.z.toNat)) | false => none)
  | _ => none

def bytesI (s : ByteArray) : List Int := s.data.toList.map fun b => (b.toNat : Int)
def ofBytesI (l : List Int) : ByteArray := ⟨(l.map fun z => UInt8.ofNat z.toNat).toArray⟩

end Go.Gx

/- Part 1 of the proof: the evaluator of the code, its soundness, and what it shows of the functions. -/
import Derived.WalkKit
import Derived.ProofKit
import Derived.Deep.MidRow

/- The symbolic evaluator: data, and what each operation does to them. Definitions alone. -/
namespace Go.Gx
set_option linter.unusedVariables false

inductive Ty where
 | int (k : IntKind) | bool | str | ptr | slice | func | iface
 | arr (n : Nat) (e : Ty)
 | struct (fs : List Ty)
 deriving Inhabited

mutual
def Ty.size : Ty → Nat
 | .arr n e => n * e.size
 | .struct fs => Ty.sizes fs
 | _ => 1
def Ty.sizes : List Ty → Nat
 | [] => 0
 | t :: r => t.size + Ty.sizes r
end

structure TInfo where
 ty : Ty
 elem : Nat := 0
 bytes : Nat := 8
 mth : List (String × Nat) := []
 deriving Inhabited

structure SI where
 st : Bool
 z : Int
 deriving Inhabited

inductive Sh where
 | i (k : IntKind) | tb | ts
 | arr (n : Nat) (k : IntKind)
 | r (fs : List Sh)
 | ints (k : IntKind)
 | l (e : Sh)
 deriving Inhabited

inductive RO where
 | i (z : Int) | b (x : Bool) | s (x : ByteArray) | l (l : List Int) | r (xs : List RO)
 deriving Inhabited

def roZ : RO → Int | .i z => z | _ => 0
def roB : RO → Bool | .b z => z | _ => false
def roS : RO → ByteArray | .s z => z | _ => ByteArray.empty
def roL : RO → List Int | .l z => z | _ => []
def roX : RO → List RO | .r z => z | _ => []
def roN (d : RO) (j : Nat) : RO := (roX d).getD j (.r [])

mutual
def shSize : Sh → Nat
 | .arr n _ => n
 | .r fs => shSizes fs
 | _ => 1
def shSizes : List Sh → Nat
 | [] => 0
 | s :: r => shSize s + shSizes r
end

def shEl : Sh → Nat
 | .l e => shSize e
 | _ => 1
def roLen : Sh → RO → Nat
 | .ints _, d => (roL d).length
 | .l _, d => (roX d).length
 | _, _ => 0
def roSub : Sh → RO → Nat → Nat → RO
 | .ints _, d, a, n => .l (((roL d).drop a).take n)
 | _, d, a, n => .r (((roX d).drop a).take n)

inductive SV where
 | i (k : IntKind) (a : SI)
 | b (st : Bool) (v : Bool)
 | s (v : ByteArray)
 | np
 | nsl
 | p (key c : Nat)
 | pd (key c est : Nat) (x : Int) (j : Nat)
 | sl (key c est : Nat) (off len : SI)
 | arr (k : IntKind) (n : Nat) (ex : Bool) (l : List Int)
 | agg (xs : List SV)
 | tup (xs : List SV)
 | fn (f : Nat)
 | ro (key : Nat) (sh : Sh) (d : RO)
 | rop (key : Nat) (sh : Sh) (d : RO) (x : Int) (j : Nat)
 | ps (key r : Nat) (len : SI)
 | pq (key r : Nat) (x : Int)
 | mr (key r jk : Nat) (len : SI)
 | mp (key r jk : Nat) (x : Int)
 | kr (key est jk : Nat) (len : SI)
 | kp (key est jk : Nat) (x : Int)
 | ifc (m : Option String) (t key : Nat)
 | vc (key : Nat) (len : SI)
 | vq (key : Nat) (x : Int)
 | vr (key i : Nat) (len : SI)
 | vb (key i : Nat) (x : Int)
 | vi (k : IntKind)
 | val (v : Value)
 | any
 deriving Inhabited

inductive Seg where
 | one (x : SV)
 | arr (k : IntKind) (n : Nat) (ex : Bool) (l : List Int)
 | rowI (k : IntKind) (l : List Int)
 | rowA (k : IntKind) (n : Nat) (l : List (List Int))
 | rowH (key : Nat) (hs : List (Nat × Nat))
 | rowP (key n : Nat)
 | rowD (key : Nat) (sh : Sh) (ds : List RO)
 deriving Inhabited

inductive PK where
 | k (k : IntKind)
 | r (ts : List Ty)
 | b (k : IntKind) (view : Option (Nat × Nat))
 | z
 | h
 | v
 deriving Inhabited
def PK.fz : PK → Bool
 | .z => true
 | .h => true
 | .v => true
 | _ => false
def PK.rcd : PK → Bool
 | .r _ => true
 | _ => false
def PK.seen : PK → Option (Nat × Nat)
 | .b _ vw => vw
 | _ => none
def PK.box : PK → Bool
 | .b _ _ => true
 | _ => false
def PK.deep (k : PK) : Bool := k.box || k.fz
instance : Coe IntKind PK := ⟨.k⟩

inductive SB where
 | segs (ro : Bool) (l : List Seg)
 | world
 | gone
 | pool (k : PK) (ms : List (List Int))
 | alias (pk r : Nat)
 | boxv (key : Nat)
 deriving Inhabited

abbrev Heap := List (Nat × SB)

def assoc {α : Type} : List (Nat × α) → Nat → Option α
 | [], _ => none
 | (k, b) :: r, n => match Nat.beq k n with | true => some b | false => assoc r n

def hset : Heap → Nat → SB → Option Heap
 | [], k, b => some [(k, b)]
 | (k', b') :: r, k, b => match Nat.beq k' k with
  | true => some ((k, b) :: r)
  | false => (match hset r k b with | some r' => some ((k', b') :: r') | none => none)

inductive RP (α : Type) where
 | ret (a : α)
 | fail
 | get (k : Nat) (f : Option SB → RP α)

def RP.run {α : Type} (h : Nat → Option SB) : RP α → List Nat → Option (α × List Nat)
 | .ret a, rs => some (a, rs)
 | .fail, _ => none
 | .get k f, rs => (f (h k)).run h (k :: rs)

structure Delta where
 pre : List Prop
 v : SV
 ws : List (Nat × SB)
 gen : Bool

abbrev Ctr := (stamp : Nat) → List SV → RP Delta

structure St where
 tmps : List SV
 heap : Heap
 ctr : Nat

structure Tab where
 ty : List (Nat × TInfo)
 ctr : List (Nat × Ctr)
 gl : List Nat := []
 gh : Heap := []

def memN (x : Nat) : List Nat → Bool
 | [] => false
 | y :: r => match Nat.beq x y with | true => true | false => memN x r

def tget : List SV → Nat → SV
 | [], _ => .any
 | x :: _, 0 => x
 | _ :: r, n + 1 => tget r n

def nth {α : Type} : List α → Nat → Option α
 | [], _ => none
 | x :: _, 0 => some x
 | _ :: r, n + 1 => nth r n

def setn {α : Type} : List α → Nat → α → Option (List α)
 | [], _, _ => none
 | _ :: r, 0, v => some (v :: r)
 | x :: r, n + 1, v => match setn r n v with
  | some r' => some (x :: r')
  | none => none

def reps {α : Type} (x : α) : Nat → List α
 | 0 => []
 | n + 1 => x :: reps x n

/-! ### Numbers -/

def InR : IntKind → Int → Prop
 | .i8, z => -128 ≤ z ∧ z < 128
 | .i16, z => -32768 ≤ z ∧ z < 32768
 | .i32, z => -2147483648 ≤ z ∧ z < 2147483648
 | .i64, z => -9223372036854775808 ≤ z ∧ z < 9223372036854775808
 | .u8, z => 0 ≤ z ∧ z < 256
 | .u16, z => 0 ≤ z ∧ z < 65536
 | .u32, z => 0 ≤ z ∧ z < 4294967296
 | .u64, z => 0 ≤ z ∧ z < 18446744073709551616

def AllR (k : IntKind) (l : List Int) : Prop := ∀ z ∈ l, InR k z
def ForI (k : IntKind) (a : Int) (P : Int → Prop) : Prop := ∀ x, x = a → InR k x → P x
def ForN (a : Int) (P : Int → Prop) : Prop := ∀ x, x = a → 0 ≤ x → InR .i64 x → P x
def ForA (k : IntKind) (n : Nat) (a : List Int) (P : List Int → Prop) : Prop := ∀ x, x = a → x.length = n → AllR k x → P x
def ForL (k : IntKind) (a : List Int) (P : List Int → Prop) : Prop := ∀ x, x = a → AllR k x → P x

def AllA (k : IntKind) (n : Nat) (l : List (List Int)) : Prop := ∀ a ∈ l, a.length = n ∧ AllR k a

def andI (k : IntKind) (x y : Int) : Int := k.wrap (BitVec.ofInt k.bits x &&& BitVec.ofInt k.bits y).toNat
def orI (k : IntKind) (x y : Int) : Int := k.wrap (BitVec.ofInt k.bits x ||| BitVec.ofInt k.bits y).toNat
def xorI (k : IntKind) (x y : Int) : Int := k.wrap (BitVec.ofInt k.bits x ^^^ BitVec.ofInt k.bits y).toNat
def andNotI (k : IntKind) (x y : Int) : Int := k.wrap (BitVec.ofInt k.bits x &&& ~~~ BitVec.ofInt k.bits y).toNat
def notI (k : IntKind) (x : Int) : Int := xorI k (if k.signed then -1 else k.max) x
def shlI (k : IntKind) (x y : Int) : Int := k.wrap (x * 2 ^ (min y.toNat k.bits))
def shrI (k : IntKind) (x y : Int) : Int := x.fdiv (2 ^ (min y.toNat k.bits))

def litI : Int → Int
 | .ofNat 0 => .ofNat 0
 | .ofNat (n + 1) => .ofNat (n + 1)
 | .negSucc 0 => .negSucc 0
 | .negSucc (n + 1) => .negSucc (n + 1)

def keq : IntKind → IntKind → Bool
 | .i8, .i8 => true | .i16, .i16 => true | .i32, .i32 => true | .i64, .i64 => true
 | .u8, .u8 => true | .u16, .u16 => true | .u32, .u32 => true | .u64, .u64 => true
 | _, _ => false

def arith (op : BinOp) (k : IntKind) (x y : Int) : Option Int :=
 match op with
 | .add => some (k.wrap (x + y))
 | .sub => some (k.wrap (x - y))
 | .mul => some (k.wrap (x * y))
 | .quo => some (k.wrap (x.tdiv y))
 | .rem => some (x.tmod y)
 | .and => some (andI k x y)
 | .or => some (orI k x y)
 | .xor => some (xorI k x y)
 | .andNot => some (andNotI k x y)
 | .shl => some (shlI k x y)
 | .shr => some (shrI k x y)
 | _ => none

def cmp (op : BinOp) (x y : Int) : Option Bool :=
 match op with
 | .eql => some (x == y)
 | .neq => some (x != y)
 | .lss => some (decide (x < y))
 | .leq => some (decide (x ≤ y))
 | .gtr => some (decide (x > y))
 | .geq => some (decide (x ≥ y))
 | _ => none

def tst (b : Bool) : Option (List Prop) := match b with | true => some [] | false => none

def bound (a : SI) (n : SI) : Option (List Prop) :=
 match a.st, n.st with
 | true, true => tst (decide (0 ≤ a.z) && decide (a.z < n.z))
 | _, _ => some [0 ≤ a.z ∧ a.z < n.z]

def arithPre (op : BinOp) (y : SI) : Option (List Prop) :=
 match op with
 | .quo | .rem => (match y.st with | true => tst (y.z != 0) | false => some [y.z ≠ 0])
 | .shl | .shr => (match y.st with | true => tst (decide (0 ≤ y.z)) | false => some [0 ≤ y.z])
 | _ => some []

def isShift : BinOp → Bool
 | .shl | .shr => true
 | _ => false

def ret (v : SV) : RP Delta := .ret ⟨[], v, [], false⟩
def retg (pre : List Prop) (v : SV) : RP Delta := .ret ⟨pre, v, [], true⟩

def numOp (op : BinOp) (k : IntKind) (x y : SI) : RP Delta :=
 match cmp op x.z y.z with
 | some v => (match x.st, y.st with
  | true, true => (match v with | true => ret (.b true true) | false => ret (.b true false))
  | _, _ => ret (.b false v))
 | none =>
  match arithPre op y, arith op k x.z y.z with
  | some pre, some z => (match x.st, y.st with
   | true, true => (match InRb k z with | true => .ret ⟨pre, .i k ⟨true, litI z⟩, [], false⟩ | false => .fail)
   | _, _ => retg pre (.i k ⟨false, z⟩))
  | _, _ => .fail
where
 InRb : IntKind → Int → Bool
 | .i8, z => decide (-128 ≤ z) && decide (z < 128)
 | .i16, z => decide (-32768 ≤ z) && decide (z < 32768)
 | .i32, z => decide (-2147483648 ≤ z) && decide (z < 2147483648)
 | .i64, z => decide (-9223372036854775808 ≤ z) && decide (z < 9223372036854775808)
 | .u8, z => decide (0 ≤ z) && decide (z < 256)
 | .u16, z => decide (0 ≤ z) && decide (z < 65536)
 | .u32, z => decide (0 ≤ z) && decide (z < 4294967296)
 | .u64, z => decide (0 ≤ z) && decide (z < 18446744073709551616)

def eqOp (op : BinOp) (v : Bool) : RP Delta :=
 match op with
 | .eql => ret (.b false v)
 | .neq => ret (.b false (!v))
 | _ => .fail

def eqSt (op : BinOp) (v : Bool) : RP Delta :=
 match op, v with
 | .eql, true => ret (.b true true)
 | .eql, false => ret (.b true false)
 | .neq, true => ret (.b true false)
 | .neq, false => ret (.b true true)
 | _, _ => .fail

def strOp (op : BinOp) (a c : ByteArray) : RP Delta :=
 match op with
 | .add => .ret ⟨[((a.size + c.size : Nat) : Int) < 9223372036854775808], .s (a ++ c), [], false⟩
 | op => eqOp op (a.toList == c.toList)

def binop (ty : List (Nat × TInfo)) (op : BinOp) (t : TypeId) (x y : SV) : RP Delta :=
 match x, y with
 | .i k a, .i k' c => (match isShift op || keq k k' with
  | true => numOp op k a c
  | false => .fail)
 | .vi k, .i k' c => (match op with
  | .xor => (match keq k k' with | true => ret (.vi k) | false => .fail)
  | _ => .fail)
 | .b _ a, .b _ c => (match assoc ty t with
  | some ti => (match ti.ty with | .bool => eqOp op (a == c) | _ => .fail)
  | none => .fail)
 | .s a, .s c => strOp op a c
 | .arr k n _ a, .arr k' m _ c => (match keq k k' && Nat.beq n m, assoc ty t with
  | true, some ti => (match ti.ty with
   | .arr n' (.int k2) => (match Nat.beq n n' with | true => eqOp op (a == c) | false => .fail)
   | _ => .fail)
  | _, _ => .fail)
 | .p _ _, .np => (match assoc ty t with
  | some ti => (match ti.ty with | .ptr => eqSt op false | _ => .fail)
  | none => .fail)
 | .np, .np => (match assoc ty t with
  | some ti => (match ti.ty with | .ptr => eqSt op true | _ => .fail)
  | none => .fail)
 | _, _ => .fail

def unop (op : UnOp) (x : SV) : RP Delta :=
 match op, x with
 | .not, .b true v => (match v with | true => ret (.b true false) | false => ret (.b true true))
 | .not, .b false v => ret (.b false (!v))
 | .neg, .i k a => numOp .sub k ⟨true, 0⟩ a
 | .xor, .i k a => retg [] (.i k ⟨false, notI k a.z⟩)
 | _, _ => .fail

/-! ### Memory -/

mutual
def zero : Ty → SV
 | .int k => .i k ⟨true, 0⟩
 | .bool => .b true false
 | .str => .s ByteArray.empty
 | .ptr => .np
 | .slice => .nsl
 | .func => .val .nilFunc
 | .iface => .val .nilIface
 | .arr n (.int k) => (match Nat.ble n 16 with | true => .arr k n true (reps 0 n) | false => .arr k n false (List.replicate n 0))
 | .arr n e => .agg (reps (zero e) n)
 | .struct fs => .agg (zeros fs)
def zeros : List Ty → List SV
 | [] => []
 | t :: r => zero t :: zeros r
end

mutual
def segsOf : SV → Option (List Seg)
 | .arr k n ex l => some [.arr k n ex l]
 | .agg xs => segsAll xs
 | .tup _ => none
 | .pd .. => none
 | .rop .. => none
 | .pq .. => none
 | .mr .. => none
 | .mp .. => none
 | .kr .. => none
 | .kp .. => none
 | .ifc .. => none
 | .vc .. => none
 | .vq .. => none
 | .vr .. => none
 | .vb .. => none
 | .vi .. => none
 | .val _ => none
 | .any => none
 | x => some [.one x]
def segsAll : List SV → Option (List Seg)
 | [] => some []
 | x :: r => match segsOf x, segsAll r with
  | some a, some b => some (a ++ b)
  | _, _ => none
end

def fits : Ty → SV → Bool
 | .int k, .i k' _ => keq k k'
 | .bool, .b _ _ => true
 | .str, .s _ => true
 | .ptr, .np => true
 | .ptr, .p _ _ => true
 | .slice, .nsl => true
 | .slice, .sl .. => true
 | .slice, .ro .. => true
 | .slice, .ps .. => true
 | .func, .fn _ => true
 | _, _ => false

def segLen : Seg → Option Nat
 | .one _ => some 1
 | .arr _ n _ _ => some n
 | _ => none

def segAt : List Seg → Nat → Option (Seg × Nat)
 | [], _ => none
 | g :: r, c => match segLen g with
  | some n => (match Nat.ble n c with | true => segAt r (c - n) | false => some (g, c))
  | none => some (g, c)

def segSet : List Seg → Nat → Seg → Option (List Seg)
 | [], _, _ => none
 | g :: r, c, g' => match segLen g with
  | some n => (match Nat.ble n c with
   | true => (match segSet r (c - n) g' with | some r' => some (g :: r') | none => none)
   | false => some (g' :: r))
  | none => some (g' :: r)

def getAll (l : List Int) : (n j : Nat) → List Int
 | 0, _ => []
 | n + 1, j => l.getD j 0 :: getAll l n (j + 1)

def getI (ex : Bool) (l : List Int) (j : Nat) : Option Int :=
 match ex with
 | true => nth l j
 | false => some (l.getD j 0)

def setI (ex : Bool) (l : List Int) (j : Nat) (z : Int) : Option (List Int) :=
 match ex with
 | true => setn l j z
 | false => some (l.set j z)

def readSeg (g : Seg) (j : Nat) (t : Ty) : Option (List Prop × SV) :=
 match g, t with
 | .one x, t => (match fits t x with | true => some ([], x) | false => none)
 | .arr k _ ex l, .int k' => (match keq k k', getI ex l j with | true, some z => some ([], .i k ⟨false, z⟩) | _, _ => none)
 | .arr k m ex l, .arr n (.int k') => (match keq k k' && Nat.beq n m && Nat.beq j 0 with | true => some ([], .arr k n ex l) | false => none)
 | .rowH key hs, .slice => some ([j < hs.length], .ps key (hs.getD j (0, 0)).1 ⟨false, ((hs.getD j (0, 0)).2 : Int)⟩)
 | .rowP key n, .ptr => some ([j < n], .pq key j 0)
 | .rowI k l, .int k' => (match keq k k' with | true => some ([j < l.length], .i k ⟨false, l.getD j 0⟩) | false => none)
 | .rowA k n l, .int k' => (match keq k k' && Nat.blt 0 n with | true => some ([j / n < l.length], .i k ⟨false, (l.getD (j / n) []).getD (j % n) 0⟩) | false => none)
 | .rowA k m l, .arr n (.int k') => (match keq k k' && Nat.beq n m && Nat.beq (j % n) 0 with
   | true => some ([j / n < l.length], .arr k n true (getAll (l.getD (j / n) []) n 0)) | false => none)
 | _, _ => none

def readCell (l : List Seg) (c : Nat) (t : Ty) : Option (List Prop × SV) :=
 match segAt l c with
 | some (g, j) => readSeg g j t
 | none => none

mutual
def readVar (l : List Seg) (c : Nat) : Ty → Option (List Prop × SV)
 | .struct fs => (match readAll l c fs, fs with | some (p, xs), _ :: _ => some (p, .agg xs) | _, _ => none)
 | .arr n e => readCell l c (.arr n e)
 | .int k => readCell l c (.int k)
 | .bool => readCell l c .bool
 | .str => readCell l c .str
 | .ptr => readCell l c .ptr
 | .slice => readCell l c .slice
 | .func => readCell l c .func
 | .iface => none
def readAll (l : List Seg) (c : Nat) : List Ty → Option (List Prop × List SV)
 | [] => some ([], [])
 | t :: ts => match readVar l c t, readAll l (c + t.size) ts with
  | some (p, x), some (q, r) => some (p ++ q, x :: r)
  | _, _ => none
end

def putSeg (g : Seg) (j : Nat) (x : Seg) : Option (List Prop × Seg) :=
 match g, x with
 | .one _, .one v => some ([], .one v)
 | .arr k n ex l, .one (.i k' a) => (match keq k k', setI ex l j a.z with | true, some l' => some ([], .arr k n ex l') | _, _ => none)
 | .rowI k l, .one (.i k' a) => (match keq k k' with | true => some ([j < l.length], .rowI k (l.set j a.z)) | false => none)
 | .rowA k n l, .one (.i k' a) => (match keq k k' && Nat.blt 0 n with | true => some ([j / n < l.length], .rowA k n (l.set (j / n) ((l.getD (j / n) []).set (j % n) a.z))) | false => none)
 | .arr k n _ _, .arr k' m ex l => (match keq k k' && Nat.beq n m && Nat.beq j 0 with | true => some ([], .arr k n ex l) | false => none)
 | .rowA k n l, .arr k' m _ y => (match keq k k' && Nat.beq n m && Nat.beq (j % n) 0 with | true => some ([j / n < l.length], .rowA k n (l.set (j / n) y)) | false => none)
 | _, _ => none

def segSize : Seg → Nat
 | .one _ => 1
 | .arr _ n _ _ => n
 | _ => 0

def writeSegs : List Seg → Nat → List Seg → Option (List Prop × List Seg)
 | l, _, [] => some ([], l)
 | l, c, x :: r => match segAt l c with
  | some (g, j) => (match putSeg g j x with
   | some (p, g') => (match segSet l c g' with
    | some l' => (match writeSegs l' (c + segSize x) r with
     | some (q, l'') => some (p ++ q, l'')
     | none => none)
    | none => none)
   | none => none)
  | none => none

/-! ### Data that is only read -/

mutual
def shFits : Ty → Sh → Bool
 | .int k, .i k' => keq k k'
 | .bool, .tb => true
 | .str, .ts => true
 | .arr n (.int k), .arr m k' => Nat.beq n m && keq k k'
 | .struct (t :: ts), .r (s :: ss) => shFits t s && shFitss ts ss
 | .slice, .ints _ => true
 | .slice, .l _ => true
 | _, _ => false
def shFitss : List Ty → List Sh → Bool
 | [], [] => true
 | t :: ts, s :: ss => shFits t s && shFitss ts ss
 | _, _ => false
end

mutual
def svOf (key : Nat) : Sh → RO → SV
 | .i k, d => .i k ⟨false, roZ d⟩
 | .tb, d => .b false (roB d)
 | .ts, d => .s (roS d)
 | .arr n k, d => .arr k n false (roL d)
 | .r fs, d => .agg (svOfs key fs d 0)
 | .ints k, d => .ro key (.ints k) d
 | .l e, d => .ro key (.l e) d
def svOfs (key : Nat) : List Sh → RO → Nat → List SV
 | [], _, _ => []
 | s :: r, d, i => svOf key s (roN d i) :: svOfs key r d (i + 1)
end

mutual
def readSh (key : Nat) : Sh → RO → Nat → Ty → Option SV
 | .r fs, d, j, t => (match Nat.beq j 0 && shFits t (.r fs) with
  | true => some (svOf key (.r fs) d)
  | false => readShs key fs d 0 j t)
 | .arr n k, d, j, t => (match t with
  | .int k' => (match keq k k' && Nat.blt j n with | true => some (.i k ⟨false, (roL d).getD j 0⟩) | false => none)
  | t => (match Nat.beq j 0 && shFits t (.arr n k) with | true => some (svOf key (.arr n k) d) | false => none))
 | .i k, d, j, t => (match Nat.beq j 0 && shFits t (.i k) with | true => some (svOf key (.i k) d) | false => none)
 | .tb, d, j, t => (match Nat.beq j 0 && shFits t .tb with | true => some (svOf key .tb d) | false => none)
 | .ts, d, j, t => (match Nat.beq j 0 && shFits t .ts with | true => some (svOf key .ts d) | false => none)
 | .ints k, d, j, t => (match Nat.beq j 0 && shFits t (.ints k) with | true => some (svOf key (.ints k) d) | false => none)
 | .l e, d, j, t => (match Nat.beq j 0 && shFits t (.l e) with | true => some (svOf key (.l e) d) | false => none)
def readShs (key : Nat) : List Sh → RO → Nat → Nat → Ty → Option SV
 | [], _, _, _, _ => none
 | s :: r, d, i, j, t => (match Nat.ble (shSize s) j with
  | true => readShs key r d (i + 1) (j - shSize s) t
  | false => readSh key s (roN d i) j t)
end

def readEl (key : Nat) (sh : Sh) (d : RO) (x : Int) (j : Nat) (t : Ty) : Option SV :=
 match sh, t with
 | .ints k, .int k' => (match keq k k' && Nat.beq j 0 with | true => some (.i k ⟨false, (roL d).getD x.toNat 0⟩) | false => none)
 | .l e, t => readSh key e (roN d x.toNat) j t
 | _, _ => none

def readDyn (g : Seg) (x : Int) (j est : Nat) (t : Ty) : Option (List Prop × SV) :=
 match g, t with
 | .arr k n _ l, .int k' => (match keq k k' && Nat.beq j 0 && Nat.beq est 1 with | true => some ([0 ≤ x ∧ x < (n : Int)], .i k ⟨false, l.getD x.toNat 0⟩) | false => none)
 | .rowI k l, .int k' => (match keq k k' && Nat.beq j 0 && Nat.beq est 1 with | true => some ([0 ≤ x ∧ x < (l.length : Int)], .i k ⟨false, l.getD x.toNat 0⟩) | false => none)
 | .rowA k n l, .int k' => (match keq k k' && Nat.beq n est && Nat.blt j n with | true => some ([0 ≤ x ∧ x < (l.length : Int)], .i k ⟨false, (l.getD x.toNat []).getD j 0⟩) | false => none)
 | .rowA k n l, .arr m (.int k') => (match keq k k' && Nat.beq n est && Nat.beq n m && Nat.beq j 0 with
  | true => some ([0 ≤ x ∧ x < (l.length : Int)], .arr k n true (getAll (l.getD x.toNat []) n 0)) | false => none)
 | .rowH key hs, .slice => (match Nat.beq j 0 && Nat.beq est 1 with | true => some ([0 ≤ x ∧ x < (hs.length : Int)], .ps key (hs.getD x.toNat (0, 0)).1 ⟨false, ((hs.getD x.toNat (0, 0)).2 : Int)⟩) | false => none)
 | .rowP key n, .ptr => (match Nat.beq j 0 && Nat.beq est 1 with | true => some ([0 ≤ x ∧ x < (n : Int)], .pq key x.toNat 0) | false => none)
 | .rowD key sh ds, t => (match Nat.beq (shSize sh) est && Nat.blt 0 est, readSh key sh (ds.getD x.toNat (.r [])) j t with
  | true, some v => some ([0 ≤ x ∧ x < (ds.length : Int)], v)
  | _, _ => none)
 | _, _ => none

mutual
def shEq : Sh → Sh → Bool
 | .i k, .i k' => keq k k'
 | .tb, .tb => true
 | .ts, .ts => true
 | .arr n k, .arr m k' => Nat.beq n m && keq k k'
 | .r a, .r c => shEqs a c
 | .ints k, .ints k' => keq k k'
 | .l a, .l c => shEq a c
 | _, _ => false
def shEqs : List Sh → List Sh → Bool
 | [], [] => true
 | a :: r, c :: t => shEq a c && shEqs r t
 | _, _ => false
end

def datW (F : Nat) : Sh → SV → Option RO
 | .i k, .i k' a => (match keq k k' with | true => some (.i a.z) | false => none)
 | .tb, .b _ v => some (.b v)
 | .ts, .s v => some (.s v)
 | .ints _, .nsl => some (.l [])
 | .l _, .nsl => some (.r [])
 | sh, .ro F' sh' d => (match Nat.beq F F' && shEq sh sh' with | true => some d | false => none)
 | _, _ => none

def datWs (F : Nat) : List Sh → List Seg → Option (List RO)
 | [], [] => some []
 | sh :: r, .one x :: t => (match datW F sh x, datWs F r t with | some d, some ds => some (d :: ds) | _, _ => none)
 | _, _ => none

def writeDyn (g : Seg) (x : Int) (j est : Nat) (v : SV) : Option (List Prop × Seg) :=
 match g, v with
 | .arr k n _ l, .i k' a => (match keq k k' && Nat.beq j 0 && Nat.beq est 1 with | true => some ([0 ≤ x ∧ x < (n : Int)], .arr k n false (l.set x.toNat a.z)) | false => none)
 | .rowI k l, .i k' a => (match keq k k' && Nat.beq j 0 && Nat.beq est 1 with | true => some ([0 ≤ x ∧ x < (l.length : Int)], .rowI k (l.set x.toNat a.z)) | false => none)
 | .rowA k n l, .i k' a => (match keq k k' && Nat.beq n est && Nat.blt j n with | true => some ([0 ≤ x ∧ x < (l.length : Int)], .rowA k n (l.set x.toNat ((l.getD x.toNat []).set j a.z))) | false => none)
 | .rowA k n l, .arr k' m _ y => (match keq k k' && Nat.beq n est && Nat.beq n m && Nat.beq j 0 with
  | true => some ([0 ≤ x ∧ x < (l.length : Int)], .rowA k n (l.set x.toNat y)) | false => none)
 | .rowH key hs, .nsl => (match Nat.beq j 0 && Nat.beq est 1 with | true => some ([0 ≤ x ∧ x < (hs.length : Int)], .rowH key (hs.set x.toNat ((hs.getD x.toNat (0, 0)).1, 0))) | false => none)
 | .rowD key (.r fs) ds, .agg xs => (match Nat.beq j 0 && Nat.beq est (shSizes fs), segsAll xs with
  | true, some l => (match datWs key fs l with
   | some ys => some ([0 ≤ x ∧ x < (ds.length : Int)], .rowD key (.r fs) (ds.set x.toNat (.r ys)))
   | none => none)
  | _, _ => none)
 | _, _ => none

def segHead (l : List Seg) (c : Nat) : Option Seg :=
 match segAt l c with
 | some (g, 0) => some g
 | _ => none

def loadOp (t : TInfo) (a : SV) : RP Delta :=
 match a with
 | .p key c => .get key fun b => match b with
  | some (.segs _ l) => (match readVar l c t.ty with | some (p, v) => .ret ⟨p, v, [], false⟩ | none => .fail)
  | _ => .fail
 | .pd key c est x j => .get key fun b => match b with
  | some (.segs _ l) => (match segHead l c with
   | some g => (match readDyn g x j est t.ty with | some (p, v) => .ret ⟨p, v, [], true⟩ | none => .fail)
   | none => .fail)
  | _ => .fail
 | .rop key sh d x j => .get key fun b => match b with
  | some .world => (match readEl key sh d x j t.ty with | some v => .ret ⟨[], v, [], true⟩ | none => .fail)
  | _ => .fail
 | .pq key r x => .get key fun b => match b with
  | some (.pool (.k k) ms) => (match t.ty with
   | .int k' => (match keq k k' with
    | true => .ret ⟨[x < ((ms.getD r []).length : Int)], .i k ⟨false, (ms.getD r []).getD x.toNat 0⟩, [], true⟩
    | false => .fail)
   | _ => .fail)
  | _ => .fail
 | .vq key x => .get key fun b => match b with
  | some (.pool .v ms) => (match t.ty with
   | .slice => .ret ⟨[x < (((ms.getD 0 []).length : Nat) : Int)], .vr key x.toNat ⟨false, (ms.getD 0 []).getD x.toNat 0⟩, [], true⟩
   | _ => .fail)
  | _ => .fail
 | .vb key i x => .get key fun b => match b with
  | some (.pool .v ms) => (match t.ty with
   | .int k' => (match keq .u8 k' with
    | true => .ret ⟨[i < (ms.getD 0 []).length, x < (ms.getD 0 []).getD i 0], .vi .u8, [], true⟩
    | false => .fail)
   | _ => .fail)
  | _ => .fail
 | _ => .fail

def boxLoad (stamp : Nat) (t : TInfo) (a : SV) : RP Delta :=
 match a with
 | .pq key r x => .get key fun b => match b with
  | some (.pool (.b k _) ms) => (match t.ty, x with
   | .slice, .ofNat 0 => .get stamp fun c => (match c with
    | none => .ret ⟨[((ms.getD r []).length : Int) < 9223372036854775808], .sl stamp 0 1 ⟨true, 0⟩ ⟨false, ((ms.getD r []).length : Int)⟩, [(key, .pool (.b k (some (stamp, r))) ms), (stamp, .boxv key)], true⟩
    | some _ => .fail)
   | _, _ => .fail)
  | _ => loadOp t a
 | _ => loadOp t a

def storeOp (a v : SV) : RP Delta :=
 match a with
 | .p key c => .get key fun b => match b with
  | some (.segs false l) => (match segsOf v with
   | some x => (match writeSegs l c x with | some (p, l') => .ret ⟨p, .any, [(key, .segs false l')], false⟩ | none => .fail)
   | none => .fail)
  | _ => .fail
 | .pd key c est x j => .get key fun b => match b with
  | some (.segs false l) => (match segHead l c with
   | some g => (match writeDyn g x j est v with
    | some (p, g') => (match segSet l c g' with | some l' => .ret ⟨p, .any, [(key, .segs false l')], true⟩ | none => .fail)
    | none => .fail)
   | none => .fail)
  | _ => .fail
 | .pq key r x => .get key fun b => match b with
  | some (.pool (.k k) ms) => (match v with
   | .i k' c => (match keq k k' with
    | true => .ret ⟨[x < ((ms.getD r []).length : Int)], .any, [(key, .pool (.k k) (ms.set r ((ms.getD r []).set x.toNat c.z)))], true⟩
    | false => .fail)
   | _ => .fail)
  | some (.pool (.b k _) ms) => (match v, x with
   | .nsl, .ofNat 0 => .ret ⟨[], .any, [(key, .pool (.b k none) (ms.set r []))], true⟩
   | _, _ => .fail)
  | _ => .fail
 | .mp key r jk x => .get key fun b => match b with
  | some (.pool (.k k) ms) => .get jk fun b => match b with
   | some (.segs false []) => (match v with
    | .i k' c => (match keq k k' with
     | true => .ret ⟨[((ms.getD r []).length : Int) ≤ x], .any, [], false⟩
     | false => .fail)
    | _ => .fail)
   | _ => .fail
  | _ => .fail
 | .vq key x => .get key fun b => match b with
  | some (.pool .v ms) => (match v with
   | .nsl => .ret ⟨[x < (((ms.getD 0 []).length : Nat) : Int)], .any, [(key, .pool .v (ms.set 0 ((ms.getD 0 []).set x.toNat 0)))], true⟩
   | _ => .fail)
  | _ => .fail
 | .vb key i x => .get key fun b => match b with
  | some (.pool .v ms) => (match v with
   | .vi k' => (match keq .u8 k' with
    | true => .ret ⟨[i < (ms.getD 0 []).length, x < (ms.getD 0 []).getD i 0], .any, [], false⟩
    | false => .fail)
   | _ => .fail)
  | _ => .fail
 | .kp key est jk x => .get key fun b => match b with
  | some (.segs false [.rowA k n l]) => .get jk fun b => match b with
   | some (.segs false []) => (match v with
    | .arr k' m _ y => (match Nat.beq m est && Nat.beq n est with
     | true => .ret ⟨[(l.length : Int) ≤ x], .any, [], false⟩
     | false => .fail)
    | _ => .fail)
   | _ => .fail
  | _ => .fail
 | _ => .fail

def fresh (stamp : Nat) (l : List Seg) (v : SV) (pre : List Prop) (gen : Bool) : RP Delta :=
 .get stamp fun b => match b with
  | none => .ret ⟨pre, v, [(stamp, .segs false l)], gen⟩
  | some _ => .fail

def boxOp (stamp : Nat) (v : SV) : RP Delta :=
 match segsOf v with
 | some l => fresh stamp l (.p stamp 0) [] false
 | none => .fail

def addI (x y : SI) : SI :=
 match x, y with
 | ⟨true, x⟩, ⟨true, y⟩ => ⟨true, litI (x + y)⟩
 | ⟨true, .ofNat 0⟩, ⟨false, y⟩ => ⟨false, y⟩
 | ⟨false, x⟩, ⟨true, .ofNat 0⟩ => ⟨false, x⟩
 | ⟨_, x⟩, ⟨_, y⟩ => ⟨false, x + y⟩

def subI (x y : SI) : SI :=
 match x, y with
 | ⟨true, x⟩, ⟨true, y⟩ => ⟨true, litI (x - y)⟩
 | ⟨false, x⟩, ⟨true, .ofNat 0⟩ => ⟨false, x⟩
 | ⟨_, x⟩, ⟨_, y⟩ => ⟨false, x - y⟩

def ptrAt (key c est : Nat) (x : SI) : Option SV :=
 match x with
 | ⟨true, .ofNat m⟩ => some (.p key (c + est * m))
 | ⟨true, _⟩ => none
 | ⟨false, z⟩ => some (.pd key c est z 0)

def indexAddrOp (ty : List (Nat × TInfo)) (t : TInfo) (x i : SV) : RP Delta :=
 match x, i, t.ty with
 | .p key c, .i _ a, .arr n e => (match bound a ⟨true, n⟩, ptrAt key c e.size a with
  | some p, some v => .ret ⟨p, v, [], false⟩
  | _, _ => .fail)
 | .pd key c est x j, .i _ a, .arr n e => (match bound a ⟨true, n⟩, a with
  | some p, ⟨true, .ofNat m⟩ => .ret ⟨p, .pd key c est x (j + e.size * m), [], false⟩
  | _, _ => .fail)
 | .sl key c est off len, .i _ a, .slice => (match assoc ty t.elem with
  | some te => (match Nat.beq te.ty.size est, bound a len, ptrAt key c est (addI off a) with
   | true, some p, some v => .ret ⟨p, v, [], false⟩
   | _, _, _ => .fail)
  | none => .fail)
 | .ps key r len, .i _ a, .slice => (match assoc ty t.elem with
  | some te => (match Nat.beq te.ty.size 1, bound a len with
   | true, some p => .ret ⟨p, .pq key r a.z, [], false⟩
   | _, _ => .fail)
  | none => .fail)
 | .mr key r jk len, .i _ a, .slice => (match assoc ty t.elem with
  | some te => (match Nat.beq te.ty.size 1, bound a len with
   | true, some p => .ret ⟨p, .mp key r jk a.z, [], false⟩
   | _, _ => .fail)
  | none => .fail)
 | .kr key est jk len, .i _ a, .slice => (match assoc ty t.elem with
  | some te => (match Nat.beq te.ty.size est, bound a len with
   | true, some p => .ret ⟨p, .kp key est jk a.z, [], false⟩
   | _, _ => .fail)
  | none => .fail)
 | .vc key len, .i _ a, .slice => (match assoc ty t.elem with
  | some te => (match Nat.beq te.ty.size 1, bound a len with
   | true, some p => .ret ⟨p, .vq key a.z, [], false⟩
   | _, _ => .fail)
  | none => .fail)
 | .vr key i len, .i _ a, .slice => (match assoc ty t.elem with
  | some te => (match Nat.beq te.ty.size 1, bound a len with
   | true, some p => .ret ⟨p, .vb key i a.z, [], false⟩
   | _, _ => .fail)
  | none => .fail)
 | .ro key sh d, .i _ a, .slice => (match assoc ty t.elem with
  | some te => (match Nat.beq te.ty.size (shEl sh) with
   | true => .ret ⟨[0 ≤ a.z ∧ a.z < (roLen sh d : Int)], .rop key sh d a.z 0, [], false⟩
   | false => .fail)
  | none => .fail)
 | .rop key sh d x j, .i _ a, .arr n e => (match bound a ⟨true, n⟩, a with
  | some p, ⟨true, .ofNat m⟩ => .ret ⟨p, .rop key sh d x (j + e.size * m), [], false⟩
  | _, _ => .fail)
 | _, _, _ => .fail

def indexOp (t : TInfo) (x i : SV) : RP Delta :=
 match x, i, t.ty with
 | .arr k m ex l, .i _ a, .arr n (.int _) => (match Nat.beq n m, bound a ⟨true, n⟩ with
  | true, some p => (match a with
   | ⟨true, .ofNat j⟩ => (match getI ex l j with | some z => .ret ⟨p, .i k ⟨false, z⟩, [], false⟩ | none => .fail)
   | ⟨true, _⟩ => .fail
   | ⟨false, z⟩ => retg p (.i k ⟨false, l.getD z.toNat 0⟩))
  | _, _ => .fail)
 | .s v, .i _ a, .str => retg [0 ≤ a.z ∧ a.z < (v.size : Int)] (.i .u8 ⟨false, ((v.data.getD a.z.toNat 0).toNat : Int)⟩)
 | _, _, _ => .fail

def bounds3 (l h n : SI) : Option (List Prop) :=
 match l.st, h.st, n.st with
 | true, true, true => tst (decide (0 ≤ l.z) && decide (l.z ≤ h.z) && decide (h.z ≤ n.z))
 | _, _, _ => some [0 ≤ l.z ∧ l.z ≤ h.z ∧ h.z ≤ n.z]

def optI (d : SI) : Option SV → Option SI
 | none => some d
 | some (.i _ a) => some a
 | _ => none

def sliceOp (t : TInfo) (x : SV) (lo hi : Option SV) : RP Delta :=
 match x, t.ty, optI ⟨true, 0⟩ lo with
 | .p key c, .arr n (.int k), some l => .get key fun b => match b with
  | some (.segs _ gs) => (match segAt gs c with
   | some (.arr _ m _ _, 0) => (match Nat.beq n m && Nat.ble n 1000000, optI ⟨true, n⟩ hi with
    | true, some h => (match bounds3 l h ⟨true, n⟩ with
     | some p => .ret ⟨p, .sl key c 1 l (subI h l), [], false⟩
     | none => .fail)
    | _, _ => .fail)
   | _ => .fail)
  | _ => .fail
 | .sl key c est off len, .slice, some l => (match optI len hi with
  | some h => (match bounds3 l h len with
   | some p => .ret ⟨p, .sl key c est (addI off l) (subI h l), [], false⟩
   | none => .fail)
  | none => .fail)
 | .ro key sh d, .slice, some l => (match optI ⟨false, (roLen sh d : Int)⟩ hi with
  | some h => .get key fun b => (match b with
   | some .world => .ret ⟨[0 ≤ l.z ∧ l.z ≤ h.z ∧ h.z ≤ (roLen sh d : Int)], .ro key sh (roSub sh d l.z.toNat (h.z - l.z).toNat), [], false⟩
   | _ => .fail)
  | none => .fail)
 | .nsl, .slice, some l => (match optI ⟨true, 0⟩ hi with
  | some h => .ret ⟨[0 ≤ l.z ∧ l.z ≤ h.z ∧ h.z ≤ 0], .nsl, [], false⟩
  | none => .fail)
 | .s v, .str, some l => (match optI ⟨false, v.size⟩ hi with
  | some h => .ret ⟨[0 ≤ l.z ∧ l.z ≤ h.z ∧ h.z ≤ (v.size : Int)], .s (v.extract l.z.toNat h.z.toNat), [], false⟩
  | none => .fail)
 | _, _, _ => .fail

def sliceOp3 (t : TInfo) (x : SV) (lo : Option SV) (hi mx : SV) : RP Delta :=
 match x, t.ty, optI ⟨true, 0⟩ lo, hi, mx with
 | .sl key c est off len, .slice, some l, .i _ h, .i _ m => .ret ⟨[0 ≤ l.z ∧ l.z ≤ h.z ∧ h.z ≤ m.z ∧ m.z ≤ len.z], .sl key c est (addI off l) (subI h l), [], false⟩
 | .nsl, .slice, some l, .i _ h, .i _ m => .ret ⟨[0 ≤ l.z ∧ l.z ≤ h.z ∧ h.z ≤ m.z ∧ m.z ≤ 0], .nsl, [], false⟩
 | _, _, _, _, _ => .fail

def fieldOff : List Ty → Nat → Nat
 | [], _ => 0
 | _, 0 => 0
 | t :: r, n + 1 => t.size + fieldOff r n

def fieldAddrOp (t : TInfo) (x : SV) (f : Nat) : RP Delta :=
 match x, t.ty with
 | .p key c, .struct fs => (match Nat.blt f fs.length with | true => ret (.p key (c + fieldOff fs f)) | false => .fail)
 | .pd key c est x j, .struct fs => (match Nat.blt f fs.length with | true => ret (.pd key c est x (j + fieldOff fs f)) | false => .fail)
 | .rop key sh d x j, .struct fs => (match Nat.blt f fs.length with | true => ret (.rop key sh d x (j + fieldOff fs f)) | false => .fail)
 | .pq key r x, .struct fs => (match Nat.blt f fs.length && Nat.beq (fieldOff fs f) 0 with | true => ret (.pq key r x) | false => .fail)
 | _, _ => .fail

inductive Con where
 | ints (k : IntKind) (l : List Int)
 | arrs (k : IntKind) (n : Nat) (l : List (List Int))

def conSeg (g : Seg) (est : Nat) (off len : SI) : Option (List Prop × Con) :=
 match g with
 | .rowI k l => (match Nat.beq est 1 with | true => some ([off.z + len.z ≤ (l.length : Int)], .ints k ((l.drop off.z.toNat).take len.z.toNat)) | false => none)
 | .arr k n _ l => (match Nat.beq est 1, (match off.st, len.st with | true, true => tst (decide (off.z + len.z ≤ (n : Int))) | _, _ => some [off.z + len.z ≤ (n : Int)]) with
  | true, some p => some (p, .ints k ((l.drop off.z.toNat).take len.z.toNat))
  | _, _ => none)
 | .rowA k n l => (match Nat.beq est n with | true => some ([off.z + len.z ≤ (l.length : Int)], .arrs k n ((l.drop off.z.toNat).take len.z.toNat)) | false => none)
 | _ => none

def bytesI (s : ByteArray) : List Int := s.data.toList.map fun b => (b.toNat : Int)
def ofBytesI (l : List Int) : ByteArray := ⟨(l.map fun z => UInt8.ofNat z.toNat).toArray⟩

/-! ### Records of numbers, as one list -/

def boolI : Bool → Int
 | true => 1
 | false => 0

def flatSegs : List Seg → Option (List Ty × List Int)
 | [] => some ([], [])
 | .one (.i k a) :: r => (match flatSegs r with | some (ts, m) => some (.int k :: ts, a.z :: m) | none => none)
 | .one (.b _ v) :: r => (match flatSegs r with | some (ts, m) => some (.bool :: ts, boolI v :: m) | none => none)
 | .arr k n _ l :: r => (match flatSegs r with | some (ts, m) => some (.arr n (.int k) :: ts, l ++ m) | none => none)
 | _ => none

def tyfEq : Ty → Ty → Bool
 | .int k, .int k' => keq k k'
 | .bool, .bool => true
 | .arr n (.int k), .arr m (.int k') => Nat.beq n m && keq k k'
 | _, _ => false
def tysEq : List Ty → List Ty → Bool
 | [], [] => true
 | a :: r, b :: t => tyfEq a b && tysEq r t
 | _, _ => false
def pkeq : PK → PK → Bool
 | .k a, .k b => keq a b
 | .r a, .r b => tysEq a b
 | .b a none, .b b _ => keq a b
 | .z, .z => true
 | .h, .h => true
 | .v, .v => true
 | .h, .z => true
 | _, _ => false

/-! ### Shapes compared -/

/-! ### Cells as data -/

def datK : List Seg → Option Nat
 | [] => none
 | .one (.ro F _ _) :: _ => some F
 | _ :: r => datK r
def datSh : List Seg → Option (List Sh)
 | [] => some []
 | .one (.i k _) :: r => (match datSh r with | some l => some (.i k :: l) | none => none)
 | .one (.b ..) :: r => (match datSh r with | some l => some (.tb :: l) | none => none)
 | .one (.s _) :: r => (match datSh r with | some l => some (.ts :: l) | none => none)
 | .one (.ro _ sh _) :: r => (match datSh r with | some l => some (sh :: l) | none => none)
 | _ => none

def mlook : List (String × Nat) → String → Option Nat
 | [], _ => none
 | (a, f) :: r, s => (match decide (a = s) with | true => some f | false => mlook r s)

end Go.Gx

/- The symbolic evaluator: operations that make memory, regions, code. Definitions alone. -/
namespace Go.Gx
set_option linter.unusedVariables false

def withCon (x : SV) (f : List Prop → Con → RP Delta) : RP Delta :=
 match x with
 | .sl key c est off len => .get key fun b => match b with
  | some (.segs _ l) => (match segAt l c with
   | some (g, 0) => (match conSeg g est off len with | some (p, q) => f p q | none => .fail)
   | _ => .fail)
  | _ => .fail
 | .s v => f [] (.ints .u8 (bytesI v))
 | .ro key sh d => .get key fun b => match b with
  | some .world => (match sh with | .ints k => f [] (.ints k (roL d)) | .l (.arr n k) => f [] (.arrs k n ((roX d).map roL)) | _ => .fail)
  | _ => .fail
 | .ps key r len => .get key fun b => match b with
  | some (.pool (.k k) ms) => f [len.z ≤ ((ms.getD r []).length : Int)] (.ints k ((ms.getD r []).take len.z.toNat))
  | _ => .fail
 | _ => .fail

def lenOf (t : TInfo) (x : SV) : Option SI :=
 match x, t.ty with
 | .sl _ _ _ _ len, .slice => some len
 | .nsl, .slice => some ⟨true, 0⟩
 | .ro _ sh d, .slice => some ⟨false, (roLen sh d : Int)⟩
 | .ps _ _ len, .slice => some len
 | .mr _ _ _ len, .slice => some len
 | .kr _ _ _ len, .slice => some len
 | .vc _ len, .slice => some len
 | .vr _ _ len, .slice => some len
 | .s v, .str => some ⟨false, (v.size : Int)⟩
 | _, .arr n _ => (match Nat.ble n 1000000 with | true => some ⟨true, n⟩ | false => none)
 | _, _ => none

def lenOp (t : TInfo) (x : SV) : RP Delta :=
 match lenOf t x with
 | some a => ret (.i .i64 a)
 | none => .fail

def conLen : Con → Nat
 | .ints _ l => l.length
 | .arrs _ _ l => l.length

def conSize : Con → Nat
 | .ints _ _ => 1
 | .arrs _ n _ => n

def conRow : Con → Seg
 | .ints k l => .rowI k l
 | .arrs k n l => .rowA k n l

def conJoin : Con → Con → Option Con
 | .ints k l, .ints k' y => (match keq k k' with | true => some (.ints k (l ++ y)) | false => none)
 | .arrs k n l, .arrs k' m y => (match keq k k' && Nat.beq n m with | true => some (.arrs k n (l ++ y)) | false => none)
 | _, _ => none

def appendTo (stamp : Nat) (te : TInfo) (old : Con) (x : Con) (gone : List (Nat × SB)) (pre : List Prop) : RP Delta :=
 match conJoin old x, Nat.blt 0 te.bytes && Nat.beq te.ty.size (conSize old) with
 | some r, true => .get stamp fun b => match b with
  | none => .ret ⟨(((conLen r : Nat) : Int) * (te.bytes : Int) ≤ 70368744177664) :: pre, .sl stamp 0 (conSize r) ⟨true, 0⟩ ⟨false, ((conLen r : Nat) : Int)⟩, (stamp, .segs false [conRow r]) :: gone, true⟩
  | some _ => .fail
 | _, _ => .fail

def emptyCon : Ty → Option Con
 | .int k => some (.ints k [])
 | .arr n (.int k) => some (.arrs k n [])
 | _ => none

def rowCon : Seg → Option Con
 | .rowI k l => some (.ints k l)
 | .rowA k n l => some (.arrs k n l)
 | _ => none

def isSeq : Ty → Bool
 | .slice => true
 | .str => true
 | _ => false

def isMore : SV → Option (Nat × Nat × Option Nat × SI)
 | .ps key r len => some (key, r, none, len)
 | .mr key r jk len => some (key, r, some jk, len)
 | _ => none

def appendMOp (ty : List (Nat × TInfo)) (stamp : Nat) (t t2 : TInfo) (key r : Nat) (jk : Option Nat) (len : SI) (x : SV) : RP Delta :=
 match t.ty, assoc ty t.elem, isSeq t2.ty with
 | .slice, some te, true => (match te.ty, Nat.blt 0 te.bytes with
  | .int k, true => withCon x fun p q => (match q with
   | .ints k' l => (match keq k' k with
    | true => .get key fun b => (match b with
     | some (.pool (.k k2) ms) => (match keq k2 k with
      | true => (match jk with
       | none => .get stamp fun c => (match c with
        | none => .ret ⟨(((ms.getD r []).length : Int) ≤ len.z) :: ((len.z + (l.length : Int)) * (te.bytes : Int) ≤ 70368744177664) :: p, .mr key r stamp ⟨false, len.z + (l.length : Int)⟩, [(stamp, .segs false [])], true⟩
        | some _ => .fail)
       | some j => .get j fun c => (match c with
        | some (.segs false []) => .get stamp fun c => (match c with
         | none => .ret ⟨(((ms.getD r []).length : Int) ≤ len.z) :: ((len.z + (l.length : Int)) * (te.bytes : Int) ≤ 70368744177664) :: p, .mr key r stamp ⟨false, len.z + (l.length : Int)⟩, [(stamp, .segs false []), (j, .gone)], true⟩
         | some _ => .fail)
        | _ => .fail))
      | false => .fail)
     | _ => .fail)
    | false => .fail)
   | _ => .fail)
  | _, _ => .fail)
 | _, _, _ => .fail

def keepOf : SV → Option (Nat × Nat × Option Nat × SI)
 | .sl key 0 est ⟨true, .ofNat 0⟩ len => (match Nat.beq (key / 10) 70 with | true => some (key, est, none, len) | false => none)
 | .kr key est jk len => some (key, est, some jk, len)
 | _ => none

def appendKOp (ty : List (Nat × TInfo)) (stamp : Nat) (t t2 : TInfo) (key est : Nat) (jk : Option Nat) (len : SI) (x : SV) : RP Delta :=
 match t.ty, assoc ty t.elem, isSeq t2.ty with
 | .slice, some te, true => (match te.ty, Nat.blt 0 te.bytes with
  | .arr n (.int k), true => withCon x fun p q => (match q with
   | .arrs k' m l => (match Nat.beq m n && Nat.beq n est && Nat.blt 0 n with
    | true => .get key fun b => (match b with
     | some (.segs false [.rowA k2 n2 r]) => (match Nat.beq n2 n with
      | true => (match jk with
       | none => .get stamp fun c => (match c with
        | none => .ret ⟨((r.length : Int) ≤ len.z) :: ((len.z + (l.length : Int)) * (te.bytes : Int) ≤ 70368744177664) :: p, .kr key est stamp ⟨false, len.z + (l.length : Int)⟩, [(stamp, .segs false [])], true⟩
        | some _ => .fail)
       | some j => .get j fun c => (match c with
        | some (.segs false []) => .get stamp fun c => (match c with
         | none => .ret ⟨((r.length : Int) ≤ len.z) :: ((len.z + (l.length : Int)) * (te.bytes : Int) ≤ 70368744177664) :: p, .kr key est stamp ⟨false, len.z + (l.length : Int)⟩, [(stamp, .segs false []), (j, .gone)], true⟩
         | some _ => .fail)
        | _ => .fail))
      | false => .fail)
     | _ => .fail)
    | false => .fail)
   | _ => .fail)
  | _, _ => .fail)
 | _, _, _ => .fail

def appH (stamp : Nat) (te : TInfo) (pk : Nat) (hs : List (Nat × Nat)) (r n : Nat) (ws gone : List (Nat × SB)) (pre : List Prop) : RP Delta :=
 match Nat.blt 0 te.bytes with
 | true => .get stamp fun b => match b with
  | none => .ret ⟨((((hs.length + 1 : Nat) : Int) * (te.bytes : Int)) ≤ 70368744177664) :: pre, .sl stamp 0 1 ⟨true, 0⟩ ⟨false, ((hs.length + 1 : Nat) : Int)⟩, ws ++ ((stamp, .segs false [.rowH pk (hs ++ [(r, n)])]) :: gone), true⟩
  | some _ => .fail
 | false => .fail

def appHdr (stamp : Nat) (te : TInfo) (old : Option (Nat × List (Nat × Nat))) (y : SV) (gone : List (Nat × SB)) (pre : List Prop) : RP Delta :=
 match y with
 | .ps pk r len => (match old with
  | none => appH stamp te pk [] r len.z.toNat [] gone pre
  | some (pk', hs) => (match Nat.beq pk pk' with | true => appH stamp te pk hs r len.z.toNat [] gone pre | false => .fail))
 | .sl kf 0 1 ⟨true, .ofNat 0⟩ len => .get kf fun b => (match b with
  | some (.alias pk r) => (match old with
   | none => appH stamp te pk [] r len.z.toNat [] gone pre
   | some (pk', hs) => (match Nat.beq pk pk' with | true => appH stamp te pk hs r len.z.toNat [] gone pre | false => .fail))
  | some (.segs false [.rowI k l]) => (match old with
   | none => .get (stamp + 500000) fun c => (match c with
    | none => appH stamp te (stamp + 500000) [] 0 len.z.toNat [(stamp + 500000, .pool (.k k) [l]), (kf, .alias (stamp + 500000) 0)] gone pre
    | some _ => .fail)
   | some (pk, hs) => .get pk fun c => (match c with
    | some (.pool (.k k') ms) => (match keq k' k with
     | true => appH stamp te pk hs ms.length len.z.toNat [(pk, .pool (.k k) (ms ++ [l])), (kf, .alias pk ms.length)] gone pre
     | false => .fail)
    | _ => .fail))
  | _ => .fail)
 | _ => .fail

def onesN : List Seg → Option Nat
 | [] => some 0
 | .one _ :: r => (match onesN r with | some n => some (n + 1) | none => none)
 | _ => none

def appSOp (stamp : Nat) (te : TInfo) (s : SV) (kx : Nat) (k : IntKind) (d0 : RO) : RP Delta :=
 match s with
 | .sl key 0 1 ⟨true, .ofNat 0⟩ ⟨true, .ofNat n⟩ => .get kx fun b => (match b with
  | some .world => .get key fun c => (match c with
   | some (.segs false l) => (match onesN l with
    | some m => (match Nat.beq m n && Nat.blt 0 te.bytes && Nat.ble ((n + 1) * te.bytes) 1000000 with
     | true => .get stamp fun c => (match c with
      | none => .ret ⟨[], .sl stamp 0 1 ⟨true, 0⟩ ⟨true, litI (.ofNat (n + 1))⟩, [(stamp, .segs false (l ++ [.one (.ro kx (.ints k) d0)])), (key, .gone)], false⟩
      | some _ => .fail)
     | false => .fail)
    | none => .fail)
   | _ => .fail)
  | _ => .fail)
 | _ => .fail

def appendHOp (stamp : Nat) (te : TInfo) (s x : SV) : RP Delta :=
 match x with
 | .ro kx (.l (.ints k)) (.r [d0]) => appSOp stamp te s kx k d0
 | .sl kx 0 1 ⟨true, .ofNat 0⟩ ⟨true, .ofNat 1⟩ => .get kx fun b => (match b with
  | some (.segs _ [.one y]) => (match s with
   | .nsl => appHdr stamp te none y [] []
   | .sl key 0 1 ⟨true, .ofNat 0⟩ len => .get key fun c => (match c with
    | some (.segs false [.rowH pk hs]) => appHdr stamp te (some (pk, hs)) y [(key, .gone)] [len.z = (hs.length : Int)]
    | _ => .fail)
   | _ => .fail)
  | _ => .fail)
 | _ => .fail

def boxJoinW (stamp : Nat) (te : TInfo) (key kf kr : Nat) (m : List Int) (len : SI) (pre : List Prop) : RP Delta :=
 .get key fun b => (match b with
  | some (.segs false [.rowP pk n]) => .get pk fun c => (match c with
   | some (.pool (.b .u8 _) ms) => (match Nat.blt 0 te.bytes with
    | true => .get stamp fun c => (match c with
     | none => .ret ⟨[len.z = (n : Int), n = ms.length, (((n + 1 : Nat) : Int) * (te.bytes : Int)) ≤ 70368744177664] ++ pre, .sl stamp 0 1 ⟨true, 0⟩ ⟨false, ((n + 1 : Nat) : Int)⟩,
       (match Nat.beq kr kf with | true => [] | false => [(kr, .gone)]) ++ [(pk, .pool (.b .u8 none) (ms ++ [m])), (kf, .alias pk ms.length), (stamp, .segs false [.rowP pk (n + 1)]), (key, .gone)], true⟩
     | some _ => .fail)
    | false => .fail)
   | _ => .fail)
  | _ => .fail)
def boxJoin (stamp : Nat) (te : TInfo) (key kf : Nat) (l : List Seg) (len : SI) : RP Delta :=
 match l with
 | [.one .nsl] => boxJoinW stamp te key kf kf [] len []
 | [.one (.sl kr 0 1 ⟨true, .ofNat 0⟩ n)] => .get kr fun b => (match b with
  | some (.segs false [.rowI .u8 m]) => boxJoinW stamp te key kf kr m len [n.z = (m.length : Int)]
  | _ => .fail)
 | _ => .fail

def appendPOp (stamp : Nat) (te : TInfo) (s x : SV) : RP Delta :=
 match s, x with
 | .sl key 0 1 ⟨true, .ofNat 0⟩ len, .sl kx 0 1 ⟨true, .ofNat 0⟩ ⟨true, .ofNat 1⟩ => .get kx fun b => (match b with
  | some (.segs false [.one (.p kf 0)]) => .get kf fun c => (match c with
   | some (.segs false l) => (match flatSegs l with
    | some (ts, m) => .get key fun b => (match b with
     | some (.segs false [.rowP pk n]) => .get pk fun c => (match c with
      | some (.pool (.r ts') ms) => (match tysEq ts' ts && Nat.blt 0 te.bytes with
       | true => .get stamp fun c => (match c with
        | none => .ret ⟨[len.z = (n : Int), n = ms.length, (((n + 1 : Nat) : Int) * (te.bytes : Int)) ≤ 70368744177664], .sl stamp 0 1 ⟨true, 0⟩ ⟨false, ((n + 1 : Nat) : Int)⟩,
          [(pk, .pool (.r ts) (ms ++ [m])), (kf, .alias pk ms.length), (stamp, .segs false [.rowP pk (n + 1)]), (key, .gone)], true⟩
        | some _ => .fail)
       | false => .fail)
      | _ => .fail)
     | _ => .fail)
    | none => boxJoin stamp te key kf l len)
   | _ => .fail)
  | _ => .fail)
 | _, _ => .fail

def beginP (stamp key : Nat) (v : SV) : RP Delta :=
 .get key fun b => (match b with
  | some (.segs false [.one (.p kf 0)]) => .get kf fun c => (match c with
   | some (.segs false l) => (match flatSegs l with
    | some (ts, m) => .get (stamp + 500000) fun c => (match c with
     | none => .ret ⟨[], .sl key 0 1 ⟨true, 0⟩ ⟨false, 1⟩, [(stamp + 500000, .pool (.r ts) [m]), (kf, .alias (stamp + 500000) 0), (key, .segs false [.rowP (stamp + 500000) 1])], false⟩
     | some _ => .fail)
    | none => (match l with
     | [.one .nsl] => .get (stamp + 500000) fun c => (match c with
      | none => .ret ⟨[], .sl key 0 1 ⟨true, 0⟩ ⟨false, 1⟩, [(stamp + 500000, .pool (.b .u8 none) [[]]), (kf, .alias (stamp + 500000) 0), (key, .segs false [.rowP (stamp + 500000) 1])], false⟩
      | some _ => .fail)
     | _ => ret v))
   | _ => ret v)
  | _ => ret v)

def assignOp (stamp : Nat) (v : SV) : RP Delta :=
 match v with
 | .sl key 0 1 ⟨true, .ofNat 0⟩ ⟨true, .ofNat 1⟩ => beginP stamp key v
 | _ => ret v

def ptrElem (ty : List (Nat × TInfo)) (t : TInfo) : Bool :=
 match t.ty, assoc ty t.elem with
 | .slice, some te => (match te.ty with | .ptr => true | _ => false)
 | _, _ => false

def appDat (stamp : Nat) (te : TInfo) (F : Nat) (fs : List Sh) (ds : List RO) (l : List Seg) (gone : List (Nat × SB)) (pre : List Prop) : RP Delta :=
 match datWs F fs l, Nat.blt 0 te.bytes && Nat.beq te.ty.size (shSizes fs) && Nat.blt 0 (shSizes fs) with
 | some xs, true => .get stamp fun b => (match b with
  | none => .ret ⟨((((ds.length + 1 : Nat) : Int) * (te.bytes : Int)) ≤ 70368744177664) :: pre, .sl stamp 0 (shSizes fs) ⟨true, 0⟩ ⟨false, ((ds.length + 1 : Nat) : Int)⟩, (stamp, .segs false [.rowD F (.r fs) (ds ++ [.r xs])]) :: gone, true⟩
  | some _ => .fail)
 | _, _ => .fail

def appendDOp (stamp : Nat) (te : TInfo) (s x : SV) : RP Delta :=
 match x with
 | .sl kx 0 est ⟨true, .ofNat 0⟩ ⟨true, .ofNat 1⟩ => .get kx fun b => (match b with
  | some (.segs false l) => (match Nat.beq est te.ty.size with
   | true => (match s with
    | .nsl => (match datK l, datSh l with
     | some F, some fs => .get F fun c => (match c with
      | some .world => appDat stamp te F fs [] l [] []
      | some (.pool .z _) => appDat stamp te F fs [] l [] []
      | _ => .fail)
     | _, _ => .fail)
    | .sl key 0 est' ⟨true, .ofNat 0⟩ len => .get key fun c => (match c with
     | some (.segs false [.rowD F (.r fs) ds]) => (match Nat.beq est est' with
      | true => appDat stamp te F fs ds l [(key, .gone)] [len.z = (ds.length : Int)]
      | false => .fail)
     | _ => .fail)
    | _ => .fail)
   | false => .fail)
  | _ => .fail)
 | _ => .fail

def recElem (ty : List (Nat × TInfo)) (t : TInfo) : Bool :=
 match t.ty, assoc ty t.elem with
 | .slice, some te => (match te.ty with | .struct _ => true | _ => false)
 | _, _ => false

def appendOp (ty : List (Nat × TInfo)) (stamp : Nat) (t t2 : TInfo) (s x : SV) : RP Delta :=
 match t.ty, assoc ty t.elem, isSeq t2.ty with
 | .slice, some te, true => (match s with
  | .nsl => (match emptyCon te.ty with
   | some old => withCon x fun p q => appendTo stamp te old q [] p
   | none => .fail)
  | .sl key 0 est ⟨true, .ofNat 0⟩ len => .get key fun b => match b with
   | some (.segs false [g]) => (match rowCon g with
    | some old => (match Nat.beq est (conSize old) with
     | true => withCon x fun p q => appendTo stamp te old q [(key, .gone)] ((len.z = ((conLen old : Nat) : Int)) :: p)
     | false => .fail)
    | none => .fail)
   | _ => .fail
  | _ => .fail)
 | _, _, _ => .fail

def makeOp (ty : List (Nat × TInfo)) (stamp : Nat) (t : TInfo) (n m : SV) : RP Delta :=
 match t.ty, assoc ty t.elem, n, m with
 | .slice, some te, .i .i64 a, .i .i64 c => (match te.ty with
  | .int k => fresh stamp [.rowI k (List.replicate a.z.toNat 0)] (.sl stamp 0 1 ⟨true, 0⟩ a) [0 ≤ a.z ∧ a.z ≤ c.z ∧ c.z * te.bytes ≤ 70368744177664] true
  | .arr n (.int k) => fresh stamp [.rowA k n (List.replicate a.z.toNat (List.replicate n 0))] (.sl stamp 0 n ⟨true, 0⟩ a) [0 ≤ a.z ∧ a.z ≤ c.z ∧ c.z * te.bytes ≤ 70368744177664] true
  | _ => .fail)
 | _, _, _, _ => .fail

def splice {α : Type} (l : List α) (j : Nat) (y : List α) : List α := l.take j ++ y ++ l.drop (j + y.length)

def intElem (ty : List (Nat × TInfo)) (t : TInfo) : Bool :=
 match t.ty, assoc ty t.elem with
 | .slice, some te => (match te.ty with | .int _ => true | _ => false)
 | _, _ => false

def laySeg (g : Seg) (k : IntKind) (off : Int) (n : Int) (z : List Int) : Option (Prop × Seg) :=
 match g with
 | .arr k' m _ y => (match keq k' k with | true => some (off + n ≤ (m : Int), .arr k' m false (splice y off.toNat z)) | false => none)
 | .rowI k' y => (match keq k' k with | true => some (off + n ≤ (y.length : Int), .rowI k' (splice y off.toNat z)) | false => none)
 | _ => none

def copyOp (ty : List (Nat × TInfo)) (t : TInfo) (d x : SV) : RP Delta :=
 match d, intElem ty t with
 | .sl key c est off len, true => withCon x fun p q => .get key fun b => match b with
  | some (.segs false l) => (match segAt l c, q, Nat.beq est 1 with
   | some (g, 0), .ints k z, true => (match laySeg g k off.z len.z (z.take len.z.toNat) with
    | some (p', g') => (match segSet l c g' with
     | some l' => .ret ⟨p' :: p, .i .i64 ⟨false, min (z.length : Int) len.z⟩, [(key, .segs false l')], true⟩
     | none => .fail)
    | none => .fail)
   | _, _, _ => .fail)
  | _ => .fail
 | _, _ => .fail

def clearOp (ty : List (Nat × TInfo)) (t : TInfo) (d : SV) : RP Delta :=
 match d, t.ty, assoc ty t.elem with
 | .sl key c est off len, .slice, some te => .get key fun b => match b with
  | some (.segs false l) => (match segAt l c, te.ty, Nat.beq est 1 with
   | some (g, 0), .int k, true => (match laySeg g k off.z len.z (List.replicate len.z.toNat 0) with
    | some (p', g') => (match segSet l c g' with
     | some l' => .ret ⟨[p'], .any, [(key, .segs false l')], true⟩
     | none => .fail)
    | none => .fail)
   | _, _, _ => .fail)
  | _ => .fail
 | _, _, _ => .fail

def isBytes (ty : List (Nat × TInfo)) (t : TInfo) : Bool :=
 match assoc ty t.elem with
 | some te => (match te.ty with | .int .u8 => true | _ => false)
 | none => false

def convertOp (ty : List (Nat × TInfo)) (stamp : Nat) (ts td : TInfo) (x : SV) : RP Delta :=
 match ts.ty, td.ty, x with
 | .int _, .int k, .i k' a => (match keq k k' with
  | true => ret (.i k a)
  | false => (match a.st with
   | true => (match numOp.InRb k a.z with | true => ret (.i k a) | false => retg [] (.i k ⟨false, k.wrap a.z⟩))
   | false => retg [] (.i k ⟨false, k.wrap a.z⟩)))
 | .str, .str, .s v => ret (.s v)
 | .str, .slice, .s v => (match isBytes ty td with
  | true => fresh stamp [.rowI .u8 (bytesI v)] (.sl stamp 0 1 ⟨true, 0⟩ ⟨false, (v.size : Int)⟩) [] true
  | false => .fail)
 | .slice, .str, .nsl => (match isBytes ty ts with | true => ret (.s ByteArray.empty) | false => .fail)
 | .slice, .str, .sl key c est off len => (match isBytes ty ts with
  | true => withCon (.sl key c est off len) fun p q => (match q with
   | .ints .u8 l => .ret ⟨p, .s (ofBytesI l), [], false⟩
   | _ => .fail)
  | false => .fail)
 | .slice, .str, .ps key r len => (match isBytes ty ts with
  | true => withCon (.ps key r len) fun p q => (match q with
   | .ints .u8 l => .ret ⟨p, .s (ofBytesI l), [], false⟩
   | _ => .fail)
  | false => .fail)
 | .slice, .str, .ro key sh d => (match isBytes ty ts with
  | true => withCon (.ro key sh d) fun p q => (match q with
   | .ints .u8 l => .ret ⟨p, .s (ofBytesI l), [], false⟩
   | _ => .fail)
  | false => .fail)
 | _, _, _ => .fail

def isSl : Ty → Bool
 | .slice => true
 | _ => false

def litOp (ty : List (Nat × TInfo)) (t : TInfo) (x : SV) : RP Delta :=
 match x with
 | .sl key 0 1 ⟨true, .ofNat 0⟩ len => (match isBytes ty t, arithPre .quo len with
  | true, some p => .get key fun b => (match b with
   | some (.segs false l) => .ret ⟨p, .sl key 0 1 ⟨true, .ofNat 0⟩ len, [(key, .segs false l)], false⟩
   | _ => .fail)
  | _, _ => .fail)
 | _ => .fail

def fillI (k : IntKind) : List (Nat × SV) → List Int → Option (List Int)
 | [], l => some l
 | (i, .i k' a) :: r, l => (match keq k k', setn l i a.z with | true, some l' => fillI k r l' | _, _ => none)
 | _, _ => none

mutual
def ofTy : Ty → SV → Bool
 | .arr n (.int k), .arr k' m _ _ => keq k k' && Nat.beq n m
 | .struct fs, .agg xs => ofTys fs xs
 | .int k, .vi k' => keq k k'
 | t, x => fits t x
def ofTys : List Ty → List SV → Bool
 | [], [] => true
 | t :: ts, x :: xs => ofTy t x && ofTys ts xs
 | _, _ => false
end

def fillS (fs : List Ty) : List (Nat × SV) → List SV → Option (List SV)
 | [], l => some l
 | (i, x) :: r, l => (match nth fs i, setn l i x with
  | some t, some l' => (match ofTy t x with | true => fillS fs r l' | false => none)
  | _, _ => none)

def fieldOp (t : TInfo) (x : SV) (f : Nat) : RP Delta :=
 match x, t.ty with
 | .agg xs, .struct fs => (match ofTys fs xs, nth xs f with | true, some v => ret v | _, _ => .fail)
 | _, _ => .fail

def buildOp (t : TInfo) (parts : List (Nat × SV)) : RP Delta :=
 match t.ty with
 | .arr n (.int k) => (match Nat.ble n 64 with
  | true => (match fillI k parts (reps 0 n) with | some l => ret (.arr k n true l) | none => .fail)
  | false => .fail)
 | .struct fs => (match fillS fs parts (zeros fs), ofTys fs (zeros fs) with
  | some l, true => ret (.agg l)
  | _, _ => .fail)
 | _ => .fail

def partsI (k : IntKind) : (i : Nat) → List (Nat × SV) → Option (List Int)
 | _, [] => some []
 | i, (j, .i k' a) :: r => (match Nat.beq i j && keq k k', partsI k (i + 1) r with | true, some l => some (a.z :: l) | _, _ => none)
 | _, _ => none

def partsA (k : IntKind) (n : Nat) : (i : Nat) → List (Nat × SV) → Option (List (List Int))
 | _, [] => some []
 | i, (j, .arr k' m _ l) :: r => (match Nat.beq i j && keq k k' && Nat.beq n m, partsA k n (i + 1) r with | true, some q => some (l :: q) | _, _ => none)
 | _, _ => none

def partsS (t : Ty) : (i : Nat) → List (Nat × SV) → Option (List Seg)
 | _, [] => some []
 | i, (j, x) :: r => (match Nat.beq i j && fits t x, partsS t (i + 1) r with | true, some q => some (.one x :: q) | _, _ => none)

def buildSliceOp (ty : List (Nat × TInfo)) (stamp : Nat) (t : TInfo) (n : Nat) (parts : List (Nat × SV)) : RP Delta :=
 match t.ty, assoc ty t.elem, Nat.beq parts.length n && Nat.ble n 1000 with
 | .slice, some te, true => (match te.ty with
  | .int k => (match partsI k 0 parts with
   | some l => fresh stamp [.rowI k l] (.sl stamp 0 1 ⟨true, 0⟩ ⟨true, n⟩) [] false
   | none => .fail)
  | .arr m (.int k) => (match partsA k m 0 parts, Nat.blt 0 m && Nat.ble m 1000 with
   | some l, true => fresh stamp [.rowA k m l] (.sl stamp 0 m ⟨true, 0⟩ ⟨true, n⟩) [] false
   | _, _ => .fail)
  | .struct fs => (match parts with
   | [(0, .agg xs)] => (match segsOf (.agg xs), ofTys fs xs && Nat.blt 0 (Ty.sizes fs) && Nat.ble (Ty.sizes fs) 1000 && Nat.beq n 1 with
    | some l, true => fresh stamp l (.sl stamp 0 (Ty.sizes fs) ⟨true, 0⟩ ⟨true, 1⟩) [] false
    | _, _ => .fail)
   | _ => .fail)
  | e => (match partsS e 0 parts, Nat.beq e.size 1 with
   | some l, true => fresh stamp l (.sl stamp 0 1 ⟨true, 0⟩ ⟨true, n⟩) [] false
   | _, _ => .fail))
 | _, _, _ => .fail

def constSV : Value → SV
 | .int k n => (match numOp.InRb k n with | true => .i k ⟨true, n⟩ | false => .val (.int k n))
 | .bool v => .b true v
 | .string s => (match Nat.ble s.size 1000000 with | true => .s s | false => .val (.string s))
 | .pointer none => .np
 | .slice none 0 0 => .nsl
 | v => .val v

def evalS (gl : List Nat) (tmps : List SV) : Operand → SV
 | .tmp t => tget tmps t
 | .const v => constSV v
 | .global g => (match memN g gl with | true => .p g 0 | false => .any)
 | .func f => .fn f

def estOk (ty : List (Nat × TInfo)) (t : TInfo) (x : SV) : Bool :=
 match x, t.ty with
 | .sl _ _ est _ _, .slice => (match assoc ty t.elem with | some te => Nat.beq te.ty.size est | none => false)
 | .ro _ sh _, .slice => (match assoc ty t.elem with | some te => Nat.beq te.ty.size (shEl sh) | none => false)
 | _, .slice => (match assoc ty t.elem with | some _ => true | none => false)
 | _, _ => true

def arrPtrOp (t : TInfo) (x : SV) : RP Delta :=
 match x, t.ty with
 | .sl key c est off len, .arr n e => (match Nat.beq e.size est && Nat.blt 0 n, ptrAt key c est off with
  | true, some v => .ret ⟨[(n : Int) ≤ len.z], v, [], false⟩
  | _, _ => .fail)
 | .ro key (.ints k) d, .arr n (.int k') => (match keq k k' && Nat.blt 0 n with
  | true => .get key fun b => (match b with
   | some .world => .ret ⟨[(n : Int) ≤ ((roL d).length : Int)], .rop key (.l (.arr n k)) (.r [.l ((roL d).take n)]) 0 0, [], false⟩
   | _ => .fail)
  | false => .fail)
 | _, _ => .fail

def hdrElem (ty : List (Nat × TInfo)) (t : TInfo) : Bool :=
 match t.ty, assoc ty t.elem with
 | .slice, some te => isSl te.ty
 | _, _ => false
def teOf (ty : List (Nat × TInfo)) (t : TInfo) : TInfo :=
 match assoc ty t.elem with
 | some te => te
 | none => { ty := .bool }

def builtinOp (ty : List (Nat × TInfo)) (stamp : Nat) (b : Builtin) (ts : List TypeId) (xs : List SV) : RP Delta :=
 match b, ts, xs with
 | .len, [t], [x] => (match assoc ty t with | some t => lenOp t x | none => .fail)
 | .append, [t, t2], [s, x] => (match assoc ty t, assoc ty t2 with
  | some t, some t2 => (match hdrElem ty t && isSl t2.ty with | true => appendHOp stamp (teOf ty t) s x | false => (match isMore s with
   | some (key, r, jk, len) => appendMOp ty stamp t t2 key r jk len x
   | none => (match keepOf s with
    | some (key, est, jk, len) => appendKOp ty stamp t t2 key est jk len x
    | none => (match ptrElem ty t && isSl t2.ty with
     | true => appendPOp stamp (teOf ty t) s x
     | false => (match recElem ty t && isSl t2.ty with | true => appendDOp stamp (teOf ty t) s x | false => appendOp ty stamp t t2 s x)))))
  | _, _ => .fail)
 | .copy, [t, _], [d, x] => (match assoc ty t with | some t => copyOp ty t d x | none => .fail)
 | .clear, [t], [d] => (match assoc ty t with | some t => clearOp ty t d | none => .fail)
 | _, _, _ => .fail

def sop (Γ : Tab) (stamp : Nat) (op : Op) (type : TypeId) (ev : Operand → SV) : RP Delta :=
 match op with
 | .move x => ret (ev x)
 | .assign x => assignOp stamp (ev x)
 | .pick c a b => (match ev c, ev a, ev b with
  | .b true v, x, y => (match v with | true => ret x | false => ret y)
  | .b false v, .b _ x, .b _ y => ret (.b false (if v then x else y))
  | _, _, _ => .fail)
 | .alloc e => (match assoc Γ.ty e with | some t => boxOp stamp (zero t.ty) | none => .fail)
 | .box e x => boxOp stamp (ev x)
 | .build t parts => (match assoc Γ.ty t with | some t => buildOp t (parts.toList.map fun (i, x) => (i, ev x)) | none => .fail)
 | .buildSlice t n parts => (match assoc Γ.ty t with | some t => buildSliceOp Γ.ty stamp t n (parts.toList.map fun (i, x) => (i, ev x)) | none => .fail)
 | .load t a => (match assoc Γ.ty t with | some t => boxLoad stamp t (ev a) | none => .fail)
 | .store t a x => (match assoc Γ.ty t with | some t => (match ofTy t.ty (ev x) with | true => storeOp (ev a) (ev x) | false => .fail) | none => .fail)
 | .nilCheck x => (match ev x with
  | .p k c => ret (.p k c)
  | .pq k r z => ret (.pq k r z)
  | .ifc (some s) t k => (match assoc Γ.ty t with | some ti => (match mlook ti.mth s with | some _ => ret (.ifc (some s) t k) | none => .fail) | none => .fail)
  | _ => .fail)
 | .makeInterface t x => (match assoc Γ.ty t, ev x with
  | some ti, .p k 0 => (match ti.ty with | .ptr => ret (.ifc none t k) | _ => .fail)
  | _, _ => .fail)
 | .makeFunc (.method s) first captured => (match first.toList.map ev, captured.toList with
  | [.ifc none t k], [] => ret (.ifc (some s) t k)
  | _, _ => .fail)
 | .binOp op t x y _ => binop Γ.ty op t (ev x) (ev y)
 | .unOp op _ x => unop op (ev x)
 | .convert s d x => (match assoc Γ.ty s, assoc Γ.ty d with | some s', some d' => (match Nat.beq s d && isSl s'.ty with | true => litOp Γ.ty s' (ev x) | false => convertOp Γ.ty stamp s' d' (ev x)) | _, _ => .fail)
 | .sliceToArrayPointer t x => (match assoc Γ.ty t with | some t => arrPtrOp t (ev x) | none => .fail)
 | .makeSlice t n m => (match assoc Γ.ty t with | some t => makeOp Γ.ty stamp t (ev n) (ev m) | none => .fail)
 | .slice t x lo hi none => (match assoc Γ.ty t with
  | some t => (match estOk Γ.ty t (ev x) with | true => sliceOp t (ev x) (lo.map ev) (hi.map ev) | false => .fail)
  | none => .fail)
 | .slice t x lo (some hi) (some mx) => (match assoc Γ.ty t with
  | some t => (match estOk Γ.ty t (ev x) with | true => sliceOp3 t (ev x) (lo.map ev) (ev hi) (ev mx) | false => .fail)
  | none => .fail)
 | .fieldAddr t x f => (match assoc Γ.ty t with | some t => fieldAddrOp t (ev x) f | none => .fail)
 | .field t x f => (match assoc Γ.ty t with | some t => fieldOp t (ev x) f | none => .fail)
 | .indexAddr t x i => (match assoc Γ.ty t with | some t => indexAddrOp Γ.ty t (ev x) (ev i) | none => .fail)
 | .index t x i => (match assoc Γ.ty t with | some t => indexOp t (ev x) (ev i) | none => .fail)
 | .extract x n => (match ev x with | .tup xs => (match nth xs n with | some v => ret v | none => .fail) | _ => .fail)
 | .call c => (match c.callee, c.args.toList.map ev with
  | .value f, xs => (match ev f with | .fn f => (match assoc Γ.ctr f with | some g => g stamp xs | none => .fail) | _ => .fail)
  | .builtin b, xs => builtinOp Γ.ty stamp b c.argTypes.toList xs
  | .invoke r name, xs => (match ev r with
   | .ifc none t k => (match assoc Γ.ty t with
    | some ti => (match mlook ti.mth name with
     | some f => (match assoc Γ.ctr f with | some g => g stamp (.p k 0 :: xs) | none => .fail)
     | none => .fail)
    | none => .fail)
   | _ => .fail))
 | _ => .fail

/-! ### Conditions -/

def Need (p : Prop) : Prop := p

def preK : List Prop → Prop → Prop
 | [], K => K
 | p :: r, K => Need p ∧ preK r K

def genL (k : IntKind) : List Int → (List Int → Prop) → Prop
 | [], K => K []
 | z :: r, K => ∀ x : Int, x = z → InR k x → genL k r fun r' => K (x :: r')

mutual
def genV : SV → (SV → Prop) → Prop
 | .i k a, K => (match a.st with
  | true => K (.i k a)
  | false => ∀ x : Int, x = a.z → InR k x → K (.i k ⟨false, x⟩))
 | .b false v, K => ∀ x : Bool, x = v → K (.b false x)
 | .arr k n true l, K => genL k l fun l' => K (.arr k n true l')
 | .arr k n false l, K => ∀ x : List Int, x = l → x.length = n → AllR k x → K (.arr k n false x)
 | .sl key c est off len, K => (match len.st with
  | true => K (.sl key c est off len)
  | false => ∀ x : Int, x = len.z → 0 ≤ x → InR .i64 x → K (.sl key c est off ⟨false, x⟩))
 | .mr key r jk len, K => (match len.st with
  | true => K (.mr key r jk len)
  | false => ∀ x : Int, x = len.z → 0 ≤ x → InR .i64 x → K (.mr key r jk ⟨false, x⟩))
 | .kr key r jk len, K => (match len.st with
  | true => K (.kr key r jk len)
  | false => ∀ x : Int, x = len.z → 0 ≤ x → InR .i64 x → K (.kr key r jk ⟨false, x⟩))
 | .vr key r len, K => (match len.st with
  | true => K (.vr key r len)
  | false => ∀ x : Int, x = len.z → 0 ≤ x → InR .i64 x → K (.vr key r ⟨false, x⟩))
 | .ps key r len, K => (match len.st with
  | true => K (.ps key r len)
  | false => ∀ x : Int, x = len.z → 0 ≤ x → InR .i64 x → K (.ps key r ⟨false, x⟩))
 | .agg xs, K => genVs xs fun ys => K (.agg ys)
 | .tup xs, K => genVs xs fun ys => K (.tup ys)
 | v, K => K v
def genVs : List SV → (List SV → Prop) → Prop
 | [], K => K []
 | x :: r, K => genV x fun y => genVs r fun ys => K (y :: ys)
end

def genSeg : Seg → (Seg → Prop) → Prop
 | .one (.i k a), K => (match a.st with
  | true => K (.one (.i k a))
  | false => ∀ x : Int, x = a.z → InR k x → K (.one (.i k ⟨false, x⟩)))
 | .arr k n true l, K => genL k l fun l' => K (.arr k n true l')
 | .arr k n false l, K => ∀ x : List Int, x = l → x.length = n → AllR k x → K (.arr k n false x)
 | .rowI k l, K => ∀ x : List Int, x = l → AllR k x → K (.rowI k x)
 | .rowA k n l, K => ∀ x : List (List Int), x = l → AllA k n x → K (.rowA k n x)
 | g, K => K g

def genSegs : List Seg → (List Seg → Prop) → Prop
 | [], K => K []
 | g :: r, K => genSeg g fun g' => genSegs r fun r' => K (g' :: r')

def genWs : List (Nat × SB) → (List (Nat × SB) → Prop) → Prop
 | [], K => K []
 | (k, .segs ro l) :: r, K => genSegs l fun l' => genWs r fun r' => K ((k, .segs ro l') :: r')
 | (k, .world) :: r, K => genWs r fun r' => K ((k, .world) :: r')
 | (k, .gone) :: r, K => genWs r fun r' => K ((k, .gone) :: r')
 | (k, .pool kd ms) :: r, K => ∀ x : List (List Int), x = ms → genWs r fun r' => K ((k, .pool kd x) :: r')
 | (k, .alias a i) :: r, K => genWs r fun r' => K ((k, .alias a i) :: r')
 | (k, .boxv a) :: r, K => genWs r fun r' => K ((k, .boxv a) :: r')

def keysOf : List (Nat × SB) → List Nat
 | [] => []
 | (k, _) :: r => k :: keysOf r

def nodupN : List Nat → Bool
 | [] => true
 | x :: r => match memN x r with | true => false | false => nodupN r

def deltaK (d : Delta) (K : SV → List (Nat × SB) → Prop) : Prop :=
 match d with
 | ⟨pre, v, ws, gen⟩ => preK pre (match gen with
  | true => (match nodupN (keysOf ws) with
   | true => genWs ws fun ws' => genV v fun v' => K v' ws'
   | false => False)
  | false => K v ws)

def hsets : List (Nat × SB) → Heap → Option Heap
 | [], h => some h
 | (k, b) :: r, h => match hset h k b with | some h' => hsets r h' | none => none

def dstSet (l : List SV) (d : Option Nat) (v : SV) : Option (List SV) :=
 match d with
 | none => some l
 | some t => setn l t v

def gsrc : List Oper → List Nat
 | [] => []
 | o :: r => match o.guard with
  | some (j, _) => (match memN j (gsrc r) with | true => gsrc r | false => j :: gsrc r)
  | none => gsrc r

def wantS (all : List Oper) (o : Oper) (tmps : List SV) : Option Bool :=
 match o.guard with
 | none => some true
 | some (j, want) => match nth all j with
  | some oj => (match oj.dst with
   | some t => (match tget tmps t with
    | .b true v => (match v, want with | true, true => some true | false, false => some true | _, _ => some false)
    | .val (.bool _) => none
    | .val _ => some false
    | _ => none)
   | none => none)
  | none => none

def splitK (g : Bool) (v : SV) (K : SV → Prop) : Prop :=
 match g with
 | false => K v
 | true => match v with
  | .b false b => (b = true → K (.b true true)) ∧ (b = false → K (.b true false))
  | v => K v

abbrev Foot := List Nat × List Nat

def opsK (Γ : Tab) (all : List Oper) (gs : List Nat) : List Oper → (i stamp : Nat) → List Foot → List SV → Heap → (List Foot → List SV → Heap → Prop) → Prop
 | [], _, _, fs, tmps, h, K => K fs tmps h
 | o :: r, i, stamp, fs, tmps, h, K => match wantS all o tmps with
  | none => False
  | some false => (match dstSet tmps o.dst (.val undef) with
   | some tmps' => opsK Γ all gs r (i + 1) (stamp + 1) (([], []) :: fs) tmps' h K
   | none => False)
  | some true => match (sop Γ stamp o.op o.type (evalS Γ.gl tmps)).run (assoc h) [] with
   | some (d, rs) => deltaK d fun v ws => match hsets ws h with
    | some h' => splitK (memN i gs) v fun v => match dstSet tmps o.dst v with
     | some tmps' => opsK Γ all gs r (i + 1) (stamp + 1) ((rs, keysOf ws) :: fs) tmps' h' K
     | none => False
    | none => False
   | none => False

end Go.Gx

/- The symbolic evaluator: regions in every order, code, functions. Definitions alone. -/
namespace Go.Gx
set_option linter.unusedVariables false

def maskOf (acc : List Nat) : List Edge → Nat → Nat
 | [], s => s
 | e :: r, s => match Region.binds .any e with
  | true => maskOf acc r (s ||| 2 ^ e.on ||| acc.getD e.on 0)
  | false => maskOf acc r s

def masks : List Oper → List Nat → List Nat
 | [], acc => acc
 | o :: r, acc => masks r (acc ++ [maskOf acc o.after.toList 0])

def tmpsIn : List Operand → List Nat
 | [] => []
 | .tmp t :: r => t :: tmpsIn r
 | _ :: r => tmpsIn r

def disj : List Nat → List Nat → Bool
 | [], _ => true
 | x :: r, l => !memN x l && disj r l

def looks (all : List Oper) (o : Oper) : List Nat :=
 (match o.guard with
  | some (j, _) => (match nth all j with | some oj => oj.dst.toList | none => [])
  | none => []) ++ tmpsIn o.op.operands.toList

def apart2 (all : List Oper) (o : Oper) (fo : Foot) (o' : Oper) (fo' : Foot) : Bool :=
 disj o.dst.toList (o'.dst.toList ++ looks all o') && disj o'.dst.toList (looks all o) &&
 disj fo.2 (fo'.1 ++ fo'.2) && disj fo'.2 fo.1

def apartAll (all : List Oper) (o : Oper) (fo : Foot) (mask : Nat) : (j : Nat) → List Oper → List Foot → Bool
 | _, [], _ => true
 | j, o' :: r, fo' :: fr => (Nat.testBit mask j || apart2 all o' fo' o fo) && apartAll all o fo mask (j + 1) r fr
 | _, _, [] => false

def drawOk (all : List Oper) : (i : Nat) → List Oper → List Nat → List Foot → List Foot → Bool
 | _, [], _, _, _ => true
 | i, o :: r, m :: ms, fs, fo :: fr => apartAll all o fo m 0 (all.take i) fs && drawOk all (i + 1) r ms (fs ++ [fo]) fr
 | _, _, _, _, _ => false

def forceN (n : Nat) (K : Nat → Prop) : Prop :=
 match n with
 | 0 => K 0
 | m + 1 => K (m + 1)

def edgeBack (i : Nat) : List Edge → Bool
 | [] => true
 | e :: r => match Region.binds .any e with
  | true => Nat.blt e.on i && edgeBack i r
  | false => edgeBack i r

def edgesOk : (i : Nat) → List Oper → Bool
 | _, [] => true
 | i, o :: r => edgeBack i o.after.toList && edgesOk (i + 1) r

def regionK (Γ : Tab) (ops : List Oper) (draw : Bool) (σ : St) (K : St → Prop) : Prop :=
 opsK Γ ops (gsrc ops) ops 0 σ.ctr [] σ.tmps σ.heap fun fs tmps h => forceN (σ.ctr + ops.length) fun c => match draw with
  | false => K ⟨tmps, h, c⟩
  | true => match edgesOk 0 ops && drawOk ops 0 ops (masks ops []) [] fs.reverse with
   | true => K ⟨tmps, h, c⟩
   | false => False

def firstRegion : Code → Nat
 | .region id _ _ => id
 | .seq a _ => firstRegion a
 | .block _ c => firstRegion c
 | .loop c => firstRegion c
 | .scope c => firstRegion c
 | _ => 1000000

def resultsK (Γ : Tab) (σ : St) : List ResultVar → (List SV → Prop) → Prop
 | [], K => K []
 | .tmp t :: r, K => resultsK Γ σ r fun xs => K (tget σ.tmps t :: xs)
 | .cell a t :: r, K => match assoc Γ.ty t with
  | some t => (match (loadOp t (tget σ.tmps a)).run (assoc σ.heap) [] with
   | some (d, _) => preK d.pre (resultsK Γ σ r fun xs => K (d.v :: xs))
   | none => False)
  | none => False

def retK (Γ : Tab) (rs : List ResultVar) (σ : St) (K : SV → Heap → Prop) : Prop :=
 resultsK Γ σ rs fun xs => match xs with
  | [x] => K x σ.heap
  | xs => K (.tup xs) σ.heap

def run (Γ : Tab) (rs : List ResultVar) (stops : List Nat) : (fuel : Nat) → List Item → St → (SV → Heap → Prop) → (Nat → List Item → St → Prop) → Prop
 | 0, _, _, _, _ => False
 | n + 1, items, σ, K, I => match items with
  | [] => retK Γ rs σ K
  | .code c :: k => (match c with
   | .ret => retK Γ rs σ K
   | .skip => run Γ rs stops n k σ K I
   | .label _ => run Γ rs stops n k σ K I
   | .seq a b => run Γ rs stops n (.code a :: .code b :: k) σ K I
   | .cond c a b => (match evalS Γ.gl σ.tmps c with
    | .b true v => (match v with | true => run Γ rs stops n (.code a :: k) σ K I | false => run Γ rs stops n (.code b :: k) σ K I)
    | .b false v => (v = true → run Γ rs stops n (.code a :: k) σ K I) ∧ (v = false → run Γ rs stops n (.code b :: k) σ K I)
    | _ => False)
   | .block id c => run Γ rs stops n (.code c :: .inBlock id :: k) σ K I
   | .scope c => run Γ rs stops n (.code c :: .inScope c :: k) σ K I
   | .loop c => (match memN (firstRegion c) stops with
    | true => I (firstRegion c) (.code c :: .inLoop c :: k) σ
    | false => run Γ rs stops n (.code c :: .inLoop c :: k) σ K I)
   | .exit id => (match exitTo id k with | some k' => run Γ rs stops n k' σ K I | none => False)
   | .region _ ops draw => regionK Γ ops.toList draw σ fun σ' => run Γ rs stops n k σ' K I
   | _ => False)
  | .inBlock _ :: k => run Γ rs stops n k σ K I
  | .inScope _ :: k => run Γ rs stops n k σ K I
  | .inLoop c :: k => (match memN (firstRegion c) stops with
    | true => I (firstRegion c) (.code c :: .inLoop c :: k) σ
    | false => run Γ rs stops n (.code c :: .inLoop c :: k) σ K I)
  | _ => False

def tmps0 (args : List SV) (n : Nat) : List SV := args ++ reps .any (n - args.length)

def findLoop (key : Nat) : Code → List Item → Option (List Item)
 | .seq a b, k => (match findLoop key a (.code b :: k) with | some r => some r | none => findLoop key b k)
 | .cond _ a b, k => (match findLoop key a k with | some r => some r | none => findLoop key b k)
 | .block id c, k => findLoop key c (.inBlock id :: k)
 | .scope c, k => findLoop key c (.inScope c :: k)
 | .loop c, k => (match Nat.beq (firstRegion c) key with | true => some (.code c :: .inLoop c :: k) | false => findLoop key c (.inLoop c :: k))
 | _, _ => none

def itemsOf (fn : Func) (key : Nat) : List Item :=
 match fn.body with
 | some c => (match findLoop key c [] with | some k => k | none => [])
 | none => []

def Same (fn : Func) (key : Nat) (items : List Item) : Prop := items = itemsOf fn key

def handI (fn : Func) (I : Nat → St → Prop) : Nat → List Item → St → Prop := fun key items σ => Same fn key items ∧ I key σ

def runFn (Γ : Tab) (fn : Func) (stops : List Nat) (args : List SV) (h : Heap) (K : SV → Heap → Prop) (I : Nat → St → Prop) : Prop :=
 match fn.body with
 | some c => run Γ fn.results.toList stops 100000 [.code c] ⟨tmps0 args fn.ntmps, h, 1000⟩ K (handI fn I)
 | none => False

def runLoop (Γ : Tab) (fn : Func) (stops : List Nat) (key : Nat) (σ : St) (K : SV → Heap → Prop) (I : Nat → St → Prop) : Prop :=
 run Γ fn.results.toList stops 100000 (itemsOf fn key) σ K (handI fn I)

end Go.Gx

/- What symbolic values and blocks stand for; how it is kept while memory grows and is written. -/
namespace Go.Gx
open Go.RowKit
set_option linter.unusedVariables false

structure Pl where
 blk : Nat
 off : Nat
 cap : Nat
 rel : Sh → RO → Value → Prop := fun _ _ _ => False
 pn : Nat := 0
 pb : Nat → Nat := fun _ => 0
 po : Nat → Nat := fun _ => 0
 pc : Nat → Nat := fun _ => 0
 hb : Nat → Nat := fun _ => 0
 ho : Nat → Nat := fun _ => 0
 wv : Option World := none

mutual
def RoF : Sh → RO → Prop
 | .i k, d => InR k (roZ d)
 | .tb, _ => True
 | .ts, d => ((roS d).size : Int) < 9223372036854775808
 | .arr n k, d => (roL d).length = n ∧ AllR k (roL d)
 | .r fs, d => RoFs fs d 0
 | .ints k, d => AllR k (roL d) ∧ ((roL d).length : Int) < 9223372036854775808
 | .l e, d => (∀ x ∈ roX d, RoF e x) ∧ ((roX d).length : Int) < 9223372036854775808
def RoFs : List Sh → RO → Nat → Prop
 | [], _, _ => True
 | s :: r, d, i => RoF s (roN d i) ∧ RoFs r d (i + 1)
end

def ChainR (R : RO → Value → Prop) : List RO → List Value → Prop
 | [], cs => cs = []
 | x :: r, cs => ∃ v c, R x v ∧ cs = v.cells.toList ++ c ∧ ChainR R r c

mutual
def RoD (w : World) (Out : Nat → Prop) : Sh → RO → Value → Prop
 | .i k, d, v => v = .int k (roZ d) ∧ InR k (roZ d)
 | .tb, d, v => v = .bool (roB d)
 | .ts, d, v => v = .string (roS d) ∧ ((roS d).size : Int) < 9223372036854775808
 | .arr n k, d, v => (roL d).length = n ∧ AllR k (roL d) ∧ v = .agg ((roL d).map (Value.int k)).toArray
 | .r fs, d, v => ∃ cs, RoCs w Out fs d 0 cs ∧ v = .agg cs.toArray
 | .ints k, d, v => ∃ a cap, v = .slice a (roL d).length cap ∧ (roL d).length ≤ cap ∧ ((roL d).length : Int) < 9223372036854775808 ∧ AllR k (roL d) ∧
   ((∃ b o, a = some ⟨b, o, none⟩ ∧ Out b ∧ w.rangeAt b o ((roL d).map (Value.int k))) ∨ ((roL d).length = 0 ∧ cap = 0))
 | .l e, d, v => ∃ a cap cs, v = .slice a (roX d).length cap ∧ (roX d).length ≤ cap ∧ ((roX d).length : Int) < 9223372036854775808 ∧ ChainR (RoD w Out e) (roX d) cs ∧
   ((∃ b o, a = some ⟨b, o, none⟩ ∧ Out b ∧ w.rangeAt b o cs) ∨ ((roX d).length = 0 ∧ cap = 0))
def RoCs (w : World) (Out : Nat → Prop) : List Sh → RO → Nat → List Value → Prop
 | [], _, _, cs => cs = []
 | s :: r, d, i, cs => ∃ v c, RoD w Out s (roN d i) v ∧ cs = v.cells.toList ++ c ∧ RoCs w Out r d (i + 1) c
end

theorem ChainR.mono {R R' : RO → Value → Prop} (h : ∀ x v, R x v → R' x v) : ∀ (xs : List RO) (cs : List Value), ChainR R xs cs → ChainR R' xs cs
 | [], cs, hc => hc
 | x :: r, cs, hc => by
  obtain ⟨v, c, h1, h2, h3⟩ := hc
  exact ⟨v, c, h x v h1, h2, ChainR.mono h r c h3⟩

def Keeps (w w' : World) (Out Out' : Nat → Prop) : Prop := ∀ b, Out b → Out' b ∧ w'.heap[b]? = w.heap[b]?

theorem Keeps.range {w w' : World} {Out Out' : Nat → Prop} (h : Keeps w w' Out Out') {b o : Nat} {cs : List Value} (hb : Out b) (hr : w.rangeAt b o cs) : w'.rangeAt b o cs := fun j v hv => by
 rw [World.cell?_of_block (a := ⟨b, o + j, none⟩) (h b hb).2]; exact hr j v hv

mutual
theorem RoD.mono {w w' : World} {Out Out' : Nat → Prop} (h : Keeps w w' Out Out') : ∀ (sh : Sh) (d : RO) (v : Value), RoD w Out sh d v → RoD w' Out' sh d v
 | .i k, d, v, hd => by simp only [RoD] at hd ⊢; exact hd
 | .tb, d, v, hd => by simp only [RoD] at hd ⊢; exact hd
 | .ts, d, v, hd => by simp only [RoD] at hd ⊢; exact hd
 | .arr n k, d, v, hd => by simp only [RoD] at hd ⊢; exact hd
 | .r fs, d, v, hd => by
  simp only [RoD] at hd ⊢
  obtain ⟨cs, h1, h2⟩ := hd
  exact ⟨cs, RoCs.mono h fs d 0 cs h1, h2⟩
 | .ints k, d, v, hd => by
  simp only [RoD] at hd ⊢
  obtain ⟨a, cap, h1, h2, h3, h4, h5⟩ := hd
  refine ⟨a, cap, h1, h2, h3, h4, ?_⟩
  rcases h5 with ⟨b, o, q1, q2, q3⟩ | h5
  ·exact .inl ⟨b, o, q1, (h b q2).1, h.range q2 q3⟩
  ·exact .inr h5
 | .l e, d, v, hd => by
  simp only [RoD] at hd ⊢
  obtain ⟨a, cap, cs, h1, h2, h3, h4, h5⟩ := hd
  refine ⟨a, cap, cs, h1, h2, h3, ChainR.mono (fun x v hx => RoD.mono h e x v hx) _ _ h4, ?_⟩
  rcases h5 with ⟨b, o, q1, q2, q3⟩ | h5
  ·exact .inl ⟨b, o, q1, (h b q2).1, h.range q2 q3⟩
  ·exact .inr h5
theorem RoCs.mono {w w' : World} {Out Out' : Nat → Prop} (h : Keeps w w' Out Out') : ∀ (fs : List Sh) (d : RO) (i : Nat) (cs : List Value), RoCs w Out fs d i cs → RoCs w' Out' fs d i cs
 | [], d, i, cs, hd => by simp only [RoCs] at hd ⊢; exact hd
 | s :: r, d, i, cs, hd => by
  simp only [RoCs] at hd ⊢
  obtain ⟨v, c, h1, h2, h3⟩ := hd
  exact ⟨v, c, RoD.mono h s _ v h1, h2, RoCs.mono h r d (i + 1) c h3⟩
end

mutual
theorem RoD.fact {w : World} {Out : Nat → Prop} : ∀ (sh : Sh) (d : RO) (v : Value), RoD w Out sh d v → RoF sh d
 | .i k, d, v, hd => by simp only [RoD] at hd; exact hd.2
 | .tb, d, v, hd => trivial
 | .ts, d, v, hd => by simp only [RoD] at hd; exact hd.2
 | .arr n k, d, v, hd => by simp only [RoD] at hd; exact ⟨hd.1, hd.2.1⟩
 | .r fs, d, v, hd => by
  simp only [RoD] at hd
  obtain ⟨cs, h1, h2⟩ := hd
  simp only [RoF]
  exact RoCs.fact fs d 0 cs h1
 | .ints k, d, v, hd => by
  simp only [RoD] at hd
  obtain ⟨a, cap, h1, h2, h3, h4, h5⟩ := hd
  exact ⟨h4, h3⟩
 | .l e, d, v, hd => by
  simp only [RoD] at hd
  obtain ⟨a, cap, cs, h1, h2, h3, h4, h5⟩ := hd
  simp only [RoF]
  refine ⟨?_, h3⟩
  have : ∀ (xs : List RO) (cs : List Value), ChainR (RoD w Out e) xs cs → ∀ x ∈ xs, RoF e x := by
   intro xs
   induction xs with
   | nil => intro cs _ x hx; cases hx
   | cons y r ih =>
    intro cs hc x hx
    obtain ⟨v, c, q1, q2, q3⟩ := hc
    rcases List.mem_cons.1 hx with rfl | hx
    ·exact RoD.fact e _ v q1
    ·exact ih c q3 x hx
  exact this _ _ h4
theorem RoCs.fact {w : World} {Out : Nat → Prop} : ∀ (fs : List Sh) (d : RO) (i : Nat) (cs : List Value), RoCs w Out fs d i cs → RoFs fs d i
 | [], d, i, cs, hd => trivial
 | s :: r, d, i, cs, hd => by
  simp only [RoCs] at hd
  obtain ⟨v, c, h1, h2, h3⟩ := hd
  simp only [RoFs]
  exact ⟨RoD.fact s _ v h1, RoCs.fact r d (i + 1) c h3⟩
end

structure PlLe (p q : Pl) : Prop where
 blk : q.blk = p.blk
 off : q.off = p.off
 cap : q.cap = p.cap
 rel : ∀ sh d v, p.rel sh d v → q.rel sh d v
 rld : (∃ w Out, p.rel = RoD w Out) → ∃ w Out, q.rel = RoD w Out
 pn : p.pn ≤ q.pn
 pb : ∀ r, r < p.pn → q.pb r = p.pb r
 po : ∀ r, r < p.pn → q.po r = p.po r
 pc : ∀ r, r < p.pn → q.pc r = p.pc r
 hb : q.hb = p.hb
 ho : q.ho = p.ho
 wv : q.wv = p.wv

theorem PlLe.refl (p : Pl) : PlLe p p := ⟨rfl, rfl, rfl, fun _ _ _ h => h, fun h => h, Nat.le_refl _, fun _ _ => rfl, fun _ _ => rfl, fun _ _ => rfl, rfl, rfl, rfl⟩
theorem PlLe.of_eq {p q : Pl} (h : q = p) : PlLe p q := by subst h; exact .refl _
theorem PlLe.trans {p q r : Pl} (h : PlLe p q) (k : PlLe q r) : PlLe p r :=
 ⟨k.blk.trans h.blk, k.off.trans h.off, k.cap.trans h.cap, fun sh d v q => k.rel sh d v (h.rel sh d v q), fun q => k.rld (h.rld q), Nat.le_trans h.pn k.pn,
  fun i hi => (k.pb i (Nat.lt_of_lt_of_le hi h.pn)).trans (h.pb i hi), fun i hi => (k.po i (Nat.lt_of_lt_of_le hi h.pn)).trans (h.po i hi), fun i hi => (k.pc i (Nat.lt_of_lt_of_le hi h.pn)).trans (h.pc i hi), k.hb.trans h.hb, k.ho.trans h.ho, k.wv.trans h.wv⟩

def at_ (p : Pl) (c : Nat) : Addr := ⟨p.blk, p.off + c, none⟩

def ifcV : Option String → Nat → Addr → Value
 | none, t, a => .iface t (.pointer (some a))
 | some s, t, a => .func (.method s) #[.iface t (.pointer (some a))] #[]

mutual
def D (dm : Nat → Prop) (ρ : Nat → Pl) : SV → Value → Prop
 | .i k a, v => v = .int k a.z ∧ InR k a.z
 | .b _ x, v => v = .bool x
 | .s x, v => v = .string x ∧ (x.size : Int) < 9223372036854775808
 | .np, v => v = .pointer none
 | .nsl, v => v = .slice none 0 0
 | .p key c, v => dm key ∧ v = .pointer (some (at_ (ρ key) c))
 | .pd key c est x j, v => dm key ∧ 0 ≤ x ∧ v = .pointer (some (at_ (ρ key) (c + est * x.toNat + j)))
 | .sl key c est off len, v => dm key ∧ 0 ≤ off.z ∧ 0 ≤ len.z ∧ InR .i64 len.z ∧ ∃ a cap, v = .slice a len.z.toNat cap ∧ len.z.toNat ≤ cap ∧
   ((a = some (at_ (ρ key) (c + est * off.z.toNat)) ∧ c + est * off.z.toNat + est * cap ≤ (ρ key).cap) ∨ (len.z = 0 ∧ cap = 0))
 | .arr k n _ l, v => l.length = n ∧ AllR k l ∧ v = .agg (l.map (Value.int k)).toArray
 | .agg xs, v => ∃ cs, Cs dm ρ xs cs ∧ v = .agg cs.toArray
 | .tup xs, v => ∃ vs, Ds dm ρ xs vs ∧ v = .tuple vs.toArray
 | .fn f, v => v = .func (.func f) #[] #[]
 | .ro key sh d, v => dm key ∧ (ρ key).rel sh d v ∧ RoF sh d ∧ ∃ a cap, v = .slice a (roLen sh d) cap ∧ roLen sh d ≤ cap ∧ (roLen sh d : Int) < 9223372036854775808 ∧ ((∃ b o, a = some ⟨b, o, none⟩) ∨ (roLen sh d = 0 ∧ cap = 0))
 | .rop key sh d x j, v => dm key ∧ 0 ≤ x ∧ x < (roLen sh d : Int) ∧ ∃ b o n cap, (ρ key).rel sh d (.slice (some ⟨b, o, none⟩) n cap) ∧ v = .pointer (some ⟨b, o + (shEl sh * x.toNat + j), none⟩)
 | .ps key r len, v => dm key ∧ r < (ρ key).pn ∧ 0 ≤ len.z ∧ InR .i64 len.z ∧ ∃ a cap, v = .slice a len.z.toNat cap ∧ len.z.toNat ≤ cap ∧ ((a = some ⟨(ρ key).pb r, (ρ key).po r, none⟩ ∧ cap ≤ (ρ key).pc r) ∨ (len.z = 0 ∧ cap = 0))
 | .pq key r x, v => dm key ∧ r < (ρ key).pn ∧ 0 ≤ x ∧ v = .pointer (some ⟨(ρ key).pb r, (ρ key).po r + x.toNat, none⟩)
 | .mr key r jk len, v => dm key ∧ dm jk ∧ r < (ρ key).pn ∧ 0 ≤ len.z ∧ InR .i64 len.z ∧ ∃ a cap, v = .slice a len.z.toNat cap ∧ len.z.toNat ≤ cap ∧
   ((a = some ⟨(ρ key).pb r, (ρ key).po r, none⟩ ∧ cap ≤ (ρ key).pc r) ∨ (a = some (at_ (ρ jk) 0) ∧ cap ≤ (ρ jk).cap) ∨ (len.z = 0 ∧ cap = 0))
 | .mp key r jk x, v => dm key ∧ dm jk ∧ r < (ρ key).pn ∧ 0 ≤ x ∧ ((v = .pointer (some ⟨(ρ key).pb r, (ρ key).po r + x.toNat, none⟩) ∧ x.toNat < (ρ key).pc r) ∨ (v = .pointer (some (at_ (ρ jk) x.toNat)) ∧ x.toNat < (ρ jk).cap))
 | .kr key est jk len, v => dm key ∧ dm jk ∧ 0 ≤ len.z ∧ InR .i64 len.z ∧ ∃ a cap, v = .slice a len.z.toNat cap ∧ len.z.toNat ≤ cap ∧
   ((a = some (at_ (ρ key) 0) ∧ est * cap ≤ (ρ key).cap) ∨ (a = some (at_ (ρ jk) 0) ∧ est * cap ≤ (ρ jk).cap) ∨ (len.z = 0 ∧ cap = 0))
 | .kp key est jk x, v => dm key ∧ dm jk ∧ 0 ≤ x ∧ ((v = .pointer (some (at_ (ρ key) (est * x.toNat))) ∧ est * x.toNat + est ≤ (ρ key).cap) ∨ (v = .pointer (some (at_ (ρ jk) (est * x.toNat))) ∧ est * x.toNat + est ≤ (ρ jk).cap))
 | .ifc m t key, v => dm key ∧ v = ifcV m t (at_ (ρ key) 0)
 | .vc key len, v => dm key ∧ 0 ≤ len.z ∧ InR .i64 len.z ∧ ∃ a cap, v = .slice a len.z.toNat cap ∧ (0 < len.z → a = some ⟨(ρ key).blk, (ρ key).off, none⟩)
 | .vq key x, v => dm key ∧ 0 ≤ x ∧ v = .pointer (some ⟨(ρ key).blk, (ρ key).off + x.toNat, none⟩)
 | .vr key i len, v => dm key ∧ 0 ≤ len.z ∧ InR .i64 len.z ∧ ∃ a cap, v = .slice a len.z.toNat cap ∧ (0 < len.z → a = some ⟨(ρ key).hb i, (ρ key).ho i, none⟩)
 | .vb key i x, v => dm key ∧ 0 ≤ x ∧ v = .pointer (some ⟨(ρ key).hb i, (ρ key).ho i + x.toNat, none⟩)
 | .vi k, v => ∃ z, v = .int k z ∧ InR k z
 | .val x, v => v = x
 | .any, _ => True
def Cs (dm : Nat → Prop) (ρ : Nat → Pl) : List SV → List Value → Prop
 | [], cs => cs = []
 | x :: r, cs => ∃ v c, D dm ρ x v ∧ cs = v.cells.toList ++ c ∧ Cs dm ρ r c
def Ds (dm : Nat → Prop) (ρ : Nat → Pl) : List SV → List Value → Prop
 | [], vs => vs = []
 | x :: r, vs => ∃ v c, D dm ρ x v ∧ vs = v :: c ∧ Ds dm ρ r c
end

def single : SV → Bool
 | .i .. | .b .. | .s _ | .np | .nsl | .p .. | .sl .. | .fn _ | .ro .. | .ps .. => true
 | _ => false

def HdrsD (dm : Nat → Prop) (ρ : Nat → Pl) (key : Nat) : List (Nat × Nat) → List Value → Prop
 | [], cs => cs = []
 | h :: t, cs => ∃ v c, D dm ρ (.ps key h.1 ⟨false, (h.2 : Int)⟩) v ∧ cs = v :: c ∧ HdrsD dm ρ key t c

def ptrsV (p : Pl) (n : Nat) : List Value := (List.range n).map fun i => .pointer (some ⟨p.pb i, p.po i, none⟩)

theorem ptrsV_le {p q : Pl} (h : PlLe p q) {n : Nat} (hn : n ≤ p.pn) : ptrsV q n = ptrsV p n := by
 unfold ptrsV
 refine List.map_congr_left fun i hi => ?_
 have hi := List.mem_range.1 hi
 rw [h.pb i (by omega), h.po i (by omega)]
theorem ptrsV_len (p : Pl) (n : Nat) : (ptrsV p n).length = n := by simp [ptrsV]
theorem ptrsV_at {p : Pl} {n j : Nat} (h : j < n) : (ptrsV p n)[j]? = some (.pointer (some ⟨p.pb j, p.po j, none⟩)) := by
 unfold ptrsV; rw [List.getElem?_map, List.getElem?_range h]; rfl

def SegD (dm : Nat → Prop) (ρ : Nat → Pl) : Seg → List Value → Prop
 | .one x, cs => single x = true ∧ ∃ v, D dm ρ x v ∧ cs = [v]
 | .arr k n _ l, cs => l.length = n ∧ AllR k l ∧ cs = l.map (Value.int k)
 | .rowI k l, cs => AllR k l ∧ cs = l.map (Value.int k)
 | .rowA k n l, cs => AllA k n l ∧ cs = l.flatten.map (Value.int k)
 | .rowH key hs, cs => dm key ∧ HdrsD dm ρ key hs cs
 | .rowP key n, cs => dm key ∧ n ≤ (ρ key).pn ∧ cs = ptrsV (ρ key) n
 | .rowD key sh ds, cs => dm key ∧ (∃ w Out, (ρ key).rel = RoD w Out) ∧ ChainR ((ρ key).rel sh) ds cs ∧ cs.length = shSize sh * ds.length ∧ (∀ v ∈ cs, v.oneCell' = true) ∧ ∀ d ∈ ds, RoF sh d

def SegsD (dm : Nat → Prop) (ρ : Nat → Pl) : List Seg → List Value → Prop
 | [], cs => cs = []
 | g :: r, cs => ∃ c1 c2, SegD dm ρ g c1 ∧ cs = c1 ++ c2 ∧ SegsD dm ρ r c2

mutual
theorem D.mono {dm dm' : Nat → Prop} {ρ ρ' : Nat → Pl} (hd : ∀ k, dm k → dm' k) (hρ : ∀ k, dm k → PlLe (ρ k) (ρ' k)) : ∀ (x : SV) (v : Value), D dm ρ x v → D dm' ρ' x v
 | .i k a, v, h => h
 | .b _ x, v, h => h
 | .s x, v, h => h
 | .np, v, h => h
 | .nsl, v, h => h
 | .p key c, v, h => ⟨hd _ h.1, by rw [at_, (hρ _ h.1).blk, (hρ _ h.1).off]; exact h.2⟩
 | .pd key c est x j, v, h => ⟨hd _ h.1, by rw [at_, (hρ _ h.1).blk, (hρ _ h.1).off]; exact h.2⟩
 | .sl key c est off len, v, h => ⟨hd _ h.1, by rw [at_, (hρ _ h.1).blk, (hρ _ h.1).off, (hρ _ h.1).cap]; exact h.2⟩
 | .arr k n _ l, v, h => h
 | .agg xs, v, h => by
  simp only [D] at h ⊢
  obtain ⟨cs, h1, h2⟩ := h
  exact ⟨cs, Cs.mono hd hρ xs cs h1, h2⟩
 | .tup xs, v, h => by
  simp only [D] at h ⊢
  obtain ⟨cs, h1, h2⟩ := h
  exact ⟨cs, Ds.mono hd hρ xs cs h1, h2⟩
 | .fn f, v, h => h
 | .ro key sh d, v, h => ⟨hd _ h.1, (hρ _ h.1).rel _ _ _ h.2.1, h.2.2⟩
 | .rop key sh d x j, v, h => by
  obtain ⟨h0, h1, h2, b, o, n, cap, h3, h4⟩ := h
  exact ⟨hd _ h0, h1, h2, b, o, n, cap, (hρ _ h0).rel _ _ _ h3, h4⟩
 | .ps key r len, v, h => ⟨hd _ h.1, Nat.lt_of_lt_of_le h.2.1 (hρ _ h.1).pn, by rw [(hρ _ h.1).pb r h.2.1, (hρ _ h.1).po r h.2.1, (hρ _ h.1).pc r h.2.1]; exact h.2.2⟩
 | .pq key r x, v, h => ⟨hd _ h.1, Nat.lt_of_lt_of_le h.2.1 (hρ _ h.1).pn, by rw [(hρ _ h.1).pb r h.2.1, (hρ _ h.1).po r h.2.1]; exact h.2.2⟩
 | .mr key r jk len, v, h => ⟨hd _ h.1, hd _ h.2.1, Nat.lt_of_lt_of_le h.2.2.1 (hρ _ h.1).pn, by rw [(hρ _ h.1).pb r h.2.2.1, (hρ _ h.1).po r h.2.2.1, (hρ _ h.1).pc r h.2.2.1, at_, (hρ _ h.2.1).blk, (hρ _ h.2.1).off, (hρ _ h.2.1).cap]; exact h.2.2.2⟩
 | .mp key r jk x, v, h => ⟨hd _ h.1, hd _ h.2.1, Nat.lt_of_lt_of_le h.2.2.1 (hρ _ h.1).pn, by rw [(hρ _ h.1).pb r h.2.2.1, (hρ _ h.1).po r h.2.2.1, (hρ _ h.1).pc r h.2.2.1, at_, (hρ _ h.2.1).blk, (hρ _ h.2.1).off, (hρ _ h.2.1).cap]; exact h.2.2.2⟩
 | .kr key est jk len, v, h => ⟨hd _ h.1, hd _ h.2.1, by rw [at_, at_, (hρ _ h.1).blk, (hρ _ h.1).off, (hρ _ h.1).cap, (hρ _ h.2.1).blk, (hρ _ h.2.1).off, (hρ _ h.2.1).cap]; exact h.2.2⟩
 | .kp key est jk x, v, h => ⟨hd _ h.1, hd _ h.2.1, by rw [at_, at_, (hρ _ h.1).blk, (hρ _ h.1).off, (hρ _ h.1).cap, (hρ _ h.2.1).blk, (hρ _ h.2.1).off, (hρ _ h.2.1).cap]; exact h.2.2⟩
 | .ifc m t key, v, h => ⟨hd _ h.1, by rw [at_, (hρ _ h.1).blk, (hρ _ h.1).off]; exact h.2⟩
 | .vc key len, v, h => ⟨hd _ h.1, by rw [(hρ _ h.1).blk, (hρ _ h.1).off]; exact h.2⟩
 | .vq key x, v, h => ⟨hd _ h.1, by rw [(hρ _ h.1).blk, (hρ _ h.1).off]; exact h.2⟩
 | .vr key i len, v, h => ⟨hd _ h.1, by rw [(hρ _ h.1).hb, (hρ _ h.1).ho]; exact h.2⟩
 | .vb key i x, v, h => ⟨hd _ h.1, by rw [(hρ _ h.1).hb, (hρ _ h.1).ho]; exact h.2⟩
 | .vi k, v, h => h
 | .val x, v, h => h
 | .any, _, h => h
theorem Cs.mono {dm dm' : Nat → Prop} {ρ ρ' : Nat → Pl} (hd : ∀ k, dm k → dm' k) (hρ : ∀ k, dm k → PlLe (ρ k) (ρ' k)) : ∀ (xs : List SV) (cs : List Value), Cs dm ρ xs cs → Cs dm' ρ' xs cs
 | [], cs, h => h
 | x :: r, cs, h => by
  simp only [Cs] at h ⊢
  obtain ⟨v, c, h1, h2, h3⟩ := h
  exact ⟨v, c, D.mono hd hρ x v h1, h2, Cs.mono hd hρ r c h3⟩
theorem Ds.mono {dm dm' : Nat → Prop} {ρ ρ' : Nat → Pl} (hd : ∀ k, dm k → dm' k) (hρ : ∀ k, dm k → PlLe (ρ k) (ρ' k)) : ∀ (xs : List SV) (cs : List Value), Ds dm ρ xs cs → Ds dm' ρ' xs cs
 | [], cs, h => h
 | x :: r, cs, h => by
  simp only [Ds] at h ⊢
  obtain ⟨v, c, h1, h2, h3⟩ := h
  exact ⟨v, c, D.mono hd hρ x v h1, h2, Ds.mono hd hρ r c h3⟩
end

theorem HdrsD.mono {dm dm' : Nat → Prop} {ρ ρ' : Nat → Pl} (hd : ∀ k, dm k → dm' k) (hρ : ∀ k, dm k → PlLe (ρ k) (ρ' k)) (key : Nat) : ∀ (hs : List (Nat × Nat)) (cs : List Value), HdrsD dm ρ key hs cs → HdrsD dm' ρ' key hs cs
 | [], cs, h => h
 | x :: t, cs, h => by
  obtain ⟨v, c, h1, h2, h3⟩ := h
  exact ⟨v, c, D.mono hd hρ _ v h1, h2, HdrsD.mono hd hρ key t c h3⟩
theorem HdrsD.len {dm : Nat → Prop} {ρ : Nat → Pl} {key : Nat} : ∀ {hs : List (Nat × Nat)} {cs : List Value}, HdrsD dm ρ key hs cs → cs.length = hs.length
 | [], cs, h => by rw [show cs = [] from h]; rfl
 | x :: t, cs, h => by
  obtain ⟨v, c, _, rfl, h3⟩ := h
  rw [List.length_cons, List.length_cons, HdrsD.len h3]
theorem HdrsD.at_ {dm : Nat → Prop} {ρ : Nat → Pl} {key : Nat} : ∀ {hs : List (Nat × Nat)} {cs : List Value}, HdrsD dm ρ key hs cs → ∀ j, j < hs.length →
  ∃ v, cs[j]? = some v ∧ D dm ρ (.ps key (hs.getD j (0, 0)).1 ⟨false, ((hs.getD j (0, 0)).2 : Int)⟩) v
 | [], cs, h, j, hj => absurd hj (by simp)
 | x :: t, cs, h, 0, hj => by
  obtain ⟨v, c, h1, rfl, h3⟩ := h
  exact ⟨v, rfl, h1⟩
 | x :: t, cs, h, j + 1, hj => by
  obtain ⟨v, c, h1, rfl, h3⟩ := h
  obtain ⟨u, q1, q2⟩ := HdrsD.at_ h3 j (by simpa using hj)
  exact ⟨u, by simpa using q1, by simpa using q2⟩
theorem HdrsD.append {dm : Nat → Prop} {ρ : Nat → Pl} {key : Nat} : ∀ {hs gs : List (Nat × Nat)} {cs ds : List Value}, HdrsD dm ρ key hs cs → HdrsD dm ρ key gs ds → HdrsD dm ρ key (hs ++ gs) (cs ++ ds)
 | [], gs, cs, ds, h, g => by rw [show cs = [] from h]; exact g
 | x :: t, gs, cs, ds, h, g => by
  obtain ⟨v, c, h1, rfl, h3⟩ := h
  exact ⟨v, c ++ ds, h1, rfl, HdrsD.append h3 g⟩
theorem HdrsD.set {dm : Nat → Prop} {ρ : Nat → Pl} {key : Nat} {y : Nat × Nat} {u : Value} (hu : D dm ρ (.ps key y.1 ⟨false, (y.2 : Int)⟩) u) : ∀ {hs : List (Nat × Nat)} {cs : List Value} (j : Nat), HdrsD dm ρ key hs cs → HdrsD dm ρ key (hs.set j y) (cs.set j u)
 | [], cs, j, h => by rw [show cs = [] from h]; exact rfl
 | x :: t, cs, 0, h => by
  obtain ⟨v, c, h1, rfl, h3⟩ := h
  exact ⟨u, c, hu, rfl, h3⟩
 | x :: t, cs, j + 1, h => by
  obtain ⟨v, c, h1, rfl, h3⟩ := h
  exact ⟨v, c.set j u, h1, rfl, HdrsD.set hu j h3⟩
theorem HdrsD.drop {dm : Nat → Prop} {ρ : Nat → Pl} {key : Nat} : ∀ {hs : List (Nat × Nat)} {cs : List Value} (j : Nat), HdrsD dm ρ key hs cs → HdrsD dm ρ key (hs.drop j) (cs.drop j)
 | [], cs, j, h => by rw [show cs = [] from h]; simp only [List.drop_nil]; exact rfl
 | x :: t, cs, 0, h => h
 | x :: t, cs, j + 1, h => by
  obtain ⟨v, c, h1, rfl, h3⟩ := h
  exact HdrsD.drop j h3
theorem HdrsD.take {dm : Nat → Prop} {ρ : Nat → Pl} {key : Nat} : ∀ {hs : List (Nat × Nat)} {cs : List Value} (j : Nat), HdrsD dm ρ key hs cs → HdrsD dm ρ key (hs.take j) (cs.take j)
 | [], cs, j, h => by rw [show cs = [] from h]; simp only [List.take_nil]; exact rfl
 | x :: t, cs, 0, h => rfl
 | x :: t, cs, j + 1, h => by
  obtain ⟨v, c, h1, rfl, h3⟩ := h
  exact ⟨v, c.take j, h1, rfl, HdrsD.take j h3⟩
theorem HdrsD.slices {dm : Nat → Prop} {ρ : Nat → Pl} {key : Nat} : ∀ {hs : List (Nat × Nat)} {cs : List Value}, HdrsD dm ρ key hs cs → ∀ v ∈ cs, ∃ a n cap, v = .slice a n cap
 | [], cs, h, v, hv => by rw [show cs = [] from h] at hv; cases hv
 | x :: t, cs, h, v, hv => by
  obtain ⟨u, c, h1, rfl, h3⟩ := h
  rcases List.mem_cons.1 hv with rfl | hv
  ·simp only [D] at h1
   obtain ⟨_, _, _, _, a, cap, e, _⟩ := h1
   exact ⟨a, _, cap, e⟩
  ·exact HdrsD.slices h3 v hv

theorem SegD.mono {dm dm' : Nat → Prop} {ρ ρ' : Nat → Pl} (hd : ∀ k, dm k → dm' k) (hρ : ∀ k, dm k → PlLe (ρ k) (ρ' k)) (g : Seg) (cs : List Value) (h : SegD dm ρ g cs) : SegD dm' ρ' g cs := by
 cases g with
 | one x => obtain ⟨h0, v, h1, h2⟩ := h; exact ⟨h0, v, D.mono hd hρ x v h1, h2⟩
 | arr k n ex l => exact h
 | rowI k l => exact h
 | rowA k n l => exact h
 | rowH key hs => exact ⟨hd _ h.1, HdrsD.mono hd hρ key hs cs h.2⟩
 | rowP key n =>
  obtain ⟨h1, h2, h3⟩ := h
  exact ⟨hd _ h1, Nat.le_trans h2 (hρ _ h1).pn, by rw [ptrsV_le (hρ _ h1) h2]; exact h3⟩
 | rowD key sh ds =>
  obtain ⟨h1, h2, h3, h4, h5, h6⟩ := h
  exact ⟨hd _ h1, (hρ _ h1).rld h2, ChainR.mono (fun x v hx => (hρ _ h1).rel _ _ _ hx) _ _ h3, h4, h5, h6⟩

theorem SegsD.mono {dm dm' : Nat → Prop} {ρ ρ' : Nat → Pl} (hd : ∀ k, dm k → dm' k) (hρ : ∀ k, dm k → PlLe (ρ k) (ρ' k)) : ∀ (l : List Seg) (cs : List Value), SegsD dm ρ l cs → SegsD dm' ρ' l cs
 | [], cs, h => h
 | g :: r, cs, h => by
  obtain ⟨c1, c2, h1, h2, h3⟩ := h
  exact ⟨c1, c2, SegD.mono hd hρ g c1 h1, h2, SegsD.mono hd hρ r c2 h3⟩

/-! ### Cells -/

theorem single_cell {dm : Nat → Prop} {ρ : Nat → Pl} {x : SV} {v : Value} (h1 : single x = true) (h : D dm ρ x v) : v.oneCell' = true ∧ v.cells = #[v] := by
 cases x <;> simp only [single, Bool.false_eq_true] at h1 <;> simp only [D] at h
 ·rw [h.1]; exact ⟨rfl, rfl⟩
 ·rw [h]; exact ⟨rfl, rfl⟩
 ·rw [h.1]; exact ⟨rfl, rfl⟩
 ·rw [h]; exact ⟨rfl, rfl⟩
 ·rw [h]; exact ⟨rfl, rfl⟩
 ·rw [h.2]; exact ⟨rfl, rfl⟩
 ·obtain ⟨_, _, _, _, a, cap, h, _⟩ := h; rw [h]; exact ⟨rfl, rfl⟩
 ·rw [h]; exact ⟨rfl, rfl⟩
 ·obtain ⟨_, _, _, a, cap, h, _⟩ := h; rw [h]; exact ⟨rfl, rfl⟩
 ·obtain ⟨_, _, _, _, a, cap, h, _⟩ := h; rw [h]; exact ⟨rfl, rfl⟩

theorem SegD.oneCell {dm : Nat → Prop} {ρ : Nat → Pl} {g : Seg} {cs : List Value} (h : SegD dm ρ g cs) : ∀ v ∈ cs, v.oneCell' = true := by
 cases g with
 | one x => obtain ⟨h0, v, h1, h2⟩ := h; intro u hu; rw [h2] at hu; simp at hu; rw [hu]; exact (single_cell h0 h1).1
 | arr k n ex l => obtain ⟨_, _, h2⟩ := h; intro u hu; rw [h2] at hu; simp at hu; obtain ⟨z, _, rfl⟩ := hu; rfl
 | rowI k l => obtain ⟨_, h2⟩ := h; intro u hu; rw [h2] at hu; simp at hu; obtain ⟨z, _, rfl⟩ := hu; rfl
 | rowA k n l => obtain ⟨_, h2⟩ := h; intro u hu; rw [h2] at hu; simp only [List.mem_map] at hu; obtain ⟨z, _, rfl⟩ := hu; rfl
 | rowH key hs => intro u hu; obtain ⟨a, n, cap, rfl⟩ := h.2.slices u hu; rfl
 | rowP key n => intro u hu; rw [h.2.2] at hu; simp only [ptrsV, List.mem_map] at hu; obtain ⟨i, _, rfl⟩ := hu; rfl
 | rowD key sh ds => exact h.2.2.2.2.1

theorem SegsD.oneCell {dm : Nat → Prop} {ρ : Nat → Pl} : ∀ {l : List Seg} {cs : List Value}, SegsD dm ρ l cs → ∀ v ∈ cs, v.oneCell' = true
 | [], cs, h => by intro v hv; rw [show cs = [] from h] at hv; cases hv
 | g :: r, cs, h => by
  obtain ⟨c1, c2, h1, h2, h3⟩ := h
  intro v hv
  rw [h2] at hv
  rcases List.mem_append.1 hv with hv | hv
  ·exact h1.oneCell v hv
  ·exact SegsD.oneCell h3 v hv

theorem SegsD.append {dm : Nat → Prop} {ρ : Nat → Pl} : ∀ {l l' : List Seg} {cs cs' : List Value}, SegsD dm ρ l cs → SegsD dm ρ l' cs' → SegsD dm ρ (l ++ l') (cs ++ cs')
 | [], l', cs, cs', h, h' => by rw [show cs = [] from h]; exact h'
 | g :: r, l', cs, cs', h, h' => by
  obtain ⟨c1, c2, h1, h2, h3⟩ := h
  exact ⟨c1, c2 ++ cs', h1, by rw [h2, List.append_assoc], SegsD.append h3 h'⟩

mutual
theorem segsOf_D {dm : Nat → Prop} {ρ : Nat → Pl} : ∀ (x : SV) (l : List Seg) (v : Value), segsOf x = some l → D dm ρ x v → SegsD dm ρ l v.cells.toList
 | .i k a, l, v, hs, h => by
  simp only [segsOf, Option.some.injEq] at hs; subst hs
  have := single_cell (x := .i k a) rfl h
  exact ⟨[v], [], ⟨rfl, v, h, rfl⟩, by rw [this.2]; rfl, rfl⟩
 | .b st y, l, v, hs, h => by
  simp only [segsOf, Option.some.injEq] at hs; subst hs
  have := single_cell (x := .b st y) rfl h
  exact ⟨[v], [], ⟨rfl, v, h, rfl⟩, by rw [this.2]; rfl, rfl⟩
 | .s y, l, v, hs, h => by
  simp only [segsOf, Option.some.injEq] at hs; subst hs
  have := single_cell (x := .s y) rfl h
  exact ⟨[v], [], ⟨rfl, v, h, rfl⟩, by rw [this.2]; rfl, rfl⟩
 | .np, l, v, hs, h => by
  simp only [segsOf, Option.some.injEq] at hs; subst hs
  have := single_cell (x := .np) rfl h
  exact ⟨[v], [], ⟨rfl, v, h, rfl⟩, by rw [this.2]; rfl, rfl⟩
 | .nsl, l, v, hs, h => by
  simp only [segsOf, Option.some.injEq] at hs; subst hs
  have := single_cell (x := .nsl) rfl h
  exact ⟨[v], [], ⟨rfl, v, h, rfl⟩, by rw [this.2]; rfl, rfl⟩
 | .p key c, l, v, hs, h => by
  simp only [segsOf, Option.some.injEq] at hs; subst hs
  have := single_cell (x := .p key c) rfl h
  exact ⟨[v], [], ⟨rfl, v, h, rfl⟩, by rw [this.2]; rfl, rfl⟩
 | .sl key c est off len, l, v, hs, h => by
  simp only [segsOf, Option.some.injEq] at hs; subst hs
  have := single_cell (x := .sl key c est off len) rfl h
  exact ⟨[v], [], ⟨rfl, v, h, rfl⟩, by rw [this.2]; rfl, rfl⟩
 | .fn f, l, v, hs, h => by
  simp only [segsOf, Option.some.injEq] at hs; subst hs
  have := single_cell (x := .fn f) rfl h
  exact ⟨[v], [], ⟨rfl, v, h, rfl⟩, by rw [this.2]; rfl, rfl⟩
 | .ro key sh d, l, v, hs, h => by
  simp only [segsOf, Option.some.injEq] at hs; subst hs
  have := single_cell (x := .ro key sh d) rfl h
  exact ⟨[v], [], ⟨rfl, v, h, rfl⟩, by rw [this.2]; rfl, rfl⟩
 | .arr k n ex y, l, v, hs, h => by
  simp only [segsOf, Option.some.injEq] at hs; subst hs
  simp only [D] at h
  obtain ⟨h1, h2, h3⟩ := h
  exact ⟨y.map (Value.int k), [], ⟨h1, h2, rfl⟩, by rw [h3]; simp [Value.cells], rfl⟩
 | .agg xs, l, v, hs, h => by
  simp only [segsOf] at hs
  simp only [D] at h
  obtain ⟨cs, h1, h2⟩ := h
  rw [h2]
  exact segsAll_D xs l cs hs h1
 | .tup _, l, v, hs, h => by simp [segsOf] at hs
 | .pd .., l, v, hs, h => by simp [segsOf] at hs
 | .rop .., l, v, hs, h => by simp [segsOf] at hs
 | .ps key r len, l, v, hs, h => by
  simp only [segsOf, Option.some.injEq] at hs; subst hs
  have := single_cell (x := .ps key r len) rfl h
  exact ⟨[v], [], ⟨rfl, v, h, rfl⟩, by rw [this.2]; rfl, rfl⟩
 | .pq .., l, v, hs, h => by simp [segsOf] at hs
 | .mr .., l, v, hs, h => by simp [segsOf] at hs
 | .mp .., l, v, hs, h => by simp [segsOf] at hs
 | .val _, l, v, hs, h => by simp [segsOf] at hs
 | .any, l, v, hs, h => by simp [segsOf] at hs
theorem segsAll_D {dm : Nat → Prop} {ρ : Nat → Pl} : ∀ (xs : List SV) (l : List Seg) (cs : List Value), segsAll xs = some l → Cs dm ρ xs cs → SegsD dm ρ l cs
 | [], l, cs, hs, h => by
  simp only [segsAll, Option.some.injEq] at hs; subst hs; exact h
 | x :: r, l, cs, hs, h => by
  simp only [Cs] at h
  obtain ⟨v, c, h1, h2, h3⟩ := h
  simp only [segsAll] at hs
  split at hs
  ·rename_i a b ha hb
   simp only [Option.some.injEq] at hs; subst hs
   rw [h2]
   exact (segsOf_D x a v ha h1).append (segsAll_D r b c hb h3)
  ·cases hs
end

theorem Value.cells_agg (cs : Array Value) : (Value.agg cs).cells = cs := rfl

/-! ### A piece, found -/

theorem segLen_D {dm : Nat → Prop} {ρ : Nat → Pl} {g : Seg} {cs : List Value} {n : Nat} (h : SegD dm ρ g cs) (hn : segLen g = some n) : cs.length = n := by
 cases g <;> simp only [segLen, Option.some.injEq, reduceCtorEq] at hn
 ·obtain ⟨_, v, _, h2⟩ := h; rw [h2]; exact hn
 ·obtain ⟨h0, _, h2⟩ := h; rw [h2]; simp; omega

theorem segAt_D {dm : Nat → Prop} {ρ : Nat → Pl} : ∀ (l : List Seg) (c : Nat) (vs : List Value) (g : Seg) (j : Nat), SegsD dm ρ l vs → segAt l c = some (g, j) →
  ∃ pre cs post, vs = pre ++ cs ++ post ∧ SegD dm ρ g cs ∧ pre.length + j = c ∧ (∀ n, segLen g = some n → j < n) ∧
   ∀ g' cs' l', segSet l c g' = some l' → SegD dm ρ g' cs' → SegsD dm ρ l' (pre ++ cs' ++ post)
 | [], c, vs, g, j, h, ha => by simp [segAt] at ha
 | g0 :: r, c, vs, g, j, h, ha => by
  obtain ⟨c1, c2, h1, h2, h3⟩ := h
  simp only [segAt] at ha
  split at ha
  ·rename_i n hn
   have hl := segLen_D h1 hn
   split at ha
   ·rename_i hb
    have hle : n ≤ c := Nat.le_of_ble_eq_true hb
    obtain ⟨pre, cs, post, e1, e2, e3, e4, e5⟩ := segAt_D r (c - n) c2 g j h3 ha
    refine ⟨c1 ++ pre, cs, post, by rw [h2, e1]; simp [List.append_assoc], e2, by simp [hl]; omega, e4, fun g' cs' l' hs hg => ?_⟩
    simp only [segSet, hn, hb] at hs
    split at hs
    ·rename_i r' hr'
     simp only [Option.some.injEq] at hs; subst hs
     exact ⟨c1, pre ++ cs' ++ post, h1, by simp [List.append_assoc], e5 g' cs' r' hr' hg⟩
    ·cases hs
   ·rename_i hb
    simp only [Option.some.injEq, Prod.mk.injEq] at ha
    obtain ⟨rfl, rfl⟩ := ha
    have hlt : c < n := by
     rcases Nat.lt_or_ge c n with h | h
     ·exact h
     ·rw [Nat.ble_eq_true_of_le h] at hb; cases hb
    refine ⟨[], c1, c2, by simpa using h2, h1, by simp, (fun n' hn' => by rw [hn] at hn'; simp at hn'; omega), fun g' cs' l' hs hg => ?_⟩
    simp only [segSet, hn, hb, Option.some.injEq] at hs
    subst hs
    exact ⟨cs', c2, hg, by simp, h3⟩
  ·rename_i hn
   simp only [Option.some.injEq, Prod.mk.injEq] at ha
   obtain ⟨rfl, rfl⟩ := ha
   refine ⟨[], c1, c2, by simpa using h2, h1, by simp, (fun n' hn' => by rw [hn] at hn'; cases hn'), fun g' cs' l' hs hg => ?_⟩
   simp only [segSet, hn, Option.some.injEq] at hs
   subst hs
   exact ⟨cs', c2, hg, by simp, h3⟩

/-! ### What a pool's rows are in memory -/

def recVals : List Ty → List Int → List Value
 | [], _ => []
 | .int k :: r, m => .int k (m.headD 0) :: recVals r m.tail
 | .bool :: r, m => .bool (m.headD 0 != 0) :: recVals r m.tail
 | .arr n (.int k) :: r, m => (m.take n).map (Value.int k) ++ recVals r (m.drop n)
 | _ :: r, m => recVals r m
def recOk : List Ty → List Int → Prop
 | [], m => m = []
 | .int k :: r, m => InR k (m.headD 0) ∧ m ≠ [] ∧ recOk r m.tail
 | .bool :: r, m => m ≠ [] ∧ recOk r m.tail
 | .arr n (.int k) :: r, m => n ≤ m.length ∧ AllR k (m.take n) ∧ recOk r (m.drop n)
 | _ :: _, _ => False
def pkVals : PK → List Int → List Value
 | .k k, m => m.map (Value.int k)
 | .r ts, m => recVals ts m
 | .b _ _, _ => []
 | .z, _ => []
 | .h, _ => []
 | .v, _ => []
def pkOk : PK → List Int → Prop
 | .k k, m => AllR k m
 | .r ts, m => recOk ts m
 | .b _ _, _ => False
 | .z, m => m = []
 | .h, m => m = []
 | .v, _ => True

theorem boolI_ne (v : Bool) : (boolI v != 0) = v := by cases v <;> rfl

theorem flatSegs_D {dm : Nat → Prop} {ρ : Nat → Pl} : ∀ (l : List Seg) (cs : List Value) (ts : List Ty) (m : List Int), flatSegs l = some (ts, m) → SegsD dm ρ l cs → recOk ts m ∧ cs = recVals ts m
 | [], cs, ts, m, h, hd => by
  simp only [flatSegs, Option.some.injEq, Prod.mk.injEq] at h
  obtain ⟨rfl, rfl⟩ := h
  exact ⟨rfl, hd⟩
 | .one (.i k a) :: r, cs, ts, m, h, hd => by
  simp only [flatSegs] at h
  split at h
  ·rename_i ts' m' hf
   simp only [Option.some.injEq, Prod.mk.injEq] at h
   obtain ⟨rfl, rfl⟩ := h
   obtain ⟨c1, c2, ⟨_, v, ⟨rfl, hr⟩, rfl⟩, rfl, h3⟩ := hd
   obtain ⟨a1, a2⟩ := flatSegs_D r c2 ts' m' hf h3
   exact ⟨⟨hr, by simp, a1⟩, by rw [a2]; rfl⟩
  ·cases h
 | .one (.b st v) :: r, cs, ts, m, h, hd => by
  simp only [flatSegs] at h
  split at h
  ·rename_i ts' m' hf
   simp only [Option.some.injEq, Prod.mk.injEq] at h
   obtain ⟨rfl, rfl⟩ := h
   obtain ⟨c1, c2, ⟨_, u, hu, rfl⟩, rfl, h3⟩ := hd
   have hu : u = .bool v := hu
   subst hu
   obtain ⟨a1, a2⟩ := flatSegs_D r c2 ts' m' hf h3
   refine ⟨⟨by simp, a1⟩, ?_⟩
   show _ = Value.bool (boolI v != 0) :: recVals ts' m'
   rw [a2, boolI_ne]; rfl
  ·cases h
 | .arr k n ex x :: r, cs, ts, m, h, hd => by
  simp only [flatSegs] at h
  split at h
  ·rename_i ts' m' hf
   simp only [Option.some.injEq, Prod.mk.injEq] at h
   obtain ⟨rfl, rfl⟩ := h
   obtain ⟨c1, c2, ⟨hl, hr, rfl⟩, rfl, h3⟩ := hd
   obtain ⟨a1, a2⟩ := flatSegs_D r c2 ts' m' hf h3
   have e1 : (x ++ m').take n = x := List.take_left' hl
   have e2 : (x ++ m').drop n = m' := List.drop_left' hl
   refine ⟨⟨by rw [List.length_append]; omega, by rw [e1]; exact hr, by rw [e2]; exact a1⟩, ?_⟩
   show _ = ((x ++ m').take n).map (Value.int k) ++ recVals ts' ((x ++ m').drop n)
   rw [e1, e2, a2]
  ·cases h
 | .one (.s _) :: r, cs, ts, m, h, hd => by simp [flatSegs] at h
 | .one .np :: r, cs, ts, m, h, hd => by simp [flatSegs] at h
 | .one .nsl :: r, cs, ts, m, h, hd => by simp [flatSegs] at h
 | .one (.p ..) :: r, cs, ts, m, h, hd => by simp [flatSegs] at h
 | .one (.pd ..) :: r, cs, ts, m, h, hd => by simp [flatSegs] at h
 | .one (.sl ..) :: r, cs, ts, m, h, hd => by simp [flatSegs] at h
 | .one (.arr ..) :: r, cs, ts, m, h, hd => by simp [flatSegs] at h
 | .one (.agg _) :: r, cs, ts, m, h, hd => by simp [flatSegs] at h
 | .one (.tup _) :: r, cs, ts, m, h, hd => by simp [flatSegs] at h
 | .one (.fn _) :: r, cs, ts, m, h, hd => by simp [flatSegs] at h
 | .one (.ro ..) :: r, cs, ts, m, h, hd => by simp [flatSegs] at h
 | .one (.rop ..) :: r, cs, ts, m, h, hd => by simp [flatSegs] at h
 | .one (.ps ..) :: r, cs, ts, m, h, hd => by simp [flatSegs] at h
 | .one (.pq ..) :: r, cs, ts, m, h, hd => by simp [flatSegs] at h
 | .one (.mr ..) :: r, cs, ts, m, h, hd => by simp [flatSegs] at h
 | .one (.mp ..) :: r, cs, ts, m, h, hd => by simp [flatSegs] at h
 | .one (.kr ..) :: r, cs, ts, m, h, hd => by simp [flatSegs] at h
 | .one (.kp ..) :: r, cs, ts, m, h, hd => by simp [flatSegs] at h
 | .one (.ifc ..) :: r, cs, ts, m, h, hd => by simp [flatSegs] at h
 | .one (.vc ..) :: r, cs, ts, m, h, hd => by simp [flatSegs] at h
 | .one (.vq ..) :: r, cs, ts, m, h, hd => by simp [flatSegs] at h
 | .one (.vr ..) :: r, cs, ts, m, h, hd => by simp [flatSegs] at h
 | .one (.vb ..) :: r, cs, ts, m, h, hd => by simp [flatSegs] at h
 | .one (.vi ..) :: r, cs, ts, m, h, hd => by simp [flatSegs] at h
 | .one (.val _) :: r, cs, ts, m, h, hd => by simp [flatSegs] at h
 | .one .any :: r, cs, ts, m, h, hd => by simp [flatSegs] at h
 | .rowI .. :: r, cs, ts, m, h, hd => by simp [flatSegs] at h
 | .rowA .. :: r, cs, ts, m, h, hd => by simp [flatSegs] at h
 | .rowH .. :: r, cs, ts, m, h, hd => by simp [flatSegs] at h
 | .rowP .. :: r, cs, ts, m, h, hd => by simp [flatSegs] at h
 | .rowD .. :: r, cs, ts, m, h, hd => by simp [flatSegs] at h

theorem keq_eq0 {k k' : IntKind} (h : keq k k' = true) : k = k' := by cases k <;> cases k' <;> first | rfl | (simp [keq] at h)
theorem tyfEq_eq {a b : Ty} (h : tyfEq a b = true) : a = b := by
 unfold tyfEq at h
 split at h
 ·rw [keq_eq0 h]
 ·rfl
 ·simp only [Bool.and_eq_true] at h
  rw [Nat.eq_of_beq_eq_true h.1, keq_eq0 h.2]
 ·cases h
theorem tysEq_eq : ∀ {a b : List Ty}, tysEq a b = true → a = b
 | [], [], _ => rfl
 | x :: r, y :: t, h => by
  simp only [tysEq, Bool.and_eq_true] at h
  rw [tyfEq_eq h.1, tysEq_eq h.2]
 | [], _ :: _, h => by simp [tysEq] at h
 | _ :: _, [], h => by simp [tysEq] at h
def PkLe (a b : PK) : Prop := a.seen = none ∧ (a = b ∨ (∃ k v, a = .b k none ∧ b = .b k v) ∨ (a = .h ∧ b = .z))
theorem pkeq_eq {a b : PK} (h : pkeq a b = true) : PkLe a b := by
 cases a with
 | k a =>
  cases b <;> simp only [pkeq, Bool.false_eq_true] at h
  rw [keq_eq0 h]; exact ⟨rfl, .inl rfl⟩
 | r a =>
  cases b <;> simp only [pkeq, Bool.false_eq_true] at h
  rw [tysEq_eq h]; exact ⟨rfl, .inl rfl⟩
 | b a v =>
  cases v with
  | some v => cases b <;> simp only [pkeq, Bool.false_eq_true] at h
  | none =>
   cases b <;> simp only [pkeq, Bool.false_eq_true] at h
   rw [keq_eq0 h]; exact ⟨rfl, .inr (.inl ⟨_, _, rfl, rfl⟩)⟩
 | z =>
  cases b <;> simp only [pkeq, Bool.false_eq_true] at h
  exact ⟨rfl, .inl rfl⟩
 | h =>
  cases b <;> simp only [pkeq, Bool.false_eq_true] at h
  ·exact ⟨rfl, .inr (.inr ⟨rfl, rfl⟩)⟩
  ·exact ⟨rfl, .inl rfl⟩
 | v =>
  cases b <;> simp only [pkeq, Bool.false_eq_true] at h
  exact ⟨rfl, .inl rfl⟩

end Go.Gx

/- Memory against a symbolic heap: growing, storing, handing a block over. -/
namespace Go.Gx
open Go.RowKit
set_option linter.unusedVariables false

def OutB (w0 : World) (M : Nat → Prop) : Nat → Prop := fun b => b < w0.heap.size ∧ ¬ M b

def dmOf (H : Nat → Option SB) : Nat → Prop := fun k => (H k).isSome = true

def BlkD (dm : Nat → Prop) (ρ : Nat → Pl) (w : World) (key : Nat) : SB → Prop
 | .gone => True
 | .world => True
 | .pool _ _ => True
 | .boxv _ => True
 | .alias a i => dm a ∧ i < (ρ a).pn ∧ (ρ key).off = (ρ a).po i ∧ (ρ key).blk = (ρ a).pb i ∧ (ρ key).cap = (ρ a).pc i
 | .segs ro l => ∃ vs, SegsD dm ρ l vs ∧ vs.length ≤ (ρ key).cap ∧ w.rangeAt (ρ key).blk (ρ key).off vs ∧ (ro = false → w.there (ρ key).blk (ρ key).off (ρ key).cap)

structure HeapD (ρ : Nat → Pl) (H : Nat → Option SB) (w : World) : Prop where
 blk : ∀ k b, H k = some b → BlkD (dmOf H) ρ w k b
 sep : ∀ k k' ro ro' l l', H k = some (.segs ro l) → H k' = some (.segs ro' l') → k ≠ k' → (ro = false ∨ ro' = false) → 0 < (ρ k).cap → 0 < (ρ k').cap → (ρ k).blk ≠ (ρ k').blk
 lt : ∀ k ro l, H k = some (.segs ro l) → 0 < (ρ k).cap → (ρ k).blk < w.heap.size

structure FrameW (M : Nat → Prop) (w0 w : World) : Prop where
 os : w.os = w0.os
 tape : w.tape = w0.tape
 output : w.output = w0.output
 size : w0.heap.size ≤ w.heap.size
 block : ∀ k, k < w0.heap.size → ¬ M k → w.heap[k]? = w0.heap[k]?

theorem FrameW.refl (M : Nat → Prop) (w : World) : FrameW M w w := ⟨rfl, rfl, rfl, Nat.le_refl _, fun _ _ _ => rfl⟩

theorem FrameW.trans {M : Nat → Prop} {a b c : World} (h : FrameW M a b) (k : FrameW M b c) : FrameW M a c :=
 ⟨k.os.trans h.os, k.tape.trans h.tape, k.output.trans h.output, Nat.le_trans h.size k.size, fun i hi hm => (k.block i (Nat.lt_of_lt_of_le hi h.size) hm).trans (h.block i hi hm)⟩

theorem FrameW.below {M : Nat → Prop} {a b : World} (h : FrameW M a b) (hM : ∀ k, ¬ M k) : Below a.heap.size a b :=
 ⟨h.os, h.tape, h.output, h.size, fun k hk => h.block k hk (hM k)⟩

theorem FrameW.of_below {M : Nat → Prop} {a b : World} (h : Below a.heap.size a b) : FrameW M a b := ⟨h.os, h.tape, h.output, h.size, fun k hk _ => h.block k hk⟩

def Clean (w : World) (b : Nat) : Prop := ∀ cs T lo hi, w.heap[b]? = some (.cells cs T (lo, hi)) → lo = hi ∨ cs.size ≤ lo
theorem Clean.of_block {w w' : World} {b : Nat} (h : w'.heap[b]? = w.heap[b]?) (hc : Clean w b) : Clean w' b := fun cs T lo hi e => hc cs T lo hi (by rw [← h]; exact e)
theorem clean_setCell {w : World} {b : Nat} (h : Clean w b) (a : Addr) (v : Value) : Clean (w.setCell a v) b := fun cs T lo hi e => by
 unfold World.setCell at e
 simp only [Array.getElem?_modify] at e
 split at e
 ·rw [Option.map_eq_some_iff] at e
  obtain ⟨o, e1, e2⟩ := e
  split at e2
  ·rename_i c el fr
   simp only [Obj.cells.injEq] at e2
   obtain ⟨rfl, rfl, rfl⟩ := e2
   have := h _ _ _ _ e1
   split <;> simpa using this
  ·rw [e2] at e1; exact h _ _ _ _ e1
 ·exact h _ _ _ _ e
theorem clean_setCells {b b' : Nat} : ∀ (vs : List Value) (o : Nat) (w : World), Clean w b → Clean (w.setCells b' o vs) b
 | [], _, _, h => h
 | v :: r, o, w, h => by rw [World.setCells]; exact clean_setCells r (o + 1) _ (clean_setCell h _ _)

theorem there_of_block' {w w' : World} {b o n : Nat} (h : w'.heap[b]? = w.heap[b]?) (ht : w.there b o n) : w'.there b o n := fun j hj => by
 have := ht j hj
 rw [World.cell?_of_block (a := ⟨b, o + j, none⟩) h, World.frozen?_of_block (a := ⟨b, o + j, none⟩) h]; exact this
theorem rangeAt_of_block' {w w' : World} {b o : Nat} {cs : List Value} (h : w'.heap[b]? = w.heap[b]?) (ht : w.rangeAt b o cs) : w'.rangeAt b o cs := fun j v hv => by
 rw [World.cell?_of_block (a := ⟨b, o + j, none⟩) h]; exact ht j v hv
theorem rangeAt_nil' (w : World) (b o : Nat) : w.rangeAt b o [] := fun j v h => by simp at h

def PkD (w : World) : PK → List Int → List Value → Prop
 | .b k _, m, vs => AllR k m ∧ ∃ a cap, vs = [.slice a m.length cap] ∧ m.length ≤ cap ∧ ((∃ b o, a = some ⟨b, o, none⟩ ∧ w.rangeAt b o (m.map (Value.int k)) ∧ w.there b o cap) ∨ (m = [] ∧ cap = 0))
 | k, m, vs => pkOk k m ∧ vs = pkVals k m

def boxB (w : World) (b o c : Nat) : Prop := ∃ o' n cap, w.cell? ⟨b, o, none⟩ = some (.slice (some ⟨c, o', none⟩) n cap) ∧ 0 < cap

def OwnB (w : World) (p : Pl) (k : PK) (i c : Nat) : Prop := 0 < p.pc i ∧ (c = p.pb i ∨ (k.box = true ∧ boxB w (p.pb i) (p.po i) c))

theorem OwnB.pb {w : World} {p : Pl} {k : PK} {i : Nat} (h : 0 < p.pc i) : OwnB w p k i (p.pb i) := ⟨h, .inl rfl⟩
theorem boxB.of_block {w w' : World} {b o c : Nat} (h : w'.heap[b]? = w.heap[b]?) (hb : boxB w' b o c) : boxB w b o c := by
 obtain ⟨o', n, cap, h1, h2⟩ := hb
 exact ⟨o', n, cap, by rw [← World.cell?_of_block (a := ⟨b, o, none⟩) h]; exact h1, h2⟩
theorem OwnB.of_block {w w' : World} {p : Pl} {k : PK} {i c : Nat} (h : 0 < p.pc i → w'.heap[p.pb i]? = w.heap[p.pb i]?) (hb : OwnB w' p k i c) : OwnB w p k i c := by
 obtain ⟨h0, h1 | ⟨h1, h2⟩⟩ := hb
 ·exact ⟨h0, .inl h1⟩
 ·exact ⟨h0, .inr ⟨h1, h2.of_block (h h0)⟩⟩
theorem OwnB.plain {w : World} {p : Pl} {k : PK} {i c : Nat} (hk : k.box = false) (h : OwnB w p k i c) : 0 < p.pc i ∧ c = p.pb i := by
 obtain ⟨h0, h1 | ⟨h1, _⟩⟩ := h
 ·exact ⟨h0, h1⟩
 ·rw [hk] at h1; cases h1

def Zp (p : Pl) : Nat → Prop := fun b => ∃ i, i < p.pn ∧ 0 < p.pc i ∧ b = p.pb i
def FzD (w : World) (p : Pl) : Prop := ∃ wF : World, p.rel = RoD wF (Zp p) ∧ ∀ b, Zp p b → w.heap[b]? = wF.heap[b]?
def KindEq (a b : Option Value) : Prop := b = a ∨ (∃ k z z', a = some (.int k z) ∧ b = some (.int k z') ∧ InR k z') ∨ ∃ s n c, a = some (.slice s n c) ∧ b = some (.slice none 0 0)
theorem KindEq.trans {a b c : Option Value} (h : KindEq a b) (g : KindEq b c) : KindEq a c := by
 rcases h with rfl | ⟨k, z, z', rfl, rfl, h⟩ | ⟨s, n, q, rfl, rfl⟩
 ·exact g
 ·rcases g with rfl | ⟨k2, y, y', e, rfl, g⟩ | ⟨s, n, q, e, rfl⟩
  ·exact .inr (.inl ⟨_, _, _, rfl, rfl, h⟩)
  ·simp only [Option.some.injEq, Value.int.injEq] at e
   obtain ⟨rfl, rfl⟩ := e
   exact .inr (.inl ⟨_, _, _, rfl, rfl, g⟩)
  ·cases e
 ·rcases g with rfl | ⟨k2, y, y', e, rfl, g⟩ | ⟨s, n, q, e, rfl⟩
  ·exact .inr (.inr ⟨_, _, _, rfl, rfl⟩)
  ·cases e
  ·exact .inr (.inr ⟨_, _, _, rfl, rfl⟩)
def HavD (w : World) (p : Pl) : Prop := ∃ wF : World, p.rel = RoD wF (Zp p) ∧ ∀ b x, Zp p b → KindEq (wF.cell? ⟨b, x, none⟩) (w.cell? ⟨b, x, none⟩)
structure VivD (w : World) (p : Pl) (ms : List (List Int)) : Prop where
 kin : ∃ wF : World, p.wv = some wF ∧ ∀ b x, Zp p b → KindEq (wF.cell? ⟨b, x, none⟩) (w.cell? ⟨b, x, none⟩)
 hd : ∀ x n, (ms.getD 0 [])[x]? = some n → 0 ≤ n ∧ InR .i64 n ∧ Zp p p.blk ∧ ∃ a cap, w.cell? ⟨p.blk, p.off + x, none⟩ = some (.slice a n.toNat cap) ∧ (0 < n → a = some ⟨p.hb x, p.ho x, none⟩) ∧
  ∀ y, y < n.toNat → Zp p (p.hb x) ∧ ∃ z, w.cell? ⟨p.hb x, p.ho x + y, none⟩ = some (.int .u8 z) ∧ InR .u8 z
theorem FzD.step {w w' : World} {p : Pl} (h : FzD w p) (hw : ∀ b, Zp p b → w'.heap[b]? = w.heap[b]?) : FzD w' p := by
 obtain ⟨wF, h1, h2⟩ := h
 exact ⟨wF, h1, fun b hb => (hw b hb).trans (h2 b hb)⟩
theorem HavD.step {w w' : World} {p : Pl} (h : HavD w p) (hw : ∀ b, Zp p b → w'.heap[b]? = w.heap[b]?) : HavD w' p := by
 obtain ⟨wF, h1, h2⟩ := h
 exact ⟨wF, h1, fun b x hb => by rw [World.cell?_of_block (a := ⟨b, x, none⟩) (hw b hb)]; exact h2 b x hb⟩
theorem VivD.step {w w' : World} {p : Pl} {ms : List (List Int)} (h : VivD w p ms) (hw : ∀ b, Zp p b → w'.heap[b]? = w.heap[b]?) : VivD w' p ms := by
 obtain ⟨wF, h1, h2⟩ := h.kin
 refine ⟨⟨wF, h1, fun b x hb => by rw [World.cell?_of_block (a := ⟨b, x, none⟩) (hw b hb)]; exact h2 b x hb⟩, fun x n hn => ?_⟩
 obtain ⟨a1, a2, a3, a, cap, a4, a5, a6⟩ := h.hd x n hn
 refine ⟨a1, a2, a3, a, cap, by rw [World.cell?_of_block (a := ⟨p.blk, p.off + x, none⟩) (hw _ a3)]; exact a4, a5, fun y hy => ?_⟩
 obtain ⟨b1, z, b2, b3⟩ := a6 y hy
 exact ⟨b1, z, by rw [World.cell?_of_block (a := ⟨p.hb x, p.ho x + y, none⟩) (hw _ b1)]; exact b2, b3⟩

structure PoolD (w0 : World) (M : Nat → Prop) (w : World) (p : Pl) (k : PK) (ms : List (List Int)) : Prop where
 cnt : p.pn = ms.length
 rowD : ∀ i m, ms[i]? = some m → ∃ vs, PkD w k m vs ∧ vs.length ≤ p.pc i ∧ w.rangeAt (p.pb i) (p.po i) vs ∧ w.there (p.pb i) (p.po i) (p.pc i)
 ltD : ∀ i c, i < ms.length → OwnB w p k i c → c < w.heap.size
 ownD : ∀ i c, i < ms.length → OwnB w p k i c → w0.heap.size ≤ c ∨ M c
 cleanD : ∀ i c, i < ms.length → OwnB w p k i c → Clean w c
 sepD : ∀ i j c, i < ms.length → j < ms.length → OwnB w p k i c → OwnB w p k j c → i = j
 inn : ∀ i, i < ms.length → 0 < p.pc i → k.box = true → ¬ boxB w (p.pb i) (p.po i) (p.pb i)
 fzD : k = .z → FzD w p
 havD : k = .h → HavD w p
 vivD : k = .v → VivD w p ms

def ViewD (w : World) (p q : Pl) (r : Nat) : Prop := ∃ a n cap, w.cell? ⟨p.pb r, p.po r, none⟩ = some (.slice a n cap) ∧ ((a = some ⟨q.blk, q.off, none⟩ ∧ cap = q.cap) ∨ (n = 0 ∧ cap = 0 ∧ q.cap = 0))
theorem ViewD.step {w w' : World} {p q q' : Pl} {r : Nat} (h : ViewD w p q r) (hw : w'.heap[p.pb r]? = w.heap[p.pb r]?) (hq : PlLe q q') : ViewD w' p q' r := by
 obtain ⟨a, n, cap, h1, h2⟩ := h
 exact ⟨a, n, cap, by rw [World.cell?_of_block (a := ⟨p.pb r, p.po r, none⟩) hw]; exact h1, by rw [hq.blk, hq.off, hq.cap]; exact h2⟩

structure PoolsOk (w0 : World) (M : Nat → Prop) (ρ : Nat → Pl) (H : Nat → Option SB) (w : World) : Prop where
 pool : ∀ key k ms, H key = some (.pool k ms) → PoolD w0 M w (ρ key) k ms
 apartD : ∀ key k ms key' ro l i c, H key = some (.pool k ms) → H key' = some (.segs ro l) → 0 < (ρ key').cap → i < ms.length → OwnB w (ρ key) k i c → (ρ key').blk ≠ c
 twoD : ∀ key k ms key' k' ms' i j c, H key = some (.pool k ms) → H key' = some (.pool k' ms') → key ≠ key' → i < ms.length → j < ms'.length → OwnB w (ρ key) k i c → OwnB w (ρ key') k' j c → False
 view : ∀ key k q r ms, H key = some (.pool (.b k (some (q, r))) ms) → dmOf H q ∧ r < ms.length ∧ 0 < (ρ key).pc r ∧ ViewD w (ρ key) (ρ q) r

section
variable {w0 : World} {M : Nat → Prop} {w : World} {p : Pl} {k : PK} {ms : List (List Int)}
theorem PoolD.lt (h : PoolD w0 M w p k ms) (i : Nat) (hi : i < ms.length) (h0 : 0 < p.pc i) : p.pb i < w.heap.size := h.ltD i _ hi (.pb h0)
theorem PoolD.own (h : PoolD w0 M w p k ms) (i : Nat) (hi : i < ms.length) (h0 : 0 < p.pc i) : w0.heap.size ≤ p.pb i ∨ M (p.pb i) := h.ownD i _ hi (.pb h0)
theorem PoolD.clean (h : PoolD w0 M w p k ms) (i : Nat) (hi : i < ms.length) (h0 : 0 < p.pc i) : Clean w (p.pb i) := h.cleanD i _ hi (.pb h0)
theorem PoolD.sep (h : PoolD w0 M w p k ms) (i j : Nat) (hi : i < ms.length) (hj : j < ms.length) (h0 : 0 < p.pc i) (h1 : 0 < p.pc j) (e : p.pb i = p.pb j) : i = j := h.sepD i j _ hi hj (.pb h0) (by rw [e]; exact .pb h1)
theorem PkD.plain {m : List Int} {vs : List Value} (hk : k.box = false) (h : PkD w k m vs) : pkOk k m ∧ vs = pkVals k m := by
 cases k with
 | b k v => cases hk
 | k k => exact h
 | r ts => exact h
 | z => exact h
 | h => exact h
 | v => exact h
theorem PkD.of_plain {m : List Int} (hk : k.box = false) (h : pkOk k m) : PkD w k m (pkVals k m) := by
 cases k with
 | b k v => cases hk
 | k k => exact ⟨h, rfl⟩
 | r ts => exact ⟨h, rfl⟩
 | z => exact ⟨h, rfl⟩
 | h => exact ⟨h, rfl⟩
 | v => exact ⟨h, rfl⟩
theorem PoolD.row (h : PoolD w0 M w p k ms) (hk : k.box = false) (i : Nat) (m : List Int) (hi : ms[i]? = some m) : pkOk k m ∧ (pkVals k m).length ≤ p.pc i ∧ w.rangeAt (p.pb i) (p.po i) (pkVals k m) ∧ w.there (p.pb i) (p.po i) (p.pc i) := by
 obtain ⟨vs, h1, h2, h3, h4⟩ := h.rowD i m hi
 obtain ⟨a, rfl⟩ := h1.plain hk
 exact ⟨a, h2, h3, h4⟩
theorem PoolD.mk0 (hk : k.box = false) (cnt : p.pn = ms.length)
  (row : ∀ i m, ms[i]? = some m → pkOk k m ∧ (pkVals k m).length ≤ p.pc i ∧ w.rangeAt (p.pb i) (p.po i) (pkVals k m) ∧ w.there (p.pb i) (p.po i) (p.pc i))
  (lt : ∀ i, i < ms.length → 0 < p.pc i → p.pb i < w.heap.size) (own : ∀ i, i < ms.length → 0 < p.pc i → w0.heap.size ≤ p.pb i ∨ M (p.pb i))
  (clean : ∀ i, i < ms.length → 0 < p.pc i → Clean w (p.pb i)) (sep : ∀ i j, i < ms.length → j < ms.length → 0 < p.pc i → 0 < p.pc j → p.pb i = p.pb j → i = j) (hz : k.fz = false := by rfl) : PoolD w0 M w p k ms :=
 ⟨cnt, fun i m hi => by obtain ⟨a, b, c, d⟩ := row i m hi; exact ⟨_, .of_plain hk a, b, c, d⟩,
  fun i c hi ho => by obtain ⟨a, rfl⟩ := ho.plain hk; exact lt i hi a, fun i c hi ho => by obtain ⟨a, rfl⟩ := ho.plain hk; exact own i hi a,
  fun i c hi ho => by obtain ⟨a, rfl⟩ := ho.plain hk; exact clean i hi a, fun i j c hi hj ho ho' => by
   obtain ⟨a, rfl⟩ := ho.plain hk
   obtain ⟨a', e⟩ := ho'.plain hk
   exact sep i j hi hj a a' e, fun i _ _ e => (by rw [hk] at e; cases e), fun e => (by rw [e] at hz; cases hz), fun e => (by rw [e] at hz; cases hz), fun e => (by rw [e] at hz; cases hz)⟩
end
theorem PoolsOk.apart {w0 : World} {M : Nat → Prop} {ρ : Nat → Pl} {H : Nat → Option SB} {w : World} (h : PoolsOk w0 M ρ H w) (key : Nat) (k : PK) (ms : List (List Int)) (key' : Nat) (ro : Bool) (l : List Seg) (i : Nat) (h1 : H key = some (.pool k ms)) (h2 : H key' = some (.segs ro l)) (h3 : 0 < (ρ key').cap) (h4 : i < ms.length) (h5 : 0 < (ρ key).pc i) : (ρ key').blk ≠ (ρ key).pb i :=
 h.apartD key k ms key' ro l i _ h1 h2 h3 h4 (.pb h5)
theorem PoolsOk.two {w0 : World} {M : Nat → Prop} {ρ : Nat → Pl} {H : Nat → Option SB} {w : World} (h : PoolsOk w0 M ρ H w) (key : Nat) (k : PK) (ms : List (List Int)) (key' : Nat) (k' : PK) (ms' : List (List Int)) (i j : Nat) (h1 : H key = some (.pool k ms)) (h2 : H key' = some (.pool k' ms')) (h3 : key ≠ key') (h4 : i < ms.length) (h5 : j < ms'.length) (h6 : 0 < (ρ key).pc i) (h7 : 0 < (ρ key').pc j) : (ρ key).pb i ≠ (ρ key').pb j := fun e =>
 h.twoD key k ms key' k' ms' i j _ h1 h2 h3 h4 h5 (.pb h6) (by rw [e]; exact .pb h7)

theorem PoolD.rowk {w0 : World} {M : Nat → Prop} {w : World} {p : Pl} {k : IntKind} {ms : List (List Int)} (h : PoolD w0 M w p (.k k) ms) : ∀ i m, ms[i]? = some m → AllR k m ∧ m.length ≤ p.pc i ∧ w.rangeAt (p.pb i) (p.po i) (m.map (Value.int k)) ∧ w.there (p.pb i) (p.po i) (p.pc i) := fun i m hi => by
 obtain ⟨a, b, c, d⟩ := h.row rfl i m hi
 exact ⟨a, by simpa [pkVals] using b, c, d⟩

theorem PkD.step {w w' : World} {k : PK} {m : List Int} {vs : List Value} {b o n : Nat} (hn : vs.length ≤ n) (hr : w.rangeAt b o vs) (h : PkD w k m vs) (hw : ∀ c, 0 < n → k.box = true → boxB w b o c → w'.heap[c]? = w.heap[c]?) : PkD w' k m vs := by
 cases k with
 | k k => exact h
 | r ts => exact h
 | z => exact h
 | h => exact h
 | v => exact h
 | b k v =>
  obtain ⟨h1, a, cap, rfl, h3, h4⟩ := h
  refine ⟨h1, a, cap, rfl, h3, ?_⟩
  rcases h4 with ⟨c, o', rfl, h5, h6⟩ | h4
  ·rcases Nat.eq_zero_or_pos cap with h0 | h0
   ·have : m = [] := List.eq_nil_of_length_eq_zero (by omega)
    exact .inr ⟨this, h0⟩
   ·have e := hw c (by simp at hn; omega) rfl ⟨o', _, cap, hr 0 _ rfl, h0⟩
    exact .inl ⟨c, o', rfl, rangeAt_of_block' e h5, there_of_block' e h6⟩
  ·exact .inr h4

theorem PoolD.step {w0 w0' : World} {M M' : Nat → Prop} {w w' : World} {p p' : Pl} {k : PK} {ms : List (List Int)} (h : PoolD w0 M w p k ms) (he : p' = p) (hs : w.heap.size ≤ w'.heap.size)
  (ho : ∀ i c, i < ms.length → OwnB w p k i c → w0.heap.size ≤ c ∨ M c → w0'.heap.size ≤ c ∨ M' c)
  (hw : ∀ i c, i < ms.length → OwnB w p k i c → w'.heap[c]? = w.heap[c]?) : PoolD w0' M' w' p' k ms := by
 subst he
 have hO : ∀ i c, i < ms.length → OwnB w' p' k i c → OwnB w p' k i c := fun i c hi h1 => h1.of_block fun h0 => hw i _ hi (.pb h0)
 have hZ : ∀ b, Zp p' b → w'.heap[b]? = w.heap[b]? := fun b ⟨i, hi, hc, e⟩ => by
  subst e
  exact hw i _ (by rw [← h.cnt]; exact hi) (.pb hc)
 refine ⟨h.cnt, fun i m hi => ?_, fun i c hi h0 => ?_, fun i c hi h0 => ?_, fun i c hi h0 => ?_, fun i j c hi hj h0 h1 => ?_, fun i hi h0 hb hx => ?_, fun e => (h.fzD e).step hZ, fun e => (h.havD e).step hZ, fun e => (h.vivD e).step hZ⟩
 ·obtain ⟨vs, a, b, c, d⟩ := h.rowD i m hi
  have hlt := (List.getElem?_eq_some_iff.1 hi).1
  refine ⟨vs, a.step b c fun c' h0 hb hx => hw i c' hlt ⟨h0, .inr ⟨hb, hx⟩⟩, b, ?_⟩
  rcases Nat.eq_zero_or_pos (p'.pc i) with h0 | h0
  ·have : vs = [] := List.eq_nil_of_length_eq_zero (by omega)
   exact ⟨by rw [this]; exact rangeAt_nil' _ _ _, fun j hj => by omega⟩
  ·exact ⟨rangeAt_of_block' (hw i _ hlt (.pb h0)) c, there_of_block' (hw i _ hlt (.pb h0)) d⟩
 ·exact Nat.lt_of_lt_of_le (h.ltD i c hi (hO i c hi h0)) hs
 ·exact ho i c hi (hO i c hi h0) (h.ownD i c hi (hO i c hi h0))
 ·exact (h.cleanD i c hi (hO i c hi h0)).of_block (hw i c hi (hO i c hi h0))
 ·exact h.sepD i j c hi hj (hO i c hi h0) (hO j c hj h1)
 ·exact h.inn i hi h0 hb (hx.of_block (hw i _ hi (.pb h0)))

theorem PoolsOk.step {w0 w0' : World} {M M' : Nat → Prop} {ρ ρ' : Nat → Pl} {H H' : Nat → Option SB} {w w' : World} (h : PoolsOk w0 M ρ H w)
  (hd : ∀ a, dmOf H a → dmOf H' a ∧ PlLe (ρ a) (ρ' a))
  (hp : ∀ key k ms, H' key = some (.pool k ms) → H key = some (.pool k ms) ∧ ρ' key = ρ key)
  (hg : ∀ key ro l, H' key = some (.segs ro l) → 0 < (ρ' key).cap → (∃ key0 ro0 l0, H key0 = some (.segs ro0 l0) ∧ 0 < (ρ key0).cap ∧ (ρ key0).blk = (ρ' key).blk) ∨ w.heap.size ≤ (ρ' key).blk)
  (hs : w.heap.size ≤ w'.heap.size) (ho : ∀ b, w0.heap.size ≤ b ∨ M b → w0'.heap.size ≤ b ∨ M' b)
  (hw : ∀ key k ms i c, H key = some (.pool k ms) → i < ms.length → OwnB w (ρ key) k i c → w'.heap[c]? = w.heap[c]?) : PoolsOk w0' M' ρ' H' w' := by
 have hO : ∀ key k ms i c, H key = some (.pool k ms) → i < ms.length → OwnB w' (ρ key) k i c → OwnB w (ρ key) k i c := fun key k ms i c hk hi h1 => h1.of_block fun h0 => hw key k ms i _ hk hi (.pb h0)
 refine ⟨fun key k ms hk => ?_, fun key k ms key' ro l i c h1 h2 h3 h4 h5 => ?_, fun key k ms key' k' ms' i j c h1 h2 h3 h4 h5 h6 h7 => ?_, fun key k q r ms hk => ?_⟩
 rotate_left 3
 ·obtain ⟨a, b⟩ := hp _ _ _ hk
  obtain ⟨v1, v2, v3, v4⟩ := h.view key k q r ms a
  rw [b]
  exact ⟨(hd q v1).1, v2, v3, v4.step (hw _ _ _ _ _ a v2 (.pb v3)) (hd q v1).2⟩
 ·obtain ⟨a, b⟩ := hp key k ms hk
  exact (h.pool key k ms a).step b hs (fun i c hi h0 => ho _) (fun i c hi h0 => hw key k ms i c a hi h0)
 ·obtain ⟨a, b⟩ := hp key k ms h1
  rw [b] at h5
  have h5 := hO key k ms i c a h4 h5
  rcases hg key' ro l h2 h3 with ⟨key0, ro0, l0, e1, e2, e3⟩ | e
  ·rw [← e3]; exact h.apartD key k ms key0 ro0 l0 i c a e1 e2 h4 h5
  ·have := (h.pool key k ms a).ltD i c h4 h5; omega
 ·obtain ⟨a, b⟩ := hp key k ms h1
  obtain ⟨a', b'⟩ := hp key' k' ms' h2
  rw [b] at h6; rw [b'] at h7
  exact h.twoD key k ms key' k' ms' i j c a a' h3 h4 h5 (hO _ _ _ _ _ a h4 h6) (hO _ _ _ _ _ a' h5 h7)

theorem PoolsOk.none {w0 : World} {M : Nat → Prop} {ρ : Nat → Pl} {H : Nat → Option SB} {w : World} (h : ∀ key k ms, H key ≠ some (.pool k ms)) : PoolsOk w0 M ρ H w :=
 ⟨fun key k ms e => absurd e (h key k ms), fun key k ms _ _ _ _ _ e => absurd e (h key k ms), fun key k ms _ _ _ _ _ _ e => absurd e (h key k ms), fun key k q r ms e => absurd e (h key _ ms)⟩

structure Mem (w0 : World) (M : Nat → Prop) (ρ : Nat → Pl) (H : Nat → Option SB) (w : World) : Prop where
 heap : HeapD ρ H w
 frame : FrameW M w0 w
 own : ∀ k l, H k = some (.segs false l) → 0 < (ρ k).cap → w0.heap.size ≤ (ρ k).blk ∨ M (ρ k).blk
 view : ∀ k, H k = some .world → (ρ k).rel = RoD w0 (OutB w0 M)
 clean : ∀ k l, H k = some (.segs false l) → 0 < (ρ k).cap → Clean w (ρ k).blk
 pools : PoolsOk w0 M ρ H w

def updH (H : Nat → Option SB) (key : Nat) (b : SB) : Nat → Option SB := fun k => if k = key then some b else H k
def updP (ρ : Nat → Pl) (key : Nat) (p : Pl) : Nat → Pl := fun k => if k = key then p else ρ k

theorem updH_same (H : Nat → Option SB) (key : Nat) (b : SB) : updH H key b key = some b := by simp [updH]
theorem updH_ne {H : Nat → Option SB} {key k : Nat} {b : SB} (h : k ≠ key) : updH H key b k = H k := by simp [updH, h]
theorem view_up {w0 : World} {M : Nat → Prop} {ρ : Nat → Pl} {H : Nat → Option SB} (h : ∀ k, H k = some .world → (ρ k).rel = RoD w0 (OutB w0 M)) {key : Nat} {b : SB} (hb : b ≠ .world) {p : Pl} : ∀ k, updH H key b k = some .world → (updP ρ key p k).rel = RoD w0 (OutB w0 M) := fun k hk => by
 by_cases e : k = key
 ·subst e; simp [updH] at hk; exact absurd hk hb
 ·simp only [updH, updP, e, if_false] at hk ⊢; exact h k hk
theorem view_upH {w0 : World} {M : Nat → Prop} {ρ : Nat → Pl} {H : Nat → Option SB} (h : ∀ k, H k = some .world → (ρ k).rel = RoD w0 (OutB w0 M)) {key : Nat} {b : SB} (hb : b ≠ .world) : ∀ k, updH H key b k = some .world → (ρ k).rel = RoD w0 (OutB w0 M) := fun k hk => by
 by_cases e : k = key
 ·subst e; simp [updH] at hk; exact absurd hk hb
 ·simp only [updH, e, if_false] at hk ⊢; exact h k hk
theorem updP_same (ρ : Nat → Pl) (key : Nat) (p : Pl) : updP ρ key p key = p := by simp [updP]
theorem updP_ne {ρ : Nat → Pl} {key k : Nat} {p : Pl} (h : k ≠ key) : updP ρ key p k = ρ k := by simp [updP, h]

theorem dm_updH (H : Nat → Option SB) (key : Nat) (b : SB) (k : Nat) (h : dmOf H k) : dmOf (updH H key b) k := by
 unfold dmOf updH at *; split <;> simp_all
theorem dm_updH_of {H : Nat → Option SB} {key : Nat} {b : SB} (hk : (H key).isSome = true) (k : Nat) (h : dmOf (updH H key b) k) : dmOf H k := by
 unfold dmOf updH at *; split at h <;> simp_all

theorem updP_keeps {H : Nat → Option SB} {ρ : Nat → Pl} {key : Nat} {p : Pl} (hn : H key = none) : ∀ k, dmOf H k → PlLe (ρ k) (updP ρ key p k) := by
 intro k hk
 refine PlLe.of_eq (updP_ne fun e => ?_)
 subst e
 unfold dmOf at hk
 rw [hn] at hk; cases hk

/-! ### Nothing is written -/

theorem there_of_block {w w' : World} {b o n : Nat} (h : w'.heap[b]? = w.heap[b]?) (ht : w.there b o n) : w'.there b o n := fun j hj => by
 have := ht j hj
 rw [World.cell?_of_block (a := ⟨b, o + j, none⟩) h, World.frozen?_of_block (a := ⟨b, o + j, none⟩) h]; exact this
theorem rangeAt_of_block {w w' : World} {b o : Nat} {cs : List Value} (h : w'.heap[b]? = w.heap[b]?) (ht : w.rangeAt b o cs) : w'.rangeAt b o cs := fun j v hv => by
 rw [World.cell?_of_block (a := ⟨b, o + j, none⟩) h]; exact ht j v hv

theorem rangeAt_nil (w : World) (b o : Nat) : w.rangeAt b o [] := fun j v h => by simp at h
theorem there_zero (w : World) (b o : Nat) : w.there b o 0 := fun j h => by omega

theorem BlkD.of_block {dm dm' : Nat → Prop} {ρ ρ' : Nat → Pl} {w w' : World} {key : Nat} {b : SB} (hd : ∀ k, dm k → dm' k) (hρ : ∀ k, dm k → PlLe (ρ k) (ρ' k)) (hk : ρ' key = ρ key)
  (hb : ∀ ro l, b = .segs ro l → 0 < (ρ key).cap → w'.heap[(ρ key).blk]? = w.heap[(ρ key).blk]?) (h : BlkD dm ρ w key b) : BlkD dm' ρ' w' key b := by
 cases b with
 | gone => trivial
 | world => trivial
 | pool _ _ => trivial
 | boxv _ => trivial
 | alias a i =>
  obtain ⟨h1, h2, h3, h4, h5⟩ := h
  have e := hρ a h1
  exact ⟨hd _ h1, Nat.lt_of_lt_of_le h2 e.pn, by rw [hk, e.po i h2]; exact h3, by rw [hk, e.pb i h2]; exact h4, by rw [hk, e.pc i h2]; exact h5⟩
 | segs ro l =>
  obtain ⟨vs, h1, h2, h3, h4⟩ := h
  rcases Nat.eq_zero_or_pos (ρ key).cap with h0 | h0
  ·have hv : vs = [] := List.eq_nil_of_length_eq_zero (by omega)
   subst hv
   exact ⟨[], SegsD.mono hd hρ l [] h1, by simp, rangeAt_nil _ _ _, fun _ => by rw [hk, h0]; exact there_zero _ _ _⟩
  ·have e := hb ro l rfl h0
   exact ⟨vs, SegsD.mono hd hρ l vs h1, by rw [hk]; exact h2, by rw [hk]; exact rangeAt_of_block e h3, fun hr => by rw [hk]; exact there_of_block e (h4 hr)⟩

theorem HeapD.keep {ρ : Nat → Pl} {H : Nat → Option SB} {w w' : World} (h : HeapD ρ H w) (hs : w.heap.size ≤ w'.heap.size)
  (hb : ∀ k ro l, H k = some (.segs ro l) → 0 < (ρ k).cap → w'.heap[(ρ k).blk]? = w.heap[(ρ k).blk]?) : HeapD ρ H w' :=
 ⟨fun k b hk => (h.blk k b hk).of_block (fun _ h => h) (fun _ _ => .refl _) rfl (fun ro l e => hb k ro l (by rw [hk, e])), h.sep, fun k ro l hk hc => Nat.lt_of_lt_of_le (h.lt k ro l hk hc) hs⟩

theorem Mem.drew {w0 : World} {M : Nat → Prop} {ρ : Nat → Pl} {H : Nat → Option SB} {w : World} (h : Mem w0 M ρ H w) (n : Nat) : Mem w0 M ρ H { w with drawn := n } :=
 ⟨h.heap.keep (Nat.le_refl _) (fun _ _ _ _ _ => rfl), ⟨h.frame.os, h.frame.tape, h.frame.output, h.frame.size, h.frame.block⟩, h.own, h.view, h.clean,
  h.pools.step (fun a ha => ⟨ha, .refl _⟩) (fun _ _ _ e => ⟨e, rfl⟩) (fun key ro l e c => .inl ⟨key, ro, l, e, c, rfl⟩) (Nat.le_refl _) (fun _ hb => hb) (fun _ _ _ _ _ _ _ _ => rfl)⟩

theorem Mem.keep {w0 : World} {M : Nat → Prop} {ρ : Nat → Pl} {H : Nat → Option SB} {w w' : World} (h : Mem w0 M ρ H w) (hb : Below w.heap.size w w') : Mem w0 M ρ H w' :=
 ⟨h.heap.keep hb.size (fun k ro l hk hc => hb.block _ (h.heap.lt k ro l hk hc)), h.frame.trans (.of_below hb), h.own, h.view, fun k l hk hc => (h.clean k l hk hc).of_block (hb.block _ (h.heap.lt k false l hk hc)),
  h.pools.step (fun a ha => ⟨ha, .refl _⟩) (fun _ _ _ e => ⟨e, rfl⟩) (fun key ro l e c => .inl ⟨key, ro, l, e, c, rfl⟩) hb.size (fun _ hb => hb) (fun key k ms i c hk hi h0 => hb.block _ ((h.pools.pool key k ms hk).ltD i c hi h0))⟩

/-! ### A new block -/

theorem heap_alloc_lt (w : World) (o : Obj) {k : Nat} (h : k < w.heap.size) : (w.alloc o).heap[k]? = w.heap[k]? := by
 show (w.heap.push o)[k]? = _
 rw [Array.getElem?_push, if_neg (by omega)]

theorem heap_alloc_at (w : World) (o : Obj) : (w.alloc o).heap[w.heap.size]? = some o := by
 show (w.heap.push o)[w.heap.size]? = _
 simp

theorem Mem.alloc {w0 : World} {M : Nat → Prop} {ρ : Nat → Pl} {H : Nat → Option SB} {w : World} (h : Mem w0 M ρ H w) {key : Nat} (hn : H key = none) {l : List Seg} {vs : List Value}
  (hl : SegsD (dmOf H) ρ l vs) {cells : Array Value} {T : TypeId} {fr : Nat × Nat} {extra : List Value} (hc : cells.toList = vs ++ extra) (hfr : fr.1 = fr.2 ∨ cells.size ≤ fr.1) :
  Mem w0 M (updP ρ key ({ blk := w.heap.size, off := 0, cap := cells.size } : Pl)) (updH H key (.segs false l)) (w.alloc (.cells cells T fr)) := by
 have hk := updP_keeps (ρ := ρ) (p := ({ blk := w.heap.size, off := 0, cap := cells.size } : Pl)) hn
 have hne : ∀ k b, H k = some b → k ≠ key := fun k b hb e => by subst e; rw [hn] at hb; cases hb
 have hsz : vs.length ≤ cells.size := by rw [← Array.length_toList, hc]; simp
 refine ⟨⟨fun k b hb => ?_, fun k k' ro ro' l1 l2 h1 h2 hkk hr c1 c2 => ?_, fun k ro l1 h1 c1 => ?_⟩, ⟨h.frame.os, h.frame.tape, h.frame.output, by simp; exact Nat.le_succ_of_le h.frame.size, fun k hk1 hk2 => ?_⟩, fun k l1 h1 c1 => ?_, view_up h.view (by simp), fun k l1 h1 c1 => ?_,
  h.pools.step (fun a ha => ⟨dm_updH _ _ _ a ha, hk a ha⟩) (fun k kd ms hk' => by
   have e : k ≠ key := fun e => by subst e; rw [updH_same] at hk'; cases hk'
   rw [updH_ne e] at hk'
   rw [updP_ne e]; exact ⟨hk', rfl⟩)
  (fun k ro l1 h1 c1 => by
   by_cases e : k = key
   ·subst e; rw [updP_same]; exact .inr (Nat.le_refl _)
   ·rw [updH_ne e] at h1; rw [updP_ne e] at c1 ⊢; exact .inl ⟨k, ro, l1, h1, c1, rfl⟩)
  (by simp) (fun _ hb => hb) (fun k kd ms i c hk' hi h0 => heap_alloc_lt _ _ ((h.pools.pool k kd ms hk').ltD i c hi h0))⟩
 ·by_cases e : k = key
  ·subst e
   rw [updH_same] at hb
   simp only [Option.some.injEq] at hb; subst hb
   refine ⟨vs, SegsD.mono (dm_updH _ _ _) hk l vs hl, by rw [updP_same]; exact hsz, ?_, fun _ => ?_⟩
   ·rw [updP_same]
    intro j v hv
    have hj : j < vs.length := (List.getElem?_eq_some_iff.1 hv).1
    rw [cell_of_row _ w.heap.size (0 + j) cells T fr (heap_alloc_at _ _)]
    rw [← Array.getElem?_toList, hc, Nat.zero_add, List.getElem?_append_left hj, hv]
   ·rw [updP_same]
    intro j hj
    refine ⟨?_, ?_⟩
    ·rw [cell_of_row _ w.heap.size (0 + j) cells T fr (heap_alloc_at _ _)]
     simp at hj ⊢; omega
    ·show World.frozen? _ _ = false
     simp only [World.frozen?, heap_alloc_at]
     have hj : j < cells.size := hj
     simp only [Nat.zero_add, Bool.and_eq_false_iff, decide_eq_false_iff_not]
     omega
  ·rw [updH_ne e] at hb
   exact (h.heap.blk k b hb).of_block (dm_updH _ _ _) hk (updP_ne e) (fun ro l1 e1 c1 => heap_alloc_lt _ _ (h.heap.lt k ro l1 (by rw [hb, e1]) c1))
 ·by_cases e : k = key
  ·subst e
   rw [updH_ne (Ne.symm hkk)] at h2
   rw [updP_ne (Ne.symm hkk)] at c2
   have := h.heap.lt k' ro' l2 h2 c2
   rw [updP_same, updP_ne (Ne.symm hkk)]; intro hh
   rw [← hh] at this; simp at this
  ·rw [updH_ne e] at h1
   rw [updP_ne e] at c1 ⊢
   by_cases e' : k' = key
   ·subst e'
    have := h.heap.lt k ro l1 h1 c1
    rw [updP_same]; intro hh
    rw [hh] at this; simp at this
   ·rw [updH_ne e'] at h2
    rw [updP_ne e'] at c2 ⊢
    exact h.heap.sep k k' ro ro' l1 l2 h1 h2 hkk hr c1 c2
 ·by_cases e : k = key
  ·subst e; rw [updP_same]; simp
  ·rw [updH_ne e] at h1; rw [updP_ne e] at c1 ⊢; have := h.heap.lt k ro l1 h1 c1; simp; omega
 ·rw [heap_alloc_lt _ _ (Nat.lt_of_lt_of_le hk1 h.frame.size)]; exact h.frame.block k hk1 hk2
 ·by_cases e : k = key
  ·subst e; rw [updP_same]; exact .inl h.frame.size
  ·rw [updH_ne e] at h1; rw [updP_ne e] at c1 ⊢; exact h.own k l1 h1 c1
 ·by_cases e : k = key
  ·subst e
   rw [updP_same]
   intro cs' T' lo hi e
   have e : (w.alloc (.cells cells T fr)).heap[w.heap.size]? = some (.cells cs' T' (lo, hi)) := e
   rw [heap_alloc_at] at e
   simp only [Option.some.injEq, Obj.cells.injEq] at e
   obtain ⟨rfl, rfl, rfl⟩ := e
   exact hfr
  ·rw [updH_ne e] at h1; rw [updP_ne e] at c1 ⊢
   exact (h.clean k l1 h1 c1).of_block (heap_alloc_lt _ _ (h.heap.lt k false l1 h1 c1))

/-! ### A store -/

theorem setCells_block (b : Nat) : ∀ (vs : List Value) (o : Nat) (w : World) (k : Nat), k ≠ b → (w.setCells b o vs).heap[k]? = w.heap[k]?
 | [], _, _, _, _ => rfl
 | v :: r, o, w, k, h => by
  rw [World.setCells, setCells_block b r (o + 1) _ k h]
  exact Below.heap_setCell _ _ _ _ (by simpa using h)
theorem setCells_size (b : Nat) : ∀ (vs : List Value) (o : Nat) (w : World), (w.setCells b o vs).heap.size = w.heap.size
 | [], _, _ => rfl
 | v :: r, o, w => by rw [World.setCells, setCells_size b r (o + 1)]; simp
theorem setCells_os (b : Nat) : ∀ (vs : List Value) (o : Nat) (w : World), (w.setCells b o vs).os = w.os ∧ (w.setCells b o vs).tape = w.tape ∧ (w.setCells b o vs).output = w.output
 | [], _, _ => ⟨rfl, rfl, rfl⟩
 | v :: r, o, w => by rw [World.setCells]; exact setCells_os b r (o + 1) _

theorem Mem.store {w0 : World} {M : Nat → Prop} {ρ : Nat → Pl} {H : Nat → Option SB} {w : World} (h : Mem w0 M ρ H w) {key : Nat} {l l' : List Seg} (hk : H key = some (.segs false l))
  {vs vs' nv : List Value} {o : Nat} (hr : w.rangeAt (ρ key).blk (ρ key).off vs) (ho : o ≤ vs.length) (hcap : o + nv.length ≤ (ρ key).cap) (hcap' : vs.length ≤ (ρ key).cap)
  (hvs : vs' = vs.take o ++ nv ++ vs.drop (o + nv.length)) (hl : SegsD (dmOf H) ρ l' vs') :
  Mem w0 M ρ (updH H key (.segs false l')) (w.setCells (ρ key).blk ((ρ key).off + o) nv) := by
 have hth : w.there (ρ key).blk (ρ key).off (ρ key).cap := by
  obtain ⟨_, _, _, _, h4⟩ := h.heap.blk key _ hk; exact h4 rfl
 have hsome : (H key).isSome = true := by rw [hk]; rfl
 have hos := setCells_os (ρ key).blk nv ((ρ key).off + o) w
 have hsz := setCells_size (ρ key).blk nv ((ρ key).off + o) w
 refine ⟨⟨fun k b hb => ?_, fun k k' ro ro' l1 l2 h1 h2 hkk hr c1 c2 => ?_, fun k ro l1 h1 c1 => ?_⟩, ⟨hos.1.trans h.frame.os, hos.2.1.trans h.frame.tape, hos.2.2.trans h.frame.output, by rw [hsz]; exact h.frame.size, fun k hk1 hk2 => ?_⟩, fun k l1 h1 c1 => ?_, view_upH h.view (by simp), fun k l1 h1 c1 => clean_setCells _ _ _ ?_,
  h.pools.step (fun a ha => ⟨dm_updH _ _ _ a ha, .refl _⟩) (fun k kd ms hk' => by
   have e : k ≠ key := fun e => by subst e; rw [updH_same] at hk'; cases hk'
   rw [updH_ne e] at hk'
   exact ⟨hk', rfl⟩)
  (fun k ro l1 h1 c1 => by
   by_cases e : k = key
   ·subst e; exact .inl ⟨k, false, l, hk, c1, rfl⟩
   ·rw [updH_ne e] at h1; exact .inl ⟨k, ro, l1, h1, c1, rfl⟩)
  (by rw [hsz]; exact Nat.le_refl _) (fun _ hb => hb) (fun k kd ms i c hk' hi h0 => by
   rcases Nat.eq_zero_or_pos (ρ key).cap with h9 | h9
   ·have hv : nv = [] := List.eq_nil_of_length_eq_zero (by omega)
    rw [hv]; rfl
   ·exact setCells_block _ _ _ _ _ (h.pools.apartD k kd ms key false l i c hk' hk h9 hi h0).symm)⟩
 ·by_cases e : k = key
  ·subst e
   rw [updH_same] at hb
   simp only [Option.some.injEq] at hb; subst hb
   have hlen : vs'.length ≤ (ρ k).cap := by rw [hvs]; simp; omega
   refine ⟨vs', SegsD.mono (dm_updH _ _ _) (fun _ _ => .refl _) l' vs' hl, hlen, ?_, fun _ => World.there_setCells hth _ _ _⟩
   intro j v hv
   by_cases c1 : j < o
   ·rw [World.cell?_setCells_out _ _ _ _ ⟨(ρ k).blk, (ρ k).off + j, none⟩ (fun _ _ => Or.inl (by show (ρ k).off + j < (ρ k).off + o; omega))]
    refine hr j v ?_
    rw [hvs, List.append_assoc, List.getElem?_append_left (by simp; omega), List.getElem?_take, if_pos c1] at hv
    exact hv
   ·by_cases c2 : j < o + nv.length
    ·have hlt : j - o < nv.length := by omega
     have hth2 : ∀ i, i < nv.length → (w.cell? ⟨(ρ k).blk, (ρ k).off + o + i, none⟩).isSome = true := fun i hi => by
      have := (hth (o + i) (by omega)).1
      rwa [← Nat.add_assoc] at this
     have := World.cell?_setCells_in (ρ k).blk nv ((ρ k).off + o) w hth2 (j - o) hlt
     rw [show (ρ k).off + o + (j - o) = (ρ k).off + j by omega] at this
     rw [this]
     rw [hvs, List.append_assoc, List.getElem?_append_right (by simp; omega)] at hv
     simp only [List.length_take, Nat.min_eq_left ho] at hv
     rw [List.getElem?_append_left hlt] at hv
     rw [← hv, List.getElem?_eq_getElem hlt]
    ·rw [World.cell?_setCells_out _ _ _ _ ⟨(ρ k).blk, (ρ k).off + j, none⟩ (fun _ _ => Or.inr (by show (ρ k).off + o + nv.length ≤ (ρ k).off + j; omega))]
     refine hr j v ?_
     rw [hvs, List.append_assoc, List.getElem?_append_right (by simp; omega)] at hv
     simp only [List.length_take, Nat.min_eq_left ho] at hv
     rw [List.getElem?_append_right (by omega), List.getElem?_drop] at hv
     rwa [show o + nv.length + (j - o - nv.length) = j by omega] at hv
  ·rw [updH_ne e] at hb
   refine (h.heap.blk k b hb).of_block (dm_updH _ _ _) (fun _ _ => .refl _) rfl (fun ro l1 e1 c1 => ?_)
   rcases Nat.eq_zero_or_pos (ρ key).cap with h0 | h0
   ·have hv : nv = [] := List.eq_nil_of_length_eq_zero (by omega)
    rw [hv]; rfl
   ·exact setCells_block _ _ _ _ _ (h.heap.sep k key ro false l1 l (by rw [hb, e1]) hk e (.inr rfl) c1 h0)
 ·have hx : ∀ k ro l1, updH H key (.segs false l') k = some (.segs ro l1) → ∃ l2, H k = some (.segs ro l2) := fun k ro l1 h1 => by
   by_cases e : k = key
   ·subst e; rw [updH_same] at h1; simp only [Option.some.injEq, SB.segs.injEq] at h1; rw [← h1.1]; exact ⟨_, hk⟩
   ·rw [updH_ne e] at h1; exact ⟨_, h1⟩
  obtain ⟨m1, e1⟩ := hx k ro l1 h1
  obtain ⟨m2, e2⟩ := hx k' ro' l2 h2
  exact h.heap.sep k k' ro ro' m1 m2 e1 e2 hkk hr c1 c2
 ·rw [hsz]
  by_cases e : k = key
  ·subst e; exact h.heap.lt k false l hk c1
  ·rw [updH_ne e] at h1; exact h.heap.lt k ro l1 h1 c1
 ·rcases Nat.eq_zero_or_pos (ρ key).cap with h0 | h0
  ·have hv : nv = [] := List.eq_nil_of_length_eq_zero (by omega)
   rw [hv]; exact h.frame.block k hk1 hk2
  ·rw [setCells_block]
   ·exact h.frame.block k hk1 hk2
   ·intro e
    rcases h.own key l hk h0 with h' | h'
    ·omega
    ·rw [e] at hk2; exact hk2 h'
 ·by_cases e : k = key
  ·subst e; exact h.own k l hk c1
  ·rw [updH_ne e] at h1; exact h.own k l1 h1 c1
 ·by_cases e : k = key
  ·subst e; exact h.clean k l hk c1
  ·rw [updH_ne e] at h1; exact h.clean k l1 h1 c1

/-! ### Pools -/

theorem set_get_ne {α : Type} {l : List α} {i j : Nat} {x : α} (h : i ≠ j) : (l.set i x)[j]? = l[j]? := by simp [h]

theorem Mem.pool_set {w0 : World} {M : Nat → Prop} {ρ : Nat → Pl} {H : Nat → Option SB} {w : World} (h : Mem w0 M ρ H w) {key : Nat} {k : IntKind} {ms : List (List Int)} (hk : H key = some (.pool k ms)) {r x : Nat} {m : List Int} (hr : ms[r]? = some m) (hx : x < m.length) {z : Int} (hz : InR k z) :
  Mem w0 M ρ (updH H key (.pool k (ms.set r (m.set x z)))) (w.setCells ((ρ key).pb r) ((ρ key).po r + x) [.int k z]) := by
 have hP := h.pools.pool key k ms hk
 have hrl := (List.getElem?_eq_some_iff.1 hr).1
 obtain ⟨a1, a2, a3, a4⟩ := hP.row rfl r m hr
 have a2 : m.length ≤ (ρ key).pc r := by simpa [pkVals] using a2
 have hc : 0 < (ρ key).pc r := by omega
 have hos := setCells_os ((ρ key).pb r) [.int k z] ((ρ key).po r + x) w
 have hsz := setCells_size ((ρ key).pb r) [.int k z] ((ρ key).po r + x) w
 have hx1 : ∀ k' ro l, updH H key (.pool k (ms.set r (m.set x z))) k' = some (.segs ro l) → k' ≠ key ∧ H k' = some (.segs ro l) := fun k' ro l h1 => by
  by_cases e : k' = key
  ·subst e; rw [updH_same] at h1; cases h1
  ·rw [updH_ne e] at h1; exact ⟨e, h1⟩
 have hx2 : ∀ k' kd ms', updH H key (.pool k (ms.set r (m.set x z))) k' = some (.pool kd ms') → (k' = key ∧ kd = k ∧ ms' = ms.set r (m.set x z)) ∨ (k' ≠ key ∧ H k' = some (.pool kd ms')) := fun k' kd ms' h1 => by
  by_cases e : k' = key
  ·subst e; rw [updH_same] at h1; simp only [Option.some.injEq, SB.pool.injEq] at h1; exact .inl ⟨rfl, h1.1.symm, h1.2.symm⟩
  ·rw [updH_ne e] at h1; exact .inr ⟨e, h1⟩
 have hlen : ∀ k' kd ms', updH H key (.pool k (ms.set r (m.set x z))) k' = some (.pool kd ms') → ∃ ms0, H k' = some (.pool kd ms0) ∧ ms0.length = ms'.length := fun k' kd ms' h1 => by
  rcases hx2 k' kd ms' h1 with ⟨rfl, rfl, rfl⟩ | ⟨_, e⟩
  ·exact ⟨ms, hk, by simp⟩
  ·exact ⟨ms', e, rfl⟩
 refine ⟨⟨fun k' b hb => ?_, fun k1 k2 ro ro' l1 l2 h1 h2 hkk hro c1 c2 => h.heap.sep k1 k2 ro ro' l1 l2 (hx1 _ _ _ h1).2 (hx1 _ _ _ h2).2 hkk hro c1 c2, fun k' ro l1 h1 c1 => ?_⟩,
  ⟨hos.1.trans h.frame.os, hos.2.1.trans h.frame.tape, hos.2.2.trans h.frame.output, by rw [hsz]; exact h.frame.size, fun k' hk1 hk2 => ?_⟩, fun k' l1 h1 c1 => h.own k' l1 (hx1 _ _ _ h1).2 c1, view_upH h.view (by simp), fun k' l1 h1 c1 => clean_setCells _ _ _ (h.clean k' l1 (hx1 _ _ _ h1).2 c1), ?_⟩
 ·by_cases e : k' = key
  ·subst e; rw [updH_same] at hb; simp only [Option.some.injEq] at hb; subst hb; trivial
  ·rw [updH_ne e] at hb
   exact (h.heap.blk k' b hb).of_block (dm_updH _ _ _) (fun _ _ => .refl _) rfl (fun ro l1 e1 c1 => setCells_block _ _ _ _ _ (h.pools.apart key k ms k' ro l1 r hk (by rw [hb, e1]) c1 hrl hc))
 ·rw [hsz]; exact h.heap.lt k' ro l1 (hx1 _ _ _ h1).2 c1
 ·rw [setCells_block]
  ·exact h.frame.block k' hk1 hk2
  ·intro e
   rcases hP.own r hrl hc with h' | h'
   ·omega
   ·rw [e] at hk2; exact hk2 h'
 ·have hO : ∀ k' kd ms' i c, updH H key (.pool k (ms.set r (m.set x z))) k' = some (.pool kd ms') → i < ms'.length → OwnB (w.setCells ((ρ key).pb r) ((ρ key).po r + x) [.int k z]) (ρ k') kd i c → OwnB w (ρ k') kd i c := fun k' kd ms' i c h1 hi ho => by
   rcases hx2 k' kd ms' h1 with ⟨rfl, rfl, rfl⟩ | ⟨hne, e⟩
   ·obtain ⟨a, rfl⟩ := ho.plain rfl; exact .pb a
   ·exact ho.of_block fun h0 => setCells_block _ _ _ _ _ (h.pools.two k' kd ms' key k ms i r e hk hne hi hrl h0 hc)
  refine ⟨fun k' kd ms' hk' => ?_, fun k1 kd ms1 k2 ro l i c h1 h2 c1 hi hc1 => ?_, fun k1 kd1 ms1 k2 kd2 ms2 i j c h1 h2 hkk hi hj c1 c2 => ?_, fun k' kb q r' ms' hk' => ?_⟩
  rotate_left 3
  ·rcases hx2 _ _ _ hk' with ⟨rfl, e, rfl⟩ | ⟨hne, e⟩
   ·cases e
   ·obtain ⟨v1, v2, v3, v4⟩ := h.pools.view k' kb q r' ms' e
    exact ⟨dm_updH _ _ _ _ v1, v2, v3, v4.step (setCells_block _ _ _ _ _ (h.pools.two k' _ ms' key k ms r' r e hk hne v2 hrl v3 hc)) (.refl _)⟩
  ·rcases hx2 k' kd ms' hk' with ⟨rfl, rfl, rfl⟩ | ⟨hne, e⟩
   ·refine PoolD.mk0 rfl (by rw [List.length_set]; exact hP.cnt) (fun i m' hi => ?_) (fun i hi c => ?_) (fun i hi c => ?_) (fun i hi c => clean_setCells _ _ _ (hP.clean i (by simpa using hi) c)) (fun i j hi hj => hP.sep i j (by simpa using hi) (by simpa using hj))
    ·by_cases e : r = i
     ·subst e
      rw [List.getElem?_set_self hrl] at hi
      simp only [Option.some.injEq] at hi; subst hi
      refine ⟨fun y hy => ?_, by show ((m.set x z).map (Value.int k)).length ≤ _; rw [List.length_map, List.length_set]; exact a2, fun j v hv => ?_, World.there_setCells a4 _ _ _⟩
      ·rcases List.mem_or_eq_of_mem_set hy with hy | rfl
       ·exact a1 y hy
       ·exact hz
      ·by_cases ej : j = x
       ·subst ej
        have hv : ((m.set j z).map (Value.int k))[j]? = some v := hv
        have hth2 : ∀ i, i < [Value.int k z].length → (w.cell? ⟨(ρ k').pb r, (ρ k').po r + j + i, none⟩).isSome = true := fun i hi => by
         have := (a4 (j + i) (by simp at hi; omega)).1
         rwa [← Nat.add_assoc] at this
        have := World.cell?_setCells_in ((ρ k').pb r) [Value.int k z] ((ρ k').po r + j) w hth2 0 (by simp)
        rw [Nat.add_zero] at this
        rw [this]
        rw [List.getElem?_map, List.getElem?_set_self hx] at hv
        simpa using hv
       ·rw [World.cell?_setCells_out _ _ _ _ ⟨(ρ k').pb r, (ρ k').po r + j, none⟩ (fun _ _ => by
         rcases Nat.lt_or_gt_of_ne ej with c | c
         ·exact Or.inl (by show (ρ k').po r + j < (ρ k').po r + x; omega)
         ·exact Or.inr (by show (ρ k').po r + x + [Value.int k z].length ≤ (ρ k').po r + j; simp; omega))]
        refine a3 j v ?_
        have hv : ((m.set x z).map (Value.int k))[j]? = some v := hv
        rw [List.getElem?_map, set_get_ne (Ne.symm ej)] at hv
        show (m.map (Value.int k))[j]? = some v
        rw [List.getElem?_map]; exact hv
     ·rw [set_get_ne e] at hi
      obtain ⟨b1, b2, b3, b4⟩ := hP.row rfl i m' hi
      have hil := (List.getElem?_eq_some_iff.1 hi).1
      rcases Nat.eq_zero_or_pos ((ρ k').pc i) with c | c
      ·have : pkVals (PK.k k) m' = [] := List.eq_nil_of_length_eq_zero (by omega)
       exact ⟨b1, b2, by rw [this]; exact rangeAt_nil' _ _ _, fun j hj => by omega⟩
      ·have hb : (w.setCells ((ρ k').pb r) ((ρ k').po r + x) [.int k z]).heap[(ρ k').pb i]? = w.heap[(ρ k').pb i]? := setCells_block _ _ _ _ _ (fun e2 => e (hP.sep r i hrl hil hc c e2.symm))
       exact ⟨b1, b2, rangeAt_of_block' hb b3, there_of_block' hb b4⟩
    ·rw [hsz]; exact hP.lt i (by simpa using hi) c
    ·exact hP.own i (by simpa using hi) c
   ·exact (h.pools.pool k' kd ms' e).step rfl (by rw [hsz]; exact Nat.le_refl _) (fun _ _ _ _ h => h) (fun i c hi ho => setCells_block _ _ _ _ _ (fun e2 => h.pools.twoD k' kd ms' key k ms i r c e hk hne hi hrl ho (by rw [e2]; exact .pb hc)))
  ·obtain ⟨ms0, e0, el⟩ := hlen _ _ _ h1
   exact h.pools.apartD k1 kd ms0 k2 ro l i c e0 (hx1 _ _ _ h2).2 c1 (by omega) (hO _ _ _ _ _ h1 hi hc1)
  ·obtain ⟨ms10, e1, el1⟩ := hlen _ _ _ h1
   obtain ⟨ms20, e2, el2⟩ := hlen _ _ _ h2
   exact h.pools.twoD k1 kd1 ms10 k2 kd2 ms20 i j c e1 e2 hkk (by omega) (by omega) (hO _ _ _ _ _ h1 hi c1) (hO _ _ _ _ _ h2 hj c2)

theorem Mem.pool_new {w0 : World} {M : Nat → Prop} {ρ : Nat → Pl} {H : Nat → Option SB} {w : World} (h : Mem w0 M ρ H w) {key : Nat} (hn : H key = none) (k : PK) (hv : k.seen = none) (hz : k.fz = false := by rfl) :
  Mem w0 M (updP ρ key ({ blk := 0, off := 0, cap := 0 } : Pl)) (updH H key (.pool k [])) w := by
 have hkp := updP_keeps (ρ := ρ) (p := ({ blk := 0, off := 0, cap := 0 } : Pl)) hn
 have hx1 : ∀ k' ro l, updH H key (.pool k []) k' = some (.segs ro l) → k' ≠ key ∧ H k' = some (.segs ro l) := fun k' ro l h1 => by
  by_cases e : k' = key
  ·subst e; rw [updH_same] at h1; cases h1
  ·rw [updH_ne e] at h1; exact ⟨e, h1⟩
 have hx2 : ∀ k' kd ms', updH H key (.pool k []) k' = some (.pool kd ms') → (k' = key ∧ kd = k ∧ ms' = []) ∨ (k' ≠ key ∧ H k' = some (.pool kd ms')) := fun k' kd ms' h1 => by
  by_cases e : k' = key
  ·subst e; rw [updH_same] at h1; simp only [Option.some.injEq, SB.pool.injEq] at h1; exact .inl ⟨rfl, h1.1.symm, h1.2.symm⟩
  ·rw [updH_ne e] at h1; exact .inr ⟨e, h1⟩
 refine ⟨⟨fun k' b hb => ?_, fun k1 k2 ro ro' l1 l2 h1 h2 hkk hro c1 c2 => ?_, fun k' ro l1 h1 c1 => ?_⟩, h.frame, fun k' l1 h1 c1 => ?_, view_up h.view (by simp), fun k' l1 h1 c1 => ?_, ?_⟩
 ·by_cases e : k' = key
  ·subst e; rw [updH_same] at hb; simp only [Option.some.injEq] at hb; subst hb; trivial
  ·rw [updH_ne e] at hb
   exact (h.heap.blk k' b hb).of_block (dm_updH _ _ _) hkp (updP_ne e) (fun _ _ _ _ => rfl)
 ·obtain ⟨n1, e1⟩ := hx1 _ _ _ h1
  obtain ⟨n2, e2⟩ := hx1 _ _ _ h2
  rw [updP_ne n1] at c1 ⊢; rw [updP_ne n2] at c2 ⊢
  exact h.heap.sep k1 k2 ro ro' l1 l2 e1 e2 hkk hro c1 c2
 ·obtain ⟨n1, e1⟩ := hx1 _ _ _ h1
  rw [updP_ne n1] at c1 ⊢; exact h.heap.lt k' ro l1 e1 c1
 ·obtain ⟨n1, e1⟩ := hx1 _ _ _ h1
  rw [updP_ne n1] at c1 ⊢; exact h.own k' l1 e1 c1
 ·obtain ⟨n1, e1⟩ := hx1 _ _ _ h1
  rw [updP_ne n1] at c1 ⊢; exact h.clean k' l1 e1 c1
 ·refine ⟨fun k' kd ms' hk' => ?_, fun k1 kd ms1 k2 ro l i c h1 h2 c1 hi hc1 => ?_, fun k1 kd1 ms1 k2 kd2 ms2 i j c h1 h2 hkk hi hj c1 c2 => ?_, fun k' kb q r' ms' hk' => ?_⟩
  rotate_left 3
  ·rcases hx2 _ _ _ hk' with ⟨rfl, e, rfl⟩ | ⟨hne, e⟩
   ·rw [← e] at hv; cases hv
   ·obtain ⟨v1, v2, v3, v4⟩ := h.pools.view k' kb q r' ms' e
    rw [updP_ne hne]
    exact ⟨dm_updH _ _ _ _ v1, v2, v3, v4.step rfl (hkp q v1)⟩
  ·rcases hx2 k' kd ms' hk' with ⟨rfl, rfl, rfl⟩ | ⟨hne, e⟩
   ·rw [updP_same]
    exact ⟨rfl, fun i m hi => by simp at hi, fun i c hi => absurd hi (by simp), fun i c hi => absurd hi (by simp), fun i c hi => absurd hi (by simp), fun i j c hi => absurd hi (by simp), fun i hi => absurd hi (by simp), fun e => (by rw [e] at hz; cases hz), fun e => (by rw [e] at hz; cases hz), fun e => (by rw [e] at hz; cases hz)⟩
   ·exact (h.pools.pool k' kd ms' e).step (updP_ne hne) (Nat.le_refl _) (fun _ _ _ _ h => h) (fun _ _ _ _ => rfl)
  ·obtain ⟨n2, e2⟩ := hx1 _ _ _ h2
   rcases hx2 _ _ _ h1 with ⟨rfl, rfl, rfl⟩ | ⟨hne, e⟩
   ·exact absurd hi (by simp)
   ·rw [updP_ne n2] at c1 ⊢; rw [updP_ne hne] at hc1
    exact h.pools.apartD k1 kd ms1 k2 ro l i c e e2 c1 hi hc1
  ·rcases hx2 _ _ _ h1 with ⟨rfl, rfl, rfl⟩ | ⟨hne1, e1⟩
   ·exact absurd hi (by simp)
   ·rcases hx2 _ _ _ h2 with ⟨rfl, rfl, rfl⟩ | ⟨hne2, e2⟩
    ·exact absurd hj (by simp)
    ·rw [updP_ne hne1] at c1; rw [updP_ne hne2] at c2
     exact h.pools.twoD k1 kd1 ms1 k2 kd2 ms2 i j c e1 e2 hkk hi hj c1 c2

def joinP (p q : Pl) : Pl := { p with pn := p.pn + 1, pb := fun i => if i = p.pn then q.blk else p.pb i, po := fun i => if i = p.pn then q.off else p.po i, pc := fun i => if i = p.pn then q.cap else p.pc i }

theorem joinP_le (p q : Pl) : PlLe p (joinP p q) :=
 ⟨rfl, rfl, rfl, fun _ _ _ h => h, fun h => h, Nat.le_succ _, fun r hr => by simp [joinP, Nat.ne_of_lt hr], fun r hr => by simp [joinP, Nat.ne_of_lt hr], fun r hr => by simp [joinP, Nat.ne_of_lt hr], rfl, rfl, rfl⟩

theorem Mem.pool_joinG {w0 : World} {M : Nat → Prop} {ρ : Nat → Pl} {H : Nat → Option SB} {w : World} (h : Mem w0 M ρ H w) {key kf : Nat} {k : PK} {ms : List (List Int)} {l : List Int} {gl : List Seg} (hbx : k.box = false) (hk : H key = some (.pool k ms)) (hf : H kf = some (.segs false gl))
  (hv : ∀ (dm : Nat → Prop) (ρ : Nat → Pl) (cs : List Value), SegsD dm ρ gl cs → pkOk k l ∧ cs = pkVals k l) (hz : k.fz = false := by rfl) :
  Mem w0 M (updP ρ key (joinP (ρ key) (ρ kf))) (updH (updH H key (.pool k (ms ++ [l]))) kf (.alias key ms.length)) w ∧ (∀ a, PlLe (ρ a) (updP ρ key (joinP (ρ key) (ρ kf)) a)) := by
 have hne : kf ≠ key := fun e => by rw [e, hk] at hf; cases hf
 have hP := h.pools.pool key k ms hk
 have hle : ∀ a, PlLe (ρ a) (updP ρ key (joinP (ρ key) (ρ kf)) a) := fun a => by
  by_cases e : a = key
  ·subst e; rw [updP_same]; exact joinP_le _ _
  ·exact .of_eq (updP_ne e)
 obtain ⟨vs, s1, s2, s3, s4⟩ := h.heap.blk kf _ hf
 have s4 := s4 rfl
 obtain ⟨sa, rfl⟩ := hv _ _ _ s1
 have hx1 : ∀ k' ro l1, updH (updH H key (.pool k (ms ++ [l]))) kf (.alias key ms.length) k' = some (.segs ro l1) → k' ≠ key ∧ k' ≠ kf ∧ H k' = some (.segs ro l1) := fun k' ro l1 h1 => by
  by_cases e : k' = kf
  ·subst e; rw [updH_same] at h1; cases h1
  ·rw [updH_ne e] at h1
   by_cases e2 : k' = key
   ·subst e2; rw [updH_same] at h1; cases h1
   ·rw [updH_ne e2] at h1; exact ⟨e2, e, h1⟩
 have hx2 : ∀ k' kd ms', updH (updH H key (.pool k (ms ++ [l]))) kf (.alias key ms.length) k' = some (.pool kd ms') → (k' = key ∧ kd = k ∧ ms' = ms ++ [l]) ∨ (k' ≠ key ∧ H k' = some (.pool kd ms')) := fun k' kd ms' h1 => by
  by_cases e : k' = kf
  ·subst e; rw [updH_same] at h1; cases h1
  ·rw [updH_ne e] at h1
   by_cases e2 : k' = key
   ·subst e2; rw [updH_same] at h1; simp only [Option.some.injEq, SB.pool.injEq] at h1; exact .inl ⟨rfl, h1.1.symm, h1.2.symm⟩
   ·rw [updH_ne e2] at h1; exact .inr ⟨e2, h1⟩
 have hdm : ∀ a, dmOf H a → dmOf (updH (updH H key (.pool k (ms ++ [l]))) kf (.alias key ms.length)) a := fun a ha => dm_updH _ _ _ a (dm_updH _ _ _ a ha)
 have hkey : dmOf H key := by unfold dmOf; rw [hk]; rfl
 have jn : ∀ i, i < ms.length → (joinP (ρ key) (ρ kf)).pb i = (ρ key).pb i ∧ (joinP (ρ key) (ρ kf)).po i = (ρ key).po i ∧ (joinP (ρ key) (ρ kf)).pc i = (ρ key).pc i := fun i hi => by
  have : i ≠ (ρ key).pn := by rw [hP.cnt]; omega
  simp [joinP, this]
 have jl : (joinP (ρ key) (ρ kf)).pb ms.length = (ρ kf).blk ∧ (joinP (ρ key) (ρ kf)).po ms.length = (ρ kf).off ∧ (joinP (ρ key) (ρ kf)).pc ms.length = (ρ kf).cap := by
  simp [joinP, hP.cnt]
 refine ⟨⟨⟨fun k' b hb => ?_, fun k1 k2 ro ro' l1 l2 h1 h2 hkk hro c1 c2 => ?_, fun k' ro l1 h1 c1 => ?_⟩, h.frame, fun k' l1 h1 c1 => ?_, ?_, fun k' l1 h1 c1 => ?_, ?_⟩, hle⟩
 ·by_cases e : k' = kf
  ·subst e; rw [updH_same] at hb; simp only [Option.some.injEq] at hb; subst hb
   refine ⟨hdm _ hkey, ?_, ?_, ?_, ?_⟩
   ·rw [updP_same]; show ms.length < (ρ key).pn + 1; rw [hP.cnt]; omega
   ·rw [updP_same, updP_ne hne, jl.2.1]
   ·rw [updP_same, updP_ne hne, jl.1]
   ·rw [updP_same, updP_ne hne, jl.2.2]
  ·rw [updH_ne e] at hb
   by_cases e2 : k' = key
   ·subst e2; rw [updH_same] at hb; simp only [Option.some.injEq] at hb; subst hb; trivial
   ·rw [updH_ne e2] at hb
    exact (h.heap.blk k' b hb).of_block hdm (fun a _ => hle a) (updP_ne e2) (fun _ _ _ _ => rfl)
 ·obtain ⟨n1, _, e1⟩ := hx1 _ _ _ h1
  obtain ⟨n2, _, e2⟩ := hx1 _ _ _ h2
  rw [updP_ne n1] at c1 ⊢; rw [updP_ne n2] at c2 ⊢
  exact h.heap.sep k1 k2 ro ro' l1 l2 e1 e2 hkk hro c1 c2
 ·obtain ⟨n1, _, e1⟩ := hx1 _ _ _ h1
  rw [updP_ne n1] at c1 ⊢; exact h.heap.lt k' ro l1 e1 c1
 ·obtain ⟨n1, _, e1⟩ := hx1 _ _ _ h1
  rw [updP_ne n1] at c1 ⊢; exact h.own k' l1 e1 c1
 ·intro k' hk'
  have n2 : k' ≠ kf := fun e => by subst e; rw [updH_same] at hk'; cases hk'
  rw [updH_ne n2] at hk'
  have n1 : k' ≠ key := fun e => by subst e; rw [updH_same] at hk'; cases hk'
  rw [updH_ne n1] at hk'
  rw [updP_ne n1]; exact h.view k' hk'
 ·obtain ⟨n1, _, e1⟩ := hx1 _ _ _ h1
  rw [updP_ne n1] at c1 ⊢; exact h.clean k' l1 e1 c1
 ·have two : ∀ k' kd ms' i j c, H k' = some (.pool kd ms') → k' ≠ key → i < ms'.length → j < (ms ++ [l]).length → OwnB w (ρ k') kd i c → OwnB w (joinP (ρ key) (ρ kf)) k j c → False := fun k' kd ms' i j c e hn hi hj c1 hc2 => by
   obtain ⟨c2, rfl⟩ := hc2.plain hbx
   by_cases ej : j < ms.length
   ·rw [(jn j ej).2.2] at c2; rw [(jn j ej).1] at c1
    exact h.pools.twoD k' kd ms' key k ms i j _ e hk hn hi ej c1 (.pb c2)
   ·have : j = ms.length := by simp at hj; omega
    subst this
    rw [jl.2.2] at c2; rw [jl.1] at c1
    exact h.pools.apartD k' kd ms' kf false _ i _ e hf c2 hi c1 rfl
  refine ⟨fun k' kd ms' hk' => ?_, fun k1 kd ms1 k2 ro l1 i c h1 h2 c1 hi hc1 => ?_, fun k1 kd1 ms1 k2 kd2 ms2 i j c h1 h2 hkk hi hj c1 c2 => ?_, fun k' kb q r' ms' hk' => ?_⟩
  rotate_left 3
  ·rcases hx2 _ _ _ hk' with ⟨rfl, e, rfl⟩ | ⟨hne, e⟩
   ·rw [← e] at hbx; cases hbx
   ·obtain ⟨v1, v2, v3, v4⟩ := h.pools.view k' kb q r' ms' e
    rw [updP_ne hne]
    exact ⟨hdm q v1, v2, v3, v4.step rfl (hle q)⟩
  ·rcases hx2 k' kd ms' hk' with ⟨rfl, rfl, rfl⟩ | ⟨hn', e⟩
   ·rw [updP_same]
    refine PoolD.mk0 (hz := hz) hbx (by show (ρ k').pn + 1 = _; rw [hP.cnt]; simp) (fun i m hi => ?_) (fun i hi c => ?_) (fun i hi c => ?_) (fun i hi c => ?_) (fun i j hi hj c c' e => ?_)
    ·by_cases ei : i < ms.length
     ·rw [List.getElem?_append_left ei] at hi
      rw [(jn i ei).1, (jn i ei).2.1, (jn i ei).2.2]; exact hP.row hbx i m hi
     ·have hil := (List.getElem?_eq_some_iff.1 hi).1
      have : i = ms.length := by simp at hil; omega
      subst this
      simp at hi; subst hi
      rw [jl.1, jl.2.1, jl.2.2]
      exact ⟨sa, s2, s3, s4⟩
    ·by_cases ei : i < ms.length
     ·rw [(jn i ei).2.2] at c; rw [(jn i ei).1]; exact hP.lt i ei c
     ·have : i = ms.length := by simp at hi; omega
      subst this
      rw [jl.2.2] at c; rw [jl.1]; exact h.heap.lt kf _ _ hf c
    ·by_cases ei : i < ms.length
     ·rw [(jn i ei).2.2] at c; rw [(jn i ei).1]; exact hP.own i ei c
     ·have : i = ms.length := by simp at hi; omega
      subst this
      rw [jl.2.2] at c; rw [jl.1]; exact h.own kf _ hf c
    ·by_cases ei : i < ms.length
     ·rw [(jn i ei).2.2] at c; rw [(jn i ei).1]; exact hP.clean i ei c
     ·have : i = ms.length := by simp at hi; omega
      subst this
      rw [jl.2.2] at c; rw [jl.1]; exact h.clean kf _ hf c
    ·by_cases ei : i < ms.length
     ·rw [(jn i ei).2.2] at c
      by_cases ej : j < ms.length
      ·rw [(jn j ej).2.2] at c'; rw [(jn i ei).1, (jn j ej).1] at e; exact hP.sep i j ei ej c c' e
      ·have : j = ms.length := by simp at hj; omega
       subst this
       rw [jl.2.2] at c'; rw [(jn i ei).1, jl.1] at e
       exact absurd e.symm (h.pools.apart k' kd ms kf false _ i hk hf c' ei c)
     ·have : i = ms.length := by simp at hi; omega
      subst this
      rw [jl.2.2] at c
      by_cases ej : j < ms.length
      ·rw [(jn j ej).2.2] at c'; rw [(jn j ej).1, jl.1] at e
       exact absurd e (h.pools.apart k' kd ms kf false _ j hk hf c ej c')
      ·simp at hj; omega
   ·exact (h.pools.pool k' kd ms' e).step (updP_ne hn') (Nat.le_refl _) (fun _ _ _ _ h => h) (fun _ _ _ _ => rfl)
  ·obtain ⟨n2, n3, e2⟩ := hx1 _ _ _ h2
   rw [updP_ne n2] at c1 ⊢
   rcases hx2 _ _ _ h1 with ⟨rfl, rfl, rfl⟩ | ⟨hn', e⟩
   ·rw [updP_same] at hc1
    obtain ⟨hc9, rfl⟩ := hc1.plain hbx
    clear hc1
    by_cases ei : i < ms.length
    ·rw [(jn i ei).2.2] at hc9; rw [(jn i ei).1]
     exact h.pools.apart k1 kd ms k2 ro l1 i hk e2 c1 ei hc9
    ·have : i = ms.length := by simp at hi; omega
     subst this
     rw [jl.2.2] at hc9; rw [jl.1]
     exact h.heap.sep k2 kf ro false l1 _ e2 hf n3 (.inr rfl) c1 hc9
   ·rw [updP_ne hn'] at hc1
    exact h.pools.apartD k1 kd ms1 k2 ro l1 i c e e2 c1 hi hc1
  ·rcases hx2 _ _ _ h1 with ⟨rfl, rfl, rfl⟩ | ⟨hn1, e1⟩
   ·rcases hx2 _ _ _ h2 with ⟨rfl, rfl, rfl⟩ | ⟨hn2, e2⟩
    ·exact absurd rfl hkk
    ·rw [updP_same] at c1; rw [updP_ne hn2] at c2
     exact two k2 kd2 ms2 j i c e2 hn2 hj hi c2 c1
   ·rcases hx2 _ _ _ h2 with ⟨rfl, rfl, rfl⟩ | ⟨hn2, e2⟩
    ·rw [updP_same] at c2; rw [updP_ne hn1] at c1
     exact two k1 kd1 ms1 i j c e1 hn1 hi hj c1 c2
    ·rw [updP_ne hn1] at c1; rw [updP_ne hn2] at c2
     exact h.pools.twoD k1 kd1 ms1 k2 kd2 ms2 i j c e1 e2 hkk hi hj c1 c2

theorem Mem.pool_join {w0 : World} {M : Nat → Prop} {ρ : Nat → Pl} {H : Nat → Option SB} {w : World} (h : Mem w0 M ρ H w) {key kf : Nat} {k : IntKind} {ms : List (List Int)} {l : List Int} (hk : H key = some (.pool k ms)) (hf : H kf = some (.segs false [.rowI k l])) :
  Mem w0 M (updP ρ key (joinP (ρ key) (ρ kf))) (updH (updH H key (.pool k (ms ++ [l]))) kf (.alias key ms.length)) w ∧ (∀ a, PlLe (ρ a) (updP ρ key (joinP (ρ key) (ρ kf)) a)) :=
 h.pool_joinG rfl hk hf fun dm ρ' cs hd => by
  obtain ⟨c1, c2, ⟨sa, rfl⟩, rfl, s5⟩ := hd
  have s5 : c2 = [] := s5
  subst s5
  exact ⟨sa, by rw [List.append_nil]; rfl⟩
theorem Mem.scribble {w0 : World} {M : Nat → Prop} {ρ : Nat → Pl} {H : Nat → Option SB} {w : World} (h : Mem w0 M ρ H w) {b o : Nat} {nv : List Value} (hb : w0.heap.size ≤ b ∨ M b)
  (hseg : ∀ key ro l, H key = some (.segs ro l) → 0 < (ρ key).cap → (ρ key).blk ≠ b ∨ ∀ vs, SegsD (dmOf H) ρ l vs → (ρ key).off + vs.length ≤ o)
  (hrow : ∀ key k ms i m, H key = some (.pool k ms) → ms[i]? = some m → 0 < (ρ key).pc i → k.deep = false → (ρ key).pb i ≠ b ∨ (ρ key).po i + (pkVals k m).length ≤ o)
  (hbox : ∀ key k ms i, H key = some (.pool k ms) → k.deep = true → i < ms.length → ¬ OwnB w (ρ key) k i b) : Mem w0 M ρ H (w.setCells b o nv) := by
 have hos := setCells_os b nv o w
 have hsz := setCells_size b nv o w
 have out : ∀ (b' o' : Nat) (vs : List Value), w.rangeAt b' o' vs → (b' ≠ b ∨ o' + vs.length ≤ o) → (w.setCells b o nv).rangeAt b' o' vs := fun b' o' vs hr hd => by
  rcases hd with hd | hd
  ·exact rangeAt_of_block' (setCells_block b nv o w b' hd) hr
  ·intro j v hv
   have hj := (List.getElem?_eq_some_iff.1 hv).1
   rw [World.cell?_setCells_out _ _ _ _ ⟨b', o' + j, none⟩ (fun _ _ => Or.inl (by show o' + j < o; omega))]
   exact hr j v hv
 refine ⟨⟨fun k bb hk => ?_, h.heap.sep, fun k ro l h1 c1 => by rw [hsz]; exact h.heap.lt k ro l h1 c1⟩, ⟨hos.1.trans h.frame.os, hos.2.1.trans h.frame.tape, hos.2.2.trans h.frame.output, by rw [hsz]; exact h.frame.size, fun k hk1 hk2 => ?_⟩, h.own, h.view, fun k l h1 c1 => clean_setCells _ _ _ (h.clean k l h1 c1),
  ?_⟩
 ·cases bb with
  | gone => trivial
  | world => trivial
  | pool _ _ => trivial
  | boxv _ => trivial
  | alias _ _ => exact h.heap.blk k _ hk
  | segs ro l =>
   obtain ⟨vs, s1, s2, s3, s4⟩ := h.heap.blk k _ hk
   refine ⟨vs, s1, s2, ?_, fun hr => World.there_setCells (s4 hr) _ _ _⟩
   rcases Nat.eq_zero_or_pos (ρ k).cap with h0 | h0
   ·have : vs = [] := List.eq_nil_of_length_eq_zero (by omega)
    subst this
    exact rangeAt_nil' _ _ _
   ·refine out _ _ _ s3 ?_
    rcases hseg k ro l hk h0 with h1 | h1
    ·exact .inl h1
    ·exact .inr (h1 vs s1)
 ·rw [setCells_block]
  ·exact h.frame.block k hk1 hk2
  ·intro e
   rcases hb with h' | h'
   ·omega
   ·rw [e] at hk2; exact hk2 h'
 ·have hO : ∀ key k ms i c, H key = some (.pool k ms) → i < ms.length → OwnB (w.setCells b o nv) (ρ key) k i c → OwnB w (ρ key) k i c := fun key k ms i c hk hi ho => by
   cases hbx : k.box with
   | false => obtain ⟨a, rfl⟩ := ho.plain hbx; exact .pb a
   | true => exact ho.of_block fun h0 => setCells_block _ _ _ _ _ fun e => hbox key k ms i hk (by unfold PK.deep; rw [hbx]; rfl) hi (by rw [← e]; exact .pb h0)
  refine ⟨fun key k ms hk => ?_, fun key k ms key' ro l i c h1 h2 h3 h4 h5 => h.pools.apartD key k ms key' ro l i c h1 h2 h3 h4 (hO _ _ _ _ _ h1 h4 h5), fun key k ms key' k' ms' i j c h1 h2 h3 h4 h5 h6 h7 => h.pools.twoD key k ms key' k' ms' i j c h1 h2 h3 h4 h5 (hO _ _ _ _ _ h1 h4 h6) (hO _ _ _ _ _ h2 h5 h7), fun key k q r ms hk => by
   obtain ⟨v1, v2, v3, v4⟩ := h.pools.view key k q r ms hk
   exact ⟨v1, v2, v3, v4.step (setCells_block _ _ _ _ _ fun e => hbox key _ ms r hk rfl v2 (by rw [← e]; exact .pb v3)) (.refl _)⟩⟩
  have hP := h.pools.pool key k ms hk
  cases hdp : k.deep with
  | true => exact hP.step rfl (by rw [hsz]; exact Nat.le_refl _) (fun _ _ _ _ h => h) fun i c hi ho => setCells_block _ _ _ _ _ fun e => hbox key k ms i hk hdp hi (by rw [← e]; exact ho)
  | false =>
  have hdp' := hdp
  unfold PK.deep at hdp'
  simp only [Bool.or_eq_false_iff] at hdp'
  have hbx := hdp'.1
  refine PoolD.mk0 (hz := hdp'.2) hbx hP.cnt (fun i m hi => ?_) (fun i hi c => by rw [hsz]; exact hP.lt i hi c) hP.own (fun i hi c => clean_setCells _ _ _ (hP.clean i hi c)) hP.sep
  obtain ⟨a1, a2, a3, a4⟩ := hP.row hbx i m hi
  refine ⟨a1, a2, ?_, World.there_setCells a4 _ _ _⟩
  rcases Nat.eq_zero_or_pos ((ρ key).pc i) with h0 | h0
  ·have : pkVals k m = [] := List.eq_nil_of_length_eq_zero (by omega)
   rw [this]
   exact rangeAt_nil' _ _ _
  ·refine out _ _ _ a3 ?_
   rcases hrow key k ms i m hk hi h0 hdp with h1 | h1
   ·exact .inl h1
   ·exact .inr h1

theorem Mem.beyond_row {w0 : World} {M : Nat → Prop} {ρ : Nat → Pl} {H : Nat → Option SB} {w : World} (h : Mem w0 M ρ H w) {key : Nat} {k : IntKind} {ms : List (List Int)} (hk : H key = some (.pool k ms)) {r o : Nat} {m : List Int} (hr : ms[r]? = some m) (ho : m.length ≤ o) {nv : List Value} (hc : 0 < (ρ key).pc r) :
  Mem w0 M ρ H (w.setCells ((ρ key).pb r) ((ρ key).po r + o) nv) := by
 have hP := h.pools.pool key k ms hk
 have hrl := (List.getElem?_eq_some_iff.1 hr).1
 refine h.scribble (hP.own r hrl hc) (fun k' ro l h1 c1 => .inl (h.pools.apart key k ms k' ro l r hk h1 c1 hrl hc)) (fun k' kd ms' i m' h1 h2 c1 hbx => ?_) fun k' kd ms' i h1 hbx hi ho => h.pools.twoD k' kd ms' key k ms i r _ h1 hk (fun e => by subst e; rw [hk] at h1; simp only [Option.some.injEq, SB.pool.injEq] at h1; rw [← h1.1] at hbx; cases hbx) hi hrl ho (.pb hc)
 have hil := (List.getElem?_eq_some_iff.1 h2).1
 by_cases e : k' = key
 ·subst e
  rw [hk] at h1
  simp only [Option.some.injEq, SB.pool.injEq] at h1
  obtain ⟨rfl, rfl⟩ := h1
  by_cases e2 : i = r
  ·subst e2
   rw [hr] at h2
   simp only [Option.some.injEq] at h2
   subst h2
   exact .inr (by show _ + (m.map (Value.int k)).length ≤ _; rw [List.length_map]; omega)
  ·exact .inl fun e3 => e2 (hP.sep i r hil hrl c1 hc e3)
 ·exact .inl (h.pools.two k' kd ms' key k ms i r h1 hk e hil hrl c1 hc)

theorem Mem.beyond_blank {w0 : World} {M : Nat → Prop} {ρ : Nat → Pl} {H : Nat → Option SB} {w : World} (h : Mem w0 M ρ H w) {key : Nat} (hk : H key = some (.segs false [])) {o : Nat} {nv : List Value} (hc : 0 < (ρ key).cap) :
  Mem w0 M ρ H (w.setCells (ρ key).blk ((ρ key).off + o) nv) := by
 refine h.scribble (h.own key [] hk hc) (fun k' ro l h1 c1 => ?_) (fun k' kd ms' i m' h1 h2 c1 _ => .inl (h.pools.apart k' kd ms' key false [] i h1 hk hc (List.getElem?_eq_some_iff.1 h2).1 c1).symm) fun k' kd ms' i h1 _ hi ho => h.pools.apartD k' kd ms' key false [] i _ h1 hk hc hi ho rfl
 by_cases e : k' = key
 ·subst e
  rw [hk] at h1
  simp only [Option.some.injEq, SB.segs.injEq] at h1
  obtain ⟨_, rfl⟩ := h1
  exact .inr fun vs hv => by rw [show vs = [] from hv]; simp
 ·exact .inl (h.heap.sep k' key ro false l [] h1 hk e (.inr rfl) c1 hc)

theorem Mem.beyond_own {w0 : World} {M : Nat → Prop} {ρ : Nat → Pl} {H : Nat → Option SB} {w : World} (h : Mem w0 M ρ H w) {key : Nat} {l : List Seg} (hk : H key = some (.segs false l)) {o : Nat} {nv : List Value} (hc : 0 < (ρ key).cap)
  (ho : ∀ vs, SegsD (dmOf H) ρ l vs → vs.length ≤ o) : Mem w0 M ρ H (w.setCells (ρ key).blk ((ρ key).off + o) nv) := by
 refine h.scribble (h.own key l hk hc) (fun k' ro l' h1 c1 => ?_) (fun k' kd ms' i m' h1 h2 c1 _ => .inl (h.pools.apart k' kd ms' key false l i h1 hk hc (List.getElem?_eq_some_iff.1 h2).1 c1).symm) fun k' kd ms' i h1 _ hi ho => h.pools.apartD k' kd ms' key false l i _ h1 hk hc hi ho rfl
 by_cases e : k' = key
 ·subst e
  rw [hk] at h1
  simp only [Option.some.injEq, SB.segs.injEq] at h1
  obtain ⟨_, rfl⟩ := h1
  exact .inr fun vs hv => by have := ho vs hv; omega
 ·exact .inl (h.heap.sep k' key ro false l' l h1 hk e (.inr rfl) c1 hc)

/-! ### A block let go, or under another key -/

theorem Mem.gone {w0 : World} {M : Nat → Prop} {ρ : Nat → Pl} {H : Nat → Option SB} {w : World} (h : Mem w0 M ρ H w) (key : Nat) (hk : (H key).isSome = true) : Mem w0 M ρ (updH H key .gone) w := by
 have hx : ∀ k ro l, updH H key .gone k = some (.segs ro l) → H k = some (.segs ro l) := fun k ro l h1 => by
  by_cases e : k = key
  ·subst e; rw [updH_same] at h1; cases h1
  ·rwa [updH_ne e] at h1
 refine ⟨⟨fun k b hb => ?_, fun k k' ro ro' l1 l2 h1 h2 => h.heap.sep k k' ro ro' l1 l2 (hx _ _ _ h1) (hx _ _ _ h2), fun k ro l1 h1 => h.heap.lt k ro l1 (hx _ _ _ h1)⟩, h.frame, fun k l1 h1 => h.own k l1 (hx _ _ _ h1), view_upH h.view (by simp), fun k l1 h1 => h.clean k l1 (hx _ _ _ h1),
  h.pools.step (fun a ha => ⟨dm_updH _ _ _ a ha, .refl _⟩) (fun k kd ms hk' => by
   have e : k ≠ key := fun e => by subst e; rw [updH_same] at hk'; cases hk'
   rw [updH_ne e] at hk'
   exact ⟨hk', rfl⟩)
  (fun k ro l1 h1 c1 => .inl ⟨k, ro, l1, hx _ _ _ h1, c1, rfl⟩) (Nat.le_refl _) (fun _ hb => hb) (fun _ _ _ _ _ _ _ _ => rfl)⟩
 by_cases e : k = key
 ·subst e; rw [updH_same] at hb; simp only [Option.some.injEq] at hb; subst hb; trivial
 ·rw [updH_ne e] at hb
  exact (h.heap.blk k b hb).of_block (dm_updH _ _ _) (fun _ _ => .refl _) rfl (fun _ _ _ _ => rfl)

theorem Mem.respell {w0 : World} {M : Nat → Prop} {ρ : Nat → Pl} {H : Nat → Option SB} {w : World} (h : Mem w0 M ρ H w) {key : Nat} {l l' : List Seg} (hk : H key = some (.segs false l)) (hl : ∀ cs, SegsD (dmOf H) ρ l cs → SegsD (dmOf H) ρ l' cs) :
  Mem w0 M ρ (updH H key (.segs false l')) w := by
 have hx : ∀ k ro l1, updH H key (.segs false l') k = some (.segs ro l1) → ∃ l2, H k = some (.segs ro l2) := fun k ro l1 h1 => by
  by_cases e : k = key
  ·subst e; rw [updH_same] at h1; simp only [Option.some.injEq, SB.segs.injEq] at h1; rw [← h1.1]; exact ⟨l, hk⟩
  ·rw [updH_ne e] at h1; exact ⟨l1, h1⟩
 refine ⟨⟨fun k b hb => ?_, fun k k' ro ro' l1 l2 h1 h2 => ?_, fun k ro l1 h1 => ?_⟩, h.frame, fun k l1 h1 => ?_, view_upH h.view (by simp), fun k l1 h1 => ?_,
  h.pools.step (fun a ha => ⟨dm_updH _ _ _ a ha, .refl _⟩) (fun k kd ms hk' => by
   have e : k ≠ key := fun e => by subst e; rw [updH_same] at hk'; cases hk'
   rw [updH_ne e] at hk'
   exact ⟨hk', rfl⟩)
  (fun k ro l1 h1 c1 => by obtain ⟨l2, h2⟩ := hx _ _ _ h1; exact .inl ⟨k, ro, l2, h2, c1, rfl⟩) (Nat.le_refl _) (fun _ hb => hb) (fun _ _ _ _ _ _ _ _ => rfl)⟩
 ·by_cases e : k = key
  ·subst e; rw [updH_same] at hb; simp only [Option.some.injEq] at hb; subst hb
   obtain ⟨vs, a, b, c, d⟩ := h.heap.blk k _ hk
   exact ⟨vs, SegsD.mono (dm_updH _ _ _) (fun _ _ => .refl _) _ _ (hl vs a), b, c, d⟩
  ·rw [updH_ne e] at hb
   exact (h.heap.blk k b hb).of_block (dm_updH _ _ _) (fun _ _ => .refl _) rfl (fun _ _ _ _ => rfl)
 ·obtain ⟨l3, h3⟩ := hx _ _ _ h1
  obtain ⟨l4, h4⟩ := hx _ _ _ h2
  exact h.heap.sep k k' ro ro' l3 l4 h3 h4
 ·obtain ⟨l2, h2⟩ := hx _ _ _ h1
  exact h.heap.lt k ro l2 h2
 ·obtain ⟨l2, h2⟩ := hx _ _ _ h1
  exact h.own k l2 h2
 ·obtain ⟨l2, h2⟩ := hx _ _ _ h1
  exact h.clean k l2 h2

theorem Mem.rekey {w0 : World} {M : Nat → Prop} {ρ : Nat → Pl} {H : Nat → Option SB} {w : World} (h : Mem w0 M ρ H w) {key new : Nat} {l : List Seg} (hk : H key = some (.segs false l)) (hn : H new = none) :
  Mem w0 M (updP ρ new (ρ key)) (updH (updH H key .gone) new (.segs false l)) w := by
 have hne : new ≠ key := fun e => by rw [e, hk] at hn; cases hn
 have hg := h.gone key (by rw [hk]; rfl)
 have hn' : updH H key .gone new = none := by rw [updH_ne hne]; exact hn
 have hkp := updP_keeps (ρ := ρ) (p := ρ key) hn'
 refine ⟨⟨fun k b hb => ?_, fun k k' ro ro' l1 l2 h1 h2 hkk hr c1 c2 => ?_, fun k ro l1 h1 c1 => ?_⟩, h.frame, fun k l1 h1 c1 => ?_, view_up (view_upH h.view (by simp)) (by simp), fun k l1 h1 c1 => ?_,
  h.pools.step (fun a ha => ⟨dm_updH _ _ _ a (dm_updH _ _ _ a ha), hkp a (dm_updH _ _ _ a ha)⟩) (fun k kd ms hk' => by
   have e : k ≠ new := fun e => by subst e; rw [updH_same] at hk'; cases hk'
   rw [updH_ne e] at hk'
   have e' : k ≠ key := fun e => by subst e; rw [updH_same] at hk'; cases hk'
   rw [updH_ne e'] at hk'
   rw [updP_ne e]; exact ⟨hk', rfl⟩)
  (fun k ro l1 h1 c1 => by
   by_cases e : k = new
   ·subst e; rw [updP_same] at c1 ⊢; exact .inl ⟨key, false, l, hk, c1, rfl⟩
   ·rw [updH_ne e] at h1; rw [updP_ne e] at c1 ⊢
    by_cases e' : k = key
    ·subst e'; rw [updH_same] at h1; cases h1
    ·rw [updH_ne e'] at h1; exact .inl ⟨k, ro, l1, h1, c1, rfl⟩)
  (Nat.le_refl _) (fun _ hb => hb) (fun _ _ _ _ _ _ _ _ => rfl)⟩
 ·by_cases e : k = new
  ·subst e
   rw [updH_same] at hb; simp only [Option.some.injEq] at hb; subst hb
   obtain ⟨vs, h1, h2, h3, h4⟩ := h.heap.blk key _ hk
   refine ⟨vs, SegsD.mono (fun k hk => dm_updH _ _ _ k (dm_updH _ _ _ k hk)) (fun k hk => hkp k (dm_updH _ _ _ k hk)) l vs h1, by rw [updP_same]; exact h2, by rw [updP_same]; exact h3, fun hr => by rw [updP_same]; exact h4 hr⟩
  ·rw [updH_ne e] at hb
   exact (hg.heap.blk k b hb).of_block (dm_updH _ _ _) hkp (updP_ne e) (fun _ _ _ _ => rfl)
 ·have hx : ∀ k ro l1, updH (updH H key .gone) new (.segs false l) k = some (.segs ro l1) → (k = new ∧ ro = false) ∨ (k ≠ new ∧ k ≠ key ∧ H k = some (.segs ro l1)) := fun k ro l1 h1 => by
   by_cases e : k = new
   ·subst e; rw [updH_same] at h1; simp only [Option.some.injEq, SB.segs.injEq] at h1; exact .inl ⟨rfl, h1.1.symm⟩
   ·rw [updH_ne e] at h1
    by_cases e' : k = key
    ·subst e'; rw [updH_same] at h1; cases h1
    ·rw [updH_ne e'] at h1; exact .inr ⟨e, e', h1⟩
  rcases hx _ _ _ h1 with ⟨rfl, rfl⟩ | ⟨n1, n2, e1⟩ <;> rcases hx _ _ _ h2 with ⟨rfl, rfl⟩ | ⟨n1', n2', e2⟩
  ·exact absurd rfl hkk
  ·rw [updP_same] at c1 ⊢; rw [updP_ne n1'] at c2 ⊢; exact h.heap.sep key k' false ro' l l2 hk e2 (Ne.symm n2') (.inl rfl) c1 c2
  ·rw [updP_same] at c2 ⊢; rw [updP_ne n1] at c1 ⊢; exact h.heap.sep k key ro false l1 l e1 hk n2 (.inr rfl) c1 c2
  ·rw [updP_ne n1] at c1 ⊢; rw [updP_ne n1'] at c2 ⊢; exact h.heap.sep k k' ro ro' l1 l2 e1 e2 hkk hr c1 c2
 ·by_cases e : k = new
  ·subst e; rw [updP_same] at c1 ⊢; exact h.heap.lt key false l hk c1
  ·rw [updH_ne e] at h1; rw [updP_ne e] at c1 ⊢; exact hg.heap.lt k ro l1 h1 c1
 ·by_cases e : k = new
  ·subst e; rw [updP_same] at c1 ⊢; exact h.own key l hk c1
  ·rw [updH_ne e] at h1; rw [updP_ne e] at c1 ⊢; exact hg.own k l1 h1 c1
 ·by_cases e : k = new
  ·subst e; rw [updP_same] at c1 ⊢; exact h.clean key l hk c1
  ·rw [updH_ne e] at h1; rw [updP_ne e] at c1 ⊢; exact hg.clean k l1 h1 c1

/-! ### The list that a heap is -/

theorem assoc_hset : ∀ (h h' : Heap) (key : Nat) (b : SB), hset h key b = some h' → assoc h' = updH (assoc h) key b
 | [], h', key, b, hs => by
  simp only [hset, Option.some.injEq] at hs; subst hs
  funext k
  simp only [assoc, updH]
  by_cases e : k = key
  ·subst e; simp [Nat.beq_refl]
  ·have : Nat.beq key k = false := by
    cases hb : Nat.beq key k with
    | false => rfl
    | true => exact absurd (Nat.eq_of_beq_eq_true hb).symm e
   simp [e, this]
 | (k', b') :: r, h', key, b, hs => by
  simp only [hset] at hs
  split at hs
  ·rename_i hb
   have := Nat.eq_of_beq_eq_true hb
   subst this
   simp only [Option.some.injEq] at hs; subst hs
   funext k
   simp only [assoc, updH]
   by_cases e : k = k'
   ·subst e; simp [Nat.beq_refl]
   ·have : Nat.beq k' k = false := by
     cases hb : Nat.beq k' k with
     | false => rfl
     | true => exact absurd (Nat.eq_of_beq_eq_true hb).symm e
    simp [e, this]
  ·rename_i hb
   have hne : k' ≠ key := fun e => by subst e; rw [Nat.beq_refl] at hb; cases hb
   split at hs
   ·rename_i r' hr'
    simp only [Option.some.injEq] at hs; subst hs
    have ih := assoc_hset r r' key b hr'
    funext k
    simp only [assoc, ih, updH]
    by_cases e : k = key
    ·subst e; simp [hb]
    ·simp [e]
   ·cases hs

def updsH (H : Nat → Option SB) : List (Nat × SB) → Nat → Option SB
 | [] => H
 | (k, b) :: r => updsH (updH H k b) r

theorem assoc_hsets : ∀ (ws : List (Nat × SB)) (h h' : Heap), hsets ws h = some h' → assoc h' = updsH (assoc h) ws
 | [], h, h', hs => by simp only [hsets, Option.some.injEq] at hs; subst hs; rfl
 | (k, b) :: r, h, h', hs => by
  simp only [hsets] at hs
  split at hs
  ·rename_i h1 e1
   rw [assoc_hsets r h1 h' hs, assoc_hset h h1 k b e1]; rfl
  ·cases hs

theorem dm_updsH : ∀ (ws : List (Nat × SB)) (H : Nat → Option SB) (k : Nat), dmOf H k → dmOf (updsH H ws) k
 | [], H, k, h => h
 | (k', b) :: r, H, k, h => dm_updsH r _ k (dm_updH H k' b k h)

end Go.Gx

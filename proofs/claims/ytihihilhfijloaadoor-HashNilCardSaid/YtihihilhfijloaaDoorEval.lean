/- The symbolic evaluator: operations that make memory, regions, code. Definitions alone. -/
import Derived.Test.YtihihilhfijloaaDoorSym
namespace Go.Gx
set_option linter.unusedVariables false

/-- What a slice or a text holds, handed on. -/
def withCon (x : SV) (f : List Prop → Con → RP Delta) : RP Delta :=
  match x with
  | .sl key c est off len => .get key fun b => match b with
    | some (.segs _ l) => (match segAt l c with
      | some (g, 0) => (match conSeg g est off len with | some (p, q) => f p q | none => .fail)
      | _ => .fail)
    | _ => .fail
  | .s v => f [] (.ints .u8 (bytesI v))
  | .ro key sh d => .get key fun b => match b with
    | some .world => (match sh with | .ints k => f [] (.ints k (roL d)) | _ => .fail)
    | _ => .fail
  | _ => .fail

/-- How many elements a slice, text or array has. -/
def lenOf (t : TInfo) (x : SV) : Option SI :=
  match x, t.ty with
  | .sl _ _ _ _ len, .slice => some len
  | .nsl, .slice => some ⟨true, 0⟩
  | .ro _ sh d, .slice => some ⟨false, (roLen sh d : Int)⟩
  | .s v, .str => some ⟨false, (v.size : Int)⟩
  | _, .arr n _ => (match Nat.ble n 1000000 with | true => some ⟨true, n⟩ | false => none)
  | _, _ => none

def lenOp (t : TInfo) (x : SV) : RP Delta :=
  match lenOf t x with
  | some a => ret (.i .i64 a)
  | none => .fail

def conLen : Con → Nat
  | .ints _ l => l.length
  | .arrs _ _ l => l.length

def conSize : Con → Nat
  | .ints _ _ => 1
  | .arrs _ n _ => n

def conRow : Con → Seg
  | .ints k l => .rowI k l
  | .arrs k n l => .rowA k n l

def conJoin : Con → Con → Option Con
  | .ints k l, .ints k' y => (match keq k k' with | true => some (.ints k (l ++ y)) | false => none)
  | .arrs k n l, .arrs k' m y => (match keq k k' && Nat.beq n m with | true => some (.arrs k n (l ++ y)) | false => none)
  | _, _ => none

/-- The row that an append leaves. -/
def appendTo (stamp : Nat) (te : TInfo) (old : Con) (x : Con) (gone : List (Nat × SB)) (pre : List Prop) : RP Delta :=
  match conJoin old x, Nat.blt 0 te.bytes && Nat.beq te.ty.size (conSize old) with
  | some r, true => .get stamp fun b => match b with
    | none => .ret ⟨(((conLen r : Nat) : Int) * (te.bytes : Int) ≤ 70368744177664) :: pre, .sl stamp 0 (conSize r) ⟨true, 0⟩ ⟨false, ((conLen r : Nat) : Int)⟩, (stamp, .segs false [conRow r]) :: gone, true⟩
    | some _ => .fail
  | _, _ => .fail

/-- The empty list of elements of a type. -/
def emptyCon : Ty → Option Con
  | .int k => some (.ints k [])
  | .arr n (.int k) => some (.arrs k n [])
  | _ => none

def rowCon : Seg → Option Con
  | .rowI k l => some (.ints k l)
  | .rowA k n l => some (.arrs k n l)
  | _ => none

def isSeq : Ty → Bool
  | .slice => true
  | .str => true
  | _ => false

/-- append(s, x...): s is nil, or a whole row of the call's own, which is gone then. -/
def appendOp (ty : List (Nat × TInfo)) (stamp : Nat) (t t2 : TInfo) (s x : SV) : RP Delta :=
  match t.ty, assoc ty t.elem, isSeq t2.ty with
  | .slice, some te, true => (match s with
    | .nsl => (match emptyCon te.ty with
      | some old => withCon x fun p q => appendTo stamp te old q [] p
      | none => .fail)
    | .sl key 0 est ⟨true, .ofNat 0⟩ len => .get key fun b => match b with
      | some (.segs false [g]) => (match rowCon g with
        | some old => (match Nat.beq est (conSize old) with
          | true => withCon x fun p q => appendTo stamp te old q [(key, .gone)] ((len.z = ((conLen old : Nat) : Int)) :: p)
          | false => .fail)
        | none => .fail)
      | _ => .fail
    | _ => .fail)
  | _, _, _ => .fail

/-- make([]T, n, m). -/
def makeOp (ty : List (Nat × TInfo)) (stamp : Nat) (t : TInfo) (n m : SV) : RP Delta :=
  match t.ty, assoc ty t.elem, n, m with
  | .slice, some te, .i .i64 a, .i .i64 c => (match te.ty with
    | .int k => fresh stamp [.rowI k (List.replicate a.z.toNat 0)] (.sl stamp 0 1 ⟨true, 0⟩ a) [0 ≤ a.z ∧ a.z ≤ c.z ∧ c.z * te.bytes ≤ 70368744177664] true
    | .arr n (.int k) => fresh stamp [.rowA k n (List.replicate a.z.toNat (List.replicate n 0))] (.sl stamp 0 n ⟨true, 0⟩ a) [0 ≤ a.z ∧ a.z ≤ c.z ∧ c.z * te.bytes ≤ 70368744177664] true
    | _ => .fail)
  | _, _, _, _ => .fail

/-- 'y' laid over 'l' from place 'j' on. -/
def splice {α : Type} (l : List α) (j : Nat) (y : List α) : List α := l.take j ++ y ++ l.drop (j + y.length)

/-- Are a slice type's elements numbers? -/
def intElem (ty : List (Nat × TInfo)) (t : TInfo) : Bool :=
  match t.ty, assoc ty t.elem with
  | .slice, some te => (match te.ty with | .int _ => true | _ => false)
  | _, _ => false

/-- 'z' laid into a piece that holds numbers, from place 'off' on. -/
def laySeg (g : Seg) (k : IntKind) (off : Int) (n : Int) (z : List Int) : Option (Prop × Seg) :=
  match g with
  | .arr k' m _ y => (match keq k' k with | true => some (off + n ≤ (m : Int), .arr k' m false (splice y off.toNat z)) | false => none)
  | .rowI k' y => (match keq k' k with | true => some (off + n ≤ (y.length : Int), .rowI k' (splice y off.toNat z)) | false => none)
  | _ => none

/-- copy(d, x): into an array or row of the call's own. -/
def copyOp (ty : List (Nat × TInfo)) (t : TInfo) (d x : SV) : RP Delta :=
  match d, intElem ty t with
  | .sl key c est off len, true => withCon x fun p q => .get key fun b => match b with
    | some (.segs false l) => (match segAt l c, q, Nat.beq est 1 with
      | some (g, 0), .ints k z, true => (match laySeg g k off.z len.z (z.take len.z.toNat) with
        | some (p', g') => (match segSet l c g' with
          | some l' => .ret ⟨p' :: p, .i .i64 ⟨false, min (z.length : Int) len.z⟩, [(key, .segs false l')], true⟩
          | none => .fail)
        | none => .fail)
      | _, _, _ => .fail)
    | _ => .fail
  | _, _ => .fail

/-- clear(d). -/
def clearOp (ty : List (Nat × TInfo)) (t : TInfo) (d : SV) : RP Delta :=
  match d, t.ty, assoc ty t.elem with
  | .sl key c est off len, .slice, some te => .get key fun b => match b with
    | some (.segs false l) => (match segAt l c, te.ty, Nat.beq est 1 with
      | some (g, 0), .int k, true => (match laySeg g k off.z len.z (List.replicate len.z.toNat 0) with
        | some (p', g') => (match segSet l c g' with
          | some l' => .ret ⟨[p'], .any, [(key, .segs false l')], true⟩
          | none => .fail)
        | none => .fail)
      | _, _, _ => .fail)
    | _ => .fail
  | _, _, _ => .fail

def isBytes (ty : List (Nat × TInfo)) (t : TInfo) : Bool :=
  match assoc ty t.elem with
  | some te => (match te.ty with | .int .u8 => true | _ => false)
  | none => false

def convertOp (ty : List (Nat × TInfo)) (stamp : Nat) (ts td : TInfo) (x : SV) : RP Delta :=
  match ts.ty, td.ty, x with
  | .int _, .int k, .i k' a => (match keq k k' with
    | true => ret (.i k a)
    | false => (match a.st with
      | true => (match numOp.InRb k a.z with | true => ret (.i k a) | false => retg [] (.i k ⟨false, k.wrap a.z⟩))
      | false => retg [] (.i k ⟨false, k.wrap a.z⟩)))
  | .str, .str, .s v => ret (.s v)
  | .str, .slice, .s v => (match isBytes ty td with
    | true => fresh stamp [.rowI .u8 (bytesI v)] (.sl stamp 0 1 ⟨true, 0⟩ ⟨false, (v.size : Int)⟩) [] true
    | false => .fail)
  | .slice, .str, .nsl => (match isBytes ty ts with | true => ret (.s ByteArray.empty) | false => .fail)
  | .slice, .str, .sl key c est off len => (match isBytes ty ts with
    | true => withCon (.sl key c est off len) fun p q => (match q with
      | .ints .u8 l => .ret ⟨p, .s (ofBytesI l), [], false⟩
      | _ => .fail)
    | false => .fail)
  | .slice, .str, .ro key sh d => (match isBytes ty ts with
    | true => withCon (.ro key sh d) fun p q => (match q with
      | .ints .u8 l => .ret ⟨p, .s (ofBytesI l), [], false⟩
      | _ => .fail)
    | false => .fail)
  | _, _, _ => .fail

/-- An array out of written elements. -/
def fillI (k : IntKind) : List (Nat × SV) → List Int → Option (List Int)
  | [], l => some l
  | (i, .i k' a) :: r, l => (match keq k k', setn l i a.z with | true, some l' => fillI k r l' | _, _ => none)
  | _, _ => none

mutual
/-- Has a value the shape of a type? -/
def ofTy : Ty → SV → Bool
  | .arr n (.int k), .arr k' m _ _ => keq k k' && Nat.beq n m
  | .struct fs, .agg xs => ofTys fs xs
  | t, x => fits t x
def ofTys : List Ty → List SV → Bool
  | [], [] => true
  | t :: ts, x :: xs => ofTy t x && ofTys ts xs
  | _, _ => false
end

def fillS (fs : List Ty) : List (Nat × SV) → List SV → Option (List SV)
  | [], l => some l
  | (i, x) :: r, l => (match nth fs i, setn l i x with
    | some t, some l' => (match ofTy t x with | true => fillS fs r l' | false => none)
    | _, _ => none)

def fieldOp (t : TInfo) (x : SV) (f : Nat) : RP Delta :=
  match x, t.ty with
  | .agg xs, .struct fs => (match ofTys fs xs, nth xs f with | true, some v => ret v | _, _ => .fail)
  | _, _ => .fail

def buildOp (t : TInfo) (parts : List (Nat × SV)) : RP Delta :=
  match t.ty with
  | .arr n (.int k) => (match Nat.ble n 64 with
    | true => (match fillI k parts (reps 0 n) with | some l => ret (.arr k n true l) | none => .fail)
    | false => .fail)
  | .struct fs => (match fillS fs parts (zeros fs), ofTys fs (zeros fs) with
    | some l, true => ret (.agg l)
    | _, _ => .fail)
  | _ => .fail

/-- The parts of a slice that is written out, which must be all, in order. -/
def partsI (k : IntKind) : (i : Nat) → List (Nat × SV) → Option (List Int)
  | _, [] => some []
  | i, (j, .i k' a) :: r => (match Nat.beq i j && keq k k', partsI k (i + 1) r with | true, some l => some (a.z :: l) | _, _ => none)
  | _, _ => none

def partsA (k : IntKind) (n : Nat) : (i : Nat) → List (Nat × SV) → Option (List (List Int))
  | _, [] => some []
  | i, (j, .arr k' m _ l) :: r => (match Nat.beq i j && keq k k' && Nat.beq n m, partsA k n (i + 1) r with | true, some q => some (l :: q) | _, _ => none)
  | _, _ => none

def partsS (t : Ty) : (i : Nat) → List (Nat × SV) → Option (List Seg)
  | _, [] => some []
  | i, (j, x) :: r => (match Nat.beq i j && fits t x, partsS t (i + 1) r with | true, some q => some (.one x :: q) | _, _ => none)

def buildSliceOp (ty : List (Nat × TInfo)) (stamp : Nat) (t : TInfo) (n : Nat) (parts : List (Nat × SV)) : RP Delta :=
  match t.ty, assoc ty t.elem, Nat.beq parts.length n && Nat.ble n 1000 with
  | .slice, some te, true => (match te.ty with
    | .int k => (match partsI k 0 parts with
      | some l => fresh stamp [.rowI k l] (.sl stamp 0 1 ⟨true, 0⟩ ⟨true, n⟩) [] false
      | none => .fail)
    | .arr m (.int k) => (match partsA k m 0 parts, Nat.blt 0 m && Nat.ble m 1000 with
      | some l, true => fresh stamp [.rowA k m l] (.sl stamp 0 m ⟨true, 0⟩ ⟨true, n⟩) [] false
      | _, _ => .fail)
    | e => (match partsS e 0 parts, Nat.beq e.size 1 with
      | some l, true => fresh stamp l (.sl stamp 0 1 ⟨true, 0⟩ ⟨true, n⟩) [] false
      | _, _ => .fail))
  | _, _, _ => .fail

def constSV : Value → SV
  | .int k n => (match numOp.InRb k n with | true => .i k ⟨true, n⟩ | false => .val (.int k n))
  | .bool v => .b true v
  | .string s => (match Nat.ble s.size 1000000 with | true => .s s | false => .val (.string s))
  | .pointer none => .np
  | .slice none 0 0 => .nsl
  | v => .val v

def evalS (gl : List Nat) (tmps : List SV) : Operand → SV
  | .tmp t => tget tmps t
  | .const v => constSV v
  | .global g => (match memN g gl with | true => .p g 0 | false => .any)
  | .func f => .fn f

def estOk (ty : List (Nat × TInfo)) (t : TInfo) (x : SV) : Bool :=
  match x, t.ty with
  | .sl _ _ est _ _, .slice => (match assoc ty t.elem with | some te => Nat.beq te.ty.size est | none => false)
  | .ro _ sh _, .slice => (match assoc ty t.elem with | some te => Nat.beq te.ty.size (shEl sh) | none => false)
  | _, _ => true

/-- A slice as an array's address. -/
def arrPtrOp (t : TInfo) (x : SV) : RP Delta :=
  match x, t.ty with
  | .sl key c est off len, .arr n e => (match Nat.beq e.size est && Nat.blt 0 n, ptrAt key c est off with
    | true, some v => .ret ⟨[(n : Int) ≤ len.z], v, [], false⟩
    | _, _ => .fail)
  | _, _ => .fail

def builtinOp (ty : List (Nat × TInfo)) (stamp : Nat) (b : Builtin) (ts : List TypeId) (xs : List SV) : RP Delta :=
  match b, ts, xs with
  | .len, [t], [x] => (match assoc ty t with | some t => lenOp t x | none => .fail)
  | .append, [t, t2], [s, x] => (match assoc ty t, assoc ty t2 with | some t, some t2 => appendOp ty stamp t t2 s x | _, _ => .fail)
  | .copy, [t, _], [d, x] => (match assoc ty t with | some t => copyOp ty t d x | none => .fail)
  | .clear, [t], [d] => (match assoc ty t with | some t => clearOp ty t d | none => .fail)
  | _, _, _ => .fail

/-- A slice against nil is not looked at; arrays and structs hold parts. -/
def sop (Γ : Tab) (stamp : Nat) (op : Op) (type : TypeId) (ev : Operand → SV) : RP Delta :=
  match op with
  | .move x | .assign x => ret (ev x)
  | .pick c a b => (match ev c, ev a, ev b with
    | .b true v, x, y => (match v with | true => ret x | false => ret y)
    | .b false v, .b _ x, .b _ y => ret (.b false (if v then x else y))
    | _, _, _ => .fail)
  | .alloc e => (match assoc Γ.ty e with | some t => boxOp stamp (zero t.ty) | none => .fail)
  | .box e x => boxOp stamp (ev x)
  | .build t parts => (match assoc Γ.ty t with | some t => buildOp t (parts.toList.map fun (i, x) => (i, ev x)) | none => .fail)
  | .buildSlice t n parts => (match assoc Γ.ty t with | some t => buildSliceOp Γ.ty stamp t n (parts.toList.map fun (i, x) => (i, ev x)) | none => .fail)
  | .load t a => (match assoc Γ.ty t with | some t => loadOp t (ev a) | none => .fail)
  | .store t a x => (match assoc Γ.ty t with | some t => (match ofTy t.ty (ev x) with | true => storeOp (ev a) (ev x) | false => .fail) | none => .fail)
  | .nilCheck x => (match ev x with | .p k c => ret (.p k c) | _ => .fail)
  | .binOp op t x y _ => binop Γ.ty op t (ev x) (ev y)
  | .unOp op _ x => unop op (ev x)
  | .convert s d x => (match assoc Γ.ty s, assoc Γ.ty d with | some s, some d => convertOp Γ.ty stamp s d (ev x) | _, _ => .fail)
  | .sliceToArrayPointer t x => (match assoc Γ.ty t with | some t => arrPtrOp t (ev x) | none => .fail)
  | .makeSlice t n m => (match assoc Γ.ty t with | some t => makeOp Γ.ty stamp t (ev n) (ev m) | none => .fail)
  | .slice t x lo hi none => (match assoc Γ.ty t with
    | some t => (match estOk Γ.ty t (ev x) with | true => sliceOp t (ev x) (lo.map ev) (hi.map ev) | false => .fail)
    | none => .fail)
  | .fieldAddr t x f => (match assoc Γ.ty t with | some t => fieldAddrOp t (ev x) f | none => .fail)
  | .field t x f => (match assoc Γ.ty t with | some t => fieldOp t (ev x) f | none => .fail)
  | .indexAddr t x i => (match assoc Γ.ty t with | some t => indexAddrOp Γ.ty t (ev x) (ev i) | none => .fail)
  | .index t x i => (match assoc Γ.ty t with | some t => indexOp t (ev x) (ev i) | none => .fail)
  | .extract x n => (match ev x with | .tup xs => (match nth xs n with | some v => ret v | none => .fail) | _ => .fail)
  | .call c => (match c.callee, c.args.toList.map ev with
    | .value f, xs => (match ev f with | .fn f => (match assoc Γ.ctr f with | some g => g stamp xs | none => .fail) | _ => .fail)
    | .builtin b, xs => builtinOp Γ.ty stamp b c.argTypes.toList xs
    | _, _ => .fail)
  | _ => .fail

/-! ### Conditions -/

/-- What must be shown. -/
def Need (p : Prop) : Prop := p

def preK : List Prop → Prop → Prop
  | [], K => K
  | p :: r, K => Need p ∧ preK r K

/-- Names for the numbers of a value. -/
def genL (k : IntKind) : List Int → (List Int → Prop) → Prop
  | [], K => K []
  | z :: r, K => ∀ x : Int, x = z → InR k x → genL k r fun r' => K (x :: r')

mutual
def genV : SV → (SV → Prop) → Prop
  | .i k a, K => (match a.st with
    | true => K (.i k a)
    | false => ∀ x : Int, x = a.z → InR k x → K (.i k ⟨false, x⟩))
  | .b false v, K => ∀ x : Bool, x = v → K (.b false x)
  | .arr k n true l, K => genL k l fun l' => K (.arr k n true l')
  | .arr k n false l, K => ∀ x : List Int, x = l → x.length = n → AllR k x → K (.arr k n false x)
  | .sl key c est off len, K => (match len.st with
    | true => K (.sl key c est off len)
    | false => ∀ x : Int, x = len.z → 0 ≤ x → InR .i64 x → K (.sl key c est off ⟨false, x⟩))
  | .agg xs, K => genVs xs fun ys => K (.agg ys)
  | .tup xs, K => genVs xs fun ys => K (.tup ys)
  | v, K => K v
def genVs : List SV → (List SV → Prop) → Prop
  | [], K => K []
  | x :: r, K => genV x fun y => genVs r fun ys => K (y :: ys)
end

def genSeg : Seg → (Seg → Prop) → Prop
  | .one (.i k a), K => (match a.st with
    | true => K (.one (.i k a))
    | false => ∀ x : Int, x = a.z → InR k x → K (.one (.i k ⟨false, x⟩)))
  | .arr k n true l, K => genL k l fun l' => K (.arr k n true l')
  | .arr k n false l, K => ∀ x : List Int, x = l → x.length = n → AllR k x → K (.arr k n false x)
  | .rowI k l, K => ∀ x : List Int, x = l → AllR k x → K (.rowI k x)
  | .rowA k n l, K => ∀ x : List (List Int), x = l → AllA k n x → K (.rowA k n x)
  | g, K => K g

def genSegs : List Seg → (List Seg → Prop) → Prop
  | [], K => K []
  | g :: r, K => genSeg g fun g' => genSegs r fun r' => K (g' :: r')

def genWs : List (Nat × SB) → (List (Nat × SB) → Prop) → Prop
  | [], K => K []
  | (k, .segs ro l) :: r, K => genSegs l fun l' => genWs r fun r' => K ((k, .segs ro l') :: r')
  | (k, .world) :: r, K => genWs r fun r' => K ((k, .world) :: r')
  | (k, .gone) :: r, K => genWs r fun r' => K ((k, .gone) :: r')

def keysOf : List (Nat × SB) → List Nat
  | [] => []
  | (k, _) :: r => k :: keysOf r

def nodupN : List Nat → Bool
  | [] => true
  | x :: r => match memN x r with | true => false | false => nodupN r

/-- What an operation's delta asks, and the delta with names. -/
def deltaK (d : Delta) (K : SV → List (Nat × SB) → Prop) : Prop :=
  match d with
  | ⟨pre, v, ws, gen⟩ => preK pre (match gen with
    | true => (match nodupN (keysOf ws) with
      | true => genWs ws fun ws' => genV v fun v' => K v' ws'
      | false => False)
    | false => K v ws)

def hsets : List (Nat × SB) → Heap → Option Heap
  | [], h => some h
  | (k, b) :: r, h => match hset h k b with | some h' => hsets r h' | none => none

def dstSet (l : List SV) (d : Option Nat) (v : SV) : Option (List SV) :=
  match d with
  | none => some l
  | some t => setn l t v

/-- The operations whose values are guards. -/
def gsrc : List Oper → List Nat
  | [] => []
  | o :: r => match o.guard with
    | some (j, _) => (match memN j (gsrc r) with | true => gsrc r | false => j :: gsrc r)
    | none => gsrc r

/-- Is an operation carried out? -/
def wantS (all : List Oper) (o : Oper) (tmps : List SV) : Option Bool :=
  match o.guard with
  | none => some true
  | some (j, want) => match nth all j with
    | some oj => (match oj.dst with
      | some t => (match tget tmps t with
        | .b true v => (match v, want with | true, true => some true | false, false => some true | _, _ => some false)
        | .val (.bool _) => none
        | .val _ => some false
        | _ => none)
      | none => none)
    | none => none

/-- A guard's value: both cases. -/
def splitK (g : Bool) (v : SV) (K : SV → Prop) : Prop :=
  match g with
  | false => K v
  | true => match v with
    | .b false b => (b = true → K (.b true true)) ∧ (b = false → K (.b true false))
    | v => K v

/-- An operation's footprint: what it read, what it wrote. -/
abbrev Foot := List Nat × List Nat

/-- The operations of a region, one behind the other. -/
def opsK (Γ : Tab) (all : List Oper) (gs : List Nat) : List Oper → (i stamp : Nat) → List Foot → List SV → Heap → (List Foot → List SV → Heap → Prop) → Prop
  | [], _, _, fs, tmps, h, K => K fs tmps h
  | o :: r, i, stamp, fs, tmps, h, K => match wantS all o tmps with
    | none => False
    | some false => (match dstSet tmps o.dst (.val undef) with
      | some tmps' => opsK Γ all gs r (i + 1) (stamp + 1) (([], []) :: fs) tmps' h K
      | none => False)
    | some true => match (sop Γ stamp o.op o.type (evalS Γ.gl tmps)).run (assoc h) [] with
      | some (d, rs) => deltaK d fun v ws => match hsets ws h with
        | some h' => splitK (memN i gs) v fun v => match dstSet tmps o.dst v with
          | some tmps' => opsK Γ all gs r (i + 1) (stamp + 1) ((rs, keysOf ws) :: fs) tmps' h' K
          | none => False
        | none => False
      | none => False

end Go.Gx

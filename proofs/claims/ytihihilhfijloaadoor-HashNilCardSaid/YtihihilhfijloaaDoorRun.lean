/- The symbolic evaluator: regions in every order, code, functions. Definitions alone. -/
import Derived.Test.YtihihilhfijloaaDoorEval
namespace Go.Gx
set_option linter.unusedVariables false

/-- The operations that bind an operation: as a mask of their numbers, and of what binds those. -/
def maskOf (acc : List Nat) : List Edge → Nat → Nat
  | [], s => s
  | e :: r, s => match Region.binds .any e with
    | true => maskOf acc r (s ||| 2 ^ e.on ||| acc.getD e.on 0)
    | false => maskOf acc r s

def masks : List Oper → List Nat → List Nat
  | [], acc => acc
  | o :: r, acc => masks r (acc ++ [maskOf acc o.after.toList 0])

def tmpsIn : List Operand → List Nat
  | [] => []
  | .tmp t :: r => t :: tmpsIn r
  | _ :: r => tmpsIn r

def disj : List Nat → List Nat → Bool
  | [], _ => true
  | x :: r, l => !memN x l && disj r l

/-- What an operation looks at: its operands, its guard's place. -/
def looks (all : List Oper) (o : Oper) : List Nat :=
  (match o.guard with
    | some (j, _) => (match nth all j with | some oj => oj.dst.toList | none => [])
    | none => []) ++ tmpsIn o.op.operands.toList

/-- Neither of two operations touches what the other one touches. -/
def apart2 (all : List Oper) (o : Oper) (fo : Foot) (o' : Oper) (fo' : Foot) : Bool :=
  disj o.dst.toList (o'.dst.toList ++ looks all o') && disj o'.dst.toList (looks all o) &&
  disj fo.2 (fo'.1 ++ fo'.2) && disj fo'.2 fo.1

/-- An operation against those ahead of it. -/
def apartAll (all : List Oper) (o : Oper) (fo : Foot) (mask : Nat) : (j : Nat) → List Oper → List Foot → Bool
  | _, [], _ => true
  | j, o' :: r, fo' :: fr => (Nat.testBit mask j || apart2 all o' fo' o fo) && apartAll all o fo mask (j + 1) r fr
  | _, _, [] => false

def drawOk (all : List Oper) : (i : Nat) → List Oper → List Nat → List Foot → List Foot → Bool
  | _, [], _, _, _ => true
  | i, o :: r, m :: ms, fs, fo :: fr => apartAll all o fo m 0 (all.take i) fs && drawOk all (i + 1) r ms (fs ++ [fo]) fr
  | _, _, _, _, _ => false

def forceN (n : Nat) (K : Nat → Prop) : Prop :=
  match n with
  | 0 => K 0
  | m + 1 => K (m + 1)

/-- Do all edges point back? -/
def edgeBack (i : Nat) : List Edge → Bool
  | [] => true
  | e :: r => match Region.binds .any e with
    | true => Nat.blt e.on i && edgeBack i r
    | false => edgeBack i r

def edgesOk : (i : Nat) → List Oper → Bool
  | _, [] => true
  | i, o :: r => edgeBack i o.after.toList && edgesOk (i + 1) r

/-- A region. -/
def regionK (Γ : Tab) (ops : List Oper) (draw : Bool) (σ : St) (K : St → Prop) : Prop :=
  opsK Γ ops (gsrc ops) ops 0 σ.ctr [] σ.tmps σ.heap fun fs tmps h => forceN (σ.ctr + ops.length) fun c => match draw with
    | false => K ⟨tmps, h, c⟩
    | true => match edgesOk 0 ops && drawOk ops 0 ops (masks ops []) [] fs.reverse with
      | true => K ⟨tmps, h, c⟩
      | false => False

/-- The first region's number: a loop's name. -/
def firstRegion : Code → Nat
  | .region id _ _ => id
  | .seq a _ => firstRegion a
  | .block _ c => firstRegion c
  | .loop c => firstRegion c
  | .scope c => firstRegion c
  | _ => 1000000

/-- The results of a function. -/
def resultsK (Γ : Tab) (σ : St) : List ResultVar → (List SV → Prop) → Prop
  | [], K => K []
  | .tmp t :: r, K => resultsK Γ σ r fun xs => K (tget σ.tmps t :: xs)
  | .cell a t :: r, K => match assoc Γ.ty t with
    | some t => (match (loadOp t (tget σ.tmps a)).run (assoc σ.heap) [] with
      | some (d, _) => preK d.pre (resultsK Γ σ r fun xs => K (d.v :: xs))
      | none => False)
    | none => False

def retK (Γ : Tab) (rs : List ResultVar) (σ : St) (K : SV → Heap → Prop) : Prop :=
  resultsK Γ σ rs fun xs => match xs with
    | [x] => K x σ.heap
    | xs => K (.tup xs) σ.heap

/-- Code: what is left to do, as the machine has it. 'stops': the loops at whose head the evaluation hands over to 'I'. -/
def run (Γ : Tab) (rs : List ResultVar) (stops : List Nat) : (fuel : Nat) → List Item → St → (SV → Heap → Prop) → (Nat → List Item → St → Prop) → Prop
  | 0, _, _, _, _ => False
  | n + 1, items, σ, K, I => match items with
    | [] => retK Γ rs σ K
    | .code c :: k => (match c with
      | .ret => retK Γ rs σ K
      | .skip => run Γ rs stops n k σ K I
      | .label _ => run Γ rs stops n k σ K I
      | .seq a b => run Γ rs stops n (.code a :: .code b :: k) σ K I
      | .cond c a b => (match evalS Γ.gl σ.tmps c with
        | .b true v => (match v with | true => run Γ rs stops n (.code a :: k) σ K I | false => run Γ rs stops n (.code b :: k) σ K I)
        | .b false v => (v = true → run Γ rs stops n (.code a :: k) σ K I) ∧ (v = false → run Γ rs stops n (.code b :: k) σ K I)
        | _ => False)
      | .block id c => run Γ rs stops n (.code c :: .inBlock id :: k) σ K I
      | .scope c => run Γ rs stops n (.code c :: .inScope c :: k) σ K I
      | .loop c => (match memN (firstRegion c) stops with
        | true => I (firstRegion c) (.code c :: .inLoop c :: k) σ
        | false => run Γ rs stops n (.code c :: .inLoop c :: k) σ K I)
      | .exit id => (match exitTo id k with | some k' => run Γ rs stops n k' σ K I | none => False)
      | .region _ ops draw => regionK Γ ops.toList draw σ fun σ' => run Γ rs stops n k σ' K I
      | _ => False)
    | .inBlock _ :: k => run Γ rs stops n k σ K I
    | .inScope _ :: k => run Γ rs stops n k σ K I
    | .inLoop c :: k => (match memN (firstRegion c) stops with
        | true => I (firstRegion c) (.code c :: .inLoop c :: k) σ
        | false => run Γ rs stops n (.code c :: .inLoop c :: k) σ K I)
    | _ => False

/-- The arguments' places, then nothing. -/
def tmps0 (args : List SV) (n : Nat) : List SV := args ++ reps .any (n - args.length)

/-- A loop's head: what is left to do there. -/
def findLoop (key : Nat) : Code → List Item → Option (List Item)
  | .seq a b, k => (match findLoop key a (.code b :: k) with | some r => some r | none => findLoop key b k)
  | .cond _ a b, k => (match findLoop key a k with | some r => some r | none => findLoop key b k)
  | .block id c, k => findLoop key c (.inBlock id :: k)
  | .scope c, k => findLoop key c (.inScope c :: k)
  | .loop c, k => (match Nat.beq (firstRegion c) key with | true => some (.code c :: .inLoop c :: k) | false => findLoop key c (.inLoop c :: k))
  | _, _ => none

def itemsOf (fn : Func) (key : Nat) : List Item :=
  match fn.body with
  | some c => (match findLoop key c [] with | some k => k | none => [])
  | none => []

def Same (fn : Func) (key : Nat) (items : List Item) : Prop := items = itemsOf fn key

/-- What is handed over at a loop's head. -/
def handI (fn : Func) (I : Nat → St → Prop) : Nat → List Item → St → Prop := fun key items σ => Same fn key items ∧ I key σ

def runFn (Γ : Tab) (fn : Func) (stops : List Nat) (args : List SV) (h : Heap) (K : SV → Heap → Prop) (I : Nat → St → Prop) : Prop :=
  match fn.body with
  | some c => run Γ fn.results.toList stops 100000 [.code c] ⟨tmps0 args fn.ntmps, h, 1000⟩ K (handI fn I)
  | none => False

def runLoop (Γ : Tab) (fn : Func) (stops : List Nat) (key : Nat) (σ : St) (K : SV → Heap → Prop) (I : Nat → St → Prop) : Prop :=
  run Γ fn.results.toList stops 100000 (itemsOf fn key) σ K (handI fn I)

end Go.Gx

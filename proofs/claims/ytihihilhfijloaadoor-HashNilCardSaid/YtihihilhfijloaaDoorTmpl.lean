/- A state against a pattern: what stands for what. Definitions alone. -/
import Derived.Test.YtihihilhfijloaaDoorRun
namespace Go.Gx
set_option linter.unusedVariables false

/-- What stands at a free place of a pattern. -/
inductive Pv where
  | z (x : Int)
  | l (x : List Int)
  | ll (x : List (List Int))
  | b (x : Bool)
  | s (x : ByteArray)
  | ro (x : RO)
  deriving Inhabited

abbrev Ren := List (Nat × Nat)

def rlook : Ren → Nat → Option Nat
  | [], _ => none
  | (a, c) :: r, k => match Nat.beq a k with | true => some c | false => rlook r k

def rhas : Ren → Nat → Bool
  | [], _ => false
  | (a, c) :: r, k => match Nat.beq c k with | true => true | false => rhas r k

def renKey (key key' : Nat) (r : Ren) : Option Ren :=
  match rlook r key with
  | some k2 => (match Nat.beq k2 key' with | true => some r | false => none)
  | none => (match rhas r key' with | true => none | false => some ((key, key') :: r))

def ieq : Int → Int → Bool
  | .ofNat a, .ofNat c => Nat.beq a c
  | .negSucc a, .negSucc c => Nat.beq a c
  | _, _ => false

def beqB : Bool → Bool → Bool
  | true, true => true
  | false, false => true
  | _, _ => false

abbrev MR := Option (Ren × List Pv)

/-- A number. -/
def matchI (t x : SI) : Option (List Pv) :=
  match t.st with
  | true => (match x.st with | true => (match ieq t.z x.z with | true => some [] | false => none) | false => none)
  | false => some [.z x.z]

def matchL : List Int → List Int → Option (List Pv)
  | [], [] => some []
  | _ :: t, x :: r => (match matchL t r with | some ps => some (.z x :: ps) | none => none)
  | _, _ => none

def matchA (k k' : IntKind) (n m : Nat) (ex ex' : Bool) (l l' : List Int) : Option (List Pv) :=
  match keq k k' && Nat.beq n m with
  | true => (match ex with
    | false => some [.l l']
    | true => (match ex' with | true => matchL l l' | false => none))
  | false => none

mutual
def shEq : Sh → Sh → Bool
  | .i k, .i k' => keq k k'
  | .tb, .tb => true
  | .ts, .ts => true
  | .arr n k, .arr m k' => Nat.beq n m && keq k k'
  | .r a, .r c => shEqs a c
  | .ints k, .ints k' => keq k k'
  | .l a, .l c => shEq a c
  | _, _ => false
def shEqs : List Sh → List Sh → Bool
  | [], [] => true
  | a :: r, c :: t => shEq a c && shEqs r t
  | _, _ => false
end

mutual
def matchV : SV → SV → Ren → MR
  | .any, _, r => some (r, [])
  | .i k a, x, r => (match x with
    | .i k' c => (match keq k k', matchI a c with | true, some ps => some (r, ps) | _, _ => none)
    | _ => none)
  | .b st v, x, r => (match x with
    | .b st' v' => (match st with
      | true => (match st' with | true => (match beqB v v' with | true => some (r, []) | false => none) | false => none)
      | false => some (r, [.b v']))
    | _ => none)
  | .s _, x, r => (match x with | .s v => some (r, [.s v]) | _ => none)
  | .np, x, r => (match x with | .np => some (r, []) | _ => none)
  | .nsl, x, r => (match x with | .nsl => some (r, []) | _ => none)
  | .p key c, x, r => (match x with
    | .p key' c' => (match Nat.beq c c', renKey key key' r with | true, some r' => some (r', []) | _, _ => none)
    | _ => none)
  | .sl key c est off len, x, r => (match x with
    | .sl key' c' est' off' len' => (match Nat.beq c c' && Nat.beq est est', renKey key key' r, matchI off off', matchI len len' with
      | true, some r', some p, some q => some (r', p ++ q)
      | _, _, _, _ => none)
    | _ => none)
  | .arr k n ex l, x, r => (match x with
    | .arr k' m ex' l' => (match matchA k k' n m ex ex' l l' with | some ps => some (r, ps) | none => none)
    | _ => none)
  | .agg xs, x, r => (match x with | .agg ys => matchVs xs ys r | _ => none)
  | .tup xs, x, r => (match x with | .tup ys => matchVs xs ys r | _ => none)
  | .ro key sh _, x, r => (match x with
    | .ro key' sh' d => (match shEq sh sh', renKey key key' r with | true, some r' => some (r', [.ro d]) | _, _ => none)
    | _ => none)
  | .fn f, x, r => (match x with | .fn g => (match Nat.beq f g with | true => some (r, []) | false => none) | _ => none)
  | _, _, _ => none
def matchVs : List SV → List SV → Ren → MR
  | [], [], r => some (r, [])
  | t :: ts, x :: xs, r => (match matchV t x r with
    | some (r', p) => (match matchVs ts xs r' with | some (r'', q) => some (r'', p ++ q) | none => none)
    | none => none)
  | _, _, _ => none
end

/-- The same numbers, all known. -/
def sameL : List Int → List Int → Bool
  | [], [] => true
  | a :: l, c :: r => (match ieq a c with | true => sameL l r | false => false)
  | _, _ => false

/-- A written-out array of a block that is not the call's own: known numbers. -/
def isLit : Bool → Seg → Bool
  | true, .arr _ _ true _ => true
  | _, _ => false

def matchSeg (low : Bool) (t x : Seg) (r : Ren) : MR :=
  match isLit low t with
  | true => (match t, x with
    | .arr k n _ l, .arr k' m _ l' => (match keq k k' && Nat.beq n m && sameL l l' with | true => some (r, []) | false => none)
    | _, _ => none)
  | false => matchSeg1 t x r
where
  matchSeg1 : Seg → Seg → Ren → MR
  | .one t, .one x, r => (match t with | .any => none | _ => matchV t x r)
  | .arr k n ex l, .arr k' m ex' l', r => (match matchA k k' n m ex ex' l l' with | some ps => some (r, ps) | none => none)
  | .rowI k _, .rowI k' l, r => (match keq k k' with | true => some (r, [.l l]) | false => none)
  | .rowA k n _, .rowA k' m l, r => (match keq k k' && Nat.beq n m with | true => some (r, [.ll l]) | false => none)
  | _, _, _ => none

def matchSegs (low : Bool) : List Seg → List Seg → Ren → MR
  | [], [], r => some (r, [])
  | t :: ts, x :: xs, r => (match matchSeg low t x r with
    | some (r', p) => (match matchSegs low ts xs r' with | some (r'', q) => some (r'', p ++ q) | none => none)
    | none => none)
  | _, _, _ => none

def matchHeap (h : Heap) : Heap → Ren → MR
  | [], r => some (r, [])
  | (k, .segs ro ts) :: t, r => (match rlook r k with
    | some k' => (match assoc h k' with
      | some (.segs ro' xs) => (match beqB ro ro', matchSegs (Nat.blt k 1000) ts xs r with
        | true, some (r', p) => (match matchHeap h t r' with | some (r'', q) => some (r'', p ++ q) | none => none)
        | _, _ => none)
      | _ => none)
    | none => none)
  | (k, .world) :: t, r => (match rlook r k with
    | some k' => (match assoc h k' with
      | some .world => matchHeap h t r
      | _ => none)
    | none => none)
  | _, _ => none

/-- The keys below those of the call's own blocks stand for themselves. -/
def lowRen : Heap → Ren
  | [] => []
  | (k, _) :: r => (match Nat.blt k 1000 with | true => (k, k) :: lowRen r | false => lowRen r)

def renIn : Ren → Heap → Bool
  | [], _ => true
  | (k, _) :: r, h => (match assoc h k with | some _ => renIn r h | none => false)

def nodupR : Ren → Bool
  | [] => true
  | (_, c) :: r => (match rhas r c with | true => false | false => nodupR r)

/-- A state against a pattern: what stands at the free places. -/
def matchSt (t σ : St) : Option (List Pv) :=
  match nodupR (lowRen t.heap), matchVs t.tmps σ.tmps (lowRen t.heap) with
  | true, some (r, p) => (match matchHeap σ.heap t.heap r with
    | some (r', q) => (match renIn r' t.heap with | true => some (p ++ q) | false => none)
    | none => none)
  | _, _ => none

/-! ### The pattern, filled -/

def instI (t : SI) (ps : List Pv) : SI × List Pv :=
  match t.st with
  | true => (t, ps)
  | false => (match ps with
    | .z x :: r => (⟨false, x⟩, r)
    | _ => (t, ps))

def instL : List Int → List Pv → List Int × List Pv
  | [], ps => ([], ps)
  | _ :: t, ps => (match ps with
    | .z x :: r => (match instL t r with | (l, r') => (x :: l, r'))
    | _ => ([], ps))

def instA (ex : Bool) (l : List Int) (ps : List Pv) : List Int × List Pv :=
  match ex with
  | true => instL l ps
  | false => (match ps with
    | .l x :: r => (x, r)
    | _ => (l, ps))

mutual
def instV : SV → List Pv → SV × List Pv
  | .i k a, ps => (match instI a ps with | (a', r) => (.i k a', r))
  | .b st v, ps => (match st with
    | true => (.b true v, ps)
    | false => (match ps with | .b x :: r => (.b false x, r) | _ => (.b st v, ps)))
  | .s v, ps => (match ps with | .s x :: r => (.s x, r) | _ => (.s v, ps))
  | .sl key c est off len, ps => (match instI off ps with
    | (off', r) => (match instI len r with | (len', r') => (.sl key c est off' len', r')))
  | .arr k n ex l, ps => (match instA ex l ps with | (l', r) => (.arr k n ex l', r))
  | .ro key sh d, ps => (match ps with | .ro x :: r => (.ro key sh x, r) | _ => (.ro key sh d, ps))
  | .agg xs, ps => (match instVs xs ps with | (ys, r) => (.agg ys, r))
  | .tup xs, ps => (match instVs xs ps with | (ys, r) => (.tup ys, r))
  | v, ps => (v, ps)
def instVs : List SV → List Pv → List SV × List Pv
  | [], ps => ([], ps)
  | x :: r, ps => (match instV x ps with
    | (y, p) => (match instVs r p with | (ys, q) => (y :: ys, q)))
end

def instSeg (low : Bool) (t : Seg) (ps : List Pv) : Seg × List Pv :=
  match isLit low t with
  | true => (t, ps)
  | false => instSeg1 t ps
where
  instSeg1 : Seg → List Pv → Seg × List Pv
  | .one x, ps => (match instV x ps with | (y, r) => (.one y, r))
  | .arr k n ex l, ps => (match instA ex l ps with | (l', r) => (.arr k n ex l', r))
  | .rowI k l, ps => (match ps with | .l x :: r => (.rowI k x, r) | _ => (.rowI k l, ps))
  | .rowA k n l, ps => (match ps with | .ll x :: r => (.rowA k n x, r) | _ => (.rowA k n l, ps))

def instSegs (low : Bool) : List Seg → List Pv → List Seg × List Pv
  | [], ps => ([], ps)
  | g :: r, ps => (match instSeg low g ps with
    | (y, p) => (match instSegs low r p with | (ys, q) => (y :: ys, q)))

def instHeap : Heap → List Pv → Heap × List Pv
  | [], ps => ([], ps)
  | (k, .segs ro l) :: r, ps => (match instSegs (Nat.blt k 1000) l ps with
    | (l', p) => (match instHeap r p with | (h, q) => ((k, .segs ro l') :: h, q)))
  | (k, .world) :: r, ps => (match instHeap r ps with | (h, q) => ((k, .world) :: h, q))
  | (k, .gone) :: r, ps => (match instHeap r ps with | (h, q) => ((k, .gone) :: h, q))

def instSt (t : St) (ps : List Pv) : St :=
  match instVs t.tmps ps with
  | (ys, p) => (match instHeap t.heap p with | (h, _) => ⟨ys, h, t.ctr⟩)

/-- The loops of a function: number, pattern. -/
abbrev Loops := List (Nat × St)

def loopKeys : Loops → List Nat
  | [] => []
  | (k, _) :: r => k :: loopKeys r

def handL (L : Loops) (Q : Nat → List Pv → Prop) : Nat → St → Prop := fun key σ =>
  match assoc L key with
  | some t => (match matchSt t σ with | some ps => Q key ps | none => False)
  | none => False

/-- A function, up to its loops' heads. -/
def fnVc (Γ : Tab) (fn : Func) (L : Loops) (args : List SV) (h : Heap) (K : SV → Prop) (Q : Nat → List Pv → Prop) : Prop :=
  runFn Γ fn (loopKeys L) args h (fun x _ => K x) (handL L Q)

/-- From a loop's head on. -/
def loopVc (Γ : Tab) (fn : Func) (L : Loops) (key : Nat) (ps : List Pv) (K : SV → Prop) (Q : Nat → List Pv → Prop) : Prop :=
  match assoc L key with
  | some t => runLoop Γ fn (loopKeys L) key (instSt t ps) (fun x _ => K x) (handL L Q)
  | none => False

end Go.Gx

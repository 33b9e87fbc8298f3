/- An abstract evaluator for closed runs: its values, its heap, its small words. -/
import Derived.RangeFuncLeaves
import Derived.OrdersIn
namespace Go.Ev
noncomputable section

/-- What is known of a slice's capacity: just so many; up to its block's end (elements of so many cells); none, cut off a slice whose capacity is not known. -/
inductive SCap where
  | ex (c : Nat)
  | un (esz : Nat)
  | z (esz : Nat)

inductive AV where
  | bool (b : Bool)
  | int (k : IntKind) (n : Int)
  | str (s : List Nat)
  | nilptr
  | ptr (r off : Nat)
  | nilsl
  | sl (r off alt len : Nat) (c : SCap)
  | nilmap
  | map (r : Nat)
  | nilfn
  | fn (f : Nat) (first captured : List AV)
  | yld (r : Nat)
  | nilif
  | iface (t : Nat) (v : AV)
  | agg (l : List AV)
  | tup (l : List AV)
  | sym (i : Nat)

def AV.undef : AV := .tup []
/-- What one cell can hold. -/
def AV.flat (v : AV) : Bool := match v with | .agg _ => false | .tup _ => false | _ => true
def AV.flats (l : List AV) : Bool := l.all AV.flat

def AV.cells : AV → List AV
  | .agg l => l
  | v => [v]

inductive AObj where
  | cells (cs : List AV)
  | map (es : List (AV × AV × Nat)) (clock : Nat)
  | loop (st : LoopState) (pend : Option Code) (tmps : List (List AV)) (params : List Nat) (assign body : Code) (dfr : Nat)
  | dfr (isOpen : Bool)
  | strit (s : List Nat) (pos : Nat)
  | mapit (m : Option Nat) (since : Nat) (seen : List Nat) (last : Nat)
  | keys (m : Option Nat)

inductive Tree where
  | leaf
  | node (o : Option AObj) (l r : Tree)

def Tree.get : Tree → Nat → Option AObj
  | .leaf, _ => none
  | .node o l r, n => if n = 0 then o else if n % 2 = 1 then l.get (n / 2) else r.get (n / 2 - 1)

/-- 'fuel': how deep. -/
def Tree.put : Nat → Tree → Nat → Option AObj → Tree
  | 0, t, _, _ => t
  | f + 1, .leaf, n, x => if n = 0 then .node x .leaf .leaf else if n % 2 = 1 then .node none (Tree.put f .leaf (n / 2) x) .leaf else .node none .leaf (Tree.put f .leaf (n / 2 - 1) x)
  | f + 1, .node o l r, n, x => if n = 0 then .node x l r else if n % 2 = 1 then .node o (Tree.put f l (n / 2) x) r else .node o l (Tree.put f r (n / 2 - 1) x)

structure Heap where
  t : Tree
  next : Nat

def Heap.get (H : Heap) (r : Nat) : Option AObj := H.t.get r
def Heap.put (H : Heap) (r : Nat) (o : Option AObj) : Heap := ⟨Tree.put 64 H.t r o, H.next⟩
def Heap.new (H : Heap) (o : AObj) : Heap := ⟨Tree.put 64 H.t H.next (some o), H.next + 1⟩

inductive ADef where
  | collected (r : Nat)
  | call (f : Nat) (args : List AV)

inductive AExit where
  | normal
  | exit (id : Nat)
  | goto (l : Nat)
  | ret

/-! ### constants, operands -/

def mapO {α β : Type} (f : α → Option β) : List α → Option (List β)
  | [] => some []
  | v :: l => match f v with
    | none => none
    | some x => match mapO f l with
      | none => none
      | some xs => some (x :: xs)

def absN : Nat → Value → Option AV
  | 0, _ => none
  | d + 1, v => match v with
    | .bool b => some (.bool b)
    | .int k n => some (.int k n)
    | .string s => some (.str (s.data.toList.map UInt8.toNat))
    | .pointer none => some .nilptr
    | .slice none 0 0 => some .nilsl
    | .map none => some .nilmap
    | .nilFunc => some .nilfn
    | .nilIface => some .nilif
    | .iface t v => (absN d v).map (.iface t)
    | .agg l => match mapO (absN d) l.toList with | some vs => if AV.flats vs then some (.agg vs) else none | none => none
    | .tuple l => (mapO (absN d) l.toList).map .tup
    | _ => none
def absV (v : Value) : Option AV := absN 6 v

def cellsOf (H : Heap) (r : Nat) : Option (List AV) :=
  match H.get r with
  | some (.cells cs) => some cs
  | _ => none

def nthL {α : Type} (l : List α) (i : Nat) : Option α :=
  List.rec (motive := fun _ => Nat → Option α) (fun _ => none) (fun x _ ih i => Nat.rec (motive := fun _ => Option α) (some x) (fun j _ => ih j) i) l i
section ops
variable (P : Program)

def infoQ (t : TypeId) : Option TypeInfo := nthL P.types.toList t
def underQ (t : TypeId) : Option TypeDesc :=
  match infoQ P t with
  | some i => match i.desc with
    | .named _ u => match infoQ P u with
      | some j => some j.desc
      | none => none
    | d => some d
  | none => none
def sizeT (t : TypeId) : Option Nat := match infoQ P t with | some i => some i.size | none => none
def bytesT (t : TypeId) : Option Nat := match infoQ P t with | some i => some i.bytes | none => none
def zeroT (t : TypeId) : Option AV := match infoQ P t with
  | some i => match i.zero with
    | some z => absV z
    | none => none
  | none => none
def isAggT (t : TypeId) : Option Bool := match underQ P t with
  | some (.struct _) | some (.array _ _) => some true
  | some _ => some false
  | none => none

end ops

def slots (cs : List AV) (off n : Nat) : Option (List AV) :=
  if off + n ≤ cs.length then some ((cs.drop off).take n) else none
def repl (n : Nat) (z : List AV) : List AV :=
  match n with
  | 0 => []
  | n + 1 => z ++ repl n z
end
end Go.Ev

namespace Go.Ev
noncomputable section
variable {R : Type} {α β : Type}

def natK (n : Nat) (k : Nat → Option R) : Option R := Nat.rec (motive := fun _ => Option R) (k 0) (fun m _ => k (Nat.succ m)) n
def intK (n : Int) (k : Int → Option R) : Option R := Int.casesOn n (fun m => natK m fun m' => k (Int.ofNat m')) (fun m => natK m fun m' => k (Int.negSucc m'))

def boolIf (b : Bool) (x y : Option R) : Option R := Bool.casesOn b y x
def orNone (b : Bool) (x : Option R) : Option R := Bool.casesOn b none x

def nthK (l : List α) (i : Nat) (k : α → Option R) : Option R :=
  List.rec (motive := fun _ => Nat → (α → Option R) → Option R) (fun _ _ => none) (fun x _ ih i k => Nat.rec (motive := fun _ => Option R) (k x) (fun j _ => ih j k) i) l i k
def updK (l : List α) (i : Nat) (v : α) (k : List α → Option R) : Option R :=
  List.rec (motive := fun _ => Nat → (List α → Option R) → Option R) (fun _ _ => none) (fun x xs ih i k => Nat.rec (motive := fun _ => Option R) (k (v :: xs)) (fun j _ => ih j fun t => k (x :: t)) i) l i k
def dropK (n : Nat) (l : List α) (k : List α → Option R) : Option R :=
  Nat.rec (motive := fun _ => List α → Option R) (fun l => k l) (fun _ ih l => List.casesOn l none fun _ xs => ih xs) n l
def takeK (n : Nat) (l : List α) (k : List α → Option R) : Option R :=
  Nat.rec (motive := fun _ => List α → (List α → Option R) → Option R) (fun _ k => k []) (fun _ ih l k => List.casesOn l none fun x xs => ih xs fun t => k (x :: t)) n l k
def appK (l m : List α) (k : List α → Option R) : Option R :=
  List.rec (motive := fun _ => (List α → Option R) → Option R) (fun k => k m) (fun x _ ih k => ih fun t => k (x :: t)) l k
def mapK (f : α → (β → Option R) → Option R) (l : List α) (k : List β → Option R) : Option R :=
  List.rec (motive := fun _ => (List β → Option R) → Option R) (fun k => k []) (fun x _ ih k => f x fun y => ih fun t => k (y :: t)) l k
def lenK (l : List α) (k : Nat → Option R) : Option R :=
  List.rec (motive := fun _ => Nat → Option R) (fun n => k n) (fun _ _ ih n => ih (Nat.succ n)) l 0

/-- 'ns' laid over 'cs' from 'off' on; what lies behind stays. -/
def overK (ns cs : List α) (k : List α → Option R) : Option R :=
  List.rec (motive := fun _ => List α → (List α → Option R) → Option R) (fun cs k => k cs) (fun x _ ih cs k => List.casesOn cs none fun _ cs' => ih cs' fun t => k (x :: t)) ns cs k
def layK (off : Nat) (cs ns : List α) (k : List α → Option R) : Option R :=
  Nat.rec (motive := fun _ => List α → (List α → Option R) → Option R) (fun cs k => overK ns cs k) (fun _ ih cs k => List.casesOn cs none fun x xs => ih xs fun t => k (x :: t)) off cs k

def slotsK (cs : List α) (off n : Nat) (k : List α → Option R) : Option R := dropK off cs fun l => takeK n l k

/-! ### the frame's temporaries: in rows of eight -/
abbrev Env := List (List AV)

def getE (t : Env) (i : Nat) (k : AV → Option R) : Option R := nthK t (Nat.div i 8) fun c => nthK c (Nat.mod i 8) k
def setE (t : Env) (i : Nat) (v : AV) (k : Env → Option R) : Option R := nthK t (Nat.div i 8) fun c => updK c (Nat.mod i 8) v fun c' => updK t (Nat.div i 8) c' k
def putE (t : Env) (d : Option Nat) (v : AV) (k : Env → Option R) : Option R := Option.casesOn d (k t) fun i => setE t i v k

def undefs (n : Nat) : List AV := Nat.rec (motive := fun _ => List AV) [] (fun _ l => .undef :: l) n
def envN (n : Nat) : Env := Nat.rec (motive := fun _ => Env) [undefs (Nat.mod n 8)] (fun _ l => undefs 8 :: l) (Nat.div n 8)
def argsE (l : List AV) (t : Env) (i : Nat) (k : Env → Option R) : Option R :=
  List.rec (motive := fun _ => Env → Nat → Option R) (fun t _ => k t) (fun v _ ih t i => setE t i v fun t' => ih t' (Nat.succ i)) l t i
def argsAt (ps : List Nat) (l : List AV) (t : Env) (k : Env → Option R) : Option R :=
  List.rec (motive := fun _ => List AV → Env → Option R) (fun l t => List.casesOn l (k t) fun _ _ => none) (fun p _ ih l t => List.casesOn l none fun v vs => setE t p v fun t' => ih vs t') ps l t

/-! ### the heap -/
def getT (t : Tree) (n : Nat) (k : AObj → Option R) : Option R :=
  Tree.rec (motive := fun _ => Nat → Option R) (fun _ => none)
    (fun o _ _ ihl ihr n => Nat.rec (motive := fun _ => Option R) (Option.casesOn o none k) (fun m _ => Bool.casesOn (Nat.beq (Nat.mod m 2) 0) (ihr (Nat.div m 2)) (ihl (Nat.div m 2))) n) t n
def growT (f : Nat) (n : Nat) (x : Option AObj) (k : Tree → Option R) : Option R :=
  Nat.rec (motive := fun _ => Nat → (Tree → Option R) → Option R) (fun _ _ => none)
    (fun _ ih n k => Nat.rec (motive := fun _ => Option R) (k (.node x .leaf .leaf))
      (fun m _ => Bool.casesOn (Nat.beq (Nat.mod m 2) 0) (ih (Nat.div m 2) fun t => k (.node none .leaf t)) (ih (Nat.div m 2) fun t => k (.node none t .leaf))) n) f n k
def putT (t : Tree) (n : Nat) (x : Option AObj) (k : Tree → Option R) : Option R :=
  Tree.rec (motive := fun _ => Nat → (Tree → Option R) → Option R) (fun n k => growT 40 n x k)
    (fun o l r ihl ihr n k => Nat.rec (motive := fun _ => Option R) (k (.node x l r))
      (fun m _ => Bool.casesOn (Nat.beq (Nat.mod m 2) 0) (ihr (Nat.div m 2) fun t => k (.node o l t)) (ihl (Nat.div m 2) fun t => k (.node o t r))) n) t n k

def getH (H : Heap) (r : Nat) (k : AObj → Option R) : Option R := getT H.t r k
def putH (H : Heap) (r : Nat) (o : AObj) (k : Heap → Option R) : Option R := putT H.t r (some o) fun t => k ⟨t, H.next⟩
def delH (H : Heap) (r : Nat) (k : Heap → Option R) : Option R := putT H.t r none fun t => k ⟨t, H.next⟩
/-- 'k': where, and the heap then. -/
def newH (H : Heap) (o : AObj) (k : Nat → Heap → Option R) : Option R := natK H.next fun r => putT H.t r (some o) fun t => k r ⟨t, Nat.succ r⟩

/-! ### what a value is -/
def boolK (v : AV) (k : Bool → Option R) : Option R := match v with | .bool b => k b | _ => none
def ptrK (v : AV) (k : Nat → Nat → Option R) : Option R := match v with | .ptr r o => k r o | _ => none
def strK (v : AV) (k : List Nat → Option R) : Option R := match v with | .str s => k s | _ => none
def aggK (v : AV) (k : List AV → Option R) : Option R := match v with | .agg l => k l | _ => none
def tupK (v : AV) (k : List AV → Option R) : Option R := match v with | .tup l => k l | _ => none
def numK (v : AV) (k : IntKind → Int → Option R) : Option R := match v with | .int kd n => k kd n | _ => none
def ofNatK (n : Int) (k : Nat → Option R) : Option R := Int.casesOn n k fun _ => none
/-- A whole number from nought on. -/
def idxK (v : AV) (k : Nat → Option R) : Option R := numK v fun _ n => ofNatK n k
def cellsK (v : AV) (k : List AV → Option R) : Option R := match v with | .agg l => k l | .tup _ => none | v => k [v]
def rowK (H : Heap) (r : Nat) (k : List AV → Option R) : Option R := getH H r fun o => match o with | .cells cs => k cs | _ => none
def mapObjK (H : Heap) (r : Nat) (k : List (AV × AV × Nat) → Nat → Option R) : Option R := getH H r fun o => match o with | .map es c => k es c | _ => none

def kcode (k : IntKind) : Nat := IntKind.casesOn k 0 1 2 3 4 5 6 7
def sameKind (j k : IntKind) : Bool := Nat.beq (kcode j) (kcode k)

/-! ### numbers -/
def wrap63 (n : Int) : Int := Int.casesOn n (fun m => Bool.casesOn (Nat.blt m 9223372036854775808) (IntKind.i64.wrap n) (Int.ofNat m)) (fun m => Bool.casesOn (Nat.blt m 9223372036854775808) (IntKind.i64.wrap n) (Int.negSucc m))
def wrapU (bound : Nat) (n : Int) : Int := Int.casesOn n (fun m => Int.ofNat (Nat.mod m bound)) (fun m => Int.ofNat (Nat.sub bound (Nat.succ (Nat.mod m bound))))
def wrapF (k : IntKind) (n : Int) : Int :=
  IntKind.casesOn k (IntKind.i8.wrap n) (IntKind.i16.wrap n) (IntKind.i32.wrap n) (wrap63 n) (wrapU 256 n) (wrapU 65536 n) (wrapU 4294967296 n) (wrapU 18446744073709551616 n)
def intLt (x y : Int) : Bool := Int.casesOn x (fun a => Int.casesOn y (fun b => Nat.blt a b) fun _ => false) (fun a => Int.casesOn y (fun _ => true) fun b => Nat.blt b a)
def intEq (x y : Int) : Bool := Int.casesOn x (fun a => Int.casesOn y (fun b => Nat.beq a b) fun _ => false) (fun a => Int.casesOn y (fun _ => false) fun b => Nat.beq a b)
def notB (b : Bool) : Bool := Bool.casesOn b true false
def retB (b : Bool) (k : AV → Option R) : Option R := Bool.casesOn b (k (.bool false)) (k (.bool true))
def retI (kd : IntKind) (n : Int) (k : AV → Option R) : Option R := intK n fun m => k (.int kd m)

/-- Bits, of numbers from nought on in kinds without a sign, or small. -/
def bitsK (f : Nat → Nat → Nat) (g : IntKind → Int → Int → Int) (kd : IntKind) (x y : Int) (k : AV → Option R) : Option R :=
  Int.casesOn x (fun a => Int.casesOn y (fun b => Bool.casesOn (Nat.blt (Nat.max a b) 9223372036854775808) (retI kd (g kd (Int.ofNat a) (Int.ofNat b)) k) (retI kd (Int.ofNat (f a b)) k)) fun b => retI kd (g kd (Int.ofNat a) (Int.negSucc b)) k)
    (fun a => retI kd (g kd (Int.negSucc a) y) k)
def andG (kd : IntKind) (x y : Int) : Int := kd.wrap (BitVec.ofInt kd.bits x &&& BitVec.ofInt kd.bits y).toNat
def orG (kd : IntKind) (x y : Int) : Int := kd.wrap (BitVec.ofInt kd.bits x ||| BitVec.ofInt kd.bits y).toNat
def xorG (kd : IntKind) (x y : Int) : Int := kd.wrap (BitVec.ofInt kd.bits x ^^^ BitVec.ofInt kd.bits y).toNat

def nAdd (kd : IntKind) (x y : Int) (k : AV → Option R) : Option R := retI kd (wrapF kd (Int.add x y)) k
def nSub (kd : IntKind) (x y : Int) (k : AV → Option R) : Option R := retI kd (wrapF kd (Int.sub x y)) k
def nMul (kd : IntKind) (x y : Int) (k : AV → Option R) : Option R := retI kd (wrapF kd (Int.mul x y)) k
def nQuo (kd : IntKind) (x y : Int) (k : AV → Option R) : Option R := Bool.casesOn (intEq y 0) (retI kd (wrapF kd (Int.tdiv x y)) k) none
def nRem (kd : IntKind) (x y : Int) (k : AV → Option R) : Option R := Bool.casesOn (intEq y 0) (retI kd (Int.tmod x y) k) none
def nAnd (kd : IntKind) (x y : Int) (k : AV → Option R) : Option R := retI kd (andG kd x y) k
def nOr (kd : IntKind) (x y : Int) (k : AV → Option R) : Option R := retI kd (orG kd x y) k
def nXor (kd : IntKind) (x y : Int) (k : AV → Option R) : Option R := retI kd (xorG kd x y) k
def nEql (_ : IntKind) (x y : Int) (k : AV → Option R) : Option R := retB (intEq x y) k
def nNeq (_ : IntKind) (x y : Int) (k : AV → Option R) : Option R := retB (notB (intEq x y)) k
def nLss (_ : IntKind) (x y : Int) (k : AV → Option R) : Option R := retB (intLt x y) k
def nLeq (_ : IntKind) (x y : Int) (k : AV → Option R) : Option R := retB (notB (intLt y x)) k
def nGtr (_ : IntKind) (x y : Int) (k : AV → Option R) : Option R := retB (intLt y x) k
def nGeq (_ : IntKind) (x y : Int) (k : AV → Option R) : Option R := retB (notB (intLt x y)) k
def nNone (_ : IntKind) (_ _ : Int) (_ : AV → Option R) : Option R := none
def numOp (op : BinOp) : IntKind → Int → Int → (AV → Option R) → Option R :=
  BinOp.casesOn op nAdd nSub nMul nQuo nRem nAnd nOr nXor nNone nNone nNone nEql nNeq nLss nLeq nGtr nGeq
def shlK (kd : IntKind) (x y : Int) (k : AV → Option R) : Option R := ofNatK y fun n => retI kd (wrapF kd (Int.mul x (Int.ofNat (Nat.pow 2 (Nat.min n kd.bits))))) k
def shrK (kd : IntKind) (x y : Int) (k : AV → Option R) : Option R := ofNatK y fun n => retI kd (Int.fdiv x (Int.ofNat (Nat.pow 2 (Nat.min n kd.bits)))) k

/-! ### texts -/
def strEq (x y : List Nat) : Bool :=
  List.rec (motive := fun _ => List Nat → Bool) (fun y => List.casesOn y true fun _ _ => false) (fun a _ ih y => List.casesOn y false fun b ys => Bool.casesOn (Nat.beq a b) false (ih ys)) x y
def strLt (x y : List Nat) : Bool :=
  List.rec (motive := fun _ => List Nat → Bool) (fun y => List.casesOn y false fun _ _ => true) (fun a _ ih y => List.casesOn y false fun b ys => Bool.casesOn (Nat.beq a b) (Nat.blt a b) (ih ys)) x y
def sAdd (x y : List Nat) (k : AV → Option R) : Option R := lenK x fun m => lenK y fun n => Bool.casesOn (Nat.blt (Nat.add m n) 1000000000) none (appK x y fun s => k (.str s))
def sEql (x y : List Nat) (k : AV → Option R) : Option R := retB (strEq x y) k
def sNeq (x y : List Nat) (k : AV → Option R) : Option R := retB (notB (strEq x y)) k
def sLss (x y : List Nat) (k : AV → Option R) : Option R := retB (strLt x y) k
def sGeq (x y : List Nat) (k : AV → Option R) : Option R := retB (notB (strLt x y)) k
def sGtr (x y : List Nat) (k : AV → Option R) : Option R := retB (strLt y x) k
def sLeq (x y : List Nat) (k : AV → Option R) : Option R := retB (notB (strLt y x)) k
def sNone (_ _ : List Nat) (_ : AV → Option R) : Option R := none
def strOp (op : BinOp) : List Nat → List Nat → (AV → Option R) → Option R :=
  BinOp.casesOn op sAdd sNone sNone sNone sNone sNone sNone sNone sNone sNone sNone sEql sNeq sLss sLeq sGtr sGeq

end
end Go.Ev

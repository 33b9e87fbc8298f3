/- The evaluator: what each operation does. -/
import Derived.Test.YtglploknmdbigaaGreatDoorEa
namespace Go.Ev

/-- Functions without a body that the evaluator knows. -/
inductive Ext where
  | aload (k : IntKind) | astore | aswap (k : IntKind) | acas (k : IntKind) | aadd (k : IntKind)
  | nothing | marked | indexByte | compare | count

noncomputable section
variable (P : Program) {R : Type}

abbrev Q (R : Type) := Env → Heap → (AV → Option R) → Option R
abbrev W (R : Type) := Env → Heap → (AV → Heap → Option R) → Option R

/-! ### operands -/
def constK (v : Value) (_ : Env) (k : AV → Option R) : Option R := Option.casesOn (absV v) none k
def getTmp (i : Nat) (t : Env) (k : AV → Option R) : Option R := getE t i k
def getNone (_ : Nat) (_ : Env) (_ : AV → Option R) : Option R := none
def getFunc (f : Nat) (_ : Env) (k : AV → Option R) : Option R := k (.fn f [] [])
def opK (x : Operand) : Env → (AV → Option R) → Option R := Operand.casesOn x getTmp constK getNone getFunc
def opsK (l : List Operand) (t : Env) (k : List AV → Option R) : Option R :=
  List.rec (motive := fun _ => (List AV → Option R) → Option R) (fun k => k []) (fun x _ ih k => opK x t fun v => ih fun vs => k (v :: vs)) l k
def optIdx (x : Option Operand) (t : Env) (k : Option Nat → Option R) : Option R := Option.casesOn x (k none) fun o => opK o t fun v => idxK v fun n => k (some n)

/-! ### the quiet ones -/
def qNone : Q R := fun _ _ _ => none
def qMove (x : Operand) : Q R := fun t _ k => opK x t k
def qPick (c a b : Operand) : Q R := fun t _ k => opK c t fun v => boolK v fun y => Bool.casesOn y (opK b t k) (opK a t k)
def qLoad1 (x : Operand) : Q R := fun t H k => opK x t fun v => ptrK v fun r o => rowK H r fun cs => nthK cs o k
def qLoadN (n : Nat) (x : Operand) : Q R := fun t H k => opK x t fun v => ptrK v fun r o => rowK H r fun cs => slotsK cs o n fun l => k (.agg l)
def qLoad (t : TypeId) (x : Operand) : Q R := match isAggT P t, sizeT P t with | some true, some n => qLoadN n x | some false, _ => qLoad1 x | _, _ => qNone
def qNilCheck (x : Operand) : Q R := fun t _ k => opK x t fun v => match v with | .nilptr => none | .nilif => none | .nilfn => none | .sym _ => none | v => k v
def qFieldAddr (off : Nat) (x : Operand) : Q R := fun t _ k => opK x t fun v => ptrK v fun r o => natK (Nat.add o off) fun o' => k (.ptr r o')
def natQ (n : Nat) (k : Nat → Q R) : Q R := k n
def qFieldAddrT (t : TypeId) (x : Operand) (i : Nat) : Q R :=
  match underQ P t with
  | some (.struct fs) => match fs.toList[i]? with
    | some f => match sizeT P f.type with
      | some (_ + 1) => natQ f.offset fun off => qFieldAddr off x
      | _ => qNone
    | none => qNone
  | _ => qNone
/-- A part of an aggregate's cells. -/
def partAgg (n off : Nat) (cs : List AV) (k : AV → Option R) : Option R := slotsK cs off n fun l => k (.agg l)
def partOne (off : Nat) (cs : List AV) (k : AV → Option R) : Option R := nthK cs off k
def partNone (_ : List AV) (_ : AV → Option R) : Option R := none
def partK (t : TypeId) (off : Nat) : List AV → (AV → Option R) → Option R := match isAggT P t, sizeT P t with | some true, some n => partAgg n off | some false, _ => partOne off | _, _ => partNone
def qField (p : List AV → (AV → Option R) → Option R) (x : Operand) : Q R := fun t _ k => opK x t fun v => aggK v fun cs => p cs k
def qFieldT (t : TypeId) (x : Operand) (i : Nat) : Q R :=
  match underQ P t with
  | some (.struct fs) => match fs.toList[i]? with
    | some f => qField (partK P f.type f.offset) x
    | none => qNone
  | _ => qNone
def qIndexAddrArr (len n : Nat) (x i : Operand) : Q R := fun t _ k => opK x t fun v => opK i t fun u => ptrK v fun r o => idxK u fun j => Bool.casesOn (Nat.blt j len) none (natK (Nat.add o (Nat.mul j n)) fun o' => k (.ptr r o'))
def slK (v : AV) (k : Nat → Nat → Nat → Nat → SCap → Option R) : Option R := match v with | .sl r o a n c => k r o a n c | _ => none
def qIndexAddrSl (n : Nat) (x i : Operand) : Q R := fun t _ k => opK x t fun v => opK i t fun u => slK v fun r o _ len _ => idxK u fun j => Bool.casesOn (Nat.blt j len) none (natK (Nat.add o (Nat.mul j n)) fun o' => k (.ptr r o'))
def qIndexAddr (t : TypeId) (x i : Operand) : Q R :=
  match underQ P t with
  | some (.array len e) => match sizeT P e with | some n => qIndexAddrArr len n x i | none => qNone
  | some (.slice e) => match sizeT P e with | some n => qIndexAddrSl n x i | none => qNone
  | _ => qNone
def qIndexStr (x i : Operand) : Q R := fun t _ k => opK x t fun v => opK i t fun u => strK v fun s => idxK u fun j => nthK s j fun b => k (.int .u8 (Int.ofNat b))
/-- 'e': the element's type: its part at a place that is known when the operation runs. -/
def qIndexArr (len n : Nat) (agg : Bool) (x i : Operand) : Q R := fun t _ k => opK x t fun v => opK i t fun u => aggK v fun cs => idxK u fun j => Bool.casesOn (Nat.blt j len) none (Bool.casesOn agg (nthK cs (Nat.mul j n) k) (slotsK cs (Nat.mul j n) n fun l => k (.agg l)))
def qIndex (t : TypeId) (x i : Operand) : Q R :=
  match underQ P t with
  | some .string => qIndexStr x i
  | some (.array len e) => match sizeT P e, isAggT P e with | some n, some b => qIndexArr len n b x i | _, _ => qNone
  | _ => qNone

/-! equality -/
abbrev EqF (R : Type) := AV → AV → (Bool → Option R) → Option R
def boolB (b : Bool) (k : Bool → Option R) : Option R := Bool.casesOn b (k false) (k true)
def eqNone : EqF R := fun _ _ _ => none
def eqBool : EqF R := fun x y k => boolK x fun a => boolK y fun b => boolB (Bool.casesOn a (notB b) b) k
def eqInt : EqF R := fun x y k => numK x fun j a => numK y fun j' b => Bool.casesOn (sameKind j j') none (boolB (intEq a b) k)
def eqStr : EqF R := fun x y k => strK x fun a => strK y fun b => boolB (strEq a b) k
/-- Held against nil: one of the two is. -/
def nPtr (v : AV) : Bool := match v with | .nilptr => true | _ => false
def rPtr (v : AV) : Bool := match v with | .ptr _ _ => true | _ => false
def nSl (v : AV) : Bool := match v with | .nilsl => true | _ => false
def rSl (v : AV) : Bool := match v with | .sl _ _ _ _ _ => true | _ => false
def nMap (v : AV) : Bool := match v with | .nilmap => true | _ => false
def rMap (v : AV) : Bool := match v with | .map _ => true | _ => false
def nFn (v : AV) : Bool := match v with | .nilfn => true | _ => false
def rFn (v : AV) : Bool := match v with | .fn _ _ _ => true | .yld _ => true | _ => false
def nIf (v : AV) : Bool := match v with | .nilif => true | _ => false
def rIf (v : AV) : Bool := match v with | .iface _ _ => true | _ => false
def eqNil (n r : AV → Bool) : EqF R := fun x y k => Bool.casesOn (n x) (Bool.casesOn (n y) none (Bool.casesOn (r x) none (k false))) (Bool.casesOn (n y) (Bool.casesOn (r y) none (k false)) (k true))
def eqFs (p : List (List AV → (AV → Option R) → Option R) × List (EqF R)) (_ : Unit) : List AV → List AV → (Bool → Option R) → Option R :=
  List.rec (motive := fun _ => List (EqF R) → List AV → List AV → (Bool → Option R) → Option R) (fun _ _ _ k => k true)
    (fun g _ ih es xs ys k => List.casesOn es none fun e es' => g xs fun a => g ys fun b => e a b fun r => Bool.casesOn r (k false) (ih es' xs ys k)) p.1 p.2
def eqAgg (p : List (List AV → (AV → Option R) → Option R) × List (EqF R)) : EqF R := fun x y k => aggK x fun xs => aggK y fun ys => eqFs p () xs ys k

def eqT : Nat → TypeId → EqF R
  | 0, _ => eqNone
  | d + 1, t =>
    match underQ P t with
    | some .bool => eqBool
    | some (.int _) => eqInt
    | some .string => eqStr
    | some (.pointer _) => eqNil nPtr rPtr
    | some (.slice _) => eqNil nSl rSl
    | some (.map _ _) => eqNil nMap rMap
    | some (.func _ _ _) => eqNil nFn rFn
    | some (.interface _) => eqNil nIf rIf
    | some (.struct fs) => if P.stoodInHeld t then eqNone else
      let l := fs.toList.filter fun f => f.name != "_"
      eqAgg (l.map fun f => partK P f.type f.offset, l.map fun f => eqT d f.type)
    | _ => eqNone

/-! operations of two -/
def qNumStr (f : IntKind → Int → Int → (AV → Option R) → Option R) (g : List Nat → List Nat → (AV → Option R) → Option R) (x y : Operand) : Q R := fun t _ k =>
  opK x t fun a => opK y t fun b => match a with
    | .int j m => numK b fun j' n => Bool.casesOn (sameKind j j') none (f j m n k)
    | .str m => strK b fun n => g m n k
    | _ => none
def qShift (f : IntKind → Int → Int → (AV → Option R) → Option R) (x y : Operand) : Q R := fun t _ k => opK x t fun a => opK y t fun b => numK a fun j m => numK b fun _ n => f j m n k
def qEq (e : EqF R) (not : Bool) (x y : Operand) : Q R := fun t _ k => opK x t fun a => opK y t fun b => e a b fun r => Bool.casesOn not (retB r k) (retB (notB r) k)
def isConstNil (x : Operand) : Bool := match x with | .const .nilIface => true | _ => false
def qEqT (t : TypeId) (not : Bool) (x y : Operand) : Q R :=
  match underQ P t with
  | some (.int _) => qNumStr (numOp (if not then .neq else .eql)) (strOp (if not then .neq else .eql)) x y
  | some .string => qNumStr (numOp (if not then .neq else .eql)) (strOp (if not then .neq else .eql)) x y
  | some (.interface _) => if isConstNil x || isConstNil y then qEq (eqNil nIf rIf) not x y else qNone
  | some (.struct _) => if P.eqGuardType P.depth t then qNone else qEq (eqT P 10 t) not x y
  | _ => qEq (eqT P 10 t) not x y
def qBin (op : BinOp) (t : TypeId) (x y : Operand) : Q R :=
  match op with
  | .shl => qShift shlK x y
  | .shr => qShift shrK x y
  | .eql => qEqT P t false x y
  | .neq => qEqT P t true x y
  | op => qNumStr (numOp op) (strOp op) x y
def qNeg (x : Operand) : Q R := fun t _ k => opK x t fun a => numK a fun j n => nSub j 0 n k
def qInv (x : Operand) : Q R := fun t _ k => opK x t fun a => numK a fun j n => nXor j (Bool.casesOn j.signed j.max (-1)) n k
def qNot (x : Operand) : Q R := fun t _ k => opK x t fun a => boolK a fun b => retB (notB b) k
def qUn (op : UnOp) (x : Operand) : Q R := UnOp.casesOn op (qNeg x) (qInv x) (qNot x) qNone

/-! conversions -/
def byteK (v : AV) (k : Nat → Option R) : Option R := numK v fun j n => ofNatK n fun m => Bool.casesOn (Nat.beq (kcode j) 4) none (Bool.casesOn (Nat.blt m 256) none (k m))
def bytesK (l : List AV) (k : List Nat → Option R) : Option R := mapK byteK l k
def sliceBytes (v : AV) (H : Heap) (k : List Nat → Option R) : Option R :=
  match v with
  | .nilsl => k []
  | .sl r o _ n _ => Nat.casesOn n (k []) fun _ => rowK H r fun cs => slotsK cs o n fun l => bytesK l k
  | _ => none
def qConvInt (j : IntKind) (x : Operand) : Q R := fun t _ k => opK x t fun v => numK v fun _ n => retI j (wrapF j n) k
def qConvStr (x : Operand) : Q R := fun t H k => opK x t fun v => sliceBytes v H fun s => k (.str s)
def qConvPtr (x : Operand) : Q R := fun t H k => opK x t fun v => ptrK v fun r o => rowK H r fun cs => nthK cs o fun _ => k v
def qIsStr (x : Operand) : Q R := fun t _ k => opK x t fun v => strK v fun _ => k v
def qConv (s d : TypeId) (x : Operand) : Q R :=
  match underQ P s, underQ P d with
  | some (.int _), some (.int j) => qConvInt j x
  | some .string, some .string => qIsStr x
  | some (.pointer e), some .unsafePointer => match sizeT P e with | some (_ + 1) => qConvPtr x | _ => qNone
  | some (.slice e), some .string => match underQ P e with | some (.int .u8) => qConvStr x | _ => qNone
  | _, _ => qNone

def qIface (t : TypeId) (x : Operand) : Q R := fun e _ k => opK x e fun v => k (.iface t v)
def qIfaceT (t : TypeId) (x : Operand) : Q R := match underQ P t with | some (.interface _) => qNone | some _ => qIface t x | none => qNone
def qFunc (f : Nat) (a b : List Operand) : Q R := fun t _ k => opsK a t fun u => opsK b t fun v => k (.fn f u v)
def qFuncT (fn : Fn) (a b : Array Operand) : Q R := match fn with | .func f => qFunc f a.toList b.toList | _ => qNone
def qExtract (x : Operand) (i : Nat) : Q R := fun t _ k => opK x t fun v => tupK v fun l => nthK l i k

/-! slices -/
def minus (cs : List AV) (n : Nat) (k : Nat → Option R) : Option R := lenK cs fun m => natK (Nat.sub m n) k
/-- At least so much a slice's capacity is. -/
def capK (H : Heap) (r o n : Nat) (c : SCap) (k : Nat → Option R) : Option R :=
  match c with
  | .ex c => k c
  | .z _ => k 0
  | .un e => getT H.t r fun x => match x with
    | .cells cs => minus cs o fun m => Nat.casesOn e none fun _ => natK (Nat.max n (Nat.div m e)) k
    | _ => none
def capDead (H : Heap) (r o n : Nat) (c : SCap) (k : Nat → Option R) : Option R := capK H r o n c k
def leB (a b : Nat) : Bool := Nat.ble a b
def qSliceStr (x : Operand) (lo hi : Option Operand) : Q R := fun t _ k => opK x t fun v => strK v fun s => optIdx lo t fun lo => optIdx hi t fun hi =>
  lenK s fun n => natK (lo.getD 0) fun l => natK (hi.getD n) fun h => Bool.casesOn (leB l h && leB h n) none (slotsK s l (Nat.sub h l) fun s' => k (.str s'))
def slOut (r o alt n : Nat) (c : SCap) (k : AV → Option R) : Option R := natK o fun o' => natK alt fun a' => natK n fun n' => k (.sl r o' a' n' c)
def slEx (r o n c : Nat) (k : AV → Option R) : Option R := natK c fun c' => slOut r o o n (.ex c') k
def sliceTwo (esz r o alt _len : Nat) (c : SCap) (l h : Nat) (k : AV → Option R) : Option R :=
  match c with
  | .ex c => Bool.casesOn (Nat.beq c l) (slEx r (Nat.add o (Nat.mul l esz)) (Nat.sub h l) (Nat.sub c l) k) (slEx r o (Nat.sub h l) 0 k)
  | .z e => Nat.casesOn h (k (.sl r o alt 0 (.z e))) fun _ => none
  | .un e => Bool.casesOn (Nat.beq e esz) none (slOut r (Nat.add o (Nat.mul l esz)) (Nat.casesOn l alt fun _ => o) (Nat.sub h l) (.un e) k)
def sliceThree (esz r o alt : Nat) (c : SCap) (l h m : Nat) (k : AV → Option R) : Option R :=
  Bool.casesOn (Nat.beq m l) (slEx r (Nat.add o (Nat.mul l esz)) (Nat.sub h l) (Nat.sub m l) k)
    (match c with
      | .ex _ => slEx r o 0 0 k
      | .z e => k (.sl r o alt 0 (.z e))
      | .un e => Bool.casesOn (Nat.beq e esz) none (Nat.casesOn l (k (.sl r o alt 0 (.z e))) fun _ => k (.sl r o o 0 (.z e))))
def qSlice2 (esz : Nat) (x : Operand) (lo hi : Option Operand) : Q R := fun t H k => opK x t fun v => optIdx lo t fun lo => optIdx hi t fun hi =>
  match v with
  | .nilsl => Nat.casesOn (lo.getD 0) (Nat.casesOn (hi.getD 0) (k .nilsl) fun _ => none) fun _ => none
  | .sl r o a n c => natK (lo.getD 0) fun l => natK (hi.getD n) fun h => Bool.casesOn (leB l h) none (Bool.casesOn (leB h n)
      (capK H r o n c fun m => Bool.casesOn (leB h m) none (sliceTwo esz r o a n c l h k)) (sliceTwo esz r o a n c l h k))
  | _ => none
def qSlice3 (esz : Nat) (x : Operand) (lo : Option Operand) (hi mx : Operand) : Q R := fun t H k => opK x t fun v => optIdx lo t fun lo => opK hi t fun hi => idxK hi fun h => opK mx t fun mx => idxK mx fun m =>
  match v with
  | .nilsl => Nat.casesOn (lo.getD 0) (Nat.casesOn h (Nat.casesOn m (k .nilsl) fun _ => none) fun _ => none) fun _ => none
  | .sl r o a n c => natK (lo.getD 0) fun l => Bool.casesOn (leB l h && leB h m) none (Bool.casesOn (leB m n)
      (capK H r o n c fun b => Bool.casesOn (leB m b) none (sliceThree esz r o a c l h m k)) (sliceThree esz r o a c l h m k))
  | _ => none
def qSliceArr (n esz : Nat) (x : Operand) (lo hi mx : Option Operand) : Q R := fun t _ k => opK x t fun v => ptrK v fun r o => optIdx lo t fun lo => optIdx hi t fun hi => optIdx mx t fun mx =>
  natK (lo.getD 0) fun l => natK (hi.getD n) fun h => natK (mx.getD n) fun m => Bool.casesOn (leB l h && leB h m && leB m n) none
    (Bool.casesOn (Nat.beq m l) (slEx r (Nat.add o (Nat.mul l esz)) (Nat.sub h l) (Nat.sub m l) k) (slEx r o 0 0 k))
def qSlice (t : TypeId) (x : Operand) (lo hi mx : Option Operand) : Q R :=
  match underQ P t with
  | some .string => match mx with | none => qSliceStr x lo hi | some _ => qNone
  | some (.slice e) => match sizeT P e with
    | some esz => match mx, hi with
      | none, _ => qSlice2 esz x lo hi
      | some m, some h => qSlice3 esz x lo h m
      | some _, none => qNone
    | none => qNone
  | some (.array n e) => match sizeT P e, mx, hi with
    | none, _, _ => qNone
    | some _, some _, none => qNone
    | some esz, mx, hi => qSliceArr n esz x lo hi mx
  | _ => qNone

/-! maps -/
def findK (e : EqF R) (key : AV) (es : List (AV × AV × Nat)) (k : Option (Nat × AV) → Option R) : Option R :=
  List.rec (motive := fun _ => Nat → Option R) (fun _ => k none) (fun x _ ih i => e key x.1 fun r => Bool.casesOn r (ih (Nat.succ i)) (k (some (i, x.2.1)))) es 0
/-- A key that hashes: numbers, texts, structs of such. -/
abbrev CkF (R : Type) := AV → Option R → Option R
def ckNone : CkF R := fun _ _ => none
def ckAny : CkF R := fun _ k => k
def ckFs (p : List (List AV → (AV → Option R) → Option R) × List (CkF R)) (_ : Unit) : List AV → Option R → Option R :=
  List.rec (motive := fun _ => List (CkF R) → List AV → Option R → Option R) (fun _ _ k => k)
    (fun g _ ih es xs k => List.casesOn es none fun e es' => g xs fun a => e a (ih es' xs k)) p.1 p.2
def ckAgg (p : List (List AV → (AV → Option R) → Option R) × List (CkF R)) : CkF R := fun x k => aggK x fun xs => ckFs p () xs k
def ckT : Nat → TypeId → CkF R
  | 0, _ => ckNone
  | d + 1, t => match underQ P t with
    | some (.int _) => ckAny
    | some .string => ckAny
    | some (.struct fs) =>
      let l := fs.toList.filter fun f => f.name != "_"
      ckAgg (l.map fun f => partK P f.type f.offset, l.map fun f => ckT d f.type)
    | _ => ckNone
def mapRows (v : AV) (H : Heap) (k : List (AV × AV × Nat) → Option R) : Option R := match v with | .nilmap => k [] | .map r => mapObjK H r fun es _ => k es | _ => none
def qLookup (ck : CkF R) (e : EqF R) (z : AV) (ok : Bool) (x i : Operand) : Q R := fun t H k => opK x t fun m => opK i t fun key => mapRows m H fun es => ck key <| findK e key es fun r =>
  Option.casesOn r (Bool.casesOn ok (k z) (k (.tup [z, .bool false]))) fun u => Bool.casesOn ok (k u.2) (k (.tup [u.2, .bool true]))
def qLookupT (t : TypeId) (x i : Operand) (ok : Bool) : Q R :=
  match underQ P t with
  | some (.map kt e) => match zeroT P e with
    | some z => qLookup (ckT P 10 kt) (eqT P 10 kt) z ok x i
    | none => qNone
  | _ => qNone
def itK (v : AV) (H : Heap) (k : Nat → AObj → Option R) : Option R := ptrK v fun r o => Nat.casesOn o (getH H r fun x => k r x) fun _ => none
def lastK (l : List Nat) (k : Nat → Option R) : Option R := List.rec (motive := fun _ => Option Nat → Option R) (fun o => Option.casesOn o none k) (fun x _ ih _ => ih (some x)) l none
def stampK (s : Nat) (es : List (AV × AV × Nat)) (k : AV → AV → Option R) : Option R := List.rec (motive := fun _ => Option R) none (fun x _ ih => Bool.casesOn (Nat.beq x.2.2 s) ih (k x.1 x.2.1)) es
def qEntry (x : Operand) : Q R := fun t H k => opK x t fun v => itK v H fun _ o => match o with
  | .mapit (some m) _ seen stepped => mapObjK H m fun es clock => Bool.casesOn (Nat.beq clock stepped) none (lastK seen fun s => stampK s es fun a b => k (.tup [a, b]))
  | _ => none

/-! builtins -/
def qLenStr (x : Operand) : Q R := fun t _ k => opK x t fun v => strK v fun s => lenK s fun n => k (.int .i64 (Int.ofNat n))
def qLenSl (x : Operand) : Q R := fun t _ k => opK x t fun v => match v with | .nilsl => k (.int .i64 0) | .sl _ _ _ n _ => k (.int .i64 (Int.ofNat n)) | _ => none
def qLenMap (x : Operand) : Q R := fun t H k => opK x t fun v => mapRows v H fun es => lenK es fun n => k (.int .i64 (Int.ofNat n))
def qLenArr (n : Nat) (x : Operand) : Q R := fun t _ k => opK x t fun _ => k (.int .i64 (Int.ofNat n))
def qLen (t : TypeId) (x : Operand) : Q R :=
  match underQ P t with
  | some .string => qLenStr x
  | some (.slice _) => qLenSl x
  | some (.map _ _) => qLenMap x
  | some (.array n _) => qLenArr n x
  | _ => qNone
def qCapSl (x : Operand) : Q R := fun t _ k => opK x t fun v => match v with | .nilsl => k (.int .i64 0) | .sl _ _ _ _ (.ex n) => k (.int .i64 (Int.ofNat n)) | .sl _ _ _ _ (.z _) => k (.int .i64 0) | _ => none
def qCap (t : TypeId) (x : Operand) : Q R := match underQ P t with | some (.slice _) => qCapSl x | _ => qNone
def qMax (x y : Operand) : Q R := fun t _ k => opK x t fun a => opK y t fun b => numK a fun j m => numK b fun _ n => Bool.casesOn (intLt m n) (k (.int j m)) (k (.int j n))
def qMin (x y : Operand) : Q R := fun t _ k => opK x t fun a => opK y t fun b => numK a fun j m => numK b fun _ n => Bool.casesOn (intLt n m) (k (.int j m)) (k (.int j n))
def qBuiltin (b : Builtin) (args : List Operand) (tys : List TypeId) : Q R :=
  match b, args, tys with
  | .len, [x], t :: _ => qLen P t x
  | .cap, [x], t :: _ => qCap P t x
  | .max, [x, y], _ => qMax x y
  | .min, [x, y], _ => qMin x y
  | _, _, _ => qNone

/-! aggregates -/
/-- Parts laid over cells. -/
def partsK (l : List (Nat × Nat × Operand)) (t : Env) (cs : List AV) (k : List AV → Option R) : Option R :=
  List.rec (motive := fun _ => List AV → Option R) (fun cs => k cs) (fun p _ ih cs => opK p.2.2 t fun v => cellsK v fun u => lenK u fun n => Bool.casesOn (Nat.beq n p.2.1) none (layK p.1 cs u ih)) l cs
def placeF (t : TypeId) (i : Nat) (x : Operand) : Option (Nat × Nat × Operand) :=
  match underQ P t with
  | some (.struct fs) => match fs.toList[i]? with
    | some f => match sizeT P f.type with | some n => some (f.offset, n, x) | none => none
    | none => none
  | some (.array _ e) => match sizeT P e with | some n => some (i * n, n, x) | none => none
  | _ => none
def qBuild (l : List (Nat × Nat × Operand)) (z : List AV) : Q R := fun t _ k => partsK l t z fun cs => k (.agg cs)
def structOk (t : TypeId) : Bool := match underQ P t with | some (.struct fs) => fs.toList.all fun f => (sizeT P f.type).isSome | some (.array _ e) => (sizeT P e).isSome | _ => false
def qBuildT (t : TypeId) (parts : List (Nat × Operand)) : Q R :=
  match structOk P t, mapO (fun p => placeF P t p.1 p.2) parts, zeroT P t with
  | true, some l, some z => if AV.flats z.cells then qBuild l z.cells else qNone
  | _, _, _ => qNone

/-- What a quiet operation does; 'none': it is none. -/
def quietF (op : Op) : Option (Q R) :=
  match op with
  | .move x => some (qMove x) | .assign x => some (qMove x) | .pick c a b => some (qPick c a b) | .build t ps => some (qBuildT P t ps.toList)
  | .load t a => some (qLoad P t a) | .nilCheck x => some (qNilCheck x) | .binOp op t x y _ => some (qBin P op t x y) | .unOp op _ x => some (qUn op x)
  | .convert s d x => match underQ P s, underQ P d with | some .string, some (.slice _) => none | _, _ => some (qConv P s d x)
  | .makeInterface t x => some (qIfaceT P t x) | .makeFunc fn a b => some (qFuncT fn a b)
  | .slice t x lo hi mx => some (qSlice P t x lo hi mx) | .fieldAddr t x i => some (qFieldAddrT P t x i) | .field t x i => some (qFieldT P t x i)
  | .indexAddr t x i => some (qIndexAddr P t x i) | .index t x i => some (qIndex P t x i) | .lookup t x i ok => some (qLookupT P t x i ok)
  | .entry x => some (qEntry x) | .extract x i => some (qExtract x i)
  | .call { callee := .builtin b, args, argTypes } => match b with
    | .len => some (qBuiltin P .len args.toList argTypes.toList) | .cap => some (qBuiltin P .cap args.toList argTypes.toList)
    | .max => some (qBuiltin P .max args.toList argTypes.toList) | .min => some (qBuiltin P .min args.toList argTypes.toList) | _ => none
  | _ => none

/-! ### those that lay a block -/
abbrev A (R : Type) := Env → (AObj → (Nat → AV) → Option R) → Option R
def aNone : A R := fun _ _ => none
def aptr (r : Nat) : AV := .ptr r 0
def aAlloc (z : List AV) : A R := fun _ k => k (.cells z) aptr
def aBox (x : Operand) : A R := fun t k => opK x t fun v => cellsK v fun l => k (.cells l) aptr
def aslice (n r : Nat) : AV := .sl r 0 0 n (.ex n)
def aSlice (n : Nat) (l : List (Nat × Nat × Operand)) (z : List AV) : A R := fun t k => partsK l t z fun cs => k (.cells cs) (aslice n)
def allocF (op : Op) : Option (A R) :=
  match op with
  | .alloc t => match zeroT P t with | some z => if AV.flats z.cells then some (aAlloc z.cells) else some aNone | none => some aNone
  | .box _ x => some (aBox x)
  | .buildSlice t n ps =>
    match underQ P t with
    | some (.slice e) => match sizeT P e, zeroT P e with
      | some (m + 1), some z => if n * (m + 1) ≤ 10000 && z.cells.length == m + 1 && AV.flats z.cells then some (aSlice n (ps.toList.map fun p => (p.1 * (m + 1), m + 1, p.2)) (repl n z.cells)) else some aNone
      | _, _ => some aNone
    | _ => some aNone
  | _ => none

mutual
def AV.beq : AV → AV → Bool
  | .bool a, .bool b => a == b
  | .int j a, .int k b => sameKind j k && intEq a b
  | .str a, .str b => strEq a b
  | .nilptr, .nilptr => true
  | .ptr r o, .ptr r' o' => Nat.beq r r' && Nat.beq o o'
  | .nilsl, .nilsl => true
  | .sl r o a n c, .sl r' o' a' n' c' => Nat.beq r r' && Nat.beq o o' && Nat.beq a a' && Nat.beq n n' && (match c, c' with
    | .ex x, .ex y => Nat.beq x y | .un x, .un y => Nat.beq x y | .z x, .z y => Nat.beq x y | _, _ => false)
  | .nilmap, .nilmap => true
  | .map r, .map r' => Nat.beq r r'
  | .nilfn, .nilfn => true
  | .fn f a b, .fn f' a' b' => Nat.beq f f' && AV.beqs a a' && AV.beqs b b'
  | .yld r, .yld r' => Nat.beq r r'
  | .nilif, .nilif => true
  | .iface t v, .iface t' v' => Nat.beq t t' && AV.beq v v'
  | .agg a, .agg b => AV.beqs a b
  | .tup a, .tup b => AV.beqs a b
  | .sym i, .sym j => Nat.beq i j
  | _, _ => false
def AV.beqs : List AV → List AV → Bool
  | [], [] => true
  | a :: l, b :: m => AV.beq a b && AV.beqs l m
  | _, _ => false
end

/-! ### those that write -/
def wNone : W R := fun _ _ _ => none
def wStore (n : Nat) (a x : Operand) : W R := fun t H k => opK a t fun p => opK x t fun v => ptrK p fun r o => cellsK v fun u => lenK u fun m => Bool.casesOn (Nat.beq m n) none
  (rowK H r fun cs => layK o cs u fun cs' => putH H r (.cells cs') fun H' => k .undef H')
def wStr (x : Operand) : W R := fun t H k => opK x t fun v => strK v fun s => mapK (fun b k => k (AV.int .u8 (Int.ofNat b))) s fun cs => lenK s fun n => newH H (.cells cs) fun r H' => k (.sl r 0 0 n (.un 1)) H'
def wMakeMap : W R := fun _ H k => newH H (.map [] 0) fun r H' => k (.map r) H'
def wMakeMapHint (x : Operand) : W R := fun t H k => opK x t fun v => numK v fun _ _ => newH H (.map [] 0) fun r H' => k (.map r) H'
def replK (n : Nat) (z : List AV) (k : List AV → Option R) : Option R := Nat.rec (motive := fun _ => List AV → Option R) (fun l => k l) (fun _ ih l => appK z l ih) n []
def wMakeSlice (z : List AV) (n c : Operand) : W R := fun t H k => opK n t fun n => idxK n fun n => opK c t fun c => idxK c fun c => Bool.casesOn (leB n c && leB c 1000000) none
  (replK c z fun cs => newH H (.cells cs) fun r H' => k (.sl r 0 0 n (.ex c)) H')
def wMakeSliceT (t : TypeId) (n c : Operand) : W R :=
  match underQ P t with
  | some (.slice e) => match sizeT P e, bytesT P e, zeroT P e with
    | some (m + 1), some b, some z => if b ≤ 100000 && z.cells.length == m + 1 && AV.flats z.cells then wMakeSlice z.cells n c else wNone
    | _, _, _ => wNone
  | _ => wNone
def setRow (es : List (AV × AV × Nat)) (i : Nat) (key v : AV) (k : List (AV × AV × Nat) → Option R) : Option R :=
  List.rec (motive := fun _ => Nat → (List (AV × AV × Nat) → Option R) → Option R) (fun _ _ => none) (fun x xs ih i k => Nat.rec (motive := fun _ => Option R) (Bool.casesOn (AV.beq x.1 key) none (k ((key, v, x.2.2) :: xs))) (fun j _ => ih j fun t => k (x :: t)) i) es i k
def wUpdate (ck : CkF R) (e : EqF R) (m x v : Operand) : W R := fun t H k => opK m t fun m => opK x t fun key => opK v t fun v => match m with
  | .map r => mapObjK H r fun es c => ck key <| findK e key es fun u => Option.casesOn u (appK es [(key, v, c)] fun es' => natK (Nat.succ c) fun c' => putH H r (.map es' c') fun H' => k .undef H')
      fun u => setRow es u.1 key v fun es' => putH H r (.map es' c) fun H' => k .undef H'
  | _ => none
def wUpdateT (t : TypeId) (m x v : Operand) : W R := match underQ P t with | some (.map kt _) => wUpdate (ckT P 10 kt) (eqT P 10 kt) m x v | _ => wNone
def dropRow (es : List (AV × AV × Nat)) (i : Nat) (k : List (AV × AV × Nat) → Option R) : Option R :=
  List.rec (motive := fun _ => Nat → (List (AV × AV × Nat) → Option R) → Option R) (fun _ _ => none) (fun x xs ih i k => Nat.rec (motive := fun _ => Option R) (k xs) (fun j _ => ih j fun t => k (x :: t)) i) es i k
def wDelete (ck : CkF R) (e : EqF R) (m x : Operand) : W R := fun t H k => opK m t fun m => opK x t fun key => match m with
  | .nilmap => ck key (k (.tup []) H)
  | .map r => mapObjK H r fun es c => ck key <| findK e key es fun u => Option.casesOn u (k (.tup []) H) fun u => dropRow es u.1 fun es' => putH H r (.map es' c) fun H' => k (.tup []) H'
  | _ => none
def wDeleteT (t : TypeId) (m x : Operand) : W R := match underQ P t with | some (.map kt _) => wDelete (ckT P 10 kt) (eqT P 10 kt) m x | _ => wNone
def wRangeStr (x : Operand) : W R := fun t H k => opK x t fun v => strK v fun s => newH H (.strit s 0) fun r H' => k (.ptr r 0) H'
def wRangeMap (x : Operand) : W R := fun t H k => opK x t fun v => match v with
  | .nilmap => newH H (.mapit none 0 [] 0) fun r H' => k (.ptr r 0) H'
  | .map m => mapObjK H m fun _ c => newH H (.mapit (some m) c [] c) fun r H' => k (.ptr r 0) H'
  | _ => none
def wRange (t : TypeId) (x : Operand) : W R := match underQ P t with | some .string => wRangeStr x | some (.map _ _) => wRangeMap x | _ => wNone
def over : AV := .tup [.bool false]
def wNextStr (x : Operand) : W R := fun t H k => opK x t fun v => itK v H fun r o => match o with
  | .strit s p => lenK s fun n => Bool.casesOn (Nat.blt p n) (k over H) (nthK s p fun b => Bool.casesOn (Nat.blt b 128) none (natK (Nat.succ p) fun p' => putH H r (.strit s p') fun H' => k (.tup [.bool true, .int .i64 (Int.ofNat p), .int .i32 (Int.ofNat b)]) H'))
  | _ => none
def hasN (l : List Nat) (n : Nat) : Bool := List.rec (motive := fun _ => Bool) false (fun x _ ih => Bool.casesOn (Nat.beq x n) ih true) l
def leftK (seen : List Nat) (es : List (AV × AV × Nat)) (k : List (AV × AV × Nat) → Option R) : Option R :=
  List.rec (motive := fun _ => (List (AV × AV × Nat) → Option R) → Option R) (fun k => k []) (fun x _ ih k => Bool.casesOn (hasN seen x.2.2) (ih fun t => k (x :: t)) (ih k)) es k
def rowLt (n : Nat) (es : List (AV × AV × Nat)) : Bool := List.rec (motive := fun _ => Bool) false (fun x _ ih => Bool.casesOn (Nat.blt x.2.2 n) ih true) es
/-- One of a map's rows at most is left: else the order hangs on the tape. 'since': rows laid since may come up or not. -/
def nextRow (m since c r : Nat) (seen : List Nat) (H : Heap) (l : List (AV × AV × Nat)) (k : AV → Heap → Option R) : Option R :=
  match l with
  | [] => k over H
  | [(a, b, s)] => Bool.casesOn (Nat.blt s since) none (appK seen [s] fun seen' => putH H r (.mapit (some m) since seen' c) fun H' => k (.tup [.bool true, a, b]) H')
  | _ => none
def wNextMap (x : Operand) : W R := fun t H k => opK x t fun v => itK v H fun r o => match o with
  | .mapit none _ _ _ => k over H
  | .mapit (some m) since seen last => mapObjK H m fun es c => List.casesOn es (k over H) fun _ _ => Bool.casesOn (rowLt last es) none (leftK seen es fun l => nextRow m since c r seen H l k)
  | _ => none
def wNext (x : Operand) (s : Bool) : W R := Bool.casesOn s (wNextMap x) (wNextStr x)

/-- The first 'n' elements of a slice, or of a text. -/
def firstK (esz n : Nat) (x : AV) (H : Heap) (k : List AV → Option R) : Option R :=
  match x with
  | .nilsl => Nat.casesOn n (k []) fun _ => none
  | .sl r o _ _ _ => Nat.casesOn n (k []) fun _ => rowK H r fun cs => slotsK cs o (Nat.mul n esz) k
  | .str s => Bool.casesOn (Nat.beq esz 1) none (takeK n s fun s' => mapK (fun b k => k (AV.int .u8 (Int.ofNat b))) s' k)
  | _ => none
def lenV (x : AV) (k : Nat → Option R) : Option R := match x with | .nilsl => k 0 | .sl _ _ _ n _ => k n | .str s => lenK s k | _ => none
def lenS (x : AV) (k : Nat → Option R) : Option R := match x with | .nilsl => k 0 | .sl _ _ _ n _ => k n | _ => none
def newSl (H : Heap) (n esz : Nat) (cs : List AV) (k : AV → Heap → Option R) : Option R := newH H (.cells cs) fun r H' => k (.sl r 0 0 n (.un esz)) H'
/-- Another place for a slice that grew; what stood at the old one is not known any more where it may have grown there. -/
def grownK (c : SCap) (esz r n : Nat) (cs : List AV) (H : Heap) (k : AV → Heap → Option R) : Option R :=
  match c with
  | .ex _ => newSl H n esz cs k
  | .z _ => newSl H n esz cs k
  | .un e => Bool.casesOn (Nat.beq e esz) none (delH H r fun H' => newSl H' n esz cs k)
/-- 'm' elements more, whose cells are 'new'. -/
def appendK (esz : Nat) (s : AV) (m : Nat) (new : List AV) (H : Heap) (k : AV → Heap → Option R) : Option R :=
  match s with
  | .nilsl => newSl H m esz new k
  | .sl r o a n c => capK H r o n c fun cap => natK (Nat.add n m) fun n' => Bool.casesOn (leB n' cap)
      (firstK esz n s H fun old => appK old new fun cs => grownK c esz r n' cs H k)
      (rowK H r fun cs => layK (Nat.add o (Nat.mul n esz)) cs new fun cs' => putH H r (.cells cs') fun H' => k (.sl r o a n' c) H')
  | _ => none
def sizeOk (n m : Nat) : Bool := leB (Nat.add n m) 100000000
def wAppend (esz : Nat) (s x : Operand) : W R := fun t H k => opK s t fun s => opK x t fun x => lenV x fun m => lenS s fun n => Bool.casesOn (sizeOk n m) none
  (Nat.casesOn m (k s H) fun _ => firstK esz m x H fun new => appendK esz s m new H k)
def wAppendZ (esz : Nat) (z : List AV) (s x : Operand) : W R := fun t H k => opK s t fun s => opK x t fun x => idxK x fun m => lenS s fun n => Bool.casesOn (sizeOk n m) none
  (Nat.casesOn m (k s H) fun _ => replK m z fun new => appendK esz s m new H k)
def wAppendT (tys : List TypeId) (s x : Operand) : W R :=
  match tys with
  | [a, b] => match underQ P a, underQ P b with
    | some (.slice e), some d => match sizeT P e, bytesT P e, zeroT P e with
      | some (n + 1), some bs, some z => if bs ≤ 100000 && z.cells.length == n + 1 && AV.flats z.cells then (match d with
        | .int _ => wAppendZ (n + 1) z.cells s x
        | _ => wAppend (n + 1) s x) else wNone
      | _, _, _ => wNone
    | _, _ => wNone
  | _ => wNone
def wCopy (esz : Nat) (d s : Operand) : W R := fun t H k => opK d t fun d => opK s t fun s => lenV s fun m => lenS d fun n => natK (Nat.min m n) fun c => Nat.casesOn c (k (.int .i64 0) H) fun _ =>
  firstK esz c s H fun new => slK d fun r o _ _ _ => rowK H r fun cs => layK o cs new fun cs' => putH H r (.cells cs') fun H' => k (.int .i64 (Int.ofNat c)) H'
def wCopyT (tys : List TypeId) (d s : Operand) : W R := match tys with | a :: _ => (match underQ P a with | some (.slice e) => (match sizeT P e with | some n => wCopy n d s | none => wNone) | _ => wNone) | _ => wNone
def wClearMap (x : Operand) : W R := fun t H k => opK x t fun v => match v with
  | .nilmap => k (.tup []) H
  | .map r => mapObjK H r fun _ c => putH H r (.map [] c) fun H' => k (.tup []) H'
  | _ => none
def wClear (z : List AV) (x : Operand) : W R := fun t H k => opK x t fun v => match v with
  | .nilsl => k (.tup []) H
  | .sl r o _ n _ => Nat.casesOn n (k (.tup []) H) fun _ => replK n z fun new => rowK H r fun cs => layK o cs new fun cs' => putH H r (.cells cs') fun H' => k (.tup []) H'
  | _ => none
def wClearT (tys : List TypeId) (x : Operand) : W R := match tys with
  | a :: _ => (match underQ P a with | some (.slice e) => (match zeroT P e with | some z => if AV.flats z.cells then wClear z.cells x else wNone | none => wNone) | some (.map _ _) => wClearMap x | _ => wNone)
  | _ => wNone
def writeF (op : Op) : Option (W R) :=
  match op with
  | .store t a x => match sizeT P t with | some n => some (wStore n a x) | none => some wNone
  | .convert s d x => match underQ P s, underQ P d with
    | some .string, some (.slice e) => (match underQ P e with | some (.int .u8) => some (wStr x) | _ => some wNone)
    | _, _ => none
  | .makeMap t r => match r with | none => some wMakeMap | some h => (match underQ P t with | some (.map _ _) => some (wMakeMapHint h) | _ => some wNone)
  | .makeSlice t n c => some (wMakeSliceT P t n c)
  | .mapUpdate t m k x => some (wUpdateT P t m k x) | .insert t m k x => some (wUpdateT P t m k x)
  | .range t x => some (wRange P t x) | .next x s => some (wNext x s)
  | .call { callee := .builtin b, args, argTypes } => match b, args.toList with
    | .append, [s, x] => some (wAppendT P argTypes.toList s x)
    | .copy, [d, s] => some (wCopyT P argTypes.toList d s)
    | .clear, [x] => some (wClearT P argTypes.toList x)
    | .delete, [m, x] => (match argTypes.toList with | t :: _ => some (wDeleteT P t m x) | [] => some wNone)
    | _, _ => none
  | _ => none

/-! ### calls -/
inductive Goal where
  | fn (f : Nat) (args : List AV)
  | round (l : Nat) (args : List AV)
abbrev Cl (R : Type) := Env → (Goal → Option R) → Option R
def cNone : Cl R := fun _ _ => none
def fnK (v : AV) (args : List AV) (k : Goal → Option R) : Option R :=
  match v with
  | .fn g first cap => appK args cap fun l => appK first l fun l' => k (.fn g l')
  | .yld l => k (.round l args)
  | _ => none
def cValue (f : Operand) (args : List Operand) : Cl R := fun t k => opK f t fun v => opsK args t fun vs => fnK v vs k
def methodT (t : TypeId) (name : String) : Option FuncId :=
  match infoQ P t with
  | some i =>
    match i.methods.find? (·.name == name) with
    | some m => if m.path.isEmpty then
        match m.func, underQ P t with
        | some (f, true), some (.pointer _) => some f
        | some (_, false), some (.pointer _) => none
        | some (f, false), some _ => some f
        | _, _ => none
      else none
    | none => none
  | none => none
def cInvoke (r : Operand) (name : String) (args : List Operand) : Cl R := fun t k => opK r t fun v => opsK args t fun vs => match v with
  | .iface ty u => Option.casesOn (methodT P ty name) none fun f => k (.fn f (u :: vs))
  | _ => none
def callF (op : Op) : Option (Cl R) :=
  match op with
  | .call { callee := .value f, args, .. } => some (cValue f args.toList)
  | .call { callee := .invoke r name, args, .. } => some (cInvoke P r name args.toList)
  | _ => none

/-- What an operation is. -/
inductive OpC (R : Type) where
  | quiet (f : Q R)
  | alloc (f : A R)
  | write (f : W R)
  | call (f : Cl R)
  | defer (f : Cl R)
  | bad
def opC (op : Op) : OpC R :=
  match quietF P op with
  | some f => .quiet f
  | none => match allocF P op with
    | some f => .alloc f
    | none => match writeF P op with
      | some f => .write f
      | none => match callF P op with
        | some f => .call f
        | none => match op with
          | .defer { callee := .value f, args, .. } => .defer (cValue f args.toList)
          | _ => .bad

end
end Go.Ev

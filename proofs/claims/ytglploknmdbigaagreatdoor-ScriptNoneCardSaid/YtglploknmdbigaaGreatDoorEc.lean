/- The evaluator: regions, code, functions, jobs; two functions of the library that it takes as they are. -/
import Derived.Test.YtglploknmdbigaaGreatDoorEb
namespace Go.Ev
noncomputable section
variable (P : Program) (X : Nat → Option Ext) (C : Nat → Option (List AV → Heap → Option (AV × Heap))) {R : Type}

/-! ### the jobs -/
abbrev KX (R : Type) := AExit → Env → List ADef → Heap → Option R
inductive Job (R : Type) where
  | loop (ro : Option Nat) (c : Code) (t : Env) (d : List ADef) (H : Heap) (k : KX R)
  | scope (ro : Option Nat) (c rest : Code) (t : Env) (d : List ADef) (H : Heap) (k : KX R)
  | call (f : Nat) (args : List AV) (H : Heap) (k : AV → Heap → Option R)
  | dcall (f : Nat) (args : List AV) (H : Heap) (k : Heap → Option R)
  | round (l : Nat) (args : List AV) (H : Heap) (k : AV → Heap → Option R)

abbrev Ih (R : Type) := Job R → Option R
def goK (ih : Ih R) (g : Goal) (H : Heap) (k : AV → Heap → Option R) : Option R := match g with | .fn f args => ih (.call f args H k) | .round l args => ih (.round l args H k)

/-! ### regions in the order of the text -/
abbrev OpsF (R : Type) := Ih R → Option Nat → Env → List ADef → Heap → (Env → List ADef → Heap → Option R) → Option R
structure OpsC (R : Type) where f : OpsF R
def runO (c : OpsC R) : OpsF R := c.f

def oNil : OpsF R := fun _ _ t d H k => k t d H
def oNone : OpsF R := fun _ _ _ _ _ _ => none
def oQuiet (f : Q R) (dst : Option Nat) (rest : OpsC R) : OpsF R := fun ih ro t d H k => f t H fun v => putE t dst v fun t' => runO rest ih ro t' d H k
def oAlloc (f : A R) (dst : Option Nat) (rest : OpsC R) : OpsF R := fun ih ro t d H k => f t fun o g => newH H o fun r H' => putE t dst (g r) fun t' => runO rest ih ro t' d H' k
def oWrite (f : W R) (dst : Option Nat) (rest : OpsC R) : OpsF R := fun ih ro t d H k => f t H fun v H' => putE t dst v fun t' => runO rest ih ro t' d H' k
def oCall (f : Cl R) (dst : Option Nat) (rest : OpsC R) : OpsF R := fun ih ro t d H k => f t fun g => goK ih g H fun v H' => putE t dst v fun t' => runO rest ih ro t' d H' k
def pushK (g : Goal) (d : List ADef) (k : List ADef → Option R) : Option R := match g with | .fn f args => k (.call f args :: d) | .round _ _ => none
def oDefer (f : Cl R) (dst : Option Nat) (rest : OpsC R) : OpsF R := fun ih ro t d H k => Option.casesOn ro (f t fun g => pushK g d fun d' => putE t dst .undef fun t' => runO rest ih ro t' d' H k) fun _ => none
/-- Is what a guard holds what is wanted? -/
def wantB (want : Bool) (v : AV) : Bool := match v with | .bool b => Bool.casesOn want (notB b) b | _ => false
def oGuard (g : Nat) (want : Bool) (dst : Option Nat) (yes rest : OpsC R) : OpsF R := fun ih ro t d H k => getE t g fun v =>
  Bool.casesOn (wantB want v) (putE t dst .undef fun t' => runO rest ih ro t' d H k) (runO yes ih ro t d H k)

def mkO (c : OpC R) (dst : Option Nat) (rest : OpsC R) : OpsC R :=
  match c with
  | .quiet f => ⟨oQuiet f dst rest⟩
  | .alloc f => ⟨oAlloc f dst rest⟩
  | .write f => ⟨oWrite f dst rest⟩
  | .call f => ⟨oCall f dst rest⟩
  | .defer f => ⟨oDefer f dst rest⟩
  | .bad => ⟨oNone⟩
/-- The temporary of a guard. -/
def guardT (all : List Oper) (j : Nat) : Option Nat := match nthL all j with | some o => o.dst | none => none
def opsC (all : List Oper) : List Oper → OpsC R
  | [] => ⟨oNil⟩
  | o :: rest => match o.guard with
    | none => mkO (opC P o.op) o.dst (opsC all rest)
    | some (j, want) => match guardT all j with
      | some g => ⟨oGuard g want o.dst (mkO (opC P o.op) o.dst (opsC all rest)) (opsC all rest)⟩
      | none => ⟨oNone⟩

/-! ### regions that draw their order -/
/-- 0: quiet; 1: it lays a block; 2: it may write; 3: not taken. -/
def kindC (c : OpC R) : Nat := match c with | .quiet _ => 0 | .alloc _ => 1 | .write _ => 2 | .call _ => 2 | .defer _ => 3 | .bad => 3

def allI {α : Type} (f : Nat → α → Bool) : List α → Nat → Bool
  | [], _ => true
  | x :: l, i => f i x && allI f l (i + 1)
def memN (n : Nat) : List Nat → Bool
  | [] => false
  | x :: l => Nat.beq x n || memN n l

def bindsAny (e : Edge) : Bool := match e.ground with | .textOnly _ => false | .gcOnly _ => false | _ => true
/-- The bits of what stands ahead of operation i; 'acc': those of the ones before it, the last first. -/
def edgeBits (acc : List Nat) (i : Nat) : List Edge → Option Nat
  | [] => some 0
  | e :: es => match edgeBits acc i es with
    | none => none
    | some m => match bindsAny e with
      | false => some m
      | true => match Nat.blt e.on i, nthL acc (i - 1 - e.on) with
        | true, some x => some (Nat.lor (Nat.lor m (Nat.shiftLeft 1 e.on)) x)
        | _, _ => none
def befs : List Oper → List Nat → Nat → Option (List Nat)
  | [], acc, _ => some acc.reverse
  | o :: l, acc, i => match edgeBits acc i o.after.toList with
    | none => none
    | some m => befs l (m :: acc) (i + 1)
def bitAt (b : List Nat) (i j : Nat) : Bool := match nthL b i with | some m => Nat.testBit m j | none => false
/-- Stand two operations in an order? -/
def ordered (b : List Nat) (i j : Nat) : Bool := if Nat.blt i j then bitAt b j i else bitAt b i j

structure Plan where
  louds : List Nat
  b : List Nat
def loudIdx : List Oper → Nat → List Nat
  | [], _ => []
  | o :: l, i => if Nat.beq (kindC (opC (R := R) P o.op)) 2 then i :: loudIdx l (i + 1) else loudIdx l (i + 1)
/-- Operation i writes 'd': nobody else does; who reads it stands in an order with it. -/
def dstOk (b : List Nat) (rds : List (List Nat)) (l : List Oper) (i d : Nat) : Bool :=
  allI (fun j p => match Nat.beq i j with
    | true => true
    | false => match p.dst with | some e => !Nat.beq e d | none => true) l 0 &&
  allI (fun j rd => !memN d rd || (!Nat.beq i j && ordered b i j)) rds 0
def louds2 (b : List Nat) : List Nat → Bool
  | [] => true
  | i :: l => l.all (fun j => Nat.blt i j && bitAt b j i) && louds2 b l

/-- The static look at a region that draws its order. -/
def planOf (ops : Array Oper) : Option Plan :=
  match befs ops.toList [] 0 with
  | none => none
  | some b =>
    match loudIdx (R := R) P ops.toList 0, ops.toList.map (fun o => o.looksAt ops) with
    | louds, rds =>
      match allI (fun _ o => !Nat.beq (kindC (opC (R := R) P o.op)) 3) ops.toList 0 && allI (fun i o => match o.dst with | some d => dstOk b rds ops.toList i d | none => true) ops.toList 0 && louds2 b louds with
      | true => some ⟨louds, b⟩
      | false => none

/-- May operation i come up when just the first j of the loud ones were done? -/
def mayAt (p : Plan) (i j : Nat) : Bool := allI (fun m l => if Nat.blt m j then !bitAt p.b l i else !bitAt p.b i l) p.louds 0
def levelsOf (p : Plan) (i : Nat) : List Nat := match p.louds with | [] => [] | _ :: _ => (List.range (p.louds.length + 1)).filter (mayAt p i)

/-- A quiet operation that was done: at which levels else it may come up, what it does, its temporaries, its value. -/
structure Rec (R : Type) where
  lv : List Nat
  f : Q R
  t : Env
  v : AV

abbrev DrawF (R : Type) := Ih R → Nat → Env → Heap → List Heap → List (Rec R) → (Env → Heap → List Heap → List (Rec R) → Option R) → Option R
structure DrawC (R : Type) where f : DrawF R
def runD (c : DrawC R) : DrawF R := c.f
def dNil : DrawF R := fun _ _ t H Hs rs k => k t H Hs rs
def dNone : DrawF R := fun _ _ _ _ _ _ _ => none
def dQuiet (lv : List Nat) (f : Q R) (dst : Option Nat) (rest : DrawC R) : DrawF R := fun ih base t H Hs rs k => f t H fun v => putE t dst v fun t' =>
  List.casesOn lv (runD rest ih base t' H Hs rs k) fun _ _ => runD rest ih base t' H Hs (⟨lv, f, t, v⟩ :: rs) k
def dAlloc (i : Nat) (f : A R) (dst : Option Nat) (rest : DrawC R) : DrawF R := fun ih base t H Hs rs k => f t fun o g => natK (Nat.add base i) fun r => putH H r o fun H' => putE t dst (g r) fun t' => runD rest ih base t' H' Hs rs k
def dWrite (f : W R) (dst : Option Nat) (rest : DrawC R) : DrawF R := fun ih base t H Hs rs k => f t H fun v H' => putE t dst v fun t' => runD rest ih base t' H' (H :: Hs) rs k
def dCall (f : Cl R) (dst : Option Nat) (rest : DrawC R) : DrawF R := fun ih base t H Hs rs k => f t fun g => goK ih g H fun v H' => putE t dst v fun t' => runD rest ih base t' H' (H :: Hs) rs k
def dGuard (g : Nat) (want loud : Bool) (dst : Option Nat) (yes rest : DrawC R) : DrawF R := fun ih base t H Hs rs k => getE t g fun v =>
  Bool.casesOn (wantB want v) (putE t dst .undef fun t' => runD rest ih base t' H (Bool.casesOn loud Hs (H :: Hs)) rs k) (runD yes ih base t H Hs rs k)

def mkD (p : Plan) (i : Nat) (c : OpC R) (dst : Option Nat) (rest : DrawC R) : DrawC R :=
  match c with
  | .quiet f => ⟨dQuiet (levelsOf p i) f dst rest⟩
  | .alloc f => ⟨dAlloc i f dst rest⟩
  | .write f => ⟨dWrite f dst rest⟩
  | .call f => ⟨dCall f dst rest⟩
  | .defer _ => ⟨dNone⟩
  | .bad => ⟨dNone⟩
def drawC (p : Plan) (all : List Oper) : List Oper → Nat → DrawC R
  | [], _ => ⟨dNil⟩
  | o :: rest, i => match o.guard with
    | none => mkD p i (opC P o.op) o.dst (drawC p all rest (i + 1))
    | some (j, want) => match guardT all j with
      | some g => ⟨dGuard g want (Nat.beq (kindC (opC (R := R) P o.op)) 2) o.dst (mkD p i (opC P o.op) o.dst (drawC p all rest (i + 1))) (drawC p all rest (i + 1))⟩
      | none => ⟨dNone⟩

def checkLv (f : Q R) (t : Env) (v : AV) (Hs : List Heap) (lv : List Nat) (k : Option R) : Option R :=
  List.rec (motive := fun _ => Option R) k (fun j _ ih => nthK Hs j fun H => f t H fun u => Bool.casesOn (AV.beq u v) none ih) lv
def checkAll (Hs : List Heap) (rs : List (Rec R)) (k : Option R) : Option R :=
  List.rec (motive := fun _ => Option R) k (fun r _ ih => checkLv r.f r.t r.v Hs r.lv ih) rs
def revK {α : Type} (l m : List α) (k : List α → Option R) : Option R := List.rec (motive := fun _ => List α → Option R) (fun m => k m) (fun x _ ih m => ih (x :: m)) l m

def drawEnd (d : List ADef) (k : Env → List ADef → Heap → Option R) (t' : Env) (H' : Heap) (Hs : List Heap) (rs : List (Rec R)) : Option R :=
  List.casesOn rs (k t' d H') fun _ _ => revK Hs [H'] fun Hs' => checkAll Hs' rs (k t' d H')
def oDraw (n : Nat) (c : DrawC R) : OpsF R := fun ih _ t d H k => natK H.next fun base => natK (Nat.add base n) fun nx => runD c ih base t ⟨H.t, nx⟩ [] [] (drawEnd d k)
def regionC (ops : Array Oper) (draw : Bool) : OpsC R :=
  match draw with
  | false => opsC P ops.toList ops.toList
  | true => match planOf (R := R) P ops with
    | some p => ⟨oDraw ops.toList.length (drawC P p ops.toList ops.toList 0)⟩
    | none => ⟨oNone⟩

/-! ### code -/
abbrev CodeF (R : Type) := Ih R → Option Nat → Env → List ADef → Heap → KX R → Option R
structure CodeC (R : Type) where f : CodeF R
def runC (c : CodeC R) : CodeF R := c.f

def xNormal : CodeF R := fun _ _ t d H k => k .normal t d H
def xExit (e : AExit) : CodeF R := fun _ _ t d H k => k e t d H
def xNone : CodeF R := fun _ _ _ _ _ _ => none
def xRegion (c : OpsC R) : CodeF R := fun ih ro t d H k => runO c ih ro t d H fun t' d' H' => k .normal t' d' H'
def seqK (ih : Ih R) (ro : Option Nat) (y : CodeC R) (k : KX R) : KX R := fun e t d H => match e with | .normal => runC y ih ro t d H k | e => k e t d H
def xSeq (x y : CodeC R) : CodeF R := fun ih ro t d H k => runC x ih ro t d H (seqK ih ro y k)
def xCond (c : Operand) (x y : CodeC R) : CodeF R := fun ih ro t d H k => opK c t fun v => boolK v fun b => Bool.casesOn b (runC y ih ro t d H k) (runC x ih ro t d H k)
def blockK (id : Nat) (k : KX R) : KX R := fun e t d H => match e with | .exit i => Bool.casesOn (Nat.beq i id) (k (.exit i) t d H) (k .normal t d H) | e => k e t d H
def xBlock (id : Nat) (c : CodeC R) : CodeF R := fun ih ro t d H k => runC c ih ro t d H (blockK id k)
def xLoop (c : Code) : CodeF R := fun ih ro t d H k => ih (.loop ro c t d H k)
def xScope (c : Code) : CodeF R := fun ih ro t d H k => ih (.scope ro c c t d H k)
def jumpOf (c : Code) : Option AExit := match c with | .ret => some .ret | .exit id => some (.exit id) | .goto l => some (.goto l) | _ => none
def isBusy (s : LoopState) : Bool := match s with | .busy => true | _ => false
def isReady (s : LoopState) : Bool := match s with | .ready => true | _ => false
def pendK (pend : Option Code) (t : Env) (d : List ADef) (k : KX R) (H4 : Heap) : Option R := match pend with
  | none => k .normal t d H4
  | some c => match jumpOf c with | some e => k e t d H4 | none => none
def rangeEnd (l : Nat) (t : Env) (d : List ADef) (k : KX R) : AV → Heap → Option R := fun _ H3 => getH H3 l fun o => match o with
  | .loop st pend lt ps as bd df => Bool.casesOn (isBusy st) (putH H3 l (.loop .exhausted pend lt ps as bd df) (pendK pend t d k)) none
  | _ => none
def rangeRun (first cap : List AV) (g : Nat) (params : List Nat) (assign body : Code) (ih : Ih R) (t : Env) (d : List ADef) (df : Nat) (H : Heap) (k : KX R) : Option R :=
  newH H (.loop .ready none t params assign body df) fun l H2 => appK [AV.yld l] cap fun a => appK first a fun args => ih (.call g args H2 (rangeEnd l t d k))
def hasBody (g : Nat) : Bool := match nthL P.funcs.toList g with | some fn => fn.body.isSome | none => false
def xRange (f : Operand) (params : List Nat) (assign body : Code) : CodeF R := fun ih ro t d H k => opK f t fun v => match v with
  | .fn g first cap => Bool.casesOn (hasBody P g) none <| Option.casesOn ro (newH H (.dfr true) fun r H1 => rangeRun first cap g params assign body ih t (.collected r :: d) r H1 k)
      fun l0 => getH H l0 fun o => match o with | .loop _ _ _ _ _ _ df => rangeRun first cap g params assign body ih t d df H k | _ => none
  | _ => none

def codeC : Code → CodeC R
  | .skip => ⟨xNormal⟩
  | .label _ => ⟨xNormal⟩
  | .exit id => ⟨xExit (.exit id)⟩
  | .goto l => ⟨xExit (.goto l)⟩
  | .ret => ⟨xExit .ret⟩
  | .refuse _ => ⟨xNone⟩
  | .region _ ops draw => ⟨xRegion (regionC P ops draw)⟩
  | .seq x y => ⟨xSeq (codeC x) (codeC y)⟩
  | .cond c x y => ⟨xCond c (codeC x) (codeC y)⟩
  | .block id c => ⟨xBlock id (codeC c)⟩
  | .loop c => ⟨xLoop c⟩
  | .scope c => ⟨xScope c⟩
  | .rangeFunc f ps a b => ⟨xRange P f ps.toList a b⟩

/-! ### functions -/
def resK (r : ResultVar) (t : Env) (H : Heap) (k : AV → Option R) : Option R := match r with
  | .tmp i => getE t i k
  | .cell a ty => qLoad P ty (.tmp a) t H k
def ressK (l : List ResultVar) (t : Env) (H : Heap) (k : List AV → Option R) : Option R :=
  List.rec (motive := fun _ => (List AV → Option R) → Option R) (fun k => k []) (fun r _ ih k => resK P r t H fun v => ih fun vs => k (v :: vs)) l k
def resultK (l : List ResultVar) (t : Env) (H : Heap) (k : AV → Option R) : Option R := ressK P l t H fun vs => match vs with | [v] => k v | vs => k (.tup vs)

def leaveK (ih : Ih R) (ds : List ADef) (H : Heap) (k : Heap → Option R) : Option R :=
  List.rec (motive := fun _ => Heap → Option R) (fun H => k H)
    (fun x _ rec H => match x with
      | .collected r => getH H r fun o => match o with
        | .dfr b => Bool.casesOn b none (putH H r (.dfr false) rec)
        | _ => none
      | .call f args => ih (.dcall f args H rec)) ds H

structure FnC (R : Type) where
  call : Ih R → List AV → Heap → (AV → Heap → Option R) → Option R
  dcall : Ih R → List AV → Heap → (Heap → Option R) → Option R
def fNone : Ih R → List AV → Heap → (AV → Heap → Option R) → Option R := fun _ _ _ _ => none
def fdNone : Ih R → List AV → Heap → (Heap → Option R) → Option R := fun _ _ _ _ => none
def fTable (g : List AV → Heap → Option (AV × Heap)) : Ih R → List AV → Heap → (AV → Heap → Option R) → Option R := fun _ args H k => Option.casesOn (g args H) none fun p => k p.1 p.2
def fBody (n : Nat) (c : CodeC R) (rs : List ResultVar) : Ih R → List AV → Heap → (AV → Heap → Option R) → Option R := fun ih args H k =>
  argsE args (envN n) 0 fun t => runC c ih none t [] H fun e t' d H' => match e with
    | .normal => leaveK ih d H' fun H'' => resultK P rs t' H'' fun v => k v H''
    | .ret => leaveK ih d H' fun H'' => resultK P rs t' H'' fun v => k v H''
    | _ => none
def fdBody (n : Nat) (c : CodeC R) (rs : List ResultVar) : Ih R → List AV → Heap → (Heap → Option R) → Option R := fun ih args H k =>
  argsE args (envN n) 0 fun t => runC c ih none t [] H fun e t' d H' => List.casesOn d (match e with
    | .normal => resultK P rs t' H' fun _ => k H'
    | .ret => resultK P rs t' H' fun _ => k H'
    | _ => none) fun _ _ => none

/-! functions without a body -/
def rowAt (H : Heap) (v : AV) (k : Nat → Nat → List AV → IntKind → Int → Option R) : Option R := ptrK v fun r o => rowK H r fun cs => nthK cs o fun u => numK u fun j n => k r o cs j n
def put1 (H : Heap) (r o : Nat) (cs : List AV) (v : AV) (k : Heap → Option R) : Option R := layK o cs [v] fun cs' => putH H r (.cells cs') k
def listBytes (H : Heap) (v : AV) (k : List Nat → Option R) : Option R := match v with | .str s => k s | v => sliceBytes v H k
def findB (c : Nat) (l : List Nat) (k : Int → Option R) : Option R := List.rec (motive := fun _ => Nat → Option R) (fun _ => k (-1)) (fun b _ ih i => Bool.casesOn (Nat.beq b c) (ih (Nat.succ i)) (k (Int.ofNat i))) l 0
def countB (c : Nat) (l : List Nat) (k : Nat → Option R) : Option R := List.rec (motive := fun _ => Nat → Option R) (fun n => k n) (fun b _ ih n => Bool.casesOn (Nat.beq b c) (ih n) (ih (Nat.succ n))) l 0
def extK (x : Ext) (args : List AV) (H : Heap) (k : AV → Heap → Option R) : Option R :=
  match x, args with
  | .aload j, [p] => rowAt H p fun _ _ _ j' n => Bool.casesOn (sameKind j j') none (k (.int j' n) H)
  | .astore, [p, v] => rowAt H p fun r o cs _ _ => numK v fun _ _ => put1 H r o cs v fun H' => k (.tup []) H'
  | .aswap j, [p, v] => rowAt H p fun r o cs j' n => Bool.casesOn (sameKind j j') none (numK v fun _ _ => put1 H r o cs v fun H' => k (.int j' n) H')
  | .acas j, [p, old, v] => rowAt H p fun r o cs j' n => Bool.casesOn (sameKind j j') none (numK old fun _ m => numK v fun _ _ => Bool.casesOn (intEq n m) (k (.bool false) H) (put1 H r o cs v fun H' => k (.bool true) H'))
  | .aadd j, [p, y] => rowAt H p fun r o cs j' n => Bool.casesOn (sameKind j j') none (numK y fun _ m => nAdd j n m fun v => put1 H r o cs v fun H' => k v H')
  | .nothing, _ => k (.tup []) H
  | .marked, p :: _ => ptrK p fun _ _ => k (.tup []) H
  | .indexByte, [s, c] => listBytes H s fun s => byteK c fun c => findB c s fun i => k (.int .i64 i) H
  | .compare, [a, b] => listBytes H a fun a => listBytes H b fun b => Bool.casesOn (strEq a b) (Bool.casesOn (strLt a b) (k (.int .i64 1) H) (k (.int .i64 (-1)) H)) (k (.int .i64 0) H)
  | .count, [s, c] => listBytes H s fun s => byteK c fun c => countB c s fun n => k (.int .i64 (Int.ofNat n)) H
  | _, _ => none
def fExt (x : Ext) : Ih R → List AV → Heap → (AV → Heap → Option R) → Option R := fun _ args H k => extK x args H k

def fnC (f : Nat) : FnC R :=
  match C f with
  | some g => ⟨fTable g, fdNone⟩
  | none => match X f with
    | some x => ⟨fExt x, fdNone⟩
    | none => match nthL P.funcs.toList f with
      | some fn => match fn.body with
        | some c => ⟨fBody P fn.ntmps (codeC P c) fn.results.toList, fdBody P fn.ntmps (codeC P c) fn.results.toList⟩
        | none => ⟨fNone, fdNone⟩
      | none => ⟨fNone, fdNone⟩

/-! ### a job's step -/
def loopK (ih : Ih R) (ro : Option Nat) (c : Code) (k : KX R) : KX R := fun e t d H => match e with | .normal => ih (.loop ro c t d H k) | e => k e t d H
def scopeK (ih : Ih R) (ro : Option Nat) (c : Code) (k : KX R) : KX R := fun e t d H => match e with
  | .goto l => Option.casesOn (findLabel c l) (k (.goto l) t d H) fun rest => ih (.scope ro c rest t d H k)
  | e => k e t d H
def codeOf (e : AExit) : Option Code := match e with | .normal => none | .ret => some .ret | .exit id => some (.exit id) | .goto l => some (.goto l)
def isNormal (e : AExit) : Bool := match e with | .normal => true | _ => false
def roundEnd (l : Nat) (k : AV → Heap → Option R) : KX R := fun e _ _ H => getH H l fun o => match o with
  | .loop _ _ lt ps as bd df => Bool.casesOn (isNormal e) (putH H l (.loop .done (codeOf e) lt ps as bd df) fun H' => k (.bool false) H') (putH H l (.loop .ready none lt ps as bd df) fun H' => k (.bool true) H')
  | _ => none
def roundBody (ih : Ih R) (l : Nat) (bd0 : Code) (k : AV → Heap → Option R) : KX R := fun e t d H => match e with
  | .normal => getH H l fun o => match o with
    | .loop st pend lt ps as bd df => Bool.casesOn (isReady st) none (putH H l (.loop .busy pend lt ps as bd df) fun H' => runC (codeC P bd0) ih (some l) t d H' (roundEnd l k))
    | _ => none
  | _ => none

def stepJ (ih : Ih R) (j : Job R) : Option R :=
  match j with
  | .loop ro c t d H k => runC (codeC P c) ih ro t d H (loopK ih ro c k)
  | .scope ro c rest t d H k => runC (codeC P rest) ih ro t d H (scopeK ih ro c k)
  | .call f args H k => (fnC P X C f).call ih args H k
  | .dcall f args H k => (fnC P X C f).dcall ih args H k
  | .round l args H k => getH H l fun o => match o with
    | .loop _ _ lt ps as bd _ => argsAt ps args lt fun t => runC (codeC P as) ih (some l) t [] H (roundBody P ih l bd k)
    | _ => none

def eval (n : Nat) (j : Job R) : Option R := Nat.rec (motive := fun _ => Job R → Option R) (fun _ => none) (fun _ ih => stepJ P X C ih) n j
end
end Go.Ev

namespace Go.Ev
noncomputable section
def insL {α : Type} (lt : α → α → Bool) (x : α) : List α → List α
  | [] => [x]
  | y :: l => match lt x y with
    | true => x :: y :: l
    | false => y :: insL lt x l
def sortL {α : Type} (lt : α → α → Bool) : List α → List α
  | [] => []
  | x :: l => insL lt x (sortL lt l)
def risesL {α : Type} (lt : α → α → Bool) : List α → Bool
  | [] => true
  | x :: l => l.all (lt x) && risesL lt l
def freshN : List Nat → Bool
  | [] => true
  | x :: l => !memN x l && freshN l
def bornOk (es : List (AV × AV × Nat)) (c : Nat) : Bool := es.all (fun e => Nat.blt e.2.2 c) && freshN (es.map fun e => e.2.2)

def keysT (g : Nat) (args : List AV) (H : Heap) : Option (AV × Heap) :=
  match args with
  | [.nilmap] => newH H (.keys none) fun r H' => some (.fn g [] [.ptr r 0], H')
  | [.map m] => newH H (.keys (some m)) fun r H' => some (.fn g [] [.ptr r 0], H')
  | _ => none

def smallK (s : List Nat) : Bool := s.all fun n => Nat.blt n 256
def keyS (e : AV × AV × Nat) : Option (List Nat) := match e.1 with | .str s => if smallK s && Nat.blt s.length 100000 then some s else none | _ => none
def keyI (e : AV × AV × Nat) : Option Int := match e.1 with | .int .i64 n => if decide (-9223372036854775808 ≤ n) && decide (n ≤ 9223372036854775807) then some n else none | _ => none

def sortedRows {α : Type} (mk : α → AV) (lt : α → α → Bool) (ks : List α) (H : Heap) : Option (AV × Heap) :=
  match ks with
  | [] => some (.nilsl, H)
  | ks => match sortL lt ks with
    | l => match Nat.blt l.length 100000 && risesL lt l with
      | true => newH H (.cells (l.map mk)) fun r H' => some (.sl r 0 0 l.length (.un 1), H')
      | false => none
def sortedT {α : Type} (key : (AV × AV × Nat) → Option α) (mk : α → AV) (lt : α → α → Bool) (g : Nat) (args : List AV) (H : Heap) : Option (AV × Heap) :=
  match args with
  | [.fn f [] [.ptr r o]] => match Nat.beq f g && Nat.beq o 0 with
    | true => getH H r fun x => match x with
      | .keys none => some (.nilsl, H)
      | .keys (some m) => mapObjK H m fun es c => match mapO key es, bornOk es c with
        | some ks, true => sortedRows mk lt ks H
        | _, _ => none
      | _ => none
    | false => none
  | _ => none
end
end Go.Ev

/- The abstract machine's steps: control, calls, returns, cuts. No condition. -/
import Derived.Test.YtjdjmbogopadaaaGreatDoorAbs0
import Derived.Orders
namespace Go.Cellar
open Go

/-- What a region's operations have done: which touched all; which wrote what or made an object (and how many objects there were), which read what. 'al': how many objects stood ahead of a call. -/
structure Mk where
  fl : Nat
  al : Nat
  wr : List (Nat × List Nat × Nat)
  rd : List (Nat × List Nat)

inductive Mode where
  | run | perf
  | draw (ops : Array Oper) (i : Nat) (k : Mk)
  | dperf (ops : Array Oper) (i : Nat) (k : Mk)
  | dcall (ops : Array Oper) (i : Nat) (k : Mk)
  | dbor (ops : Array Oper) (i : Nat) (k : Mk)

def Mk.none : Mk := ⟨0, 0, [], []⟩
def Mk.add (k : Mk) (i : Nat) (fp : List Nat) (n : Nat) : Nat → Mk
  | 0 => ⟨k.fl, 0, k.wr, k.rd⟩
  | 1 => ⟨k.fl, 0, k.wr, (i, fp) :: k.rd⟩
  | 2 => ⟨k.fl, 0, (i, [], n) :: k.wr, k.rd⟩
  | 3 => ⟨k.fl, 0, (i, fp, n) :: k.wr, k.rd⟩
  | _ => ⟨k.fl ||| 2 ^ i, 0, k.wr, k.rd⟩

/-- Is each of these before that one? -/
def within (a b : Nat) : Bool := Nat.beq (a &&& b) a

def beforeAll (b : Nat) : List (Nat × List Nat × Nat) → Bool
  | [] => true
  | x :: l => within (2 ^ x.1) b && beforeAll b l

/-- What is read lies outside what has been written, unless that stands before. -/
def readOk (b : Nat) (fp : List Nat) : List (Nat × List Nat × Nat) → Bool
  | [] => true
  | x :: l => (within (2 ^ x.1) b || fp.all fun r => !x.2.1.contains r && decide (r < x.2.2)) && readOk b fp l

/-- What is written lies outside what has been read, unless that stands before. -/
def writeOk (b : Nat) (fp : List Nat) : List (Nat × List Nat) → Bool
  | [] => true
  | x :: l => (within (2 ^ x.1) b || x.2.all fun r => !fp.contains r) && writeOk b fp l

/-- May an operation of a class stand at i, behind what has been? It reads or writes the objects fp, of n. -/
def allowed (ops : Array Oper) (k : Mk) (i : Nat) (fp : List Nat) (n : Nat) (c : Nat) : Bool :=
  let b := (Region.before ops).getD i 0
  match c with
  | 0 => within k.fl b
  | 1 => within k.fl b && readOk b fp k.wr && fp.all fun r => decide (r < n)
  | 2 => within k.fl b && beforeAll b k.wr
  | 3 => within k.fl b && beforeAll b k.wr && writeOk b fp k.rd
  | _ => within (2 ^ i - 1) b

structure Cfg where
  mode : Mode
  todo : List Item
  s : St

/-- What a step needs of a call's result: where to go on. -/
structure Site where
  mode : Mode
  todo : List Item
  s : St
  dst : Option Nat
  tr : List Nat
  bor : List Nat

inductive Step where
  | next (c : Cfg)
  | cond (b : Bool) (c1 c2 : Cfg)
  | both (p : Bool) (c1 c2 : Cfg)
  | need (p : Prop) (c : Cfg)
  | call (f : Nat) (args : List AV) (hin : List AO) (k : Site)
  | loop (c : Cfg)
  | ret (s : St)
  | fail (why : Nat)

def St.put (s : St) (dst : Option Nat) (v : AV) : St :=
  match dst with
  | some d => ⟨s.tm.set d v, s.hp, s.m⟩
  | none => s

/-- A slot whose Bool has been asked. -/
def St.said (s : St) (o : Operand) (b : Bool) : St :=
  match o with
  | .tmp t => ⟨s.tm.set t (.bool b), s.hp, s.m⟩
  | _ => s

/-! ### handing objects over -/

def objRefs (hp : List AO) (r : Nat) : List Nat :=
  match hp[r]? with
  | some o => o.refs
  | none => []

def addNew (l : List Nat) : List Nat → List Nat
  | [] => l
  | x :: xs => if l.contains x then addNew l xs else addNew (l ++ [x]) xs

/-- All objects that may be reached. -/
def reach (hp : List AO) : Nat → List Nat → List Nat
  | 0, l => l
  | n + 1, l => reach hp n (addNew l (l.flatMap (objRefs hp)))

mutual
/-- Objects that a value points to (its views aside). -/
def AV.ptrs : AV → List Nat
  | .ptr r _ => [r]
  | .rptr r _ _ => [r]
  | .func _ first caps => AV.ptrsL first ++ AV.ptrsL caps
  | .agg cs => AV.ptrsL cs
  | .tup vs => AV.ptrsL vs
  | _ => []
def AV.ptrsL : List AV → List Nat
  | [] => []
  | v :: vs => AV.ptrs v ++ AV.ptrsL vs
end

def idxIn (r : Nat) : List Nat → Nat → Option Nat
  | [], _ => none
  | x :: xs, i => if x = r then some i else idxIn r xs (i + 1)

/-- Names for the callee: what is handed over gets its number there; views of rows that are lent become lists. -/
def gInto (hp : List AO) (tr bor : List Nat) : AV → AV
  | .ptr r off => match idxIn r tr 0 with | some j => .ptr j off | none => .junk
  | .rptr r i off => match idxIn r tr 0 with | some j => .rptr j i off | none => .junk
  | .view r lo hi => match idxIn r tr 0 with | some j => .view j lo hi | none => if bor.contains r then rowList hp r lo hi else .junk
  | v => v

/-- Plain data in one form. -/
def canon (P : Program) (t : TypeId) (v : AV) : AV :=
  match tyOf P 60 t with
  | some ty => match v.isAgg == ty.isAgg with
    | true => match ty.of v with
      | some x => ty.av x
      | none => v
    | false => v
  | none => v

def canonArgs (P : Program) : List TypeId → List AV → List AV
  | t :: ts, v :: vs => canon P t v :: canonArgs P ts vs
  | _, vs => vs

/-- Functions that write into the slices that they get. -/
def writers : List String := ["slices.Sort", "slices.Compact", "slices.DeleteFunc", "slices.Insert"]

/-- Rows that are handed over besides, though views alone name them. -/
def handed (name : String) (args : List AV) : List Nat := match writers.any (name == ·) with | true => AV.refsL args | false => []

def callStep (P : Program) (mode : Mode) (todo : List Item) (s : St) (dst : Option Nat) (f : Nat) (args : List AV) : Step :=
  match P.funcs[f]? with
  | none => .fail 1
  | some fn =>
    let tr := reach s.hp s.hp.length (addNew [] (AV.ptrsL args ++ handed fn.origin args))
    let bor := (addNew [] (AV.refsL args)).filter fun r => !tr.contains r
    match tr.all fun r => decide (r < s.hp.length) with
    | false => .fail 16
    | true => .call f (canonArgs P fn.params.toList (AV.subL (gInto s.hp tr bor) args)) (tr.map fun r => AO.sub (gInto s.hp tr bor) (s.hp.getD r .dead)) ⟨mode, todo, s, dst, tr, bor⟩

/-- Names back: the callee's objects. -/
def backIdx (tr : List Nat) (n : Nat) (j : Nat) : Nat := match tr[j]? with | some r => r | none => n + (j - tr.length)
def gBack (tr : List Nat) (n : Nat) : AV → AV
  | .ptr j off => .ptr (backIdx tr n j) off
  | .rptr j i off => .rptr (backIdx tr n j) i off
  | .view j lo hi => .view (backIdx tr n j) lo hi
  | v => v

def isFixed (hp : List AO) (r : Nat) : Bool := match hp[r]? with | some (.box _) => true | some (.arr _ _) => true | some (.bld _ _) => true | _ => false

/-- What looked into the objects that were handed over is stale behind the call. -/
def gStale (hp : List AO) (tr : List Nat) : AV → AV
  | .view r lo hi => if tr.contains r then .junk else .view r lo hi
  | .rptr r i off => if tr.contains r then .junk else .rptr r i off
  | .ptr r off => if tr.contains r && !isFixed hp r then .junk else .ptr r off
  | v => v

def writeBack (g : AV → AV) : List Nat → List AO → List AO → List AO
  | r :: rs, o :: os, hp => writeBack g rs os (hp.set r (AO.sub g o))
  | _, _, hp => hp

/-- The caller's state, rows that were lent frozen where the answer may hold on to them. -/
def Site.base (k : Site) (lists : Bool) : St :=
  match k.bor, lists with
  | [], _ => k.s
  | _, false => k.s
  | bor, true => k.s.freeze bor

/-- The state behind a call. -/
def Site.state (k : Site) (res : AV) (hout : List AO) : St × AV :=
  let s0 := k.base (res.lists || hout.any AO.lists)
  let n := s0.hp.length
  let g := gBack k.tr n
  let s1 := s0.mapv (gStale s0.hp k.tr)
  (⟨s1.tm, writeBack g k.tr (hout.take k.tr.length) s1.hp ++ (hout.drop k.tr.length).map (AO.sub g), s1.m⟩, AV.sub g res)

/-- The class of a call that was handed nothing. -/
def callCls (res : AV) (hout : List AO) : Nat := match hout.isEmpty && (AV.refs res).isEmpty with | true => 0 | false => 2

/-- The class of a call that was lent rows. -/
def borCls (res : AV) (hout : List AO) : Nat := match res.lists || hout.any AO.lists with | true => 4 | false => 2

def Mode.after (m : Mode) (res : AV) (hout : List AO) : Mode :=
  match m with
  | .dcall ops i k => .draw ops (i + 1) (k.add i [] k.al (callCls res hout))
  | .dbor ops i k => .draw ops (i + 1) (k.add i [] k.al (borCls res hout))
  | m => m

def Site.resume (k : Site) (res : AV) (hout : List AO) : Cfg :=
  ⟨k.mode.after res hout, k.todo, (k.state res hout).1.put k.dst (k.state res hout).2⟩

/-! ### one step -/

/-- Operations whose effect no object bears on. -/
def pureAt (s : St) : Op → Bool
  | .move _ | .assign _ | .pick .. | .build .. | .nilCheck _ | .binOp .. | .unOp .. | .makeFunc .. | .fieldAddr .. | .field .. | .index .. | .extract .. => true
  | .load _ a => match s.ev a with
    | .iptr _ => true
    | _ => false
  | .buildSlice _ _ parts => (AV.refsL (parts.toList.map fun p => s.ev p.2)).isEmpty
  | .convert _ _ x => match s.ev x with
    | .view _ _ _ => false
    | _ => true
  | .slice _ x _ _ _ => match s.ev x with
    | .str _ => true
    | .list _ _ _ => true
    | .nils => true
    | _ => false
  | .indexAddr _ x _ => match s.ev x with
    | .list _ _ _ => true
    | _ => false
  | .call c => match c.callee with
    | .builtin .len => match c.args.toList.map s.ev with
      | .view _ _ _ :: _ => false
      | _ => true
    | .builtin .max | .builtin .min => true
    | .value f => (AV.refsL (s.ev f :: c.args.toList.map s.ev)).isEmpty && (AV.ptrsL (s.ev f :: c.args.toList.map s.ev)).isEmpty
    | _ => false
  | _ => false

/-- Operations that read objects, and leave all as it is. -/
def readOp : Op → Bool
  | .load .. | .convert .. | .slice .. | .indexAddr .. => true
  | .call c => match c.callee with
    | .builtin .len => true
    | _ => false
  | _ => false

/-- Operations that make a new object, and leave all others as they are. -/
def allocAt (s : St) : Op → Bool
  | .alloc _ | .box .. | .makeSlice .. => true
  | .call c => match c.callee with
    | .builtin .append => match c.args.toList.map s.ev with
      | [.nils, _] => true
      | [.list _ _ _, _] => true
      | _ => false
    | .value f => (AV.ptrsL (s.ev f :: c.args.toList.map s.ev)).isEmpty
    | _ => false
  | _ => false

mutual
/-- Does no part of a value look into these? -/
def AV.calm (tr : List Nat) : AV → Bool
  | .view r _ _ => !tr.contains r
  | .rptr r _ _ => !tr.contains r
  | .func _ first caps => AV.calmL tr first && AV.calmL tr caps
  | .agg cs => AV.calmL tr cs
  | .tup vs => AV.calmL tr vs
  | _ => true
def AV.calmL (tr : List Nat) : List AV → Bool
  | [] => true
  | v :: vs => AV.calm tr v && AV.calmL tr vs
end

def AO.calm (tr : List Nat) : AO → Bool
  | .box cs => AV.calmL tr cs
  | .bld _ v => AV.calm tr v
  | _ => true

def isBox (hp : List AO) (r : Nat) : Bool := match hp[r]? with | some (.box _) => true | some (.bld _ _) => true | _ => false

/-- A call that is handed boxes alone leaves all else as it is. -/
def callW (s : St) (tr bor : List Nat) : Bool := bor.isEmpty && tr.all (isBox s.hp) && AV.calmL tr s.tm && s.hp.all (AO.calm tr)

/-- The objects that a call is handed. -/
def handedTo (s : St) (l : List AV) : List Nat := reach s.hp s.hp.length (addNew [] (AV.ptrsL l))

/-- Operations that touch objects, and no slot but their own. -/
def writeAt (s : St) : Op → Bool
  | .call c => match c.callee with
    | .value f =>
      let l := s.ev f :: c.args.toList.map s.ev
      callW s (handedTo s l) ((addNew [] (AV.refsL l)).filter fun r => !(handedTo s l).contains r)
    | _ => false
  | .store _ a _ => match s.ev a with
    | .ptr _ _ => true
    | _ => false
  | _ => false

/-- 0: no object bears on it; 1: it reads objects; 2: it makes one; 3: it touches objects; 4: it may touch all. -/
def cls (s : St) (o : Op) : Nat :=
  match pureAt s o with
  | true => 0
  | false => match readOp o with
    | true => 1
    | false => match allocAt s o with
      | true => 2
      | false => match writeAt s o with
        | true => 3
        | false => 4

/-- What an operation of a class reads, or writes. -/
def fpOf (s : St) (o : Op) : Nat → List Nat
  | 1 => AV.refsL (o.operands.toList.map s.ev)
  | 3 => match o with
    | .store _ a _ => AV.refs (s.ev a)
    | .call c => match c.callee with
      | .value f => handedTo s (s.ev f :: c.args.toList.map s.ev)
      | _ => []
    | _ => []
  | _ => []

/-- A call that writes what it is handed, and no more. -/
def callStepW (P : Program) (mode : Mode) (todo : List Item) (s : St) (dst : Option Nat) (fp : List Nat) (f : Nat) (args : List AV) : Step :=
  match callStep P mode todo s dst f args with
  | .call g a h k => match decide (k.tr = fp) && callW s k.tr k.bor with
    | true => .call g a h k
    | false => .fail 20
  | _ => .fail 21

/-- A call that is lent rows at most. -/
def callStepB (P : Program) (ops : Array Oper) (i : Nat) (k : Mk) (todo : List Item) (s : St) (dst : Option Nat) (f : Nat) (args : List AV) : Step :=
  match callStep P (.dbor ops i ⟨k.fl, s.hp.length, k.wr, k.rd⟩) todo s dst f args with
  | .call g a h q => match q.tr with
    | [] => .call g a h q
    | _ => match allowed ops k i [] s.hp.length 4 with
      | true => callStep P (.draw ops (i + 1) (k.add i [] s.hp.length 4)) todo s dst f args
      | false => .fail 22
  | _ => .fail 21

/-- The rest of an operation's step: its effect taken in. -/
def opStep (P : Program) (o : Oper) (mode : Mode) (todo : List Item) (s : St) : Step :=
  match aOp P o s with
  | .val v s' => .next ⟨mode, todo, s'.put o.dst v⟩
  | .need p v s' => .need p ⟨mode, todo, s'.put o.dst v⟩
  | .ask b v1 v2 s' => .cond b ⟨mode, todo, s'.put o.dst v1⟩ ⟨mode, todo, s'.put o.dst v2⟩
  | .enter f args => callStep P mode todo s o.dst f args
  | .fail => .fail 2

/-- The same in a region that draws its order. -/
def opStepD (P : Program) (o : Oper) (ops : Array Oper) (i : Nat) (k : Mk) (c : Nat) (fp : List Nat) (todo : List Item) (s : St) : Step :=
  match aOp P o s with
  | .val v s' => .next ⟨.draw ops (i + 1) (k.add i fp s.hp.length c), todo, s'.put o.dst v⟩
  | .need p v s' => .need p ⟨.draw ops (i + 1) (k.add i fp s.hp.length c), todo, s'.put o.dst v⟩
  | .ask b v1 v2 s' => .cond b ⟨.draw ops (i + 1) (k.add i fp s.hp.length c), todo, s'.put o.dst v1⟩ ⟨.draw ops (i + 1) (k.add i fp s.hp.length c), todo, s'.put o.dst v2⟩
  | .enter f args => match c with
    | 0 => match (AV.refsL args).isEmpty && (AV.ptrsL args).isEmpty with
      | true => callStep P (.dcall ops i ⟨k.fl, s.hp.length, k.wr, k.rd⟩) todo s o.dst f args
      | false => .fail 17
    | 2 => callStepB P ops i k todo s o.dst f args
    | 3 => callStepW P (.draw ops (i + 1) (k.add i fp s.hp.length 3)) todo s o.dst fp f args
    | 4 => callStep P (.draw ops (i + 1) (k.add i fp s.hp.length 4)) todo s o.dst f args
    | _ => .fail 18
  | .fail => .fail 2

/-- An operation with its guard: 'perf' goes on past the guard, 'skip' leaves it out. -/
def guarded (ops : Array Oper) (o : Oper) (s : St) (perf : St → Cfg) (skip : St → Cfg) (now : Step) : Step :=
  match o.guard with
  | none => now
  | some (j, want) => match ops[j]? with
    | none => .fail 3
    | some g => match g.dst with
      | none => .fail 4
      | some d => match s.tm.getD d .junk with
        | .bool b => match want with
          | true => .cond b (perf ⟨s.tm.set d (.bool true), s.hp, s.m⟩) (skip ⟨s.tm.set d (.bool false), s.hp, s.m⟩)
          | false => .cond b (skip ⟨s.tm.set d (.bool true), s.hp, s.m⟩) (perf ⟨s.tm.set d (.bool false), s.hp, s.m⟩)
        | .tup [] => .next (skip s)
        | _ => .fail 5

/-- Are operations that share a slot in order? -/
def slotsOk (ops : Array Oper) : Bool :=
  (List.range ops.size).all fun j => (List.range j).all fun i => match ops[i]?, ops[j]? with
    | some a, some b => Oper.apart ops a b || ((Region.before ops).getD j 0).testBit i
    | _, _ => true

/-- Do the operations of a region stand in an order that every schedule keeps, as far as names go? -/
def drawOk (P : Program) (ops : Array Oper) : Bool := P.follows .mixedOrders && slotsOk ops && afterOk ops
where
  afterOk (ops : Array Oper) : Bool := ops.toList.zipIdx.all fun (o, i) =>
    o.after.all (fun e => decide (e.on < i) || !Region.binds .any e) &&
    match o.guard with
    | none => true
    | some (j, _) => o.after.any (fun e => e.on == j && Region.binds .any e) && ((ops[j]?).bind (·.dst)).isSome

def astep (P : Program) (c : Cfg) : Step :=
  match c.mode with
  | .run => match c.todo with
    | [] => .ret c.s
    | .code .ret :: _ => .ret c.s
    | .code .skip :: k => .next ⟨.run, k, c.s⟩
    | .code (.label _) :: k => .next ⟨.run, k, c.s⟩
    | .inBlock _ :: k => .next ⟨.run, k, c.s⟩
    | .inScope _ :: k => .next ⟨.run, k, c.s⟩
    | .code (.seq a b) :: k => .next ⟨.run, .code a :: .code b :: k, c.s⟩
    | .code (.cond o t e) :: k => match c.s.ev o with
      | .bool b => .cond b ⟨.run, .code t :: k, c.s.said o true⟩ ⟨.run, .code e :: k, c.s.said o false⟩
      | .maybe p => .both p ⟨.run, .code t :: k, c.s⟩ ⟨.run, .code e :: k, c.s⟩
      | _ => .fail 6
    | .code (.block id b) :: k => .next ⟨.run, .code b :: .inBlock id :: k, c.s⟩
    | .code (.loop b) :: k => .loop ⟨.run, .code b :: .inLoop b :: k, c.s⟩
    | .inLoop b :: k => .loop ⟨.run, .code b :: .inLoop b :: k, c.s⟩
    | .code (.scope b) :: k => .next ⟨.run, .code b :: .inScope b :: k, c.s⟩
    | .code (.exit id) :: k => match exitTo id k with
      | some k' => .next ⟨.run, k', c.s⟩
      | none => .fail 7
    | .code (.goto l) :: k => match gotoIn l k with
      | some k' => .next ⟨.run, k', c.s⟩
      | none => .fail 8
    | .code (.region _ ops false) :: k => .next ⟨.run, .inRegion ops (List.range ops.size) :: k, c.s⟩
    | .code (.region _ ops true) :: k => match drawOk P ops with
      | true => .next ⟨.draw ops 0 Mk.none, k, c.s⟩
      | false => .fail 9
    | .inRegion _ [] :: k => .next ⟨.run, k, c.s⟩
    | .inRegion ops (i :: r) :: k => match ops[i]? with
      | none => .fail 10
      | some o => guarded ops o c.s (fun s => ⟨.perf, .inRegion ops (i :: r) :: k, s⟩) (fun s => ⟨.run, .inRegion ops r :: k, s.put o.dst (.tup [])⟩)
          (opStep P o .run (.inRegion ops r :: k) c.s)
    | _ => .fail 11
  | .perf => match c.todo with
    | .inRegion ops (i :: r) :: k => match ops[i]? with
      | none => .fail 12
      | some o => opStep P o .run (.inRegion ops r :: k) c.s
    | _ => .fail 13
  | .draw ops i k => match ops[i]? with
    | none => .next ⟨.run, c.todo, c.s⟩
    | some o => match allowed ops k i (fpOf c.s o.op (cls c.s o.op)) c.s.hp.length (cls c.s o.op) with
      | false => .fail 14
      | true => guarded ops o c.s (fun s => ⟨.dperf ops i k, c.todo, s⟩) (fun s => ⟨.draw ops (i + 1) (k.add i (fpOf c.s o.op (cls c.s o.op)) c.s.hp.length (cls c.s o.op)), c.todo, s.put o.dst (.tup [])⟩)
          (opStepD P o ops i k (cls c.s o.op) (fpOf c.s o.op (cls c.s o.op)) c.todo c.s)
  | .dperf ops i k => match ops[i]? with
    | none => .fail 15
    | some o => opStepD P o ops i k (cls c.s o.op) (fpOf c.s o.op (cls c.s o.op)) c.todo c.s
  | .dcall _ _ _ => .fail 19
  | .dbor _ _ _ => .fail 19

def isRun : Mode → Bool
  | .run => true
  | _ => false

/-- Steps taken as long as nothing is asked, and no further than to a todo of d items. -/
def runTo (P : Program) (d : Nat) : Nat → Cfg → Step
  | 0, c => .next c
  | n + 1, c => match isRun c.mode && Nat.ble c.todo.length d with
    | true => .next c
    | false => match astep P c with
      | .next c' => runTo P d n c'
      | r => r

/-! ### a function's beginning and end -/

def argsOf (fn : Func) (args : List AV) : List AV := args ++ List.replicate (fn.ntmps - args.length) (.tup [])

def startCfg (P : Program) (f : Nat) (args : List AV) (hin : List AO) : Cfg :=
  match P.funcs[f]? with
  | some fn => match fn.body with
    | some c => ⟨.run, [.code c], ⟨argsOf fn args, hin, hin.length⟩⟩
    | none => ⟨.perf, [], ⟨[], [], 0⟩⟩
  | none => ⟨.perf, [], ⟨[], [], 0⟩⟩

def resultVar (P : Program) (s : St) : ResultVar → Option AV
  | .tmp t => some (s.tm.getD t .junk)
  | .cell a t => match aLoad P t (s.tm.getD a .junk) s with
    | .val v _ => some v
    | _ => none

def allSome {α : Type} : List (Option α) → Option (List α)
  | [] => some []
  | none :: _ => none
  | some x :: r => match allSome r with
    | some xs => some (x :: xs)
    | none => none

/-- Views that do not begin where their row does, and those inside structs: they end as lists. -/
def loose : AV → List Nat
  | .view _ 0 _ => []
  | .view r _ _ => [r]
  | v => (AV.refs v).filter fun r => !(AV.ptrs v).contains r

/-- A nil slice among the results becomes an own, empty list. -/
def ownNil (P : Program) : List TypeId → List AV → List AO → List AV × List AO
  | t :: ts, .nils :: vs, hp => match P.underlying t with
    | some (.slice e) => match tyOf P 60 e with
      | some ty => let r := ownNil P ts vs (hp ++ [.row ty []]); (.view hp.length 0 none :: r.1, r.2)
      | none => let r := ownNil P ts vs hp; (.nils :: r.1, r.2)
    | _ => let r := ownNil P ts vs hp; (.nils :: r.1, r.2)
  | _ :: ts, .view n lo hi :: vs, hp => let r := ownNil P ts vs hp; (.view n lo hi :: r.1, r.2)
  | t :: ts, v :: vs, hp => let r := ownNil P ts vs hp; (canon P t v :: r.1, r.2)
  | _, vs, hp => (vs, hp)

/-- How often a row is named. -/
def countRef (r : Nat) (l : List Nat) : Nat := (l.filter fun x => decide (x = r)).length

/-- Rows that one view alone names are cut to that view. -/
def trimRow (hp : List AO) (r h : Nat) : List AO :=
  match hp[r]? with
  | some (.row t l) => hp.set r (.row t (l.take h))
  | _ => hp

def trimAll : List AV → List Nat → List AO → List AV × List AO
  | [], _, hp => ([], hp)
  | .view r 0 (some h) :: vs, all, hp =>
    if countRef r all = 1 ∧ isRow hp r then let q := trimAll vs all (trimRow hp r h); (.view r 0 none :: q.1, q.2)
    else let q := trimAll vs all hp; (.view r 0 (some h) :: q.1, q.2)
  | v :: vs, all, hp => let q := trimAll vs all hp; (v :: q.1, q.2)

/-- Objects renumbered; what is not kept is dropped. -/
def gRen (keep : List Nat) : AV → AV
  | .ptr r off => match idxIn r keep 0 with | some j => .ptr j off | none => .junk
  | .rptr r i off => match idxIn r keep 0 with | some j => .rptr j i off | none => .junk
  | .view r lo hi => match idxIn r keep 0 with | some j => .view j lo hi | none => .junk
  | v => v

def keepObjs (keep : List Nat) (hp : List AO) : List AO := keep.map fun r => AO.sub (gRen keep) (hp.getD r .dead)

/-- Lists in one form: no claim on what is behind them. -/
def unfull : AV → AV
  | .list t l _ => .list t l false
  | v => v

/-- Objects that nobody names dropped, the others renumbered, rows cut to their one view. -/
def pack (m : Nat) (vs : List AV) (hp : List AO) : List AV × List AO :=
  let ks := reach hp hp.length (addNew (List.range m) (AV.refsL vs))
  let vs1 := AV.subL (gRen ks) vs
  let hp1 := keepObjs ks hp
  trimAll vs1 (AV.refsL vs1 ++ hp1.flatMap AO.refs) hp1

def tupOf : List AV → AV
  | [v] => v
  | vs => .tup vs

def finish (P : Program) (f : Nat) (s : St) : Option (AV × List AO) :=
  match P.funcs[f]? with
  | none => none
  | some fn => match allSome (fn.results.toList.map (resultVar P s)) with
    | none => none
    | some vs =>
      let fz := addNew [] (vs.flatMap loose)
      let s1 := s.freeze fz
      let vs1 := AV.subL (gFreeze s.hp fz) vs
      let q := ownNil P fn.resultTypes.toList (vs1.map unfull) s1.hp
      let z := pack s.m q.1 q.2
      some (tupOf z.1, z.2)

/-! ### cuts -/

inductive Co where
  | own (t : Nat) (ty : Ty)
  | list (t : Nat) (ty : Ty)
  | free (t : Nat)

def coerce1 (s : St) : Co → St
  | .own t ty => match s.tm.getD t .junk with
    | .nils => ⟨s.tm.set t (.view s.hp.length 0 none), s.hp ++ [.row ty []], s.m⟩
    | _ => s
  | .list t ty => match s.tm.getD t .junk with
    | .nils => ⟨s.tm.set t (.list ty [] false), s.hp, s.m⟩
    | .list ty' l _ => ⟨s.tm.set t (.list ty' l false), s.hp, s.m⟩
    | .view r _ _ => s.freeze [r]
    | _ => s
  | .free t => s.freeze (AV.refs (s.tm.getD t .junk))

def killTm (keep : List Nat) : Nat → List AV → List AV
  | _, [] => []
  | i, v :: vs => (if keep.contains i then v else .junk) :: killTm keep (i + 1) vs

/-- The state in one form: dead slots dropped, rows cut to their one view, objects renumbered. -/
def St.cut (co : List Co) (keep : List Nat) (s : St) : St :=
  let s := co.foldl coerce1 s
  let q := pack s.m (killTm keep 0 s.tm) s.hp
  ⟨q.1, q.2, s.m⟩

def Cfg.cut (co : List Co) (keep : List Nat) (c : Cfg) : Cfg := ⟨c.mode, c.todo, c.s.cut co keep⟩

/-! ### parts of a step, by name -/

def noCfg : Cfg := ⟨.perf, [], ⟨[], [], 0⟩⟩
def Step.cfg : Step → Cfg
  | .next c => c
  | .need _ c => c
  | .loop c => c
  | .cond _ c _ => c
  | .both _ c _ => c
  | _ => noCfg
def Step.cfg2 : Step → Cfg
  | .cond _ _ c => c
  | .both _ _ c => c
  | _ => noCfg
def Step.site : Step → Site
  | .call _ _ _ k => k
  | _ => ⟨.perf, [], ⟨[], [], 0⟩, none, [], []⟩
def Step.condOf : Step → Option Bool
  | .cond b _ _ => some b
  | _ => none
def Step.bothOf : Step → Option Bool
  | .both p _ _ => some p
  | _ => none
def Step.needOf : Step → Option Prop
  | .need p _ => some p
  | _ => none
def Step.callOf : Step → Option (Nat × List AV × List AO)
  | .call f a h _ => some (f, a, h)
  | _ => none
def Step.retOf (P : Program) (f : Nat) : Step → Option (AV × List AO)
  | .ret s => finish P f s
  | _ => none
/-- Where a run may be cut: at a loop's head, and where it has stopped. -/
def Step.cutOf (co : List Co) (keep : List Nat) : Step → Option Cfg
  | .next c => match isRun c.mode with | true => some (c.cut co keep) | false => none
  | .loop c => match isRun c.mode with | true => some (c.cut co keep) | false => none
  | _ => none
def Site.calmB (k : Site) (res : AV) (hout : List AO) : Bool :=
  match k.mode with
  | .dcall ops i m => Nat.beq (callCls res hout) 0 || allowed ops m i [] 0 (callCls res hout)
  | .dbor ops i m => Nat.beq (borCls res hout) 2 || allowed ops m i [] 0 4
  | _ => true

/-- The todo at the head of a function's n-th loop, in the order of the text. -/
def loopTodo : Code → List Item → Nat → Nat ⊕ List Item
  | .seq a b, k, n => match loopTodo a (.code b :: k) n with
    | .inr t => .inr t
    | .inl n' => loopTodo b k n'
  | .cond _ a b, k, n => match loopTodo a k n with
    | .inr t => .inr t
    | .inl n' => loopTodo b k n'
  | .block id b, k, n => loopTodo b (.inBlock id :: k) n
  | .loop b, k, 0 => .inr (.code b :: .inLoop b :: k)
  | .loop b, k, n + 1 => loopTodo b (.inLoop b :: k) n
  | .scope b, k, n => loopTodo b (.inScope b :: k) n
  | _, _, n => .inl n

def headTodo (P : Program) (f n : Nat) : List Item :=
  match P.funcs[f]? with
  | some fn => match fn.body with
    | some c => match loopTodo c [] n with
      | .inr t => t
      | .inl _ => []
    | none => []
  | none => []

end Go.Cellar

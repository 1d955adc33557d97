/- The abstract machine's definitions: values, objects, and one step of a function's own code over them. No condition. -/
import Derived.Calls
namespace Go.Cellar
open Go

/-- Codes of plain data. -/
inductive Ty where
  | int (k : IntKind) | bool | str | list (t : Ty) | prod (a b : Ty) | one (a : Ty)
  deriving DecidableEq, Inhabited

/-- What a code stands for. -/
@[reducible] def Ty.T : Ty → Type
  | .int _ => Int
  | .bool => Bool
  | .str => List UInt8
  | .list t => List t.T
  | .prod a b => a.T × b.T
  | .one a => a.T

def Ty.size : Ty → Nat
  | .prod a b => a.size + b.size
  | .one a => a.size
  | _ => 1

def Ty.isAgg : Ty → Bool
  | .prod _ _ | .one _ => true
  | _ => false

def Ty.dflt : (t : Ty) → t.T
  | .int _ => (0 : Int)
  | .bool => false
  | .str => ([] : List UInt8)
  | .list _ => []
  | .prod a b => (a.dflt, b.dflt)
  | .one a => a.dflt

/-- Abstract values. -/
inductive AV where
  | junk
  | int (k : IntKind) (n : Int)
  | bool (b : Bool)
  | str (s : List UInt8)
  | list (t : Ty) (l : List t.T) (full : Bool)
  | nils
  | view (r lo : Nat) (hi : Option Nat)
  | ptr (r off : Nat)
  | rptr (r i off : Nat)
  | iptr (cs : List AV)
  | nilp
  | func (fn : Fn) (first caps : List AV)
  | nilf
  | nili
  | maybe (p : Bool)
  | agg (cs : List AV)
  | tup (vs : List AV)

instance : Inhabited AV := ⟨.junk⟩

/-- Abstract objects: a dropped one, a row of cells, an own list, an own array; a strings.Builder, and its buffer. -/
inductive AO where
  | dead
  | box (cs : List AV)
  | row (t : Ty) (l : List t.T)
  | arr (t : Ty) (l : List t.T)
  | bld (T : Nat) (v : AV)
  | buf (e : Nat) (l : List UInt8)

/-- A function's state: its temporaries, its objects, how many of these were handed in. -/
structure St where
  tm : List AV
  hp : List AO
  m : Nat

def Ty.cells : (t : Ty) → t.T → List AV
  | .int k, n => [.int k n]
  | .bool, b => [.bool b]
  | .str, s => [.str s]
  | .list t, l => [.list t l false]
  | .prod a b, x => a.cells x.1 ++ b.cells x.2
  | .one a, x => a.cells x

def Ty.av (t : Ty) (x : t.T) : AV :=
  match t.isAgg with
  | true => .agg (t.cells x)
  | false => match t.cells x with
    | [v] => v
    | _ => .junk

def AV.cells : AV → List AV
  | .agg cs => cs
  | v => [v]

def takeInt (k : IntKind) : List AV → Option (Int × List AV)
  | .int k' n :: r => if k = k' then some (n, r) else none
  | _ => none
def takeBool : List AV → Option (Bool × List AV)
  | .bool b :: r => some (b, r)
  | _ => none
def takeStr : List AV → Option (List UInt8 × List AV)
  | .str s :: r => some (s, r)
  | _ => none
def takeList (t : Ty) : List AV → Option (List t.T × List AV)
  | .list t' l _ :: r => if h : t' = t then some (h ▸ l, r) else none
  | .nils :: r => some ([], r)
  | _ => none

/-- Cells read as data of a code; what is left of them. -/
def Ty.take : (t : Ty) → List AV → Option (t.T × List AV)
  | .int k, cs => takeInt k cs
  | .bool, cs => takeBool cs
  | .str, cs => takeStr cs
  | .list t, cs => takeList t cs
  | .prod a b, cs => match a.take cs with
    | some (x, r) => match b.take r with
      | some (y, r') => some ((x, y), r')
      | none => none
    | none => none
  | .one a, cs => a.take cs

/-- Are a value's cells known to be just these? -/
def AV.solid : AV → Bool
  | .junk => false
  | .tup _ => false
  | _ => true

/-- Is it one cell for sure? -/
def AV.one : AV → Bool
  | .junk => false
  | .tup _ => false
  | .agg _ => false
  | _ => true

def AV.isAgg : AV → Bool
  | .agg _ => true
  | _ => false

def Ty.of (t : Ty) (v : AV) : Option t.T :=
  match v.solid with
  | true => match t.take v.cells with
    | some (x, []) => some x
    | _ => none
  | false => none

/-- The code of an array of so many. -/
def arrRest (a : Ty) : Nat → Ty
  | 0 => a
  | n + 1 => .prod a (arrRest a n)
def arrTy (a : Ty) : Nat → Option Ty
  | 0 => none
  | 1 => some (.one a)
  | n + 2 => match Nat.ble n 4 with
    | true => some (.prod a (arrRest a n))
    | false => none

/-- The code of a Go type, where it has one. -/
def tyOf (P : Program) : Nat → TypeId → Option Ty
  | 0, _ => none
  | n + 1, t => match P.underlying t with
    | some (.int k) => some (.int k)
    | some .bool => some .bool
    | some .string => some .str
    | some (.slice e) => (tyOf P n e).map .list
    | some (.array k e) => match tyOf P n e with
      | some a => arrTy a k
      | none => none
    | some (.struct fs) => go P n (fs.toList.map (·.type))
    | _ => none
where
  go (P : Program) : Nat → List TypeId → Option Ty
    | 0, _ => none
    | _, [] => none
    | n + 1, [t] => (tyOf P n t).map .one
    | n + 1, t :: ts => match tyOf P n t, chain P n ts with
      | some a, some b => some (.prod a b)
      | _, _ => none
  chain (P : Program) : Nat → List TypeId → Option Ty
    | 0, _ => none
    | _, [] => none
    | n + 1, [t] => tyOf P n t
    | n + 1, t :: ts => match tyOf P n t, chain P n ts with
      | some a, some b => some (.prod a b)
      | _, _ => none

/-! ### references inside values -/

mutual
/-- Each reference leaf replaced. -/
def AV.sub (g : AV → AV) : AV → AV
  | .view r lo hi => g (.view r lo hi)
  | .ptr r off => g (.ptr r off)
  | .rptr r i off => g (.rptr r i off)
  | .func fn first caps => .func fn (AV.subL g first) (AV.subL g caps)
  | .agg cs => .agg (AV.subL g cs)
  | .tup vs => .tup (AV.subL g vs)
  | v => v
def AV.subL (g : AV → AV) : List AV → List AV
  | [] => []
  | v :: vs => AV.sub g v :: AV.subL g vs
end

def AO.sub (g : AV → AV) : AO → AO
  | .box cs => .box (AV.subL g cs)
  | .bld T v => .bld T (AV.sub g v)
  | o => o

mutual
/-- The objects that a value names. -/
def AV.refs : AV → List Nat
  | .view r _ _ => [r]
  | .ptr r _ => [r]
  | .rptr r _ _ => [r]
  | .func _ first caps => AV.refsL first ++ AV.refsL caps
  | .agg cs => AV.refsL cs
  | .tup vs => AV.refsL vs
  | _ => []
def AV.refsL : List AV → List Nat
  | [] => []
  | v :: vs => AV.refs v ++ AV.refsL vs
end

def AO.refs : AO → List Nat
  | .box cs => AV.refsL cs
  | .bld _ v => AV.refs v
  | _ => []

def Ty.hasList : Ty → Bool
  | .list _ => true
  | .prod a b => a.hasList || b.hasList
  | .one a => a.hasList
  | _ => false

mutual
/-- May a value hold a list that somebody else made? -/
def AV.lists : AV → Bool
  | .list _ _ _ => true
  | .iptr _ => true
  | .func _ first caps => AV.listsL first || AV.listsL caps
  | .agg cs => AV.listsL cs
  | .tup vs => AV.listsL vs
  | _ => false
def AV.listsL : List AV → Bool
  | [] => false
  | v :: vs => AV.lists v || AV.listsL vs
end

def AO.lists : AO → Bool
  | .box cs => AV.listsL cs
  | .row t _ => t.hasList
  | .arr t _ => t.hasList
  | .bld _ v => AV.lists v
  | .buf _ _ => false
  | .dead => false

/-- What a view shows of its row. -/
def part {α : Type} (l : List α) (lo : Nat) : Option Nat → List α
  | none => l.drop lo
  | some h => (l.take h).drop lo

def upTo {α : Type} (l : List α) : Option Nat → List α
  | none => l
  | some h => l.take h

/-- A view's list, as it now is. -/
def viewList (hp : List AO) (r lo : Nat) (hi : Option Nat) : AV :=
  match hp[r]? with
  | some (.row t l) => .list t (part l lo hi) false
  | some (.arr t l) => .list t (part l lo hi) false
  | _ => .junk

/-- The same of an own list alone. -/
def rowList (hp : List AO) (r lo : Nat) (hi : Option Nat) : AV :=
  match hp[r]? with
  | some (.row t l) => .list t (part l lo hi) false
  | _ => .junk

/-- Views of r (and pointers into it) are dropped. -/
def gPurge (r : Nat) : AV → AV
  | .view r' lo hi => if r' = r then .junk else .view r' lo hi
  | .rptr r' i off => if r' = r then .junk else .rptr r' i off
  | .ptr r' off => if r' = r then .junk else .ptr r' off
  | v => v

def isRow (hp : List AO) (r : Nat) : Bool := match hp[r]? with | some (.row _ _) => true | _ => false

/-- Views of some rows become lists for good; pointers into them are dropped. -/
def gFreeze (hp : List AO) (rs : List Nat) : AV → AV
  | .view r lo hi => if rs.contains r && isRow hp r then rowList hp r lo hi else .view r lo hi
  | .rptr r i off => if rs.contains r && isRow hp r then .junk else .rptr r i off
  | .ptr r off => if rs.contains r && isRow hp r then .junk else .ptr r off
  | v => v

def St.mapv (g : AV → AV) (s : St) : St := ⟨AV.subL g s.tm, s.hp.map (AO.sub g), s.m⟩

def killObjs (rs : List Nat) : Nat → List AO → List AO
  | _, [] => []
  | i, .row t l :: os => (if rs.contains i then .dead else .row t l) :: killObjs rs (i + 1) os
  | i, o :: os => o :: killObjs rs (i + 1) os

def St.freeze (rs : List Nat) (s : St) : St :=
  let s' := s.mapv (gFreeze s.hp rs)
  ⟨s'.tm, killObjs rs 0 s'.hp, s'.m⟩

/-! ### operands and pure operations -/

def ofConst1 : Value → AV
  | .bool b => .bool b
  | .int k n => .int k n
  | .string s => .str s.data.toList
  | .slice none 0 0 => .nils
  | .pointer none => .nilp
  | .nilFunc => .nilf
  | .nilIface => .nili
  | _ => .junk

def ofConst : Value → AV
  | .agg cs => .agg (cs.toList.map ofConst1)
  | .tuple vs => if vs.isEmpty then .junk else .junk
  | v => ofConst1 v

def St.ev (s : St) : Operand → AV
  | .tmp t => s.tm.getD t .junk
  | .const v => ofConst v
  | .global _ => .junk
  | .func f => .func (.func f) [] []

/-- What an operation comes to. -/
inductive Eff where
  | val (v : AV) (s : St)
  | need (p : Prop) (v : AV) (s : St)
  | ask (b : Bool) (v1 v2 : AV) (s : St)
  | enter (f : Nat) (args : List AV)
  | fail

def isAggT (P : Program) (t : TypeId) : Bool :=
  match P.underlying t with
  | some (.struct _) | some (.array _ _) => true
  | _ => false

def sizeT (P : Program) (t : TypeId) : Nat := match P.info? t with | some i => i.size | none => 0
/-- Is a type's value told by its cells? -/
def fitsT (P : Program) (t : TypeId) : Bool := (P.underlying t).isSome && (P.info? t).isSome && (isAggT P t || sizeT P t == 1)
def bytesT (P : Program) (t : TypeId) : Nat := match P.info? t with | some i => i.bytes | none => 0

/-- '==' of two values of a type, cell by cell, as the machine asks it; none: not told here. -/
def eqT (P : Program) : Nat → TypeId → List AV → List AV → Option Bool
  | 0, _, _, _ => none
  | n + 1, t, xs, ys => match P.underlying t, xs, ys with
    | some .bool, [.bool a], [.bool b] => some (decide (a = b))
    | some (.int _), [.int k a], [.int k' b] => if k = k' then some (decide (a = b)) else none
    | some .string, [.str a], [.str b] => some (decide (a = b))
    | some (.struct fs), xs, ys => if P.stoodInHeld t then none else go P n fs.toList xs ys
    | _, _, _ => none
where
  go (P : Program) : Nat → List Field → List AV → List AV → Option Bool
    | 0, _, _, _ => none
    | _, [], _, _ => some true
    | n + 1, f :: fs, xs, ys =>
      if f.name = "_" then go P n fs xs ys else
      if f.offset + sizeT P f.type ≤ xs.length ∧ f.offset + sizeT P f.type ≤ ys.length ∧ fitsT P f.type then
        match eqT P n f.type ((xs.drop f.offset).take (sizeT P f.type)) ((ys.drop f.offset).take (sizeT P f.type)) with
        | none => none
        | some r => match fs with
          | [] => some r
          | _ => (go P n fs xs ys).map fun q => r && q
      else none

def isBoolT (P : Program) (t : TypeId) : Bool := match P.underlying t with | some .bool => true | _ => false
def isStructT (P : Program) (t : TypeId) : Bool := match P.underlying t with | some (.struct _) => true | _ => false

def aBinInt (op : BinOp) (k : IntKind) (a : Int) (k' : IntKind) (b : Int) (s : St) : Eff :=
  match op with
  | .shl => .need (0 ≤ b) (.int k (k.wrap (a * 2 ^ (min b.toNat k.bits)))) s
  | .shr => .need (0 ≤ b) (.int k (a.fdiv (2 ^ (min b.toNat k.bits)))) s
  | op => if k = k' then
      match op with
      | .add => .val (.int k (k.wrap (a + b))) s
      | .sub => .val (.int k (k.wrap (a - b))) s
      | .mul => .val (.int k (k.wrap (a * b))) s
      | .quo => .need (b ≠ 0) (.int k (k.wrap (a.tdiv b))) s
      | .rem => .need (b ≠ 0) (.int k (a.tmod b)) s
      | .and => .val (.int k (k.wrap (BitVec.ofInt k.bits a &&& BitVec.ofInt k.bits b).toNat)) s
      | .or => .val (.int k (k.wrap (BitVec.ofInt k.bits a ||| BitVec.ofInt k.bits b).toNat)) s
      | .xor => .val (.int k (k.wrap (BitVec.ofInt k.bits a ^^^ BitVec.ofInt k.bits b).toNat)) s
      | .andNot => .val (.int k (k.wrap (BitVec.ofInt k.bits a &&& ~~~ BitVec.ofInt k.bits b).toNat)) s
      | .eql => .val (.bool (decide (a = b))) s
      | .neq => .val (.bool (!decide (a = b))) s
      | .lss => .val (.bool (decide (a < b))) s
      | .leq => .val (.bool (decide (a ≤ b))) s
      | .gtr => .val (.bool (decide (b < a))) s
      | .geq => .val (.bool (decide (b ≤ a))) s
      | _ => .fail
    else .fail

def aBinStr (op : BinOp) (a b : List UInt8) (s : St) : Eff :=
  match op with
  | .add => .need (a.length + b.length ≤ 140737488355328) (.str (a ++ b)) s
  | .eql => .val (.bool (decide (a = b))) s
  | .neq => .val (.bool (!decide (a = b))) s
  | .lss => .val (.bool (Op.bytesLess a b)) s
  | .leq => .val (.bool (Op.bytesLess a b || decide (a = b))) s
  | .gtr => .val (.bool (!(Op.bytesLess a b || decide (a = b)))) s
  | .geq => .val (.bool (!Op.bytesLess a b)) s
  | _ => .fail

def aBinBool (P : Program) (op : BinOp) (t : TypeId) (a b : Bool) (s : St) : Eff :=
  match op with
  | .eql => if isBoolT P t then .val (.bool (decide (a = b))) s else .fail
  | .neq => if isBoolT P t then .val (.bool (!decide (a = b))) s else .fail
  | _ => .fail

def aBinAgg (P : Program) (op : BinOp) (t : TypeId) (a b : List AV) (s : St) : Eff :=
  match op with
  | .eql => if isStructT P t ∧ P.eqGuardType P.depth t = false then (match eqT P 40 t a b with | some r => .val (.bool r) s | none => .fail) else .fail
  | .neq => if isStructT P t ∧ P.eqGuardType P.depth t = false then (match eqT P 40 t a b with | some r => .val (.bool (!r)) s | none => .fail) else .fail
  | _ => .fail

def isSliceT (P : Program) (t : TypeId) : Bool := match P.underlying t with | some (.slice _) => true | _ => false
def isPtrT (P : Program) (t : TypeId) : Bool := match P.underlying t with | some (.pointer _) => true | _ => false
def isFuncT (P : Program) (t : TypeId) : Bool := match P.underlying t with | some (.func _ _ _) => true | _ => false

/-- A value against nil: 'b' tells whether it is. -/
def aNilEq (ok : Bool) (op : BinOp) (b : Bool) (s : St) : Eff :=
  match ok, op with
  | true, .eql => .val (.bool b) s
  | true, .neq => .val (.bool (!b)) s
  | _, _ => .fail

/-- A list against nil: it may be, where it is empty. -/
def aListNil (ok : Bool) (op : BinOp) (b : Bool) (s : St) : Eff :=
  match ok, op with
  | true, .eql => .val (.maybe b) s
  | _, _ => .fail

def aBin (P : Program) (op : BinOp) (t : TypeId) (x y : AV) (s : St) : Eff :=
  match x, y with
  | .int k a, .int k' b => aBinInt op k a k' b s
  | .str a, .str b => aBinStr op a b s
  | .bool a, .bool b => aBinBool P op t a b s
  | .agg a, .agg b => aBinAgg P op t a b s
  | .list _ l _, .nils => aListNil (isSliceT P t) op l.isEmpty s
  | .nils, .nils => aNilEq (isSliceT P t) op true s
  | .nilp, .nilp => aNilEq (isPtrT P t) op true s
  | .ptr _ _, .nilp => aNilEq (isPtrT P t) op false s
  | .rptr _ _ _, .nilp => aNilEq (isPtrT P t) op false s
  | .nilf, .nilf => aNilEq (isFuncT P t) op true s
  | .func _ _ _, .nilf => aNilEq (isFuncT P t) op false s
  | _, _ => .fail

def aUn (op : UnOp) (x : AV) (s : St) : Eff :=
  match op, x with
  | .neg, .int k n => .val (.int k (k.wrap (0 - n))) s
  | .xor, .int k n => .val (.int k (k.wrap (BitVec.ofInt k.bits (if k.signed then -1 else k.max) ^^^ BitVec.ofInt k.bits n).toNat)) s
  | .not, .bool b => .val (.bool (!b)) s
  | _, _ => .fail

/-! ### memory -/

/-- The zero value's cells, their kinds told by the type where a nil slice stands. -/
def zeroCells1 (P : Program) (t : TypeId) : Option (List AV) :=
  match P.info? t with
  | some i => match i.zero with
    | some v => some (v.cells.toList.map ofConst1)
    | none => none
  | none => none

def mkVal (P : Program) (t : TypeId) (cs : List AV) : AV :=
  match isAggT P t with
  | true => .agg cs
  | false => cs.headD .junk

def dfltInt (k : IntKind) : List Value → Option (List Value)
  | .int k' n :: r => if k = k' ∧ n = 0 then some r else none
  | _ => none
def dfltBool : List Value → Option (List Value)
  | .bool b :: r => match b with
    | true => none
    | false => some r
  | _ => none
def dfltStr : List Value → Option (List Value)
  | .string s :: r => if s.data.toList.isEmpty then some r else none
  | _ => none
def dfltList : List Value → Option (List Value)
  | .slice none 0 0 :: r => some r
  | _ => none

/-- Are these cells the zero of a code? -/
def dfltOk : Ty → List Value → Option (List Value)
  | .int k, vs => dfltInt k vs
  | .bool, vs => dfltBool vs
  | .str, vs => dfltStr vs
  | .list _, vs => dfltList vs
  | .prod a b, vs => match dfltOk a vs with
    | some r => dfltOk b r
    | none => none
  | .one a, vs => dfltOk a vs

def zeroIs (P : Program) (e : TypeId) (ty : Ty) : Bool :=
  match P.info? e with
  | some i => match i.zero with
    | some v => match dfltOk ty v.cells.toList with
      | some [] => true
      | _ => false
    | none => false
  | none => false

/-- n times the zero of a code. -/
def dfltsOk (ty : Ty) : Nat → List Value → Bool
  | 0, vs => vs.isEmpty
  | n + 1, vs => match dfltOk ty vs with
    | some r => dfltsOk ty n r
    | none => false

def zeroArr (P : Program) (t : TypeId) (n : Nat) (ty : Ty) : Bool :=
  match P.info? t with
  | some i => match i.zero with
    | some v => dfltsOk ty n v.cells.toList
    | none => false
  | none => false

/-- Is it strings.Builder, by its fields? Its buffer's elements' type. -/
def bldOf (P : Program) (t : TypeId) : List Field → Option Nat
  | [a, b] => match a.name == "addr" && b.name == "buf" with
    | true => match P.underlying b.type, P.info? t with
      | some (.slice e), some i => match i.zero with
        | some z => match z.cells.toList with
          | [.pointer none, .slice none 0 0] => some e
          | _ => none
        | none => none
      | _, _ => none
    | false => none
  | _ => none

def aAlloc (P : Program) (t : TypeId) (s : St) : Eff :=
  match P.underlying t with
  | some (.array n e) => match tyOf P 60 e with
    | some ty => if ty.size = sizeT P e ∧ n * ty.size ≤ 4096 ∧ zeroArr P t n ty then .val (.ptr s.hp.length 0) ⟨s.tm, s.hp ++ [.arr ty (List.replicate n ty.dflt)], s.m⟩ else .fail
    | none => .fail
  | some (.struct fs) => match bldOf P t fs.toList with
    | some e => .val (.ptr (s.hp.length + 1) 0) ⟨s.tm, s.hp ++ [.buf e [], .bld t (.view s.hp.length 0 none)], s.m⟩
    | none => match zeroCells1 P t with
      | some cs => .val (.ptr s.hp.length 0) ⟨s.tm, s.hp ++ [.box cs], s.m⟩
      | none => .fail
  | _ => match zeroCells1 P t with
    | some cs => .val (.ptr s.hp.length 0) ⟨s.tm, s.hp ++ [.box cs], s.m⟩
    | none => .fail

def aBox (v : AV) (s : St) : Eff := if v.solid = false then .fail else .val (.ptr s.hp.length 0) ⟨s.tm, s.hp ++ [.box v.cells], s.m⟩

def aLoad (P : Program) (t : TypeId) (a : AV) (s : St) : Eff :=
  match a with
  | .ptr r off => match s.hp[r]? with
    | some (.box cs) => if off + sizeT P t ≤ cs.length ∧ fitsT P t then .val (mkVal P t ((cs.drop off).take (sizeT P t))) s else .fail
    | _ => .fail
  | .iptr cs => if sizeT P t ≤ cs.length ∧ fitsT P t then .val (mkVal P t (cs.take (sizeT P t))) s else .fail
  | .rptr r i off => match s.hp[r]? with
    | some (.row ty l) => if off + sizeT P t ≤ ty.size ∧ fitsT P t then .need (i < l.length) (mkVal P t (((ty.cells (l.getD i ty.dflt)).drop off).take (sizeT P t))) s else .fail
    | some (.arr ty l) => if off + sizeT P t ≤ ty.size ∧ fitsT P t then .need (i < l.length) (mkVal P t (((ty.cells (l.getD i ty.dflt)).drop off).take (sizeT P t))) s else .fail
    | _ => .fail
  | _ => .fail

/-- Cells written from a place on. -/
def putCells (cs : List AV) (off : Nat) (vs : List AV) : List AV := cs.take off ++ vs ++ cs.drop (off + vs.length)

/-- What a value may be stored as into an own list's element: views become lists first. -/
def aStore (P : Program) (t : TypeId) (a v : AV) (s : St) : Eff :=
  match a with
  | .ptr r off => match s.hp[r]? with
    | some (.box cs) => if v.solid = true ∧ v.cells.all AV.one = true ∧ v.cells.length = sizeT P t ∧ off + sizeT P t ≤ cs.length ∧ sizeT P t ≠ 0 then .val .junk ⟨s.tm, s.hp.set r (.box (putCells cs off v.cells)), s.m⟩ else .fail
    | _ => .fail
  | .rptr r i off =>
    if v.solid = false then .fail else
    let v' := AV.sub (gFreeze s.hp v.refs) v
    let s := s.freeze (v.refs)
    let v := v'
    match s.hp[r]? with
    | some (.row ty l) =>
      if v.solid = true ∧ v.cells.length = sizeT P t ∧ off + sizeT P t ≤ ty.size ∧ sizeT P t ≠ 0 then
        match ty.take (putCells (ty.cells (l.getD i ty.dflt)) off v.cells) with
        | some (x, []) => .need (i < l.length) .junk ⟨s.tm, s.hp.set r (.row ty (l.set i x)), s.m⟩
        | _ => .fail
      else .fail
    | some (.arr ty l) =>
      if v.solid = true ∧ v.cells.length = sizeT P t ∧ off + sizeT P t ≤ ty.size ∧ sizeT P t ≠ 0 then
        match ty.take (putCells (ty.cells (l.getD i ty.dflt)) off v.cells) with
        | some (x, []) => .need (i < l.length) .junk ⟨s.tm, s.hp.set r (.arr ty (l.set i x)), s.m⟩
        | _ => .fail
      else .fail
    | _ => .fail
  | _ => .fail

def fieldOf (P : Program) (t : TypeId) (f : Nat) : Option Field :=
  match P.underlying t with
  | some (.struct fs) => fs[f]?
  | _ => none

def aFieldAddr (P : Program) (t : TypeId) (x : AV) (f : Nat) (s : St) : Eff :=
  match fieldOf P t f with
  | none => .fail
  | some fd =>
    if sizeT P fd.type = 0 then .fail else
    match x with
    | .ptr r off => .val (.ptr r (off + fd.offset)) s
    | .iptr cs => .val (.iptr (cs.drop fd.offset)) s
    | .rptr r i off => .val (.rptr r i (off + fd.offset)) s
    | _ => .fail

def aField (P : Program) (t : TypeId) (x : AV) (f : Nat) (s : St) : Eff :=
  match fieldOf P t f, x with
  | some fd, .agg cs => if fd.offset + sizeT P fd.type ≤ cs.length ∧ fitsT P fd.type then .val (mkVal P fd.type ((cs.drop fd.offset).take (sizeT P fd.type))) s else .fail
  | _, _ => .fail

def aIndexAddr (P : Program) (t : TypeId) (x ix : AV) (s : St) : Eff :=
  match P.underlying t, x, ix with
  | some (.slice e), .list ty l _, .int _ i => if ty.size = sizeT P e ∧ ty.isAgg = isAggT P e then .need (0 ≤ i ∧ i < l.length) (.iptr (ty.cells (l.getD i.toNat ty.dflt))) s else .fail
  | some (.slice e), .view r lo hi, .int _ i => match s.hp[r]? with
    | some (.row ty l) => if ty.size = sizeT P e ∧ ty.isAgg = isAggT P e then (match hi with | none => .need (0 ≤ i ∧ i + lo < l.length) (.rptr r (lo + i.toNat) 0) s | some h => .need (0 ≤ i ∧ i + lo < h ∧ h ≤ l.length) (.rptr r (lo + i.toNat) 0) s) else .fail
    | some (.arr ty l) => if ty.size = sizeT P e ∧ ty.isAgg = isAggT P e then (match hi with | none => .need (0 ≤ i ∧ i + lo < l.length) (.rptr r (lo + i.toNat) 0) s | some h => .need (0 ≤ i ∧ i + lo < h ∧ h ≤ l.length) (.rptr r (lo + i.toNat) 0) s) else .fail
    | _ => .fail
  | some (.array n e), .ptr r off, .int _ i => match s.hp[r]? with
    | some (.arr ty l) => if ty.size = sizeT P e ∧ ty.isAgg = isAggT P e ∧ off = 0 then .need (0 ≤ i ∧ i < n ∧ i < l.length) (.rptr r i.toNat 0) s else .fail
    | some (.box _) => if sizeT P e = 0 then .fail else .need (0 ≤ i ∧ i < n) (.ptr r (off + i.toNat * sizeT P e)) s
    | _ => .fail
  | _, _, _ => .fail

/-- Cells read as so many data of a code. -/
def takeAll (ty : Ty) : Nat → List AV → Option (List ty.T)
  | 0, [] => some []
  | n + 1, cs => match ty.take cs with
    | some (x, r) => match takeAll ty n r with
      | some xs => some (x :: xs)
      | none => none
    | none => none
  | _, _ => none

def aIndex (P : Program) (t : TypeId) (x ix : AV) (s : St) : Eff :=
  match P.underlying t, x, ix with
  | some .string, .str b, .int _ i => .need (0 ≤ i ∧ i < b.length) (.int .u8 ((b.getD i.toNat 0).toNat : Int)) s
  | some (.array n e), .agg cs, .int _ i => match tyOf P 60 e with
    | some ty => match takeAll ty n cs with
      | some xs => if ty.size = sizeT P e ∧ fitsT P e = true then .need (0 ≤ i ∧ i < xs.length) (mkVal P e (ty.cells (xs.getD i.toNat ty.dflt))) s else .fail
      | none => .fail
    | none => .fail
  | _, _, _ => .fail

def optInt : Option AV → Option (Option Int)
  | none => some none
  | some (.int _ i) => some (some i)
  | _ => none

def aSlice (P : Program) (t : TypeId) (x : AV) (lo hi mx : Option AV) (s : St) : Eff :=
  match optInt lo, optInt hi, optInt mx with
  | some lo, some hi, some none =>
    match P.underlying t, x with
    | some .string, .str b =>
      .need (0 ≤ lo.getD 0 ∧ lo.getD 0 ≤ hi.getD b.length ∧ hi.getD b.length ≤ b.length) (.str ((b.take (hi.getD b.length).toNat).drop (lo.getD 0).toNat)) s
    | some (.slice e), .list ty xs full =>
      if ty.size = sizeT P e then
        .need (0 ≤ lo.getD 0 ∧ lo.getD 0 ≤ hi.getD xs.length ∧ hi.getD xs.length ≤ xs.length) (.list ty ((xs.take (hi.getD xs.length).toNat).drop (lo.getD 0).toNat) (full && hi.isNone)) s
      else .fail
    | some (.slice e), .nils => if (P.info? e).isSome then .need (lo.getD 0 = 0 ∧ hi.getD 0 = 0) .nils s else .fail
    | some (.slice e), .view r lo0 hi0 =>
      match s.hp[r]? with
      | some (.row ty xs) =>
        if ty.size = sizeT P e then
          match hi with
          | none => .need (0 ≤ lo.getD 0 ∧ lo0 + lo.getD 0 ≤ ((hi0.getD xs.length : Nat) : Int)) (.view r (lo0 + (lo.getD 0).toNat) hi0) s
          | some h => .need (0 ≤ lo.getD 0 ∧ lo.getD 0 ≤ h ∧ lo0 + h ≤ ((hi0.getD xs.length : Nat) : Int)) (.view r (lo0 + (lo.getD 0).toNat) (some (lo0 + h.toNat))) s
        else .fail
      | _ => .fail
    | some (.array n e), .ptr r 0 =>
      match s.hp[r]? with
      | some (.arr ty xs) =>
        if ty.size = sizeT P e then
          .need (xs.length = n ∧ 0 ≤ lo.getD 0 ∧ lo.getD 0 ≤ hi.getD n ∧ hi.getD n ≤ n) (.view r (lo.getD 0).toNat (some (hi.getD n).toNat)) s
        else .fail
      | _ => .fail
    | _, _ => .fail
  | some lo, some (some h), some (some m) =>
    match P.underlying t, x with
    | some (.slice e), .list ty xs _ =>
      if ty.size = sizeT P e then
        .need (0 ≤ lo.getD 0 ∧ lo.getD 0 ≤ h ∧ h = m ∧ m ≤ xs.length) (.list ty ((xs.take h.toNat).drop (lo.getD 0).toNat) true) s
      else .fail
    | some (.slice e), .nils => if (P.info? e).isSome then .need (lo.getD 0 = 0 ∧ h = 0 ∧ m = 0) .nils s else .fail
    | _, _ => .fail
  | _, _, _ => .fail

/-- What an own list's element is, of a value: views in it become lists for good. -/
def elemsOf (ty : Ty) (vs : List AV) : Option (List ty.T) :=
  match vs with
  | [] => some []
  | v :: vs => match ty.of v, elemsOf ty vs with
    | some x, some xs => some (x :: xs)
    | _, _ => none

/-- Parts put into zero cells. -/
def fillCells (place : Nat → Option (Nat × Nat)) (cs : List AV) : List (Nat × AV) → Option (List AV)
  | [] => some cs
  | (i, v) :: r => match place i with
    | none => none
    | some (off, size) => if v.solid = false ∨ v.cells.length ≠ size ∨ off + v.cells.length > cs.length then none else fillCells place (putCells cs off v.cells) r

def placesOf (P : Program) : List Field → Option (List (Nat × Nat))
  | [] => some []
  | f :: fs => match P.info? f.type, placesOf P fs with
    | some i, some r => some ((f.offset, i.size) :: r)
    | _, _ => none

def aBuild (P : Program) (t : TypeId) (parts : List (Nat × AV)) (s : St) : Eff :=
  match P.info? t, P.underlying t, zeroCells1 P t with
  | some _, some (.struct fs), some z => match placesOf P fs.toList with
    | some places => match fillCells (places[·]?) z parts with
      | some cs => .val (.agg cs) s
      | none => .fail
    | none => .fail
  | _, _, _ => .fail

/-- A slice literal whose parts stand in order, each place once. -/
def partsInOrder : Nat → List (Nat × AV) → Option (List AV)
  | _, [] => some []
  | n, (i, v) :: r => if i = n then (partsInOrder (n + 1) r).map (v :: ·) else none

def aBuildSlice (P : Program) (t : TypeId) (len : Nat) (parts : List (Nat × AV)) (s : St) : Eff :=
  match P.underlying t with
  | some (.slice e) => match tyOf P 60 e, partsInOrder 0 parts with
    | some ty, some vs =>
      let rs := AV.refsL vs
      let s' := s.freeze rs
      let vs := AV.subL (gFreeze s.hp rs) vs
      if vs.length = len ∧ ty.size = sizeT P e ∧ (zeroCells1 P e).isSome = true ∧ len * ty.size ≤ 4096 then
        match elemsOf ty vs with
        | some xs => match rs.isEmpty with
          | true => .val (.list ty xs true) s'
          | false => .val (.view s'.hp.length 0 none) ⟨s'.tm, s'.hp ++ [.row ty xs], s'.m⟩
        | none => .fail
      else .fail
    | _, _ => .fail
  | _ => .fail

def aMakeSlice (P : Program) (t : TypeId) (len cap : AV) (s : St) : Eff :=
  match P.underlying t, len, cap with
  | some (.slice e), .int _ n, .int _ c => match tyOf P 60 e with
    | some ty => if ty.size = sizeT P e ∧ ty.size ≠ 0 ∧ zeroIs P e ty then .need (0 ≤ n ∧ n ≤ c ∧ c ≤ 140737488355328 ∧ bytesT P e * c ≤ 140737488355328) (.view s.hp.length 0 none) ⟨s.tm, s.hp ++ [.row ty (List.replicate n.toNat ty.dflt)], s.m⟩ else .fail
    | none => .fail
  | _, _, _ => .fail

/-- The list that is appended. -/
def appended (s : St) (ty : Ty) : AV → Option (List ty.T)
  | .list ty' l _ => if h : ty' = ty then some (h ▸ l) else none
  | .nils => some []
  | .view r lo hi => match viewList s.hp r lo hi with
    | .list ty' l _ => if h : ty' = ty then some (h ▸ l) else none
    | _ => none
  | .str b => match ty with
    | .int .u8 => some (b.map fun c => (c.toNat : Int))
    | _ => none
  | _ => none

def aAppend (P : Program) (sT : TypeId) (x y : AV) (s : St) : Eff :=
  match P.underlying sT with
  | some (.slice e) => match tyOf P 60 e with
    | none => .fail
    | some ty =>
      if ty.size = sizeT P e ∧ zeroIs P e ty = true ∧ bytesT P e ≠ 0 then
        match appended s ty y with
        | none => .fail
        | some ys =>
          match x with
          | .nils => .need (ys.length * bytesT P e ≤ 17592186044416) (.view s.hp.length 0 none) ⟨s.tm, s.hp ++ [.row ty ys], s.m⟩
          | .list ty' l true => if h : ty' = ty then .need ((l.length + ys.length) * bytesT P e ≤ 17592186044416 ∧ (0 < ys.length ∨ l.length = 0)) (.view s.hp.length 0 none) ⟨s.tm, s.hp ++ [.row ty ((h ▸ l) ++ ys)], s.m⟩ else .fail
          | .view r lo hi => match s.hp[r]? with
            | some (.row ty' l) => if h : ty' = ty then
                let l : List ty.T := h ▸ l
                let old := upTo l hi
                if lo = 0 then
                  let s' := s.mapv (gPurge r)
                  .need ((old.length + ys.length) * bytesT P e ≤ 17592186044416) (.view r 0 none) ⟨s'.tm, s'.hp.set r (.row ty (old ++ ys)), s'.m⟩
                else .fail
              else .fail
            | _ => .fail
          | _ => .fail
      else .fail
  | _ => .fail

def aLen (P : Program) (t : TypeId) (x : AV) (s : St) : Eff :=
  match P.underlying t, x with
  | some .string, .str b => .val (.int .i64 b.length) s
  | some (.array n _), _ => .val (.int .i64 n) s
  | some (.slice _), .list _ l _ => .val (.int .i64 l.length) s
  | some (.slice _), .nils => .val (.int .i64 0) s
  | some (.slice _), .view r lo hi => match s.hp[r]? with
    | some (.row _ l) => .val (.int .i64 (match hi with | none => (l.length : Int) - lo | some h => (h : Int) - lo)) s
    | some (.arr _ l) => .val (.int .i64 (match hi with | none => (l.length : Int) - lo | some h => (h : Int) - lo)) s
    | _ => .fail
  | _, _ => .fail

/-- A rune's bytes. -/
def enc (n : Int) : List UInt8 := (Utf8.encode n).data.toList

def aConvert (P : Program) (src dst : TypeId) (x : AV) (s : St) : Eff :=
  match P.underlying src, P.underlying dst, x with
  | some _, some (.int k), .int _ n => .val (.int k (k.wrap n)) s
  | some _, some .string, .int _ n => .val (.str (enc n)) s
  | some _, some .string, .str b => .val (.str b) s
  | some (.slice e), some .string, .view r lo hi => match P.underlying e, viewList s.hp r lo hi with
    | some (.int .u8), .list (.int .u8) l _ => .val (.str (l.map fun (n : Int) => UInt8.ofNat n.toNat)) s
    | _, _ => .fail
  | some (.slice e), some .string, .list (.int .u8) l _ => match P.underlying e with
    | some (.int .u8) => .val (.str (l.map fun (n : Int) => UInt8.ofNat n.toNat)) s
    | _ => .fail
  | some (.slice e), some .string, .nils => match P.underlying e with
    | some (.int .u8) => .val (.str []) s
    | _ => .fail
  | _, _, _ => .fail

/-- An own list's end set to zeros. -/
def aClear (P : Program) (t : TypeId) (x : AV) (s : St) : Eff :=
  match P.underlying t, x with
  | some (.slice e), .view r lo none => match s.hp[r]? with
    | some (.row ty l) => if ty.size = sizeT P e ∧ zeroIs P e ty = true then .val .junk ⟨s.tm, s.hp.set r (.row ty (l.take lo ++ List.replicate (l.length - lo) ty.dflt)), s.m⟩ else .fail
    | _ => .fail
  | _, _ => .fail

def max2A (x y : Int) : Int := if y > x then y else x
def min2A (x y : Int) : Int := if y < x then y else x

def aBuiltin (P : Program) (b : Builtin) (argTypes : List TypeId) (args : List AV) (s : St) : Eff :=
  match b, argTypes, args with
  | .len, t :: _, x :: _ => aLen P t x s
  | .append, t :: t2 :: _, x :: y :: _ => match P.underlying t2 with
    | some (.slice _) => aAppend P t x y s
    | some .string => aAppend P t x y s
    | _ => .fail
  | .clear, t :: _, x :: _ => aClear P t x s
  | .max, _, [.int k x, .int _ y] => .val (.int k (max2A x y)) s
  | .min, _, [.int k x, .int _ y] => .val (.int k (min2A x y)) s
  | _, _, _ => .fail

/-- The first place of a byte. -/
def idxByte (c : Int) : List UInt8 → Int → Int
  | [], _ => -1
  | x :: r, i => if (x.toNat : Int) = c then i else idxByte c r (i + 1)

/-- How two texts stand: -1, 0, 1. -/
def cmpB : List UInt8 → List UInt8 → Int
  | [], [] => 0
  | [], _ :: _ => -1
  | _ :: _, [] => 1
  | a :: as, b :: bs => if a.toNat < b.toNat then -1 else if b.toNat < a.toNat then 1 else cmpB as bs

/-- Functions without a Go body. -/
def aExtern (name origin : String) (args : List AV) (s : St) : Eff :=
  match name == "internal/bytealg.IndexByteString", origin == "", args with
  | true, true, [.str b, .int .u8 c] => .need (0 ≤ c ∧ c < 256) (.int .i64 (idxByte c b 0)) s
  | false, true, [.str b, .int .u8 c] => match name == "internal/bytealg.CountString" with
    | true => .val (.int .i64 ((b.count c.toNat.toUInt8 : Nat) : Int)) s
    | false => .fail
  | false, true, [.str a, .str b] => match name == "internal/bytealg.abigen_runtime_cmpstring" with
    | true => .val (.int .i64 (cmpB a b)) s
    | false => .fail
  | _, _, _ => .fail

def aValCall (P : Program) (f : AV) (args : List AV) (s : St) : Eff :=
  match f with
  | .func (.func g) first caps => match P.funcs[g]? with
    | some fn => match fn.body with
      | some _ => if fn.name == "runtime.NumGoroutine" then .fail else .enter g (first ++ args ++ caps)
      | none => aExtern fn.name fn.origin (first ++ args ++ caps) s
    | none => .fail
  | _ => .fail

def aCall (P : Program) (c : Call) (s : St) : Eff :=
  match c.callee with
  | .builtin b => aBuiltin P b c.argTypes.toList (c.args.toList.map s.ev) s
  | .invoke _ _ => .fail
  | .value f => aValCall P (s.ev f) (c.args.toList.map s.ev) s

def aExtract (x : AV) (i : Nat) (s : St) : Eff :=
  match x with
  | .tup vs => match vs[i]? with
    | some v => .val v s
    | none => .fail
  | _ => .fail

def aPick (c a b : AV) (s : St) : Eff :=
  match c with
  | .bool t => .ask t a b s
  | _ => .fail

def aNil (x : AV) (s : St) : Eff :=
  match x with
  | .ptr r off => .val (.ptr r off) s
  | .rptr r i off => .val (.rptr r i off) s
  | .iptr cs => .val (.iptr cs) s
  | .func (.func f) a b => .val (.func (.func f) a b) s
  | _ => .fail

/-- One operation. -/
def aOp (P : Program) (o : Oper) (s : St) : Eff :=
  match o.op with
  | .move x | .assign x => .val (s.ev x) s
  | .pick c a b => aPick (s.ev c) (s.ev a) (s.ev b) s
  | .alloc t => aAlloc P t s
  | .box _ x => aBox (s.ev x) s
  | .build t parts => aBuild P t (parts.toList.map fun p => (p.1, s.ev p.2)) s
  | .buildSlice t len parts => aBuildSlice P t len (parts.toList.map fun p => (p.1, s.ev p.2)) s
  | .load t a => aLoad P t (s.ev a) s
  | .store t a v => aStore P t (s.ev a) (s.ev v) s
  | .nilCheck x => aNil (s.ev x) s
  | .binOp op t x y _ => aBin P op t (s.ev x) (s.ev y) s
  | .unOp op _ x => aUn op (s.ev x) s
  | .convert a b x => aConvert P a b (s.ev x) s
  | .makeFunc fn first caps => .val (.func fn (first.toList.map s.ev) (caps.toList.map s.ev)) s
  | .makeSlice t l c => aMakeSlice P t (s.ev l) (s.ev c) s
  | .slice t x lo hi mx => aSlice P t (s.ev x) (lo.map s.ev) (hi.map s.ev) (mx.map s.ev) s
  | .fieldAddr t x f => aFieldAddr P t (s.ev x) f s
  | .field t x f => aField P t (s.ev x) f s
  | .indexAddr t x i => aIndexAddr P t (s.ev x) (s.ev i) s
  | .index t x i => aIndex P t (s.ev x) (s.ev i) s
  | .extract x i => aExtract (s.ev x) i s
  | .call c => aCall P c s
  | _ => .fail

end Go.Cellar

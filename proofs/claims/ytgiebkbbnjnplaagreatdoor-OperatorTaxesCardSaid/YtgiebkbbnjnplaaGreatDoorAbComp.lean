/- From the loaded program's text to the abstract evaluator's: definitions only. -/
import Derived.Test.YtgiebkbbnjnplaaGreatDoorAbDefs
import Derived.Calls
import Derived.LoopN
import Derived.Scope
import Derived.Defers
import Derived.Recover
import Derived.Orders
noncomputable section
namespace Go.Ab

def compOpd (P : Program) : Operand → Option Opd
  | .tmp t => if t < 256 then some (.tmp t) else none
  | .const v => (ofValue 6 v).map .const
  | .global g => if g < P.globals.size then some (.const (.ptr (some (g, 0)))) else none
  | .func f => some (.const (.func f []))

def compOpds (P : Program) (xs : Array Operand) : Option (List Opd) := mapO (compOpd P) xs.toList

def compOpt (P : Program) : Option Operand → Option (Option Opd)
  | none => some none
  | some x => (compOpd P x).map some

/-- The cells of a type's zero. -/
def zeroCellsOf (P : Program) (t : TypeId) : Option (List AVal) :=
  match P.info? t with
  | some i => match i.zero with
    | some z => match ofValue 6 z with
      | some a => if a.cells.length = i.size && a.cells.all AVal.oneCell then some a.cells else none
      | none => none
    | none => none
  | none => none

def sizeAt (P : Program) (t : TypeId) : Option Nat := (P.info? t).map (·.size)

/-- How a value of a type lies in memory: none for one cell, some n for an aggregate of n cells. -/
def laidAs (P : Program) (t : TypeId) : Option (Option Nat) :=
  match P.underlying t, sizeAt P t with
  | some (.struct _), some n | some (.array _ _), some n => some (some n)
  | some _, some 1 => some none
  | _, _ => none

/-- Fields that lie one behind another, each with the kinds of its cells. -/
def tile (P : Program) (g : TypeId → Option (List CK)) : List Field → Nat → Option (List CK)
  | [], _ => some []
  | f :: fs, off => if f.name ≠ "_" ∧ f.offset = off then match g f.type with
      | some ks => if sizeAt P f.type = some ks.length then (tile P g fs (off + ks.length)).map (ks ++ ·) else none
      | none => none
    else none

/-- The kinds of the cells of a type whose values are compared cell by cell. -/
def plainKinds (P : Program) : Nat → TypeId → Option (List CK)
  | 0, _ => none
  | d + 1, t => match P.underlying t with
    | some .bool => some [.bool]
    | some .string => some [.str]
    | some (.int _) => some [.int]
    | some (.struct fs) => if P.stoodInHeld t then none else tile P (plainKinds P d) fs.toList 0
    | _ => none

def cellKinds (P : Program) (t : TypeId) : Option (List CK) :=
  match P.underlying t with
  | some (.struct _) => if P.eqGuardType P.depth t then none else plainKinds P 6 t
  | _ => none

def keyKind (P : Program) (t : TypeId) : Option CK :=
  match P.underlying t with
  | some (.int _) => some .int
  | some .string => some .str
  | _ => none

def compPlaces (P : Program) (fs : List Field) (parts : List (Nat × Operand)) : Option (List ((Nat × Nat) × Opd)) :=
  mapO (fun p => match fs[p.1]?, compOpd P p.2 with
    | some f, some x => (sizeAt P f.type).map fun n => ((f.offset, n), x)
    | _, _ => none) parts

def compRowPlaces (P : Program) (size : Nat) (parts : List (Nat × Operand)) : Option (List ((Nat × Nat) × Opd)) :=
  mapO (fun p => (compOpd P p.2).map fun x => ((p.1 * size, size), x)) parts

def compBuiltin (P : Program) (b : Builtin) (argTypes : Array TypeId) (args : Array Operand) : Option AOp :=
  match b, args.toList with
  | .len, [x] => match argTypes[0]?.bind P.underlying, compOpd P x with
    | some .string, some x => some (.lenStr x)
    | some (.slice _), some x => some (.len x)
    | some (.map _ _), some x => some (.lenMap x)
    | some (.array n _), some _ => some (.lenConst n)
    | some (.pointer arr), some _ => match P.underlying arr with
      | some (.array n _) => some (.lenConst n)
      | _ => none
    | _, _ => none
  | .cap, [x] => match argTypes[0]?.bind P.underlying, compOpd P x with
    | some (.slice _), some x => some (.cap x)
    | _, _ => none
  | .min, [x, y] => match compOpd P x, compOpd P y with
    | some x, some y => some (.min x y)
    | _, _ => none
  | .max, [x, y] => match compOpd P x, compOpd P y with
    | some x, some y => some (.max x y)
    | _, _ => none
  | .append, [s, x] => match argTypes[0]?.bind P.underlying, argTypes[1]?.bind P.underlying, compOpd P s, compOpd P x with
    | some (.slice e), some (.slice _), some s, some x | some (.slice e), some .string, some s, some x => match P.info? e, zeroCellsOf P e with
      | some i, some _ => if i.size = 0 then none else some (.append i.size i.bytes s x)
      | _, _ => none
    | _, _, _, _ => none
  | .copy, [d, s] => match argTypes[0]?.bind P.underlying, compOpd P d, compOpd P s with
    | some (.slice e), some d, some s => match P.info? e with
      | some i => if i.size = 0 then none else some (.copy i.size d s)
      | none => none
    | _, _, _ => none
  | .delete, [m, k] => match argTypes[0]?.bind P.underlying, compOpd P m, compOpd P k with
    | some (.map kt _), some m, some k => match keyKind P kt with
      | some ck => some (.delete ck m k)
      | _ => none
    | _, _, _ => none
  | .recover, [] => some .recover
  | _, _ => none

def isNilConst : Operand → Bool
  | .const (.pointer none) | .const (.slice none 0 0) | .const (.map none) | .const .nilFunc | .const .nilIface => true
  | _ => false

def nilKind : TypeDesc → Option NK
  | .pointer _ => some .ptr
  | .slice _ => some .slice
  | .map _ _ => some .map
  | .func _ _ _ => some .func
  | .interface _ => some .iface
  | _ => none

/-- The size of what a pointer's type points to. -/
def ptrSize (P : Program) : TypeDesc → Nat
  | .pointer e => (sizeAt P e).getD 0
  | _ => 0

def compBin (P : Program) (op : BinOp) (t : TypeId) (x y : Operand) : Option AOp :=
  match compOpd P x, compOpd P y with
  | some a, some b =>
    match P.underlying t with
    | some (.int _) | some .string => some (.bin op a b)
    | some .bool => match op with
      | .eql => some (.eqBool false a b)
      | .neq => some (.eqBool true a b)
      | _ => none
    | some (.struct _) => match op, cellKinds P t with
      | .eql, some ks => some (.eqCells false ks a b)
      | .neq, some ks => some (.eqCells true ks a b)
      | _, _ => none
    | some d => match nilKind d, isNilConst x || isNilConst y with
      | some nk, true => match op with
        | .eql => some (.eqNil false nk a b)
        | .neq => some (.eqNil true nk a b)
        | _ => none
      | some .ptr, false => match ptrSize P d with
        | 0 => none
        | _ => match op with
          | .eql => some (.eqPtr false a b)
          | .neq => some (.eqPtr true a b)
          | _ => none
      | _, _ => none
    | none => none
  | _, _ => none

def compConvert (P : Program) (src dst : TypeId) (x : Operand) : Option AOp :=
  match P.underlying src, P.underlying dst, compOpd P x with
  | some (.int _), some (.int k), some x => some (.convInt k x)
  | some .string, some .string, some x => some (.convId x)
  | some .string, some (.slice e), some x => match P.underlying e with
    | some (.int .u8) => some (.bytesOf x)
    | _ => none
  | some (.slice e), some .string, some x => match P.underlying e with
    | some (.int .u8) => some (.textOf x)
    | _ => none
  | _, _, _ => none

def compOp (P : Program) (o : Oper) : Option AOp :=
  match o.op with
  | .move x | .assign x => (compOpd P x).map .move
  | .pick c a b => match compOpd P c, compOpd P a, compOpd P b with
    | some c, some a, some b => some (.pick c a b)
    | _, _, _ => none
  | .alloc t => (zeroCellsOf P t).map .alloc
  | .box _ x => (compOpd P x).map .box
  | .build t parts => match P.underlying t, zeroCellsOf P t with
    | some (.struct fs), some z => if fs.all fun f => (sizeAt P f.type).isSome then (compPlaces P fs.toList parts.toList).map (.build z) else none
    | some (.array _ e), some z => (sizeAt P e).bind fun n => (compRowPlaces P n parts.toList).map (.build z)
    | _, _ => none
  | .buildSlice t len parts => match P.underlying t with
    | some (.slice e) => match sizeAt P e, zeroCellsOf P e with
      | some n, some z => if n = 0 || len * n > 16777216 then none else (compRowPlaces P n parts.toList).map (.buildSlice z n len)
      | _, _ => none
    | _ => none
  | .load t a => match laidAs P t, compOpd P a with
    | some n, some a => some (.load n a)
    | _, _ => none
  | .store t a x => match sizeAt P t, compOpd P a, compOpd P x with
    | some n, some a, some x => some (.store n a x)
    | _, _, _ => none
  | .nilCheck x => (compOpd P x).map .nilCheck
  | .binOp op t x y _ => compBin P op t x y
  | .unOp op _ x => (compOpd P x).map (.un op)
  | .convert src dst x => compConvert P src dst x
  | .makeInterface t x => match P.underlying t with
    | some (.interface _) => none
    | some _ => (compOpd P x).map (.mkIface t)
    | none => none
  | .makeFunc (.func f) first caps => if first.size = 0 then (compOpds P caps).map (.mkFunc f) else none
  | .makeMap _ none => some .mkMap
  | .makeSlice t l c => match P.underlying t with
    | some (.slice e) => match P.info? e, zeroCellsOf P e, compOpd P l, compOpd P c with
      | some i, some z, some l, some c => if i.size = 0 || i.bytes > 1048576 then none else some (.mkSlice z i.size i.bytes l c)
      | _, _, _, _ => none
    | _ => none
  | .slice t x lo hi mx => match P.underlying t, compOpd P x, compOpt P lo, compOpt P hi, compOpt P mx with
    | some .string, some x, some lo, some hi, some none => some (.sliceStr x lo hi)
    | some (.slice e), some x, some lo, some hi, some mx => (sizeAt P e).map fun n => .slice n x lo hi mx
    | some (.array n e), some x, some lo, some hi, some none => (sizeAt P e).bind fun s => if s = 0 then none else some (.sliceArr n s x lo hi)
    | _, _, _, _, _ => none
  | .fieldAddr s x f => match P.underlying s, compOpd P x with
    | some (.struct fs), some x => match fs[f]? with
      | some fd => match sizeAt P fd.type with
        | some 0 | none => none
        | some _ => some (.fieldAddr fd.offset x)
      | none => none
    | _, _ => none
  | .field t x f => match P.underlying t, compOpd P x with
    | some (.struct fs), some x => match fs[f]? with
      | some fd => (laidAs P fd.type).map fun n => .field fd.offset n x
      | none => none
    | _, _ => none
  | .indexAddr t x i => match P.underlying t, compOpd P x, compOpd P i with
    | some (.slice e), some x, some i => (sizeAt P e).map fun n => .indexAddr n x i
    | some (.array len e), some x, some i => (sizeAt P e).map fun n => .indexArr len n x i
    | _, _, _ => none
  | .index t x i => match P.underlying t, compOpd P x, compOpd P i with
    | some .string, some x, some i => some (.indexStr x i)
    | some (.array len e), some x, some i => match laidAs P e, sizeAt P e with
      | some n, some s => some (.index len s n x i)
      | _, _ => none
    | _, _, _ => none
  | .lookup t x i ok => match P.underlying t, compOpd P x, compOpd P i with
    | some (.map kt et), some x, some i => match keyKind P kt, P.info? et with
      | some ck, some info => match info.zero.bind (ofValue 6) with
        | some z => some (.lookup ck z x i ok)
        | none => none
      | _, _ => none
    | _, _, _ => none
  | .mapUpdate t m k v => match P.underlying t, compOpd P m, compOpd P k, compOpd P v with
    | some (.map kt _), some m, some k, some v => match keyKind P kt with
      | some ck => some (.mapUpdate ck m k v)
      | _ => none
    | _, _, _, _ => none
  | .extract x i => (compOpd P x).map fun x => .extract x i
  | .range t x => match P.underlying t with
    | some .string => (compOpd P x).map .rangeStr
    | _ => none
  | .next it true => (compOpd P it).map .nextStr
  | .panic x => (compOpd P x).map .panic
  | .call c => match c.callee with
    | .builtin b => compBuiltin P b c.argTypes c.args
    | .value (.func f) => match P.funcs[f]? with
      | none => none
      | some fn => if fn.body.isSome then (compOpds P c.args).map (.call f) else
        if fn.name == "internal/bytealg.IndexByteString" && fn.origin == "" then
          match compOpds P c.args with
          | some [x, y] => some (.indexByte x y)
          | _ => none
        else none
    | .value x => match compOpd P x, compOpds P c.args with
      | some x, some l => some (.callDyn x l)
      | _, _ => none
    | .invoke _ _ => none
  | .defer c => match c.callee with
    | .value x => match compOpd P x, compOpds P c.args with
      | some x, some l => some (.deferFn x l)
      | _, _ => none
    | _ => none
  | _ => none

/-- The temporaries of a frame that a region's guards ask. -/
def compGuard (ops : Array Oper) (o : Oper) : Option (Option (Nat × Bool)) :=
  match o.guard with
  | none => some none
  | some (j, want) => match (ops[j]?).bind (·.dst) with
    | some t => if t < 256 then some (some (t, want)) else none
    | none => none

def compItem (P : Program) (ntmps : Nat) (ops : Array Oper) (o : Oper) : Option Item :=
  match compGuard ops o with
  | some g => if (match o.dst with | some d => decide (d < ntmps) && decide (d < 256) | none => true) then some { dst := o.dst, op := (compOp P o).getD .bad, guard := g } else none
  | _ => none

/-! Regions that draw their order: which operations change memory, which only read it, which make memory. -/

inductive OpSort where
  | pure | read | fresh | chain
  deriving DecidableEq

def sortOf : AOp → OpSort
  | .move _ | .pick _ _ _ | .build _ _ | .nilCheck _ | .bin _ _ _ | .eqCells _ _ _ _ | .eqNil _ _ _ _ | .eqBool _ _ _ | .eqPtr _ _ _ | .un _ _ | .convInt _ _ | .convId _ | .mkIface _ _
  | .mkFunc _ _ | .slice _ _ _ _ _ | .sliceArr _ _ _ _ _ | .sliceStr _ _ _ | .fieldAddr _ _ | .field _ _ _ | .indexAddr _ _ _ | .indexArr _ _ _ _ | .index _ _ _ _ _
  | .indexStr _ _ | .extract _ _ | .len _ | .lenStr _ | .lenConst _ | .cap _ | .min _ _ | .max _ _ | .indexByte _ _ => .pure
  | .load _ _ | .lookup _ _ _ _ _ | .lenMap _ | .textOf _ => .read
  | .alloc _ | .box _ | .buildSlice _ _ _ _ | .mkMap | .mkSlice _ _ _ _ _ => .fresh
  | _ => .chain

/-- One round of the order: the first that is ready of the kinds asked. -/
def ready (before : Array Nat) (done : Nat) (ks : List (Nat × OpSort)) (p : OpSort → Bool) : Option Nat :=
  (ks.find? fun x => !done.testBit x.1 && p x.2 && ((before.getD x.1 0) &&& done) == before.getD x.1 0).map (·.1)

def orderOf (before : Array Nat) (ks : List (Nat × OpSort)) : Nat → Nat → List Nat
  | 0, _ => []
  | n + 1, done =>
    match ready before done ks (fun s => s == .pure || s == .read) with
    | some i => i :: orderOf before ks n (done ||| 2 ^ i)
    | none => match ready before done ks (· == .chain) with
      | some i => i :: orderOf before ks n (done ||| 2 ^ i)
      | none => match ready before done ks (· == .fresh) with
        | some i => i :: orderOf before ks n (done ||| 2 ^ i)
        | none => []

def ol : Option Opd → List Opd
  | none => []
  | some x => [x]

/-- The operands of an abstract operation. -/
def AOp.opds : AOp → List Opd
  | .move x | .box x | .nilCheck x | .un _ x | .convInt _ x | .convId x | .bytesOf x | .textOf x | .mkIface _ x | .fieldAddr _ x | .field _ _ x | .extract x _ | .len x | .lenStr x | .lenMap x
  | .cap x | .panic x | .rangeStr x | .nextStr x => [x]
  | .pick c a b => [c, a, b]
  | .build _ ps | .buildSlice _ _ _ ps => ps.map (·.2)
  | .load _ a => [a]
  | .store _ a x => [a, x]
  | .bin _ x y | .eqCells _ _ x y | .eqBool _ x y | .eqNil _ _ x y | .eqPtr _ x y | .mkSlice _ _ _ x y | .indexAddr _ x y | .indexArr _ _ x y | .index _ _ _ x y | .indexStr x y | .lookup _ _ x y _
  | .append _ _ x y | .copy _ x y | .min x y | .max x y | .delete _ x y | .indexByte x y => [x, y]
  | .mkFunc _ cs => cs
  | .slice _ x a b c => x :: (ol a ++ ol b ++ ol c)
  | .sliceArr _ _ x a b | .sliceStr x a b => x :: (ol a ++ ol b)
  | .mapUpdate _ m k v => [m, k, v]
  | .call _ xs => xs
  | .callDyn f xs | .deferFn f xs => f :: xs
  | .alloc _ | .mkMap | .lenConst _ | .recover | .bad => []

/-! What is asked of a region that draws its order, before its steps are taken for it. -/

/-- An operation of a region, as the check sees it. -/
structure DRow where
  i : Nat
  kind : OpSort
  dst : Option Nat
  looks : List Nat
  bef : Nat

def Opd.tmpOnly : Opd → Option Nat
  | .tmp t => some t
  | .const _ => none

/-- The temporaries that an operation looks at. -/
def looksOf (ops : Array Oper) (o : Oper) (it : Item) : List Nat :=
  o.looksAt ops ++ it.op.opds.filterMap Opd.tmpOnly ++ (match it.guard with | some g => [g.1] | none => [])

def rowOf (ops : Array Oper) (items : List Item) (before : Array Nat) (i : Nat) : Option DRow :=
  match ops[i]?, items[i]? with
  | some o, some it => some { i := i, kind := sortOf it.op, dst := it.dst, looks := looksOf ops o it, bef := before.getD i 0 }
  | _, _ => none

def dstIn (d : Option Nat) (l : List Nat) : Bool :=
  match d with
  | some d => l.contains d
  | none => false
def dstSame (d e : Option Nat) : Bool :=
  match d, e with
  | some d, some e => d == e
  | _, _ => false

/-- What is asked of two operations, the first of them listed before the second. -/
def pairOk (x y : DRow) : Bool :=
  !(x.i == y.i) && !dstSame x.dst y.dst && !x.bef.testBit y.i && !dstIn y.dst x.looks &&
  (y.bef.testBit x.i || !(dstIn x.dst y.looks || (y.kind == .chain && (x.kind == .chain || x.kind == .fresh)) || (y.kind == .read && x.kind == .chain)))

def selfOk (x : DRow) : Bool := !dstIn x.dst x.looks && x.looks.all fun t => Nat.ble (Nat.succ t) 256

def pairsOk : List DRow → Bool
  | [] => true
  | x :: xs => selfOk x && xs.all (pairOk x) && pairsOk xs

/-- No read behind a making of memory, with no change of memory between them. -/
def lateOk : Bool → List DRow → Bool
  | _, [] => true
  | made, x :: xs => match x.kind with
    | .chain => lateOk false xs
    | .fresh => lateOk true xs
    | .read => !made && lateOk made xs
    | .pure => lateOk made xs

def edgeMask (b : Array Nat) : List Edge → Nat
  | [] => 0
  | e :: es => if Region.binds .any e then (2 ^ e.on ||| b.getD e.on 0) ||| edgeMask b es else edgeMask b es

def edgesOk (b : Array Nat) : Nat → List Oper → Bool
  | _, [] => true
  | i, o :: os => b.getD i 0 == edgeMask b o.after.toList && (o.after.toList.all fun e => !Region.binds .any e || decide (e.on < i)) && edgesOk b (i + 1) os

def noDefer : AOp → Bool
  | .deferFn _ _ => false
  | _ => true

def drawnCheck (ops : Array Oper) (items : List Item) (before : Array Nat) (order : List Nat) : Bool :=
  match mapO (rowOf ops items before) order with
  | none => false
  | some rows => pairsOk rows && lateOk false rows && edgesOk before 0 ops.toList && ((List.range ops.size).all fun i => order.contains i) && items.all (fun it => noDefer it.op)

def stepOf (i : Item) : Step :=
  match i.op, i.dst, i.guard with
  | .move x, some d, none => .mov d x
  | _, _, _ => .exec i

/-- The steps of a region in that order: behind each change of memory the reads that could as well have come behind it. -/
def scriptOf (before : Array Nat) (items : List Item) (ks : List (Nat × OpSort)) : List Nat → List Nat → List Step
  | [], _ => []
  | i :: rest, past =>
    match items[i]? with
    | none => []
    | some it =>
      let re := if sortOf it.op == .chain then (past.filter fun j => (match items[j]? with | some x => sortOf x.op == .read | none => false) && !(before.getD i 0).testBit j) else []
      stepOf it :: (re.filterMap fun j => (items[j]?).map .recheck) ++ scriptOf before items ks rest (past ++ [i])

/-- A region in the order of the text. -/
def compStraight (P : Program) (ntmps : Nat) (ops : Array Oper) : Option (List Step) :=
  (mapO (compItem P ntmps ops) ops.toList).map fun l => l.map stepOf

def compDrawn (P : Program) (ntmps : Nat) (ops : Array Oper) : Option (List Step) :=
  match mapO (compItem P ntmps ops) ops.toList with
  | none => none
  | some items =>
    let before := Region.before ops
    let ks := items.zipIdx.map fun x => (x.2, sortOf x.1.op)
    let order := orderOf before ks items.length 0
    if drawnCheck ops items before order then some (scriptOf before items ks order []) else none

def compCode (P : Program) (ntmps : Nat) : Code → ACode
  | .skip | .label _ => .skip
  | .region _ ops true => match compDrawn P ntmps ops with
    | some l => .scope (.ops l)
    | none => .bad
  | .region _ ops false => match compStraight P ntmps ops with
    | some l => .ops l
    | none => .bad
  | .seq a b => .seq (compCode P ntmps a) (compCode P ntmps b)
  | .cond c a b => match compOpd P c with
    | some c => .cond c (compCode P ntmps a) (compCode P ntmps b)
    | none => .bad
  | .block id c => .block id (compCode P ntmps c)
  | .loop c => .loop (compCode P ntmps c)
  | .exit id => .exit id
  | .ret => .ret
  | .scope c => .scope (compCode P ntmps c)
  | _ => .bad

def compRes (P : Program) : ResultVar → Option ARes
  | .tmp t => if t < 256 then some (.tmp t) else none
  | .cell a t => if a < 256 then (laidAs P t).map (.cell a) else none

def compFunc (P : Program) (fn : Func) : Option AFunc :=
  match fn.body with
  | none => none
  | some c => match mapO (compRes P) fn.results.toList with
    | some rs => if fn.name != "runtime.NumGoroutine" then some { ntmps := fn.ntmps, body := compCode P fn.ntmps c, results := rs } else none
    | none => none

def tableOf (P : Program) (f : FuncId) : Option AFunc :=
  match P.funcs[f]? with
  | none => none
  | some fn => compFunc P fn

end Go.Ab
end

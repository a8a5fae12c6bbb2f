/- An abstract evaluator for the loaded program: values without capacities, addresses without memory. Definitions only; written for the kernel: small arms, recursors by name, tests as bools. -/
import GoSem.Op.String
noncomputable section
namespace Go.Ab

/-- An abstract value. A pointer names a logical block and an offset in it; a slice bears whether its capacity is exact, and the cells of an element. -/
inductive AVal where
  | bool (b : Bool)
  | int (k : IntKind) (n : Int)
  | str (s : List UInt8)
  | ptr (a : Option (Nat × Nat))
  | slice (a : Option (Nat × Nat)) (len cap : Nat) (ex : Bool) (esz : Nat)
  | map (r : Option Nat)
  | func (f : FuncId) (captured : List AVal)
  | nilFunc
  | iface (t : TypeId) (v : AVal)
  | nilIface
  | agg (cs : List AVal)
  | tuple (vs : List AVal)
  deriving Inhabited

def AVal.undef : AVal := .tuple []

mutual
def AVal.beq : AVal → AVal → Bool
  | .bool a, .bool b => a == b
  | .int j a, .int k b => decide (j = k) && decide (a = b)
  | .str a, .str b => decide (a = b)
  | .ptr a, .ptr b => decide (a = b)
  | .slice a l c e s, .slice a' l' c' e' s' => decide (a = a') && decide (l = l') && decide (c = c') && e == e' && decide (s = s')
  | .map a, .map b => decide (a = b)
  | .func f a, .func g b => decide (f = g) && AVal.beqs a b
  | .nilFunc, .nilFunc => true
  | .iface t a, .iface u b => decide (t = u) && AVal.beq a b
  | .nilIface, .nilIface => true
  | .agg a, .agg b => AVal.beqs a b
  | .tuple a, .tuple b => AVal.beqs a b
  | _, _ => false
def AVal.beqs : List AVal → List AVal → Bool
  | [], [] => true
  | a :: as, b :: bs => AVal.beq a b && AVal.beqs as bs
  | _, _ => false
end

def AVal.cells : AVal → List AVal
  | .agg cs => cs
  | v => [v]

def AVal.oneCell : AVal → Bool
  | .agg _ | .tuple _ => false
  | _ => true

/-! Lists, by their recursor. -/

def nth? {α : Type} (l : List α) : Nat → Option α :=
  List.rec (motive := fun _ => Nat → Option α) (fun _ => none) (fun x _ ih n => Nat.casesOn n (some x) ih) l
def len {α : Type} (l : List α) : Nat := List.rec (motive := fun _ => Nat) 0 (fun _ _ ih => Nat.succ ih) l
/-- The first cells behind an offset, if there are so many. -/
def takeN? {α : Type} (l : List α) : Nat → Option (List α) :=
  List.rec (motive := fun _ => Nat → Option (List α)) (fun n => Nat.casesOn n (some []) (fun _ => none))
    (fun x _ ih n => Nat.casesOn n (some []) (fun m => Option.casesOn (ih m) none (fun r => some (x :: r)))) l
def dropN {α : Type} (l : List α) : Nat → List α :=
  List.rec (motive := fun _ => Nat → List α) (fun _ => []) (fun x xs ih n => Nat.casesOn n (x :: xs) ih) l
def subN? {α : Type} (l : List α) (o n : Nat) : Option (List α) := takeN? (dropN l o) n
/-- Values laid over the first cells of a list: none if they are too many. -/
def over? (l : List AVal) : List AVal → Option (List AVal) :=
  List.rec (motive := fun _ => List AVal → Option (List AVal)) (fun vs => List.casesOn vs (some []) (fun _ _ => none))
    (fun x xs ih vs => List.casesOn vs (some (x :: xs)) (fun v vs => Option.casesOn (ih vs) none (fun r => some (v :: r)))) l
def overAt? (l : List AVal) (vs : List AVal) : Nat → Option (List AVal) :=
  List.rec (motive := fun _ => Nat → Option (List AVal)) (fun o => Nat.casesOn o (over? [] vs) (fun _ => none))
    (fun x xs ih o => Nat.casesOn o (over? (x :: xs) vs) (fun m => Option.casesOn (ih m) none (fun r => some (x :: r)))) l
def allOne (l : List AVal) : Bool := List.rec (motive := fun _ => Bool) true (fun x _ ih => Bool.casesOn x.oneCell false ih) l
def isNil {α : Type} : List α → Bool
  | [] => true
  | _ :: _ => false

/-- Options, over a list. -/
def mapO {α β : Type} (f : α → Option β) : List α → Option (List β)
  | [] => some []
  | a :: as => match f a with
    | none => none
    | some b => match mapO f as with
      | none => none
      | some bs => some (b :: bs)

/-- A closed value of the program's text. -/
def ofValue : Nat → Value → Option AVal
  | 0, _ => none
  | n + 1, v => match v with
    | .bool b => some (.bool b)
    | .int k i => some (.int k i)
    | .string s => some (.str s.data.toList)
    | .pointer none => some (.ptr none)
    | .slice none 0 0 => some (.slice none 0 0 true 0)
    | .map none => some (.map none)
    | .func (.func f) first caps => if first.size = 0 && caps.size = 0 then some (.func f []) else none
    | .nilFunc => some .nilFunc
    | .iface t x => (ofValue n x).map (.iface t)
    | .nilIface => some .nilIface
    | .agg cs => (mapO (ofValue n) cs.toList).map .agg
    | .tuple vs => (mapO (ofValue n) vs.toList).map .tuple
    | _ => none

/-- A tree of numbered things. -/
inductive T (α : Type) where
  | leaf
  | node (l : T α) (v : Option α) (r : T α)

namespace T
variable {α : Type}
def get (t : T α) : Nat → Option α :=
  T.rec (motive := fun _ => Nat → Option α) (fun _ => none)
    (fun _ v _ il ir k => Nat.casesOn k v (fun j => Bool.casesOn (Nat.beq (Nat.mod j 2) 0) (ir (Nat.div j 2)) (il (Nat.div j 2)))) t
def setAux (v : Option α) (n : Nat) : T α → Nat → T α :=
  Nat.rec (motive := fun _ => T α → Nat → T α) (fun t _ => t)
    (fun _ ih t => T.casesOn t
      (fun k => Nat.casesOn k (node leaf v leaf) (fun j => Bool.casesOn (Nat.beq (Nat.mod j 2) 0) (node leaf none (ih leaf (Nat.div j 2))) (node (ih leaf (Nat.div j 2)) none leaf)))
      (fun l x r k => Nat.casesOn k (node l v r) (fun j => Bool.casesOn (Nat.beq (Nat.mod j 2) 0) (node l x (ih r (Nat.div j 2))) (node (ih l (Nat.div j 2)) x r)))) n
def set (t : T α) (k : Nat) (v : Option α) : T α := setAux v (Nat.succ k) t k
end T

/-- What a logical block holds. -/
inductive AObj where
  | cells (cs : List AVal)
  | map (es : List (AVal × AVal))
  | iter (s : List UInt8) (pos : Nat)

structure Heap where
  next : Nat
  objs : T AObj

def Heap.get (σ : Heap) (b : Nat) : Option AObj := T.get σ.objs b
def Heap.put (σ : Heap) (b : Nat) (o : AObj) : Heap := ⟨σ.next, T.set σ.objs b (some o)⟩
def Heap.kill (σ : Heap) (b : Nat) : Heap := ⟨σ.next, T.set σ.objs b none⟩
def Heap.new (σ : Heap) (o : AObj) : Heap := ⟨Nat.succ σ.next, T.set σ.objs σ.next (some o)⟩

/-- A digit, and a tree of four ways: the temporaries of a frame, at most 256. -/
inductive D4 where
  | q0 | q1 | q2 | q3
inductive Tmps where
  | leaf (v : AVal)
  | node (a b c d : Tmps)

def digit (n : Nat) : D4 := Nat.casesOn n .q0 (fun n => Nat.casesOn n .q1 (fun n => Nat.casesOn n .q2 (fun _ => .q3)))
def pathOf (t : Nat) : List D4 := [digit (Nat.mod t 4), digit (Nat.mod (Nat.div t 4) 4), digit (Nat.mod (Nat.div t 16) 4), digit (Nat.mod (Nat.div t 64) 4)]

/-- The part of a tree of four ways that a digit names, and its rest; the arms are closed. -/
def getAt (d : D4) : (Tmps → AVal) → Tmps → AVal :=
  D4.casesOn (motive := fun _ => (Tmps → AVal) → Tmps → AVal) d
    (fun ih t => Tmps.casesOn t (fun _ => .undef) (fun a _ _ _ => ih a))
    (fun ih t => Tmps.casesOn t (fun _ => .undef) (fun _ b _ _ => ih b))
    (fun ih t => Tmps.casesOn t (fun _ => .undef) (fun _ _ c _ => ih c))
    (fun ih t => Tmps.casesOn t (fun _ => .undef) (fun _ _ _ e => ih e))
def putAt (d : D4) : (Tmps → Tmps) → Tmps → Tmps :=
  D4.casesOn (motive := fun _ => (Tmps → Tmps) → Tmps → Tmps) d
    (fun ih t => Tmps.casesOn t (fun v => .leaf v) (fun a b c e => .node (ih a) b c e))
    (fun ih t => Tmps.casesOn t (fun v => .leaf v) (fun a b c e => .node a (ih b) c e))
    (fun ih t => Tmps.casesOn t (fun v => .leaf v) (fun a b c e => .node a b (ih c) e))
    (fun ih t => Tmps.casesOn t (fun v => .leaf v) (fun a b c e => .node a b c (ih e)))
def Tmps.get (p : List D4) : Tmps → AVal :=
  List.rec (motive := fun _ => Tmps → AVal) (fun t => Tmps.casesOn t (fun v => v) (fun _ _ _ _ => .undef)) (fun d _ ih => getAt d ih) p
def Tmps.put (v : AVal) (p : List D4) : Tmps → Tmps :=
  List.rec (motive := fun _ => Tmps → Tmps) (fun _ => .leaf v) (fun d _ ih => putAt d ih) p

def tmpOf (ts : Tmps) (t : Nat) : AVal := Tmps.get (pathOf t) ts
def setTmp (ts : Tmps) (t : Nat) (v : AVal) : Tmps := Tmps.put v (pathOf t) ts

def Tmps.e0 : Tmps := .leaf .undef
def Tmps.e1 : Tmps := .node e0 e0 e0 e0
def Tmps.e2 : Tmps := .node e1 e1 e1 e1
def Tmps.e3 : Tmps := .node e2 e2 e2 e2
/-- No temporary holds anything. -/
def Tmps.empty : Tmps := .node e3 e3 e3 e3

inductive Opd where
  | tmp (t : Nat)
  | const (v : AVal)

def Opd.ev (x : Opd) : Tmps → AVal :=
  match x with
  | .tmp t => fun ts => tmpOf ts t
  | .const v => fun _ => v

/-- The kinds of cells that are compared one by one. -/
inductive CK where
  | bool | str | int

/-- The kinds of types that have a nil. -/
inductive NK where
  | ptr | slice | map | func | iface

inductive AOp where
  | move (x : Opd)
  | pick (c a b : Opd)
  | alloc (zero : List AVal)
  | box (x : Opd)
  | build (zero : List AVal) (parts : List ((Nat × Nat) × Opd))
  | buildSlice (zero : List AVal) (esz len : Nat) (parts : List ((Nat × Nat) × Opd))
  | load (n : Option Nat) (a : Opd)
  | store (n : Nat) (a x : Opd)
  | nilCheck (x : Opd)
  | bin (op : BinOp) (x y : Opd)
  | eqCells (neg : Bool) (ks : List CK) (x y : Opd)
  | eqBool (neg : Bool) (x y : Opd)
  | eqNil (neg : Bool) (nk : NK) (x y : Opd)
  | eqPtr (neg : Bool) (x y : Opd)
  | un (op : UnOp) (x : Opd)
  | convInt (k : IntKind) (x : Opd)
  | convId (x : Opd)
  | bytesOf (x : Opd)
  | textOf (x : Opd)
  | mkIface (t : TypeId) (x : Opd)
  | mkFunc (f : FuncId) (captured : List Opd)
  | mkMap
  | mkSlice (zero : List AVal) (esz bytes : Nat) (l c : Opd)
  | slice (esz : Nat) (x : Opd) (lo hi max : Option Opd)
  | sliceArr (n esz : Nat) (x : Opd) (lo hi : Option Opd)
  | sliceStr (x : Opd) (lo hi : Option Opd)
  | fieldAddr (off : Nat) (x : Opd)
  | field (off : Nat) (n : Option Nat) (x : Opd)
  | indexAddr (esz : Nat) (x i : Opd)
  | indexArr (len esz : Nat) (x i : Opd)
  | index (len esz : Nat) (n : Option Nat) (x i : Opd)
  | indexStr (x i : Opd)
  | lookup (ck : CK) (zero : AVal) (x i : Opd) (ok : Bool)
  | mapUpdate (ck : CK) (m k v : Opd)
  | extract (x : Opd) (i : Nat)
  | call (f : FuncId) (args : List Opd)
  | callDyn (f : Opd) (args : List Opd)
  | append (esz bytes : Nat) (s x : Opd)
  | copy (esz : Nat) (d s : Opd)
  | len (x : Opd)
  | lenStr (x : Opd)
  | lenMap (x : Opd)
  | lenConst (n : Nat)
  | cap (x : Opd)
  | min (x y : Opd)
  | max (x y : Opd)
  | delete (ck : CK) (m k : Opd)
  | panic (x : Opd)
  | deferFn (f : Opd) (args : List Opd)
  | recover
  | rangeStr (x : Opd)
  | nextStr (x : Opd)
  | indexByte (s c : Opd)
  | bad

structure Item where
  dst : Option Nat
  op : AOp
  guard : Option (Nat × Bool)

inductive Step where
  | mov (d : Nat) (x : Opd)
  | exec (i : Item)
  | recheck (i : Item)

inductive ACode where
  | skip
  | ops (l : List Step)
  | seq (a b : ACode)
  | cond (c : Opd) (a b : ACode)
  | block (id : Nat) (c : ACode)
  | loop (c : ACode)
  | exit (id : Nat)
  | ret
  | scope (c : ACode)
  | bad

inductive ARes where
  | tmp (t : Nat)
  | cell (t : Nat) (n : Option Nat)

structure AFunc where
  ntmps : Nat
  body : ACode
  results : List ARes

/-! What the operations give. -/

/-- Is an integer within 64 signed bits? -/
def in64 : Int → Bool
  | .ofNat m => Nat.ble m 9223372036854775807
  | .negSucc m => Nat.ble m 9223372036854775807

def wrapK (k : IntKind) (n : Int) : Int :=
  match k with
  | .i64 => Bool.casesOn (in64 n) (IntKind.i64.wrap n) n
  | k => k.wrap n

def intEq : Int → Int → Bool
  | .ofNat a, .ofNat b => Nat.beq a b
  | .negSucc a, .negSucc b => Nat.beq a b
  | _, _ => false
def intLe : Int → Int → Bool
  | .ofNat a, .ofNat b => Nat.ble a b
  | .negSucc a, .negSucc b => Nat.ble b a
  | .negSucc _, .ofNat _ => true
  | .ofNat _, .negSucc _ => false
def strEq (a : List UInt8) : List UInt8 → Bool :=
  List.rec (motive := fun _ => List UInt8 → Bool) isNil
    (fun x _ ih b => List.casesOn b false (fun y b => Bool.casesOn (Nat.beq x.toNat y.toNat) false (ih b))) a
def kindEq (j k : IntKind) : Bool := Nat.beq j.ctorIdx k.ctorIdx

def Heap.loadN (σ : Heap) (b o n : Nat) : Option (List AVal) :=
  match σ.get b with
  | some (.cells cs) => subN? cs o n
  | _ => none
def Heap.load1 (σ : Heap) (b o : Nat) : Option AVal :=
  match σ.get b with
  | some (.cells cs) => nth? cs o
  | _ => none
def Heap.storeN (σ : Heap) (b o : Nat) (vs : List AVal) : Option Heap :=
  Bool.casesOn (allOne vs) none (match σ.get b with
  | some (.cells cs) => match overAt? cs vs o with
    | some cs' => some (σ.put b (.cells cs'))
    | none => none
  | _ => none)

def loadAt (σ : Heap) (n : Option Nat) (a : AVal) : Option AVal :=
  match a with
  | .ptr (some (b, o)) => match n with
    | none => σ.load1 b o
    | some n => match σ.loadN b o n with
      | some cs => some (.agg cs)
      | none => none
  | _ => none

def binInt (op : BinOp) (k : IntKind) (a b : Int) : Option AVal :=
  match op with
  | .add => some (.int k (wrapK k (Int.add a b)))
  | .sub => some (.int k (wrapK k (Int.sub a b)))
  | .mul => some (.int k (wrapK k (Int.mul a b)))
  | .quo => Bool.casesOn (intEq b 0) (some (.int k (wrapK k (Int.tdiv a b)))) none
  | .rem => Bool.casesOn (intEq b 0) (some (.int k (Int.tmod a b))) none
  | .and => some (.int k (k.wrap (BitVec.ofInt k.bits a &&& BitVec.ofInt k.bits b).toNat))
  | .or => some (.int k (k.wrap (BitVec.ofInt k.bits a ||| BitVec.ofInt k.bits b).toNat))
  | .xor => some (.int k (k.wrap (BitVec.ofInt k.bits a ^^^ BitVec.ofInt k.bits b).toNat))
  | .andNot => some (.int k (k.wrap (BitVec.ofInt k.bits a &&& ~~~BitVec.ofInt k.bits b).toNat))
  | .eql => some (.bool (intEq a b))
  | .neq => some (.bool (intEq a b).not)
  | .lss => some (.bool (intLe b a).not)
  | .leq => some (.bool (intLe a b))
  | .gtr => some (.bool (intLe a b).not)
  | .geq => some (.bool (intLe b a))
  | _ => none

def shiftInt (op : BinOp) (k : IntKind) (a b : Int) : Option AVal :=
  match b with
  | .ofNat b =>
    let n := Bool.casesOn (Nat.ble b k.bits) k.bits b
    match op with
    | .shl => some (.int k (k.wrap (Int.mul a (Int.ofNat (Nat.pow 2 n)))))
    | .shr => some (.int k (Int.fdiv a (Int.ofNat (Nat.pow 2 n))))
    | _ => none
  | .negSucc _ => none

def binStr (op : BinOp) (a b : List UInt8) : Option AVal :=
  match op with
  | .add => Bool.casesOn (Nat.ble (Nat.add (len a) (len b)) 4294967296) none (some (.str (a ++ b)))
  | .eql => some (.bool (strEq a b))
  | .neq => some (.bool (strEq a b).not)
  | .lss => some (.bool (Op.bytesLess a b))
  | .leq => some (.bool (Op.bytesLess a b || strEq a b))
  | .gtr => some (.bool (Op.bytesLess a b || strEq a b).not)
  | .geq => some (.bool (Op.bytesLess a b).not)
  | _ => none

def binOpA (op : BinOp) (x y : AVal) : Option AVal :=
  match x, y with
  | .int k a, .int k' b =>
    match op with
    | .shl | .shr => shiftInt op k a b
    | _ => Bool.casesOn (kindEq k k') none (binInt op k a b)
  | .str a, .str b => binStr op a b
  | _, _ => none

/-- The same, by the operation first; the arms are closed. -/
def onTwo (f : IntKind → Int → Int → Option AVal) (g : List UInt8 → List UInt8 → Option AVal) (x y : AVal) : Option AVal :=
  match x, y with
  | .int k a, .int k' b => Bool.casesOn (kindEq k k') none (f k a b)
  | .str a, .str b => g a b
  | _, _ => none
def onShift (op : BinOp) (x y : AVal) : Option AVal :=
  match x, y with
  | .int k a, .int _ b => shiftInt op k a b
  | _, _ => none
def noStr (_ _ : List UInt8) : Option AVal := none
def binFast (op : BinOp) : AVal → AVal → Option AVal :=
  BinOp.casesOn (motive := fun _ => AVal → AVal → Option AVal) op
    (onTwo (fun k a b => some (.int k (wrapK k (Int.add a b)))) (binStr .add))
    (onTwo (fun k a b => some (.int k (wrapK k (Int.sub a b)))) noStr)
    (onTwo (fun k a b => some (.int k (wrapK k (Int.mul a b)))) noStr)
    (onTwo (fun k a b => Bool.casesOn (intEq b 0) (some (.int k (wrapK k (Int.tdiv a b)))) none) noStr)
    (onTwo (fun k a b => Bool.casesOn (intEq b 0) (some (.int k (Int.tmod a b))) none) noStr)
    (onTwo (fun k a b => some (.int k (k.wrap (BitVec.ofInt k.bits a &&& BitVec.ofInt k.bits b).toNat))) noStr)
    (onTwo (fun k a b => some (.int k (k.wrap (BitVec.ofInt k.bits a ||| BitVec.ofInt k.bits b).toNat))) noStr)
    (onTwo (fun k a b => some (.int k (k.wrap (BitVec.ofInt k.bits a ^^^ BitVec.ofInt k.bits b).toNat))) noStr)
    (onShift .shl) (onShift .shr)
    (onTwo (fun k a b => some (.int k (k.wrap (BitVec.ofInt k.bits a &&& ~~~BitVec.ofInt k.bits b).toNat))) noStr)
    (onTwo (fun _ a b => some (.bool (intEq a b))) (fun a b => some (.bool (strEq a b))))
    (onTwo (fun _ a b => some (.bool (intEq a b).not)) (fun a b => some (.bool (strEq a b).not)))
    (onTwo (fun _ a b => some (.bool (intLe b a).not)) (binStr .lss))
    (onTwo (fun _ a b => some (.bool (intLe a b))) (binStr .leq))
    (onTwo (fun _ a b => some (.bool (intLe a b).not)) (binStr .gtr))
    (onTwo (fun _ a b => some (.bool (intLe b a))) (binStr .geq))

/-- Equality of cells of a kind. -/
def eqCell (ck : CK) (x y : AVal) : Option Bool :=
  match ck, x, y with
  | .int, .int k a, .int k' b => Bool.casesOn (kindEq k k') none (some (intEq a b))
  | .str, .str a, .str b => some (strEq a b)
  | .bool, .bool a, .bool b => some (a == b)
  | _, _, _ => none
def eqCellsA : List CK → List AVal → List AVal → Option Bool
  | [], [], [] => some true
  | ck :: ks, a :: as, b :: bs => match eqCell ck a b with
    | none => none
    | some false => some false
    | some true => eqCellsA ks as bs
  | _, _, _ => none

/-- Equality where one side is nil. -/
def eqNilA (nk : NK) (x y : AVal) : Option Bool :=
  match nk, x, y with
  | .ptr, .ptr none, .ptr b => some b.isNone
  | .ptr, .ptr (some _), .ptr none => some false
  | .slice, .slice none _ _ _ _, .slice b _ _ _ _ => some b.isNone
  | .slice, .slice (some _) _ _ _ _, .slice none _ _ _ _ => some false
  | .map, .map none, .map b => some b.isNone
  | .map, .map (some _), .map none => some false
  | .func, .nilFunc, .nilFunc => some true
  | .func, .nilFunc, .func _ _ => some false
  | .func, .func _ _, .nilFunc => some false
  | .iface, .nilIface, .iface _ _ => some false
  | .iface, .iface _ _, .nilIface => some false
  | .iface, .nilIface, .nilIface => some true
  | _, _, _ => none

def unA (op : UnOp) (x : AVal) : Option AVal :=
  match op, x with
  | .neg, .int k n => some (.int k (wrapK k (Int.sub 0 n)))
  | .xor, .int k n => binInt .xor k (if k.signed then -1 else k.max) n
  | .not, .bool b => some (.bool b.not)
  | _, _ => none

/-- Parts laid over cells: a part has its place and its size. -/
def fillA (parts : List ((Nat × Nat) × Opd)) (ts : Tmps) : List AVal → Option (List AVal) :=
  List.rec (motive := fun _ => List AVal → Option (List AVal)) some
    (fun p _ ih cells =>
      let v := (p.2.ev ts).cells
      Bool.casesOn (Nat.beq (len v) p.1.2) none (Option.casesOn (overAt? cells v p.1.1) none ih)) parts

def repN (zero : List AVal) (n : Nat) : List AVal :=
  Nat.rec (motive := fun _ => List AVal) [] (fun _ ih => zero ++ ih) n

/-- A bound of a slice: absent, or from 0 to the greatest. -/
def bound (v : Option AVal) (most dflt : Nat) : Option Nat :=
  match v with
  | none => some dflt
  | some (.int _ (.ofNat i)) => Bool.casesOn (Nat.ble i most) none (some i)
  | _ => none

def optEv (x : Option Opd) (ts : Tmps) : Option AVal :=
  match x with
  | none => none
  | some x => some (x.ev ts)

def sliceA (esz : Nat) (x : AVal) (lo hi max : Option AVal) : Option AVal :=
  match x with
  | .slice a len cap ex esz' =>
    match bound max cap cap with
    | none => none
    | some m => match bound hi m len with
      | none => none
      | some h => match bound lo h 0 with
        | none => none
        | some l =>
          match max, hi with
          | some _, none => none
          | _, _ => match a with
            | none => some (.slice none (Nat.sub h l) (Nat.sub m l) (ex || max.isSome) esz')
            | some (b, o) => Bool.casesOn (Nat.beq esz esz') none (some (.slice (some (b, Nat.add o (Nat.mul l esz))) (Nat.sub h l) (Nat.sub m l) (ex || max.isSome) esz'))
  | _ => none

def sliceStrA (x : AVal) (lo hi : Option AVal) : Option AVal :=
  match x with
  | .str s =>
    match bound hi (len s) (len s) with
    | none => none
    | some h => match bound lo h 0 with
      | none => none
      | some l => match subN? s l (Nat.sub h l) with
        | none => none
        | some r => some (.str r)
  | _ => none

def sliceArrA (n esz : Nat) (x : AVal) (lo hi : Option AVal) : Option AVal :=
  match x with
  | .ptr (some (b, o)) =>
    match bound hi n n with
    | none => none
    | some h => match bound lo h 0 with
      | none => none
      | some l => some (.slice (some (b, Nat.add o (Nat.mul l esz))) (Nat.sub h l) (Nat.sub n l) true esz)
  | _ => none

/-- What an operation comes to: a value and a heap; a deferred call; a panic with a value. -/
inductive Out where
  | val (v : AVal) (σ : Heap)
  | defr (f : FuncId) (args : List AVal) (σ : Heap)
  | panic (v : AVal) (σ : Heap)
  | fail

def Out.of (v : Option AVal) (σ : Heap) : Out :=
  match v with
  | some v => .val v σ
  | none => .fail
def Out.heap (v : AVal) : Option Heap → Out
  | some σ => .val v σ
  | none => .fail

def appendA (esz bytes : Nat) (σ : Heap) (s : AVal) (xs : List AVal) (n : Nat) : Out :=
  match s with
  | .slice a ln cap ex esz' =>
    let need := Nat.add ln n
    Bool.casesOn (Nat.ble need cap)
      (Bool.casesOn (Nat.ble (Nat.mul need bytes) 1099511627776 && Nat.ble need 1099511627776 && Nat.ble 1 bytes && allOne xs) .fail
        (match a with
        | none => .val (.slice (some (σ.next, 0)) need need false esz) (σ.new (.cells xs))
        | some (b, o) => Bool.casesOn (Nat.beq esz' esz) .fail
          (match σ.loadN b o (Nat.mul ln esz) with
          | none => .fail
          | some old => .val (.slice (some (σ.next, 0)) need need false esz) (Heap.new (Bool.casesOn ex (σ.kill b) σ) (.cells (old ++ xs))))))
      (match a with
      | none => Bool.casesOn (isNil xs) .fail (.val (.slice none need cap ex esz') σ)
      | some (b, o) => Bool.casesOn (Nat.beq esz' esz) .fail
        (Bool.casesOn (isNil xs)
          (Out.heap (.slice a need cap ex esz') (σ.storeN b (Nat.add o (Nat.mul ln esz)) xs))
          (.val (.slice a need cap ex esz') σ)))
  | _ => .fail

def byteVal (c : UInt8) : AVal := .int .u8 (Int.ofNat c.toNat)

/-- The cells that n elements of a slice or a string give to append and copy. -/
def elemsOf (esz : Nat) (σ : Heap) (n : Nat) (x : AVal) : Option (List AVal) :=
  match x with
  | .slice none _ _ _ _ => some []
  | .slice (some (b, o)) _ _ _ esz' => Bool.casesOn (Nat.beq esz' esz) none (Bool.casesOn (Nat.beq n 0) (σ.loadN b o (Nat.mul n esz)) (some []))
  | .str s => Bool.casesOn (Nat.beq esz 1) none (some ((s.take n).map byteVal))
  | _ => none
def lenA : AVal → Option Nat
  | .slice _ n _ _ _ => some n
  | .str s => some (len s)
  | _ => none

def findKeyA (ck : CK) (k : AVal) : List (AVal × AVal) → Option (Option AVal)
  | [] => some none
  | (k', v) :: es => match eqCell ck k k' with
    | none => none
    | some true => some (some v)
    | some false => findKeyA ck k es
def putKeyA (ck : CK) (k v : AVal) : List (AVal × AVal) → List (AVal × AVal)
  | [] => [(k, v)]
  | (k', v') :: es => match eqCell ck k k' with
    | some true => (k, v) :: es
    | _ => (k', v') :: putKeyA ck k v es
def dropKeyA (ck : CK) (k : AVal) : List (AVal × AVal) → List (AVal × AVal)
  | [] => []
  | (k', v') :: es => match eqCell ck k k' with
    | some true => es
    | _ => (k', v') :: dropKeyA ck k es

def byteOf : AVal → Option UInt8
  | .int .u8 (.ofNat n) => Bool.casesOn (Nat.ble n 255) none (some (UInt8.ofNat n))
  | _ => none

/-- The index of a byte in a text, or -1. -/
def findByte : List UInt8 → Nat → Nat → Int
  | [], _, _ => -1
  | b :: bs, c, i => Bool.casesOn (Nat.beq b.toNat c) (findByte bs c (Nat.succ i)) (Int.ofNat i)

def partA (n : Option Nat) (cs : List AVal) (off : Nat) : Option AVal :=
  match n with
  | none => nth? cs off
  | some n => match subN? cs off n with
    | some r => some (.agg r)
    | none => none

def evs (xs : List Opd) (ts : Tmps) : List AVal :=
  List.rec (motive := fun _ => List AVal) [] (fun x _ ih => x.ev ts :: ih) xs

/-! Each operation, a function of its operands, the temporaries and the heap. -/

abbrev OpF := Tmps → Heap → Out

def oMove (x : Opd) : OpF := fun ts σ => .val (x.ev ts) σ
def oPick (c a b : Opd) : OpF := fun ts σ => match c.ev ts with
  | .bool true => .val (a.ev ts) σ
  | .bool false => .val (b.ev ts) σ
  | _ => .fail
def oAlloc (zero : List AVal) : OpF := fun _ σ => .val (.ptr (some (σ.next, 0))) (σ.new (.cells zero))
def oBox (x : Opd) : OpF := fun ts σ =>
  Bool.casesOn (allOne (x.ev ts).cells) .fail (.val (.ptr (some (σ.next, 0))) (σ.new (.cells (x.ev ts).cells)))
def oBuild (zero : List AVal) (parts : List ((Nat × Nat) × Opd)) : OpF := fun ts σ => match fillA parts ts zero with
  | some cs => .val (.agg cs) σ
  | none => .fail
def oBuildSlice (zero : List AVal) (esz ln : Nat) (parts : List ((Nat × Nat) × Opd)) : OpF := fun ts σ =>
  match fillA parts ts (repN zero ln) with
  | some cs => Bool.casesOn (allOne cs) .fail (.val (.slice (some (σ.next, 0)) ln ln true esz) (σ.new (.cells cs)))
  | none => .fail
def oLoad (n : Option Nat) (a : Opd) : OpF := fun ts σ => .of (loadAt σ n (a.ev ts)) σ
def oStore (n : Nat) (a x : Opd) : OpF := fun ts σ => match a.ev ts with
  | .ptr (some (b, o)) => Bool.casesOn (Nat.beq (len (x.ev ts).cells) n) .fail (.heap .undef (σ.storeN b o (x.ev ts).cells))
  | _ => .fail
def oNilCheck (x : Opd) : OpF := fun ts σ => match x.ev ts with
  | .ptr none | .nilIface | .nilFunc => .fail
  | v => .val v σ
def oBin (op : BinOp) (x y : Opd) : OpF := fun ts σ => .of (binFast op (x.ev ts) (y.ev ts)) σ
def negIf (neg : Bool) (b : Bool) : Bool := Bool.casesOn neg b b.not
def oEqCells (neg : Bool) (ks : List CK) (x y : Opd) : OpF := fun ts σ => match x.ev ts, y.ev ts with
  | .agg as, .agg bs => Bool.casesOn (Nat.beq (len as) (len ks) && Nat.beq (len bs) (len ks)) .fail (match eqCellsA ks as bs with
    | some b => .val (.bool (negIf neg b)) σ
    | none => .fail)
  | _, _ => .fail
def oEqBool (neg : Bool) (x y : Opd) : OpF := fun ts σ => match x.ev ts, y.ev ts with
  | .bool a, .bool b => .val (.bool (negIf neg (a == b))) σ
  | _, _ => .fail
def oEqNil (neg : Bool) (nk : NK) (x y : Opd) : OpF := fun ts σ => match eqNilA nk (x.ev ts) (y.ev ts) with
  | some b => .val (.bool (negIf neg b)) σ
  | none => .fail
def oEqPtr (neg : Bool) (x y : Opd) : OpF := fun ts σ => match x.ev ts, y.ev ts with
  | .ptr (some (b, o)), .ptr (some (b', o')) => Bool.casesOn (Nat.beq b b') .fail (.val (.bool (negIf neg (Nat.beq o o'))) σ)
  | _, _ => .fail
def oUn (op : UnOp) (x : Opd) : OpF := fun ts σ => .of (unA op (x.ev ts)) σ
def oConvInt (k : IntKind) (x : Opd) : OpF := fun ts σ => match x.ev ts with
  | .int _ n => .val (.int k (wrapK k n)) σ
  | _ => .fail
def oConvId (x : Opd) : OpF := fun ts σ => match x.ev ts with
  | .str s => .val (.str s) σ
  | _ => .fail
def oBytesOf (x : Opd) : OpF := fun ts σ => match x.ev ts with
  | .str s => Bool.casesOn (Nat.ble (len s) 4294967296) .fail (.val (.slice (some (σ.next, 0)) (len s) (len s) false 1) (σ.new (.cells (s.map byteVal))))
  | _ => .fail
def oTextOf (x : Opd) : OpF := fun ts σ => match x.ev ts with
  | .slice none _ _ _ _ => .val (.str []) σ
  | .slice (some (b, o)) ln _ _ esz => Bool.casesOn (Nat.beq esz 1) .fail (Bool.casesOn (Nat.beq ln 0) (match σ.loadN b o ln with
    | some cs => match mapO byteOf cs with
      | some s => .val (.str s) σ
      | none => .fail
    | none => .fail) (.val (.str []) σ))
  | _ => .fail
def oMkIface (t : TypeId) (x : Opd) : OpF := fun ts σ => .val (.iface t (x.ev ts)) σ
def oMkFunc (f : FuncId) (caps : List Opd) : OpF := fun ts σ => .val (.func f (evs caps ts)) σ
def oMkMap : OpF := fun _ σ => .val (.map (some σ.next)) (σ.new (.map []))
def oMkSlice (zero : List AVal) (esz bytes : Nat) (l c : Opd) : OpF := fun ts σ => match l.ev ts, c.ev ts with
  | .int .i64 (.ofNat l), .int .i64 (.ofNat c) =>
    Bool.casesOn (Nat.ble l c && Nat.ble c 4294967296 && Nat.ble (Nat.mul bytes c) 1099511627776) .fail
      (.val (.slice (some (σ.next, 0)) l c true esz) (σ.new (.cells (repN zero c))))
  | _, _ => .fail
def oSlice (esz : Nat) (x : Opd) (lo hi max : Option Opd) : OpF := fun ts σ => .of (sliceA esz (x.ev ts) (optEv lo ts) (optEv hi ts) (optEv max ts)) σ
def oSliceArr (n esz : Nat) (x : Opd) (lo hi : Option Opd) : OpF := fun ts σ => .of (sliceArrA n esz (x.ev ts) (optEv lo ts) (optEv hi ts)) σ
def oSliceStr (x : Opd) (lo hi : Option Opd) : OpF := fun ts σ => .of (sliceStrA (x.ev ts) (optEv lo ts) (optEv hi ts)) σ
def oFieldAddr (off : Nat) (x : Opd) : OpF := fun ts σ => match x.ev ts with
  | .ptr (some (b, o)) => .val (.ptr (some (b, Nat.add o off))) σ
  | _ => .fail
def oField (off : Nat) (n : Option Nat) (x : Opd) : OpF := fun ts σ => match x.ev ts with
  | .agg cs => .of (partA n cs off) σ
  | _ => .fail
def oIndexAddr (esz : Nat) (x i : Opd) : OpF := fun ts σ => match x.ev ts, i.ev ts with
  | .slice (some (b, o)) ln _ _ esz', .int _ (.ofNat i) => Bool.casesOn (Nat.beq esz' esz && Nat.ble (Nat.succ i) ln) .fail (.val (.ptr (some (b, Nat.add o (Nat.mul i esz)))) σ)
  | _, _ => .fail
def oIndexArr (ln esz : Nat) (x i : Opd) : OpF := fun ts σ => match x.ev ts, i.ev ts with
  | .ptr (some (b, o)), .int _ (.ofNat i) => Bool.casesOn (Nat.ble (Nat.succ i) ln) .fail (.val (.ptr (some (b, Nat.add o (Nat.mul i esz)))) σ)
  | _, _ => .fail
def oIndex (ln esz : Nat) (n : Option Nat) (x i : Opd) : OpF := fun ts σ => match x.ev ts, i.ev ts with
  | .agg cs, .int _ (.ofNat i) => Bool.casesOn (Nat.ble (Nat.succ i) ln) .fail (.of (partA n cs (Nat.mul i esz)) σ)
  | _, _ => .fail
def oIndexStr (x i : Opd) : OpF := fun ts σ => match x.ev ts, i.ev ts with
  | .str s, .int _ (.ofNat i) => match nth? s i with
    | some c => .val (byteVal c) σ
    | none => .fail
  | _, _ => .fail
def oLookup (ck : CK) (zero : AVal) (x i : Opd) (ok : Bool) : OpF := fun ts σ =>
  match (match x.ev ts with
      | .map none => some none
      | .map (some m) => match σ.get m with
        | some (.map es) => findKeyA ck (i.ev ts) es
        | _ => none
      | _ => none) with
  | none => .fail
  | some (some v) => .val (Bool.casesOn ok v (.tuple [v, .bool true])) σ
  | some none => .val (Bool.casesOn ok zero (.tuple [zero, .bool false])) σ
def oMapUpdate (ck : CK) (m k v : Opd) : OpF := fun ts σ => match m.ev ts with
  | .map (some r) => match σ.get r with
    | some (.map es) => match findKeyA ck (k.ev ts) es with
        | some _ => .val .undef (σ.put r (.map (putKeyA ck (k.ev ts) (v.ev ts) es)))
        | none => .fail
    | _ => .fail
  | _ => .fail
def oExtract (x : Opd) (i : Nat) : OpF := fun ts σ => match x.ev ts with
  | .tuple vs => .of (nth? vs i) σ
  | _ => .fail
def oAppend (esz bytes : Nat) (s x : Opd) : OpF := fun ts σ =>
  match lenA (x.ev ts) with
  | none => .fail
  | some n => match elemsOf esz σ n (x.ev ts) with
    | none => .fail
    | some xs => appendA esz bytes σ (s.ev ts) xs n
def oCopy (esz : Nat) (d s : Opd) : OpF := fun ts σ => match d.ev ts with
  | .slice a dLen _ _ esz' =>
    match lenA (s.ev ts) with
    | none => .fail
    | some m =>
      let n := Bool.casesOn (Nat.ble m dLen) dLen m
      match elemsOf esz σ n (s.ev ts) with
      | none => .fail
      | some xs =>
        match a with
        | none => Bool.casesOn (isNil xs) .fail (.val (.int .i64 (Int.ofNat n)) σ)
        | some (b, o) => Bool.casesOn (Nat.beq esz' esz) .fail
          (Bool.casesOn (isNil xs) (Out.heap (.int .i64 (Int.ofNat n)) (σ.storeN b o xs)) (.val (.int .i64 (Int.ofNat n)) σ))
  | _ => .fail
def oLen (x : Opd) : OpF := fun ts σ => match x.ev ts with
  | .slice _ n _ _ _ => .val (.int .i64 (Int.ofNat n)) σ
  | _ => .fail
def oLenStr (x : Opd) : OpF := fun ts σ => match x.ev ts with
  | .str s => .val (.int .i64 (Int.ofNat (len s))) σ
  | _ => .fail
def oLenMap (x : Opd) : OpF := fun ts σ => match x.ev ts with
  | .map none => .val (.int .i64 0) σ
  | .map (some r) => match σ.get r with
    | some (.map es) => .val (.int .i64 (Int.ofNat (len es))) σ
    | _ => .fail
  | _ => .fail
def oLenConst (n : Nat) : OpF := fun _ σ => .val (.int .i64 (Int.ofNat n)) σ
def oCap (x : Opd) : OpF := fun ts σ => match x.ev ts with
  | .slice _ _ c true _ => .val (.int .i64 (Int.ofNat c)) σ
  | _ => .fail
def oMin (x y : Opd) : OpF := fun ts σ => match x.ev ts, y.ev ts with
  | .int k a, .int _ b => .val (.int k (Bool.casesOn (intLe a b) b a)) σ
  | _, _ => .fail
def oMax (x y : Opd) : OpF := fun ts σ => match x.ev ts, y.ev ts with
  | .int k a, .int _ b => .val (.int k (Bool.casesOn (intLe b a) b a)) σ
  | _, _ => .fail
def oDelete (ck : CK) (m k : Opd) : OpF := fun ts σ => match m.ev ts with
  | .map none => .val .undef σ
  | .map (some r) => match σ.get r with
    | some (.map es) => match findKeyA ck (k.ev ts) es with
        | some _ => .val .undef (σ.put r (.map (dropKeyA ck (k.ev ts) es)))
        | none => .fail
    | _ => .fail
  | _ => .fail
def oPanic (x : Opd) : OpF := fun ts σ => match x.ev ts with
  | .iface t v => .panic (.iface t v) σ
  | _ => .fail
def oDefer (f : Opd) (args : List Opd) : OpF := fun ts σ => match f.ev ts with
  | .func f caps => .defr f (evs args ts ++ caps) σ
  | _ => .fail
def oRangeStr (x : Opd) : OpF := fun ts σ => match x.ev ts with
  | .str s => .val (.ptr (some (σ.next, 0))) (σ.new (.iter s 0))
  | _ => .fail
def oNextStr (x : Opd) : OpF := fun ts σ => match x.ev ts with
  | .ptr (some (b, 0)) => match σ.get b with
    | some (.iter s pos) => match nth? s pos with
      | none => .val (.tuple [.bool false]) σ
      | some c => Bool.casesOn (Nat.ble c.toNat 127) .fail (.val (.tuple [.bool true, .int .i64 (Int.ofNat pos), .int .i32 (Int.ofNat c.toNat)]) (σ.put b (.iter s (Nat.succ pos))))
    | _ => .fail
  | _ => .fail
def oIndexByte (s c : Opd) : OpF := fun ts σ => match s.ev ts, c.ev ts with
  | .str s, .int .u8 (.ofNat c) => Bool.casesOn (Nat.ble c 255) .fail (.val (.int .i64 (findByte s c 0)) σ)
  | _, _ => .fail
def oFail : OpF := fun _ _ => .fail

abbrev CallFn := FuncId → List AVal → Heap → Out

def oCall (f : FuncId) (args : List Opd) (call : CallFn) : OpF := fun ts σ => call f (evs args ts) σ
def oCallDyn (f : Opd) (args : List Opd) (call : CallFn) : OpF := fun ts σ => match f.ev ts with
  | .func f caps => call f (evs args ts ++ caps) σ
  | _ => .fail

/-- Each operation, by its name; the arms are closed. -/
def evOp (o : AOp) : CallFn → OpF :=
  AOp.casesOn (motive := fun _ => CallFn → OpF) o
    (fun x _ => oMove x)
    (fun c a b _ => oPick c a b)
    (fun z _ => oAlloc z)
    (fun x _ => oBox x)
    (fun z ps _ => oBuild z ps)
    (fun z e l ps _ => oBuildSlice z e l ps)
    (fun n a _ => oLoad n a)
    (fun n a x _ => oStore n a x)
    (fun x _ => oNilCheck x)
    (fun op x y _ => oBin op x y)
    (fun n ks x y _ => oEqCells n ks x y)
    (fun n x y _ => oEqBool n x y)
    (fun n nk x y _ => oEqNil n nk x y)
    (fun n x y _ => oEqPtr n x y)
    (fun op x _ => oUn op x)
    (fun k x _ => oConvInt k x)
    (fun x _ => oConvId x)
    (fun x _ => oBytesOf x)
    (fun x _ => oTextOf x)
    (fun t x _ => oMkIface t x)
    (fun f cs _ => oMkFunc f cs)
    (fun _ => oMkMap)
    (fun z e b l c _ => oMkSlice z e b l c)
    (fun e x lo hi mx _ => oSlice e x lo hi mx)
    (fun n e x lo hi _ => oSliceArr n e x lo hi)
    (fun x lo hi _ => oSliceStr x lo hi)
    (fun off x _ => oFieldAddr off x)
    (fun off n x _ => oField off n x)
    (fun e x i _ => oIndexAddr e x i)
    (fun l e x i _ => oIndexArr l e x i)
    (fun l e n x i _ => oIndex l e n x i)
    (fun x i _ => oIndexStr x i)
    (fun ck z x i ok _ => oLookup ck z x i ok)
    (fun ck m k v _ => oMapUpdate ck m k v)
    (fun x i _ => oExtract x i)
    (fun f args => oCall f args)
    (fun f args => oCallDyn f args)
    (fun e b s x _ => oAppend e b s x)
    (fun e d s _ => oCopy e d s)
    (fun x _ => oLen x)
    (fun x _ => oLenStr x)
    (fun x _ => oLenMap x)
    (fun n _ => oLenConst n)
    (fun x _ => oCap x)
    (fun x y _ => oMin x y)
    (fun x y _ => oMax x y)
    (fun ck m k _ => oDelete ck m k)
    (fun x _ => oPanic x)
    (fun f args _ => oDefer f args)
    (fun _ => oFail)
    (fun x _ => oRangeStr x)
    (fun x _ => oNextStr x)
    (fun s c _ => oIndexByte s c)
    (fun _ => oFail)

def noCall : CallFn := fun _ _ _ => .fail
/-- Operations other than calls. -/
def pureOp (o : AOp) : OpF := evOp o noCall

structure AAct where
  tmps : Tmps
  defers : List (FuncId × List AVal)

def putT (dst : Option Nat) (v : AVal) (ts : Tmps) : Tmps :=
  match dst with
  | some d => setTmp ts d v
  | none => ts

def AAct.put (a : AAct) (dst : Option Nat) (v : AVal) : AAct := ⟨putT dst v a.tmps, a.defers⟩

inductive AExit where
  | normal
  | exit (id : Nat)
  | ret
  | panic (v : AVal)

inductive Res where
  | done (e : AExit) (a : AAct) (σ : Heap)
  | fail

def wantedA (g : Option (Nat × Bool)) (ts : Tmps) : Bool :=
  match g with
  | none => true
  | some (t, want) => match tmpOf ts t with
    | .bool b => b == want
    | _ => false

abbrev RunF := AAct → Heap → Res

/-- What follows an operation. -/
def afterOp (o : Out) (dst : Option Nat) (k : RunF) (a : AAct) : Res :=
  match o with
  | .val v σ => k (a.put dst v) σ
  | .defr f args σ => k ⟨putT dst .undef a.tmps, (f, args) :: a.defers⟩ σ
  | .panic v σ => .done (.panic v) a σ
  | .fail => .fail

def execItem (call : CallFn) (i : Item) (k : RunF) (a : AAct) (σ : Heap) : Res :=
  Bool.casesOn (wantedA i.guard a.tmps) (k (a.put i.dst .undef) σ) (afterOp (evOp i.op call a.tmps σ) i.dst k a)

def againItem (i : Item) (k : RunF) (a : AAct) (σ : Heap) : Res :=
  Bool.casesOn (wantedA i.guard a.tmps) (k a σ)
    (match pureOp i.op a.tmps σ, i.dst with
    | .val v _, some d => Bool.casesOn (AVal.beq v (tmpOf a.tmps d)) .fail (k a σ)
    | _, _ => .fail)

def movItem (d : Nat) (x : Opd) (k : RunF) (a : AAct) (σ : Heap) : Res := k ⟨setTmp a.tmps d (x.ev a.tmps), a.defers⟩ σ

def evStep (s : Step) : CallFn → RunF → RunF :=
  Step.casesOn (motive := fun _ => CallFn → RunF → RunF) s (fun d x _ => movItem d x) (fun i call => execItem call i) (fun i _ => againItem i)

def doneF : RunF := fun a σ => .done .normal a σ

/-- The steps of a region. -/
def evSteps (call : CallFn) (l : List Step) : RunF :=
  List.rec (motive := fun _ => RunF) doneF (fun s _ ih => evStep s call ih) l

/-- A loop, at most n rounds. -/
def evLoop (body : RunF) (n : Nat) : RunF :=
  Nat.rec (motive := fun _ => RunF) (fun _ _ => .fail) (fun _ ih a σ => match body a σ with
    | .done .normal a' σ' => ih a' σ'
    | r => r) n

def evSeq (x y : RunF) : RunF := fun a σ => match x a σ with
  | .done .normal a' σ' => y a' σ'
  | r => r
def evCond (c : Opd) (x y : RunF) : RunF := fun a σ => match c.ev a.tmps with
  | .bool true => x a σ
  | .bool false => y a σ
  | _ => .fail
def evBlock (id : Nat) (x : RunF) : RunF := fun a σ => match x a σ with
  | .done (.exit id') a' σ' => Bool.casesOn (Nat.beq id' id) (.done (.exit id') a' σ') (.done .normal a' σ')
  | r => r
def evExit (e : AExit) : RunF := fun a σ => .done e a σ
def evBad : RunF := fun _ _ => .fail

def evCode (call : CallFn) (rounds : Nat) (c : ACode) : RunF :=
  ACode.rec (motive := fun _ => RunF) doneF (fun l => evSteps call l) (fun _ _ x y => evSeq x y) (fun c _ _ x y => evCond c x y) (fun id _ x => evBlock id x)
    (fun _ x => evLoop x rounds) (fun id => evExit (.exit id)) (evExit .ret) (fun _ x => x) evBad c

def resultA (ts : Tmps) (σ : Heap) : ARes → Option AVal
  | .tmp t => some (tmpOf ts t)
  | .cell t n => loadAt σ n (tmpOf ts t)

def resultsA (rs : List ARes) (ts : Tmps) (σ : Heap) : Option AVal :=
  match mapO (resultA ts σ) rs with
  | some [v] => some v
  | some vs => some (.tuple vs)
  | none => none

/-- What a deferred function does where nothing panics: its recover gives nil. -/
def execItemD (call : CallFn) (i : Item) (k : RunF) (a : AAct) (σ : Heap) : Res :=
  Bool.casesOn (wantedA i.guard a.tmps) (k (a.put i.dst .undef) σ)
    (match i.op with
    | .recover => k (a.put i.dst .nilIface) σ
    | o => match evOp o call a.tmps σ with
      | .val v σ' => k (a.put i.dst v) σ'
      | _ => .fail)
def evStepD (call : CallFn) (s : Step) : RunF → RunF :=
  match s with
  | .mov d x => movItem d x
  | .exec i => execItemD call i
  | .recheck _ => fun _ _ _ => .fail
def evStepsD (call : CallFn) (l : List Step) : RunF :=
  List.rec (motive := fun _ => RunF) doneF (fun s _ ih => evStepD call s ih) l
def evCodeD (call : CallFn) (c : ACode) : RunF :=
  ACode.rec (motive := fun _ => RunF) doneF (fun l => evStepsD call l) (fun _ _ x y => evSeq x y) (fun c _ _ x y => evCond c x y) (fun _ _ _ => evBad)
    (fun _ _ => evBad) (fun _ => evBad) (evExit .ret) (fun _ _ => evBad) evBad c

/-- A frame's first temporaries: the arguments. -/
def layArgs (args : List AVal) : Nat → Tmps → Tmps :=
  List.rec (motive := fun _ => Nat → Tmps → Tmps) (fun _ ts => ts) (fun x _ ih n ts => ih (Nat.succ n) (setTmp ts n x)) args

def frameOf (fn : AFunc) (args : List AVal) : AAct := ⟨layArgs args 0 .empty, []⟩

/-- The deferred calls of a frame that returns. -/
def evDefers (tbl : FuncId → Option AFunc) (call : CallFn) : List (FuncId × List AVal) → Heap → Option Heap
  | [], σ => some σ
  | (f, args) :: ds, σ => match tbl f with
    | none => none
    | some fn => Bool.casesOn (Nat.ble (len args) 256) none (match evCodeD call fn.body (frameOf fn args) σ with
      | .done .normal a σ' | .done .ret a σ' => Bool.casesOn (isNil a.defers && (resultsA fn.results a.tmps σ').isSome) none (evDefers tbl call ds σ')
      | _ => none)

def returnA (tbl : FuncId → Option AFunc) (call : CallFn) (fn : AFunc) (a : AAct) (σ : Heap) : Out :=
  match evDefers tbl call a.defers σ with
  | none => .fail
  | some σ' => .of (resultsA fn.results a.tmps σ') σ'

def callStep (tbl : FuncId → Option AFunc) (rounds : Nat) (call : CallFn) : CallFn := fun f args σ =>
  match tbl f with
  | none => .fail
  | some fn => Bool.casesOn (Nat.ble (len args) 256) .fail
    (match evCode call rounds fn.body (frameOf fn args) σ with
    | .done .normal a σ' => returnA tbl call fn a σ'
    | .done .ret a σ' => returnA tbl call fn a σ'
    | _ => .fail)

/-- A call whose heap has no fewer names. -/
def guardN (σ : Heap) (o : Out) : Out :=
  match o with
  | .val v σ' => Bool.casesOn (Nat.ble σ.next σ'.next) .fail (.val v σ')
  | o => o

def evCall (tbl : FuncId → Option AFunc) (rounds : Nat) (n : Nat) : CallFn :=
  Nat.rec (motive := fun _ => CallFn) (fun _ _ _ => .fail) (fun _ ih f args σ => guardN σ (callStep tbl rounds ih f args σ)) n

end Go.Ab
end

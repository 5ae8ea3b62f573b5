/- The walk itself: what a piece of a function's code asks of memory, reckoned from its operations ('WP'); its slots and what is known of the call's own variables are followed on the way. -/
import Derived.Test.YtemkcbopbinfmaaGreatDoorVKA
import Derived.OrdersHeld
import Derived.OrdersIn
import Derived.RangeFuncIn
import Derived.RangeFuncLeaves
import Derived.Tactics
set_option linter.all false
namespace Go.VK
open Go

/-- A call: of the results and the memory behind it, whatever the rest of the world. -/
def HC (P : Program) (f : FuncId) (args : Array Value) (h : Heap) (R : Ending → Heap → Prop) : Prop :=
  ∀ w : World, w.heap = h → Calls P f args w fun e w' => w'.os = w.os ∧ w'.tape = w.tape ∧ w'.output = w.output ∧ R e w'.heap

def CALL (P : Program) (Z : List PanicEntry → Heap → Prop) (f : FuncId) (args : List Value) (R : List Lay) (h : Heap) (bs : List Nat) (K : Cur (flat R) (Heap → Prop)) : Prop :=
  HC P f args.toArray h fun
    | .returned v, h' => ∃ x : TT (flat R), v = asm R (vals _ x) ∧ KEEP h h' bs ∧ unc _ K x h'
    | .panicked c, h' => Z c h'
    | .outgrown, _ => False

/-- A round of a range over a function: the call of its 'yield'. -/
def HY (P : Program) (l : Nat) (args : Array Value) (h : Heap) (R : Ending → Heap → Prop) : Prop :=
  ∀ w : World, w.heap = h → ∃ r : Loop, h[l]? = some (.loop r) ∧ args.size = r.params.size ∧
    RoundIn Fence.wide 0 P l r.fn ((r.params.zip args).foldl (fun tmps (t, a) => tmps.setIfInBounds t a) r.tmps) r.assign r.body w
      fun e w' => w'.os = w.os ∧ w'.tape = w.tape ∧ w'.output = w.output ∧ R e w'.heap

/-- A call of a function value. -/
def HF (P : Program) (v : Value) (args : List Value) (h : Heap) (R : Ending → Heap → Prop) : Prop :=
  ∃ f first cap, v = .func (.func f) first cap ∧ ((P.funcs[f]?).any (·.body.isSome)) = true ∧ HC P f (first.toList ++ args ++ cap.toList).toArray h R

def HV (P : Program) (v : Value) (args : List Value) (h : Heap) (R : Ending → Heap → Prop) : Prop :=
  HF P v args h R ∨
  (∃ l, v = .func (.yield l) #[] #[] ∧ HY P l args.toArray h R)

def CALLV (P : Program) (Z : List PanicEntry → Heap → Prop) (v : Value) (args : List Value) (R : List Lay) (h : Heap) (bs : List Nat) (K : Cur (flat R) (Heap → Prop)) : Prop :=
  HV P v args h fun
    | .returned v, h' => ∃ x : TT (flat R), v = asm R (vals _ x) ∧ KEEP h h' bs ∧ unc _ K x h'
    | .panicked c, h' => Z c h'
    | .outgrown, _ => False

/-! ### What is known on the way -/
inductive Ent where
  | val (v : Value)
  | kb (b : Bool)
  | ptr (a : Addr)
  | loc (id off : Nat)
  | tup (l : List Value)
  | tb (pre : List Value) (b : Bool) (post : List Value)
  | fn (f : FuncId) (first cap : List Value)
  | kill

structure LocI where
  b : Nat
  cs : Option (List Value)
  ro : Bool

/-- A deferred call: of the block of a range over a function; of a closure. -/
inductive Df where
  | mk (d : Nat)
  | fn (f : FuncId) (first cap : List Value)

structure St where
  env : List (Nat × Ent)
  loc : List (Nat × LocI)
  dm : List Df
  h : Heap

def lookE : List (Nat × Ent) → Nat → Ent
  | [], _ => .kill
  | (j, e) :: r, i => match Nat.beq j i with
    | true => e
    | false => lookE r i

def lookL : List (Nat × LocI) → Nat → Option LocI
  | [], _ => none
  | (j, e) :: r, i => match Nat.beq j i with
    | true => some e
    | false => lookL r i

def constE : Value → Ent
  | .bool b => .kb b
  | .pointer (some a) => .ptr a
  | v => .val v

def St.ent (st : St) : Operand → Ent
  | .tmp t => lookE st.env t
  | .const v => constE v
  | .global g => .ptr ⟨g, 0, none⟩
  | .func f => .fn f [] []

def Ent.value (loc : List (Nat × LocI)) : Ent → Option Value
  | .val v => some v
  | .kb b => some (.bool b)
  | .ptr a => some (.pointer (some a))
  | .loc id off => match lookL loc id with
    | some l => some (.pointer (some ⟨l.b, off, none⟩))
    | none => none
  | .tup l => some (.tuple l.toArray)
  | .tb a b c => some (.tuple (a ++ .bool b :: c).toArray)
  | .fn f a b => some (.func (.func f) a.toArray b.toArray)
  | .kill => none

def St.value (st : St) (x : Operand) : Option Value := (st.ent x).value st.loc

def valuesOf : List (Option Value) → Option (List Value)
  | [] => some []
  | some v :: r => match valuesOf r with
    | some l => some (v :: l)
    | none => none
  | none :: _ => none

def St.values (st : St) (xs : List Operand) : Option (List Value) := valuesOf (xs.map st.value)

/-- The blocks of the call's own variables whose cells are known. -/
def knowL : List (Nat × LocI) → List Nat
  | [] => []
  | (_, l) :: r => match l.cs with
    | some _ => l.b :: knowL r
    | none => knowL r

def setL (id : Nat) (l : LocI) : List (Nat × LocI) → List (Nat × LocI)
  | [] => [(id, l)]
  | (j, e) :: r => match Nat.beq j id with
    | true => (id, l) :: r
    | false => (j, e) :: setL id l r

/-- Where an operand that is the address of a variable of the call's own is handed on as a value, what is known of the variable is known no more; one that must stay as it is may not be handed on. -/
def escE (st : St) (e : Ent) (K : St → Prop) : Prop :=
  match e with
  | .loc id _ => match lookL st.loc id with
    | some l => match l.cs, l.ro with
      | some _, true => False
      | _, _ => K { st with loc := setL id { l with cs := none } st.loc }
    | none => False
  | _ => K st

def escs (st : St) : List Operand → (St → Prop) → Prop
  | [], K => K st
  | x :: r, K => escE st (st.ent x) fun st => escs st r K

/-! ### Types -/
def shOf : Option TypeDesc → Sh
  | some .bool => .bl
  | some (.int k) => .nt k
  | some .string => .tx
  | some (.pointer _) => .pt
  | some (.slice _) => .sl
  | some (.map _ _) => .mp
  | _ => .oq

def shapes (P : Program) : Nat → TypeId → List Sh
  | 0, _ => []
  | n + 1, t => match P.underlying t with
    | some (.struct fs) => fs.toList.flatMap fun f => shapes P n f.type
    | some (.array k e) => (List.replicate k (shapes P n e)).flatten
    | d => [shOf d]

def sizeB (P : Program) (t : TypeId) : Nat := match P.info? t with
  | some i => i.size
  | none => 0

def bytesB (P : Program) (t : TypeId) : Nat := match P.info? t with
  | some i => i.bytes
  | none => 0

def sizeO (P : Program) (t : TypeId) : Option Nat := match P.info? t with
  | some i => some i.size
  | none => none

def isAggO (P : Program) (t : TypeId) : Option Bool := match P.underlying t with
  | some (.struct _) | some (.array _ _) => some true
  | some _ => some false
  | none => none

def layOf (P : Program) (t : TypeId) : Lay := match P.underlying t with
  | some (.struct fs) => .agg (fs.toList.flatMap fun f => shapes P 8 f.type)
  | some (.array k e) => .agg ((List.replicate k (shapes P 8 e)).flatten)
  | some d => .one (shOf (some d))
  | none => .agg (List.replicate (sizeB P t + 1) .oq)

def resOf (P : Program) (t : TypeId) : List Lay := match P.underlying t with
  | some (.tuple ts) => ts.toList.map (layOf P)
  | _ => [layOf P t]

def zeroCellsOf (P : Program) (t : TypeId) : Option (List Value) := match P.info? t with
  | some i => match i.zero with
    | some z => some z.cells.toList
    | none => none
  | none => none

def zeroOf (P : Program) (t : TypeId) : Option Value := match P.info? t with
  | some i => i.zero
  | none => none

/-! ### Operations on numbers and strings -/
def iand (k : IntKind) (x y : Int) : Int := k.wrap (BitVec.ofInt k.bits x &&& BitVec.ofInt k.bits y).toNat
def ior (k : IntKind) (x y : Int) : Int := k.wrap (BitVec.ofInt k.bits x ||| BitVec.ofInt k.bits y).toNat
def ixor (k : IntKind) (x y : Int) : Int := k.wrap (BitVec.ofInt k.bits x ^^^ BitVec.ofInt k.bits y).toNat
def iandn (k : IntKind) (x y : Int) : Int := k.wrap (BitVec.ofInt k.bits x &&& ~~~BitVec.ofInt k.bits y).toNat

def binI (op : BinOp) (k : IntKind) (x y : Int) : Option Value :=
  match op with
  | .add => some (.int k (k.wrap (x + y)))
  | .sub => some (.int k (k.wrap (x - y)))
  | .mul => some (.int k (k.wrap (x * y)))
  | .and => some (.int k (iand k x y))
  | .or => some (.int k (ior k x y))
  | .xor => some (.int k (ixor k x y))
  | .andNot => some (.int k (iandn k x y))
  | .eql => some (.bool (x == y))
  | .neq => some (.bool (x != y))
  | .lss => some (.bool (x < y))
  | .leq => some (.bool (x ≤ y))
  | .gtr => some (.bool (x > y))
  | .geq => some (.bool (x ≥ y))
  | _ => none

def binS (op : BinOp) (x y : ByteArray) : Option Value :=
  match op with
  | .eql => some (.bool (x.toList == y.toList))
  | .neq => some (.bool !(x.toList == y.toList))
  | .lss => some (.bool (Op.bytesLess x.toList y.toList))
  | .leq => some (.bool (Op.bytesLess x.toList y.toList || x.toList == y.toList))
  | .gtr => some (.bool !(Op.bytesLess x.toList y.toList || x.toList == y.toList))
  | .geq => some (.bool !(Op.bytesLess x.toList y.toList))
  | _ => none

def shN (k : IntKind) (y : Int) : Nat := min y.toNat k.bits
def ishl (k : IntKind) (x y : Int) : Int := k.wrap (x * 2 ^ shN k y)
def ishr (k : IntKind) (x y : Int) : Int := x.fdiv (2 ^ shN k y)

def DIVI (y : Int) (K : Prop) : Prop := y ≠ 0 ∧ K
def SHI (y : Int) (K : Prop) : Prop := 0 ≤ y ∧ K
def STRADD (x y : ByteArray) (K : Prop) : Prop := ((x.size + y.size : Nat) : Int) ≤ IntKind.i64.max ∧ K

/-- Is an interface value, a function none? -/
def nilV : Value → Bool
  | .nilIface | .nilFunc => true
  | _ => false
def ifaceV : Value → Bool
  | .nilIface | .iface _ _ => true
  | _ => false
def funcV : Value → Bool
  | .nilFunc | .func _ _ _ => true
  | _ => false

def eqB (op : BinOp) (b : Bool) : Option Value :=
  match op with
  | .eql => some (.bool b)
  | .neq => some (.bool !b)
  | _ => none

def givV (r : Option Value) (K : Ent → Prop) : Prop :=
  match r with
  | some v => K (.val v)
  | none => False

def NILQ (ok : Bool) (K : Prop) : Prop := ok = true ∧ K

/-- Which nil an operand is. -/
def nilK : Operand → Nat
  | .const (.pointer none) => 1
  | .const (.slice none _ _) => 2
  | .const (.map none) => 3
  | .const .nilIface => 4
  | .const .nilFunc => 5
  | _ => 0

/-- A value held against nil. -/
def nilW (d : Option TypeDesc) (k : Nat) (op : BinOp) (v : Value) (K : Ent → Prop) : Prop :=
  match d, k with
  | some (.pointer _), 1 => match v with
    | .pointer o => givV (eqB op o.isNone) K
    | _ => False
  | some (.slice _), 2 => match v with
    | .slice a _ _ => givV (eqB op a.isNone) K
    | _ => False
  | some (.map _ _), 3 => match v with
    | .map r => givV (eqB op r.isNone) K
    | _ => False
  | some (.interface _), 4 => NILQ (ifaceV v) (givV (eqB op (nilV v)) K)
  | some (.func _ _ _), 5 => NILQ (funcV v) (givV (eqB op (nilV v)) K)
  | _, _ => False

def binW (P : Program) (op : BinOp) (xt : TypeId) (x y : Operand) (st : St) (K : Ent → Prop) : Prop :=
  match nilK y with
  | k + 1 => match st.ent x with
    | .ptr _ => match P.underlying xt, k with
      | some (.pointer _), 0 => match op with
        | .eql => K (.kb false)
        | .neq => K (.kb true)
        | _ => False
      | _, _ => False
    | e => match e.value st.loc with
      | some v => nilW (P.underlying xt) (k + 1) op v K
      | none => False
  | 0 => match st.value x, st.value y with
    | some (.int k a), some (.int k' b) => match op with
      | .shl => SHI b (K (.val (.int k (ishl k a b))))
      | .shr => SHI b (K (.val (.int k (ishr k a b))))
      | .quo => match decide (k = k') with
        | true => DIVI b (K (.val (.int k (k.wrap (a.tdiv b)))))
        | false => False
      | .rem => match decide (k = k') with
        | true => DIVI b (K (.val (.int k (a.tmod b))))
        | false => False
      | _ => match decide (k = k') with
        | true => givV (binI op k a b) K
        | false => False
    | some (.string a), some (.string b) => match op with
      | .add => STRADD a b (K (.val (.string (a ++ b))))
      | _ => givV (binS op a b) K
    | some (.bool a), some (.bool b) => match P.underlying xt with
      | some .bool => givV (eqB op (a == b)) K
      | _ => False
    | _, _ => False

def unW (op : UnOp) (x : Operand) (st : St) (K : Ent → Prop) : Prop :=
  match op, st.ent x with
  | .not, .kb b => K (.kb !b)
  | .not, .val (.bool b) => K (.val (.bool !b))
  | .neg, .val (.int k n) => K (.val (.int k (k.wrap (0 - n))))
  | .xor, .val (.int k n) => K (.val (.int k (ixor k (if k.signed then -1 else k.max) n)))
  | _, _ => False

/-- The cells of an aggregate, some parts laid into it. -/
def fillL (place : Nat → Option (Nat × Nat)) (cells : List Value) : List (Nat × Value) → Option (List Value)
  | [] => some cells
  | (i, v) :: rest => match place i with
    | none => none
    | some (off, size) => match v.cells.toList.length == size && Nat.ble (off + size) cells.length with
      | true => fillL place (cells.take off ++ v.cells.toList ++ cells.drop (off + size)) rest
      | false => none

/-- Is a value of that type told by itself alone? -/
def oqT (P : Program) (t : TypeId) : Bool := match layOf P t with
  | .one .oq => true
  | _ => false

def cellsQ (oq : Bool) (v : Value) : List Value := match oq with
  | true => [v]
  | false => v.cells.toList

def ONE (v : Value) (K : Prop) : Prop := oneC v = true ∧ K

def oneQ (oq : Bool) (v : Value) (K : Prop) : Prop := match oq with
  | true => ONE v K
  | false => K

def fillO (place : Nat → Option (Nat × Nat × Bool)) (cells : List Value) : List (Nat × Value) → Option (List Value)
  | [] => some cells
  | (i, v) :: rest => match place i with
    | none => none
    | some (off, size, oq) => match (cellsQ oq v).length == size && Nat.ble (off + size) cells.length with
      | true => fillO place (cells.take off ++ cellsQ oq v ++ cells.drop (off + size)) rest
      | false => none

def onesQ (place : Nat → Option (Nat × Nat × Bool)) : List (Nat × Value) → Prop → Prop
  | [], K => K
  | (i, v) :: rest, K => match place i with
    | some (_, _, oq) => oneQ oq v (onesQ place rest K)
    | none => False

def partsV (st : St) (parts : List (Nat × Operand)) : Option (List (Nat × Value)) :=
  match st.values (parts.map (·.2)) with
  | some vs => some ((parts.map (·.1)).zip vs)
  | none => none

def intV (st : St) (x : Operand) : Option Int := match st.value x with
  | some (.int _ n) => some n
  | _ => none

def intO (st : St) (x : Option Operand) : Option (Option Int) := match x with
  | none => some none
  | some x => match intV st x with
    | some n => some (some n)
    | none => none

def slW (P : Program) (t : TypeId) (x : Operand) (lo hi mx : Option Operand) (st : St) (K : Ent → Prop) : Prop :=
  match intO st lo, intO st hi, intO st mx with
  | some lo, some hi, some mx => match P.underlying t, st.value x with
    | some .string, some (.string s) => match mx with
      | none => SLS s lo hi fun s => K (.val (.string s))
      | some _ => False
    | some (.slice e), some (.slice a n c) => match hi, mx, sizeO P e with
      | none, some _, _ => False
      | _, _, some sz => SLI sz a n c lo hi mx fun x => K (.val (.slice x.a x.len x.cap))
      | _, _, none => False
    | _, _ => False
  | _, _, _ => False

def retE (r : List Lay) (vs : List Value) : Ent :=
  match parts r vs with
  | [v] => .val v
  | l => .tup l

def entOf : (s : Sh) → s.T → Ent
  | .ad, a => .ptr a
  | s, x => .val (s.v x)

/-- A load in every memory of a class. -/
def ldW (P : Program) (t : TypeId) (a : Addr) (S : Heap → Prop) (K : Ent → Prop) : Prop :=
  match layOf P t with
  | .one s => LD s a S fun x => K (entOf s x)
  | .agg l => match Nat.beq l.length (sizeB P t) with
    | true => LDN l a 0 S (cur l fun x => K (.val (.agg (vals l x).toArray)))
    | false => False

def splice (cs : List Value) (off : Nat) (vs : List Value) : List Value := cs.take off ++ vs ++ cs.drop (off + vs.length)

/-- A pointer that may be nil, or is known. -/
def ptrW (st : St) (e : Ent) (K : Addr → Prop) : Prop :=
  match e with
  | .ptr a => K a
  | .val (.pointer o) => NN o K
  | .loc d off => match lookL st.loc d with
    | some l => K ⟨l.b, off, none⟩
    | none => False
  | _ => False

/-- An operation that leaves memory as it is, in every memory of a class. -/
def opQ (P : Program) (S : Heap → Prop) (op : Op) (st : St) (K : Ent → Prop) : Prop :=
  match op with
  | .move x | .assign x => K (st.ent x)
  | .pick c a b => match st.ent c with
    | .kb true => K (st.ent a)
    | .kb false => K (st.ent b)
    | _ => False
  | .load t x => match st.ent x with
    | .loc d off => match lookL st.loc d with
      | some ⟨_, some cs, _⟩ => match isAggO P t with
        | some true => match Nat.ble (off + sizeB P t) cs.length with
          | true => K (.val (.agg ((cs.drop off).take (sizeB P t)).toArray))
          | false => False
        | some false => match cs[off]? with
          | some v => K (.val v)
          | none => False
        | none => False
      | some ⟨b, none, _⟩ => ldW P t ⟨b, off, none⟩ S K
      | none => False
    | e => ptrW st e fun a => ldW P t a S K
  | .nilCheck x => match st.ent x with
    | .loc d off => K (.loc d off)
    | .fn f a b => K (.fn f a b)
    | e => ptrW st e fun a => K (.ptr a)
  | .fieldAddr s x f => match P.underlying s with
    | some (.struct fs) => match fs[f]? with
      | some fd => match sizeB P fd.type with
        | 0 => False
        | _ + 1 => match st.ent x with
          | .loc d off => K (.loc d (off + fd.offset))
          | e => ptrW st e fun a => K (.ptr (a.add fd.offset))
      | none => False
    | _ => False
  | .field t x f => match P.underlying t with
    | some (.struct fs) => match fs[f]?, st.value x with
      | some fd, some (.agg cs) => match isAggO P fd.type with
        | some true => K (.val (.agg ((cs.toList.drop fd.offset).take (sizeB P fd.type)).toArray))
        | some false => match cs.toList[fd.offset]? with
          | some v => K (.val v)
          | none => False
        | none => False
      | _, _ => False
    | _ => False
  | .indexAddr t x i => match intV st i with
    | some n => match P.underlying t with
      | some (.slice e) => match st.value x, sizeO P e with
        | some (.slice a len _), some sz => IXA sz a len n fun a => K (.ptr a)
        | _, _ => False
      | some (.array len e) => match sizeO P e with
        | some sz => ptrW st (st.ent x) fun a => IXA sz (some a) len n fun a => K (.ptr a)
        | none => False
      | _ => False
    | none => False
  | .index t x i => match intV st i with
    | some n => match P.underlying t, st.value x with
      | some .string, some (.string s) => STRIX s n fun b => K (.val (.int .u8 b))
      | _, _ => False
    | none => False
  | .extract x i => match st.ent x with
    | .tup l => match l[i]? with
      | some v => K (.val v)
      | none => False
    | .tb a b c => match Nat.beq a.length i with
      | true => K (.kb b)
      | false => match (a ++ .bool b :: c)[i]? with
        | some v => K (.val v)
        | none => False
    | _ => False
  | .binOp op xt x y _ => binW P op xt x y st K
  | .unOp op _ x => unW op x st K
  | .convert src dst x => match P.underlying src, P.underlying dst, st.value x with
    | some _, some (.int k), some (.int _ n) => K (.val (.int k (k.wrap n)))
    | some .string, some .string, some (.string s) => K (.val (.string s))
    | some (.slice e), some .string, some (.slice a n _) => match P.underlying e with
      | some (.int .u8) => BTS a n S fun s => K (.val (.string s))
      | _ => False
    | _, _, _ => False
  | .makeInterface t x => match P.underlying t with
    | some (.interface _) => False
    | some _ => match st.value x with
      | some v => K (.val (.iface t v))
      | none => False
    | none => False
  | .makeFunc fn first caps => match fn with
    | .func f => match st.values first.toList, st.values caps.toList with
      | some a, some b => K (.fn f a b)
      | _, _ => False
    | _ => False
  | .build t parts => match P.underlying t, zeroCellsOf P t, partsV st parts.toList with
    | some (.struct fs), some z, some ps =>
      match fs.toList.all (fun f => (P.info? f.type).isSome), fillO (fun i => (fs[i]?).map fun f => (f.offset, sizeB P f.type, oqT P f.type)) z ps with
      | true, some cs => onesQ (fun i => (fs[i]?).map fun f => (f.offset, sizeB P f.type, oqT P f.type)) ps (K (.val (.agg cs.toArray)))
      | _, _ => False
    | _, _, _ => False
  | .slice t x lo hi mx => slW P t x lo hi mx st K
  | .typeAssert x _ t ok => match ok, P.underlying t, st.value x, zeroOf P t with
    | true, some d, some v, some z => match d with
      | .interface _ => False
      | _ => TAC t (layOf P t) v (cur _ fun x => K (.tb [asm [layOf P t] (vals _ x)] true [])) (K (.tb [z] false []))
    | _, _, _, _ => False
  | .call c => match c.callee, c.argTypes.toList, c.args.toList with
    | .builtin .len, t :: _, [x] => match P.underlying t, st.value x with
      | some .string, some (.string s) => K (.val (.int .i64 s.size))
      | some (.slice _), some (.slice _ n _) => K (.val (.int .i64 n))
      | some (.array n _), some _ => K (.val (.int .i64 n))
      | _, _ => False
    | .builtin .cap, t :: _, [x] => match P.underlying t, st.value x with
      | some (.slice _), some (.slice _ _ c) => K (.val (.int .i64 c))
      | _, _ => False
    | _, _, _ => False
  | _ => False

def quietB : Op → Bool
  | .move _ | .assign _ | .pick .. | .load .. | .nilCheck _ | .fieldAddr .. | .field .. | .indexAddr .. | .index .. | .extract .. | .binOp .. | .unOp ..
  | .makeInterface .. | .makeFunc .. | .build .. | .slice .. | .typeAssert .. => true
  | .call { callee := .builtin .len, .. } | .call { callee := .builtin .cap, .. } => true
  | _ => false

/-- A conversion that leaves memory as it is. -/
def quietC (P : Program) : Op → Bool
  | .convert _ dst _ => match P.underlying dst with
    | some (.slice _) => false
    | _ => true
  | op => quietB op

/-- Operands that are handed on as values by an operation that leaves memory as it is. -/
def escOps : Op → List Operand
  | .makeInterface _ x | .indexAddr _ x _ => [x]
  | .makeFunc _ a b => a.toList ++ b.toList
  | .build _ ps => ps.toList.map (·.2)
  | _ => []

def appendW (P : Program) (ts : List TypeId) (args : List Operand) (st : St) (K : Ent → St → Prop) : Prop :=
  match ts, args with
  | t :: u :: _, [x, y] => match P.underlying t, P.underlying u, st.value x, st.value y with
    | some (.slice e), some (.slice _), some (.slice a n c), some (.slice xa xn _) => match zeroCellsOf P e with
      | some z => APPEND (sizeB P e) (bytesB P e) e z a n c xa xn st.h (knowL st.loc) fun x h => K (.val (.slice x.a x.len x.cap)) { st with h := h }
      | none => False
    | some (.slice e), some .string, some (.slice a n c), some (.string s) => match P.underlying e, sizeB P e, bytesB P e, zeroCellsOf P e with
      | some (.int .u8), 1, 1, some [.int .u8 0] => APPSTR e a n c s st.h (knowL st.loc) fun x h => K (.val (.slice x.a x.len x.cap)) { st with h := h }
      | _, _, _, _ => False
    | _, _, _, _ => False
  | _, _ => False

def callW (P : Program) (Z : List PanicEntry → Heap → Prop) (c : Call) (ty : TypeId) (st : St) (K : Ent → St → Prop) : Prop :=
  match c.callee with
  | .builtin .append => appendW P c.argTypes.toList c.args.toList st K
  | .builtin _ => False
  | .value f => match st.ent f, st.values c.args.toList with
    | .fn g first cap, some vs => match ((P.funcs[g]?).any (·.body.isSome)) with
      | true => escs st c.args.toList fun st =>
          CALL P Z g (first ++ vs ++ cap) (resOf P ty) st.h (knowL st.loc) (cur _ fun x h => K (retE (resOf P ty) (vals _ x)) { st with h := h })
      | false => False
    | .val v, some vs => escs st c.args.toList fun st =>
          CALLV P Z v vs (resOf P ty) st.h (knowL st.loc) (cur _ fun x h => K (retE (resOf P ty) (vals _ x)) { st with h := h })
    | _, _ => False
  | .invoke _ _ => False

/-- An operation that may change memory; 'id': the slot that it fills. -/
def opE (P : Program) (Z : List PanicEntry → Heap → Prop) (id : Option Tmp) (ty : TypeId) (op : Op) (st : St) (K : Ent → St → Prop) : Prop :=
  match op with
  | .alloc t => match id, zeroCellsOf P t with
    | some d, some cs => match lookL st.loc d with
      | none => ALLOC cs t st.h fun b h => K (.loc d 0) { st with loc := setL d ⟨b, some cs, false⟩ st.loc, h := h }
      | some _ => False
    | _, _ => False
  | .box t x => match id, st.value x with
    | some d, some v => escE st (st.ent x) fun st => match lookL st.loc d with
      | none => oneQ (oqT P t) v (ALLOC (cellsQ (oqT P t) v) t st.h fun b h => K (.loc d 0) { st with loc := setL d ⟨b, some (cellsQ (oqT P t) v), false⟩ st.loc, h := h })
      | some _ => False
    | _, _ => False
  | .store t x y => match st.value y with
    | some v => match sizeO P t == some (cellsQ (oqT P t) v).length with
      | true => oneQ (oqT P t) v (escE st (st.ent y) fun st => match st.ent x with
        | .loc d off => match lookL st.loc d with
          | some ⟨b, some cs, ro⟩ => match ro, Nat.ble (off + (cellsQ (oqT P t) v).length) cs.length with
            | false, true => PUTN b (cellsQ (oqT P t) v) off st.h fun h => K (.val undef) { st with loc := setL d ⟨b, some (splice cs off (cellsQ (oqT P t) v)), false⟩ st.loc, h := h }
            | _, _ => False
          | some ⟨b, none, _⟩ => STN ⟨b, off, none⟩ (cellsQ (oqT P t) v) 0 st.h (knowL st.loc) fun h => K (.val undef) { st with h := h }
          | none => False
        | e => ptrW st e fun a => STN a (cellsQ (oqT P t) v) 0 st.h (knowL st.loc) fun h => K (.val undef) { st with h := h })
      | false => False
    | none => False
  | .buildSlice t len parts => match P.underlying t with
    | some (.slice e) => match zeroCellsOf P e, partsV st parts.toList with
      | some z, some ps => match Nat.beq z.length (sizeB P e), Nat.ble (len * sizeB P e) 16777216, fillO (fun i => some (i * sizeB P e, sizeB P e, oqT P e)) (zeroes z len) ps with
        | true, true, some cs => onesQ (fun i => some (i * sizeB P e, sizeB P e, oqT P e)) ps (escs st (parts.toList.map (·.2)) fun st =>
            ALLOC cs e st.h fun b h => K (.val (.slice (some ⟨b, 0, none⟩) len len)) { st with h := h })
        | _, _, _ => False
      | _, _ => False
    | _ => False
  | .makeSlice t l c => match P.underlying t, intV st l, intV st c with
    | some (.slice e), some n, some m => match zeroCellsOf P e with
      | some z => match Nat.beq z.length (sizeB P e) with
        | true => MKS (bytesB P e) e z n m st.h fun x h => K (.val (.slice x.a x.len x.cap)) { st with h := h }
        | false => False
      | none => False
    | _, _, _ => False
  | .convert src dst x => match P.underlying src, P.underlying dst, st.value x with
    | some .string, some (.slice e), some (.string s) => match P.underlying e with
      | some (.int .u8) => STB s e st.h fun x h => K (.val (.slice x.a x.len x.cap)) { st with h := h }
      | _ => False
    | _, _, _ => False
  | .range t x => match P.underlying t, st.value x with
    | some .string, some (.string s) => ITER s st.h fun b h => K (.ptr ⟨b, 0, none⟩) { st with h := h }
    | _, _ => False
  | .next it isS => match isS, st.ent it with
    | true, .ptr ⟨b, 0, none⟩ => NEXTS b st.h (fun h => K (.tb [] false []) { st with h := h }) (fun p c h => K (.tb [] true [.int .i64 p, .int .i32 c]) { st with h := h })
    | _, _ => False
  | .call c => callW P Z c ty st K
  | .panic x => match st.value x with
    | some (.iface t v) => Z [{ v := .iface t v, recovered := false }] st.h
    | _ => False
  | _ => False

/-- One operation. -/
def opW (P : Program) (Z : List PanicEntry → Heap → Prop) (o : Oper) (st : St) (K : Ent → St → Prop) : Prop :=
  match quietC P o.op with
  | true => opQ P (EQ st.h) o.op st fun e => escs st (escOps o.op) (K e)
  | false => opE P Z o.dst o.type o.op st K

def putW (n : Nat) (d : Option Tmp) (e : Ent) (st : St) (K : St → Prop) : Prop :=
  match d with
  | none => K st
  | some d => match Nat.blt d n with
    | true => K { st with env := (d, e) :: st.env }
    | false => False

/-- An operation under its guard: 'run' where it is carried out, 'skip' where it is not. -/
def guardW (ops : Array Oper) (o : Oper) (st : St) (run skip : St → Prop) : Prop :=
  match o.guard with
  | none => run st
  | some (j, want) => match (ops[j]?).bind (·.dst) with
    | none => False
    | some d => match lookE st.env d with
      | .kb b => match b == want with
        | true => run st
        | false => skip st
      | .val (.bool b) => match want with
        | true => COND b (run { st with env := (d, .kb true) :: st.env }) (skip { st with env := (d, .kb false) :: st.env })
        | false => COND b (skip { st with env := (d, .kb true) :: st.env }) (run { st with env := (d, .kb false) :: st.env })
      | .val (.tuple _) => skip st
      | _ => False

def bareL : List (Nat × LocI) → List (Nat × LocI)
  | [] => []
  | (i, x) :: r => (i, { x with cs := none }) :: bareL r

/-- What is asked where a panic goes up: of memory, the call's own variables known no more. -/
def zOf (Z : St → List PanicEntry → Prop) (st : St) : List PanicEntry → Heap → Prop :=
  fun c h => Z { st with loc := bareL st.loc, h := h } c

def noDeferO : Op → Bool
  | .defer _ => false
  | _ => true

/-- A deferred call is noted. -/
def deferW (o : Oper) (st : St) (K : St → Prop) : Prop :=
  match o.guard, o.op with
  | none, .defer c => match c.callee, c.args.toList with
    | .value f, [] => match st.ent f with
      | .fn g first cap => K { st with dm := .fn g first cap :: st.dm }
      | _ => False
    | _, _ => False
  | _, _ => False

/-- Operations in the order of the text. -/
def listW (P : Program) (n : Nat) (Z : St → List PanicEntry → Prop) (ops : Array Oper) (Q : St → Prop) : List Oper → St → Prop
  | [], st => Q st
  | o :: r, st => match noDeferO o.op with
    | true => guardW ops o st
      (fun st => opW P (zOf Z st) o st fun e st => putW n o.dst e st (listW P n Z ops Q r))
      (fun st => putW n o.dst (.val undef) st (listW P n Z ops Q r))
    | false => deferW o st fun st => putW n o.dst (.val undef) st (listW P n Z ops Q r)

/-! ### Operations in an order that is drawn -/
def reachO (ops : Array Oper) : Nat → Nat → Nat → Bool
  | 0, _, _ => false
  | n + 1, j, i => match ops[j]? with
    | some o => o.after.toList.any fun e => Region.binds .any e && (Nat.beq e.on i || reachO ops n e.on i)
    | none => false

/-- Does operation j wait for every one of these? -/
def lateO (ops : Array Oper) (us : List Nat) (j : Nat) : Bool := us.all fun i => reachO ops 8 j i

def quiets (P : Program) (ops : Array Oper) : List Nat := (List.range ops.size).filter fun i => match ops[i]? with
  | some o => quietC P o.op
  | none => false

/-- Of the call's own variables those that were known at the beginning, and are still. -/
def resetL (loc0 : List (Nat × LocI)) : List (Nat × LocI) → List (Nat × LocI)
  | [] => []
  | (i, x) :: r => match lookL loc0 i, x.cs with
    | some y, some _ => (i, y) :: resetL loc0 r
    | _, _ => (i, { x with cs := none }) :: resetL loc0 r

def noDeferB (ops : Array Oper) : Bool := ops.toList.all fun o => noDeferO o.op

def drawW (P : Program) (n : Nat) (ops : Array Oper) (us : List Nat) (S : Heap → Prop) (loc0 : List (Nat × LocI)) (Q : St → Prop) : List Nat → Array Bool → St → Prop
  | [], listed, st => match Region.ready .any ops listed with
    | [] => Q st
    | _ :: _ => False
  | i :: r, listed, st => match ops[i]? with
    | none => False
    | some o => match us.contains i with
      | true => match quietC P o.op && Region.free .any ops listed i && (Region.ready .any ops listed).contains i with
        | true => guardW ops o st
            (fun st => opQ P S o.op st fun e => escs st (escOps o.op) fun st => putW n o.dst e st (drawW P n ops us S loc0 Q r (listed.setIfInBounds i true)))
            (fun st => putW n o.dst (.val undef) st (drawW P n ops us S loc0 Q r (listed.setIfInBounds i true)))
        | false => False
      | false => match Region.ready .any ops listed with
        | [k] => match Nat.beq k i with
          | true => guardW ops o st
              (fun st => opE P (fun _ _ => False) o.dst o.type o.op st fun e st => putW n o.dst e st fun st => match lateO ops us i with
                | true => drawW P n ops us S loc0 Q r (listed.setIfInBounds i true) st
                | false => SS S st.h (drawW P n ops us S loc0 Q r (listed.setIfInBounds i true) { st with loc := resetL loc0 st.loc }))
              (fun st => putW n o.dst (.val undef) st fun st => match lateO ops us i with
                | true => drawW P n ops us S loc0 Q r (listed.setIfInBounds i true) st
                | false => SS S st.h (drawW P n ops us S loc0 Q r (listed.setIfInBounds i true) st))
          | false => False
        | _ => False

/-! ### Code -/
structure Jn where
  slots : List (Nat × Sh)
  keep : List Nat
  locs : List Nat

structure Plan where
  js : List (Nat × Jn)
  ls : List (Nat × Jn)
  bs : List (Nat × Jn)
  rs : List (Nat × Jn)
  ds : List (Nat × Bool × List Nat)
  fs : List (Nat × List Lay)

def lookN {α : Type} : List (Nat × α) → Nat → Option α
  | [], _ => none
  | (j, e) :: r, i => match Nat.beq j i with
    | true => some e
    | false => lookN r i

def rid : Code → Option Nat
  | .region id _ _ => some id
  | .seq a b => match rid a with
    | some i => some i
    | none => rid b
  | .cond _ a b => match rid a with
    | some i => some i
    | none => rid b
  | .block _ a | .loop a | .scope a => rid a
  | _ => none

def lookRid {α : Type} (l : List (Nat × α)) (c : Code) : Option α := match rid c with
  | some i => lookN l i
  | none => none

/-- The slots that a piece of code may fill. -/
def modsO (ops : List Oper) : List Nat := ops.filterMap (·.dst)
def mods : Code → List Nat
  | .region _ ops _ => modsO ops.toList
  | .seq a b => mods a ++ mods b
  | .cond _ a b => mods a ++ mods b
  | .block _ a | .loop a | .scope a => mods a
  | .rangeFunc _ ps a b => ps.toList ++ mods a ++ mods b
  | _ => []

/-- Does it hold a range over a function, or a 'defer'? -/
def hasRF : Code → Bool
  | .region _ ops _ => !noDeferB ops
  | .seq a b => hasRF a || hasRF b
  | .cond _ a b => hasRF a || hasRF b
  | .block _ a | .loop a | .scope a => hasRF a
  | .rangeFunc .. => true
  | _ => false

def Jn.shs (j : Jn) : List Sh := j.slots.map (·.2)

/-- The variables of the call's own that stay as they are: marked. -/
def roL (l : List Nat) : List (Nat × LocI) → List (Nat × LocI)
  | [] => []
  | (i, x) :: r => match l.contains i with
    | true => (i, { x with ro := true }) :: roL l r
    | false => (i, x) :: roL l r

def dropL (l : List Nat) : List (Nat × LocI) → List (Nat × LocI)
  | [] => []
  | (i, x) :: r => match l.contains i || x.ro with
    | true => (i, x) :: dropL l r
    | false => (i, { x with cs := none }) :: dropL l r

/-- Behind a block: what had to stay as it was within need not any more. -/
def unroL (l0 : List (Nat × LocI)) : List (Nat × LocI) → List (Nat × LocI)
  | [] => []
  | (i, x) :: r => match lookL l0 i with
    | some y => (i, { x with ro := y.ro }) :: unroL l0 r
    | none => (i, x) :: unroL l0 r

def Jn.before (j : Jn) (st : St) : St := { st with loc := roL j.locs st.loc }

def entV : Sh → Value → Ent
  | .ad, .pointer (some a) => .ptr a
  | .ad, _ => .kill
  | _, v => .val v

def slotE : List (Nat × Sh) → List Value → List (Nat × Ent)
  | (i, s) :: l, v :: vs => (i, entV s v) :: slotE l vs
  | _, _ => []

/-- The state behind a join: the slots are told by new letters. -/
def Jn.after (j : Jn) (st : St) (vs : List Value) (h : Heap) : St :=
  { env := slotE j.slots vs ++ j.keep.map fun i => (i, lookE st.env i), loc := dropL j.locs st.loc, dm := st.dm, h := h }

/-- The way into a join. -/
def Jn.go (j : Jn) (k : Cur j.shs (Heap → Prop)) (st : St) : Prop :=
  match valuesOf (j.slots.map fun s => (lookE st.env s.1).value st.loc) with
  | some vs => app False j.shs (cur j.shs fun x => unc j.shs k x st.h) vs
  | none => False

def thenW (next : St → Prop) (Q : Exit → St → Prop) : Exit → St → Prop
  | .normal, st => next st
  | e, st => Q e st

def inBlockW (id : Nat) (next : St → Prop) (Q : Exit → St → Prop) : Exit → St → Prop
  | .normal, st => next st
  | .exit i, st => match Nat.beq i id with
    | true => next st
    | false => Q (.exit i) st
  | e, st => Q e st

def sub (j : Jn) (m : List Nat) : Bool := j.keep.all fun i => !m.contains i

def okJ (j : Jn) (m : List Nat) (rf : Bool) (K : Prop) : Prop := match sub j m && !rf with
  | true => K
  | false => False

def inScopeW (a : Code) (next : Code → St → Prop) (Q : Exit → St → Prop) : Exit → St → Prop
  | .goto l, st => match findLabel a l with
    | some rest => next rest st
    | none => False
  | e, st => Q e st

def noGotoW (Q : Exit → St → Prop) : Exit → St → Prop
  | .goto _, _ => False
  | e, st => Q e st

def codeOf : Exit → Option Code
  | .ret => some .ret
  | .exit id => some (.exit id)
  | .goto l => some (.goto l)
  | _ => none

def exitOf : Code → Option Exit
  | .ret => some .ret
  | .exit id => some (.exit id)
  | .goto l => some (.goto l)
  | _ => none

def argR : List Nat → List Lay → List Value → List (Nat × Ent) → List (Nat × Ent)
  | p :: ps, .one s :: r, vs, env => argR ps r vs.tail ((p, entV s (vs.headD (.tuple #[]))) :: env)
  | p :: ps, .agg l :: r, vs, env => argR ps r (vs.drop l.length) ((p, .val (.agg (vs.take l.length).toArray)) :: env)
  | _, _, _, env => env

/-- The round begins: its record is busy. -/
def BEGIN (l : Nat) (ready busy : Obj) (h : Heap) (K : Heap → Prop) : Prop := h[l]? = some ready ∧ K (h.setIfInBounds l busy)

/-- How a round of a range over a function ends: its record, and what 'yield' answers. -/
def roundW (l : Nat) (ready : Obj) (busy : Obj) (done : Code → Obj) (R : Ending → Heap → Prop) : Exit → St → Prop
  | .normal, st => st.h[l]? = some busy ∧ R (.returned (.bool true)) (st.h.setIfInBounds l ready)
  | e, st => match codeOf e with
    | some c => st.h[l]? = some busy ∧ R (.returned (.bool false)) (st.h.setIfInBounds l (done c))
    | none => False

/-- The jumps that a round may leave behind. -/
def JMPS (h2 : Heap) (l : Nat) (done overD : Code → Obj) : List (Code × (Heap → Prop)) → Prop
  | [] => False
  | (c, k) :: r => (h2[l]? = some (done c) ∧ k (h2.setIfInBounds l (overD c))) ∨ JMPS h2 l done overD r

/-- Ways out of a piece of code. -/
def exB : Exit → Exit → Bool
  | .ret, .ret => true
  | .exit i, .exit j => Nat.beq i j
  | .goto i, .goto j => Nat.beq i j
  | _, _ => false

def addX (e : Exit) (l : List Exit) : List Exit := match l.any (exB e) with
  | true => l
  | false => e :: l

def exitsOf : Code → List Exit → List Exit
  | .ret, l => addX .ret l
  | .exit id, l => addX (.exit id) l
  | .goto i, l => addX (.goto i) l
  | .seq a b, l => exitsOf a (exitsOf b l)
  | .cond _ a b, l => exitsOf a (exitsOf b l)
  | .block id a, l => (exitsOf a l).filter fun e => !exB e (.exit id)
  | .loop a, l => exitsOf a l
  | .scope a, l => exitsOf a l
  | _, l => l

def jumpsW (K : Exit → Heap → Prop) : List Exit → List (Code × (Heap → Prop))
  | [] => []
  | e :: r => match codeOf e with
    | some c => (c, K e) :: jumpsW K r
    | none => jumpsW K r

/-- A range over a function. 'y': its yield; the records of the loop are told by letters; what a call of 'y' comes to is handed over as a rule ('body'). -/
def RANGEF (P : Program) (g : Value) (ls : List Lay) (h : Heap) (bs : List Nat)
    (body : Cur (flat ls) (Nat → Obj → Obj → (Code → Obj) → (Ending → Heap → Prop) → Heap → Prop))
    (after : Heap → Prop) (jumps : List (Code × (Heap → Prop))) : Prop :=
  ∀ (ready busy : Obj) (done : Code → Obj) (over : Obj) (overD : Code → Obj),
    (∀ (x : TT (flat ls)) h' R, h'[h.size + 1]? = some ready → KEEP h h' bs → unc _ body x (h.size + 1) ready busy done R h' →
      HV P (.func (.yield (h.size + 1)) #[] #[]) (parts ls (vals _ x)) h' R) →
    (∀ c cs t f, ready ≠ .cells cs t f ∧ busy ≠ .cells cs t f ∧ done c ≠ .cells cs t f ∧ over ≠ .cells cs t f ∧ overD c ≠ .cells cs t f) →
    HF P g [.func (.yield (h.size + 1)) #[] #[]] ((h.push (.deferred (some []))).push ready) fun
      | .returned _, h2 => KEEP h h2 bs ∧
          ((h2[h.size + 1]? = some ready ∧ after (h2.setIfInBounds (h.size + 1) over)) ∨
           JMPS h2 (h.size + 1) done overD jumps)
      | _, _ => False

def WP (P : Program) (n : Nat) (top : Bool) (Z : St → List PanicEntry → Prop) (pl : Plan) : Nat → Code → (Exit → St → Prop) → St → Prop
  | 0, _, _, _ => False
  | k + 1, c, Q, st => match c with
    | .skip | .label _ => Q .normal st
    | .ret => Q .ret st
    | .exit id => Q (.exit id) st
    | .goto l => Q (.goto l) st
    | .seq a b => match lookRid pl.js b with
      | none => WP P n top Z pl k a (thenW (fun st => WP P n top Z pl k b Q st) Q) st
      | some j => okJ j (mods a) (hasRF a) (JOIN j.shs
          (fun kk => WP P n top Z pl k a (thenW (fun st => j.go kk st) Q) (j.before st))
          (cur _ fun x h => WP P n top Z pl k b Q (j.after st (vals _ x) h)))
    | .cond c a b => match st.ent c with
      | .kb true => WP P n top Z pl k a Q st
      | .kb false => WP P n top Z pl k b Q st
      | .val (.bool t) => COND t (WP P n top Z pl k a Q st) (WP P n top Z pl k b Q st)
      | _ => False
    | .block id a => match lookN pl.bs id with
      | none => WP P n top Z pl k a (inBlockW id (fun st1 => Q .normal { st1 with loc := unroL st.loc st1.loc }) Q) st
      | some j => okJ j (mods a) (hasRF a) (JOIN j.shs
          (fun kk => WP P n top Z pl k a (inBlockW id (fun st => j.go kk st) Q) (j.before st))
          (cur _ fun x h => Q .normal (j.after st (vals _ x) h)))
    | .loop a => match lookRid pl.ls a with
      | none => False
      | some j => okJ j (mods a) (hasRF a) (j.go (LOOP j.shs (cur _ fun x h nx =>
          WP P n top Z pl k a (thenW (fun st => j.go nx st) Q) (j.before (j.after st (vals _ x) h)))) st)
    | .scope a => WP P n top Z pl k a (inScopeW a (fun rest st => WP P n top Z pl k rest (noGotoW Q) st) Q) st
    | .region id ops draw => match draw with
      | false => match lookN pl.rs id with
        | none => match top || noDeferB ops with
          | true => listW P n Z ops (fun st => Q .normal st) ops.toList st
          | false => False
        | some j => okJ j (modsO ops.toList) (!noDeferB ops) (JOIN j.shs
            (fun kk => listW P n Z ops (fun st => j.go kk st) ops.toList (j.before st))
            (cur _ fun x h => Q .normal (j.after st (vals _ x) h)))
      | true => match lookN pl.ds id with
        | none => False
        | some (q, l) => match Region.noSelect ops && noDeferB ops && P.follows .mixedOrders && Nat.beq l.length ops.size with
          | false => False
          | true => match q with
            | true => match lookN pl.rs id with
              | none => drawW P n ops (quiets P ops) (EQ st.h) st.loc (fun st => Q .normal st) l (Array.replicate ops.size false) st
              | some j => okJ j (modsO ops.toList) false (JOIN j.shs
                  (fun kk => drawW P n ops (quiets P ops) (EQ st.h) (j.before st).loc (fun st => j.go kk st) l (Array.replicate ops.size false) (j.before st))
                  (cur _ fun x h => Q .normal (j.after st (vals _ x) h)))
            | false => match lookN pl.rs id with
              | none => DRAW st.h (knowL st.loc) fun S => drawW P n ops (quiets P ops) S st.loc (fun st => Q .normal st) l (Array.replicate ops.size false) st
              | some j => okJ j (modsO ops.toList) false (JOIN j.shs
                  (fun kk => DRAW st.h (knowL st.loc) fun S => drawW P n ops (quiets P ops) S (j.before st).loc (fun st => j.go kk st) l (Array.replicate ops.size false) (j.before st))
                  (cur _ fun x h => Q .normal (j.after st (vals _ x) h)))
    | .rangeFunc g ps asn body => match top, st.value g, lookRid pl.ls body, lookRid pl.fs body with
      | true, some gv, some j, some ls => match Nat.beq ls.length ps.size && ps.toList.all fun p => Nat.blt p n with
        | true => RANGEF P gv ls st.h (knowL (dropL j.locs st.loc))
            (cur _ fun x l ready busy done R h =>
              WP P n false (fun _ _ => False) pl k asn (thenW (fun st => BEGIN l ready busy st.h fun h => WP P n false (fun _ _ => False) pl k body (roundW l ready busy done R) { st with h := h }) (fun _ _ => False))
                  { env := argR ps.toList ls (vals _ x) st.env, loc := roL j.locs (dropL j.locs st.loc), dm := [], h := h })
            (fun h => Q .normal { env := st.env, loc := dropL j.locs st.loc, dm := .mk st.h.size :: st.dm, h := h })
            (jumpsW (fun e h => Q e { env := st.env, loc := dropL j.locs st.loc, dm := .mk st.h.size :: st.dm, h := h }) (exitsOf body []))
        | false => False
      | _, _, _, _ => False
    | .refuse _ => False

/-! ### A whole function -/
def resV (P : Program) (r : ResultVar) (st : St) (K : Value → Prop) : Prop :=
  match r with
  | .tmp t => match (lookE st.env t).value st.loc with
    | some v => K v
    | none => False
  | .cell a t => opQ P (EQ st.h) (.load t (.tmp a)) st fun e => match e.value st.loc with
    | some v => K v
    | none => False

def layW (l : Lay) (v : Value) (K : List Value → Prop) : Prop :=
  match l, v with
  | .agg l, .agg cs => match Nat.beq cs.toList.length l.length with
    | true => K cs.toList
    | false => False
  | .agg _, _ => False
  | .one _, v => K [v]

/-- What the function hands back. -/
def retW (P : Program) : List ResultVar → List Lay → St → (List Value → Prop) → Prop
  | [], [], _, K => K []
  | r :: rs, l :: ls, st, K => resV P r st fun v => layW l v fun vs => retW P rs ls st fun ws => K (vs ++ ws)
  | _, _, _, _ => False

/-- A deferred call, in a frame that is leaving. -/
def HD (P : Program) (f : FuncId) (args : Array Value) (u : FrameMode) (h : Heap) (R : Ending → FrameMode → Heap → Prop) : Prop :=
  ∀ w : World, w.heap = h → CallsDIn Fence.wide 0 P f args u w fun e u' w' => w'.os = w.os ∧ w'.tape = w.tape ∧ w'.output = w.output ∧ R e u' w'.heap

/-- The deferred calls are carried out. -/
def LEAVE (P : Program) (Z : List PanicEntry → Heap → Prop) (K : Heap → Prop) : List Df → FrameMode → Heap → Prop
  | [], u, h => match u with
    | .returning => K h
    | .panicking c => Z c h
    | .run => False
  | .mk d :: r, u, h => h[d]? = some (.deferred (some [])) ∧ LEAVE P Z K r u (h.setIfInBounds d (.deferred none))
  | .fn f first cap :: r, u, h => match ((P.funcs[f]?).any (·.body.isSome)) with
    | true => HD P f (first ++ cap).toArray u h fun
      | .returned _, u', h => u' ≠ .run ∧ LEAVE P Z K r (settle u') h
      | _, _, _ => False
    | false => False

def argE : Nat → List Lay → List Value → List (Nat × Ent)
  | _, [], _ => []
  | i, .one s :: r, vs => (i, entV s (vs.headD (.tuple #[]))) :: argE (i + 1) r vs.tail
  | i, .agg l :: r, vs => (i, .val (.agg (vs.take l.length).toArray)) :: argE (i + 1) r (vs.drop l.length)

/-- Behind deferred calls the call's own variables are known no more. -/
def bareE (dm : List Df) (l : List (Nat × LocI)) : List (Nat × LocI) := match dm with
  | [] => l
  | _ :: _ => bareL l

def endW (P : Program) (Z : List PanicEntry → Heap → Prop) (fn : Func) (Q : Cur (flat (fn.resultTypes.toList.map (layOf P))) (Heap → Prop)) (st : St) (u : FrameMode) : Prop :=
  LEAVE P Z (fun h => retW P fn.results.toList (fn.resultTypes.toList.map (layOf P)) { st with h := h } fun vs => app False _ (cur _ fun y => unc _ Q y h) vs) st.dm u st.h

def WPF (P : Program) (Z : List PanicEntry → Heap → Prop) (fn : Func) (pl : Plan) (ps : List Lay) (h : Heap) (Q : Cur (flat (fn.resultTypes.toList.map (layOf P))) (Heap → Prop)) : Cur (flat ps) Prop :=
  cur _ fun x => match fn.body with
    | some c => match Nat.ble ps.length fn.ntmps with
      | true => WP P fn.ntmps true (fun st c => endW P Z fn Q { st with loc := bareE st.dm st.loc } (.panicking c)) pl 5000 c (fun e st => match e with
        | .normal | .ret => endW P Z fn Q { st with loc := bareE st.dm st.loc } .returning
        | _ => False) { env := argE 0 ps (vals _ x), loc := [], dm := [], h := h }
      | false => False
    | none => False

end Go.VK

/- The words of a walk over memory: shapes of values, what a cell holds, and the steps of a program as propositions over memory alone. No program in sight. -/
import Derived.Calls
import GoSem.Builtin.Append
set_option linter.all false
namespace Go.VK
open Go

abbrev Heap := Array Obj

/-! ### Memory -/
def cell (h : Heap) (a : Addr) : Option Value :=
  match h[a.block]? with
  | some (.cells c _ _) => if a.spot.isSome then none else c[a.off]?
  | _ => none

def frz (h : Heap) (a : Addr) : Bool :=
  match h[a.block]? with
  | some (.cells _ _ (lo, hi)) => lo ≤ a.off && a.off < hi
  | _ => false

def put (h : Heap) (a : Addr) (v : Value) : Heap :=
  h.modify a.block fun
    | .cells c e f => .cells (if a.spot.isSome then c else c.setIfInBounds a.off v) e f
    | o => o

def oneC : Value → Bool
  | .agg _ | .tuple _ => false
  | _ => true

/-! ### Shapes: what a slot of a known type is told by -/
structure Sl where
  a : Option Addr
  len : Nat
  cap : Nat

inductive Sh where
  | nt (k : IntKind) | bl | tx | pt | sl | mp | oq | ad
  deriving DecidableEq

abbrev Sh.T : Sh → Type
  | .nt _ => Int
  | .bl => Bool
  | .tx => ByteArray
  | .pt => Option Addr
  | .sl => Sl
  | .mp => Option Nat
  | .oq => Value
  | .ad => Addr

def Sl.v (x : Sl) : Value := .slice x.a x.len x.cap

def Sh.v : (s : Sh) → s.T → Value
  | .nt k, n => .int k n
  | .bl, b => .bool b
  | .tx, s => .string s
  | .pt, a => .pointer a
  | .sl, x => .slice x.a x.len x.cap
  | .mp, r => .map r
  | .oq, v => v
  | .ad, a => .pointer (some a)

def Sh.of? : (s : Sh) → Value → Option s.T
  | .nt k, .int k' n => if k = k' then some n else none
  | .bl, .bool b => some b
  | .tx, .string s => some s
  | .pt, .pointer a => some a
  | .sl, .slice a n c => some ⟨a, n, c⟩
  | .mp, .map r => some r
  | .oq, v => some v
  | .ad, .pointer (some a) => some a
  | _, _ => none

theorem Sh.of?_some {s : Sh} {v : Value} {x : s.T} (h : s.of? v = some x) : s.v x = v := by
  unfold Sh.of? at h
  split at h <;> simp_all [Sh.v]
  subst h; simp

theorem Sh.of?_v (s : Sh) (x : s.T) : s.of? (s.v x) = some x := by
  cases s <;> simp [Sh.of?, Sh.v]

/-- Functions of as many things as there are shapes, one behind the other. -/
def Cur : List Sh → Type → Type
  | [], α => α
  | s :: l, α => s.T → Cur l α

def TT : List Sh → Type
  | [] => Unit
  | s :: l => s.T × TT l

def unc {α : Type} : (l : List Sh) → Cur l α → TT l → α
  | [], f, _ => f
  | _ :: l, f, x => unc l (f x.1) x.2

def cur {α : Type} : (l : List Sh) → (TT l → α) → Cur l α
  | [], f => f ()
  | _ :: l, f => fun x => cur l fun y => f (x, y)

theorem unc_cur {α : Type} : ∀ (l : List Sh) (f : TT l → α) (x : TT l), unc l (cur l f) x = f x
  | [], _, () => rfl
  | _ :: l, f, (x, y) => unc_cur l (fun y => f (x, y)) y

def vals : (l : List Sh) → TT l → List Value
  | [], _ => []
  | s :: l, x => s.v x.1 :: vals l x.2

/-- A function of things handed values. -/
def app {α : Type} (dflt : α) : (l : List Sh) → Cur l α → List Value → α
  | [], f, vs => match vs with
    | [] => f
    | _ :: _ => dflt
  | s :: l, f, vs => match vs with
    | [] => dflt
    | v :: vs => match s.of? v with
      | some x => app dflt l (f x) vs
      | none => dflt

theorem app_some (l : List Sh) : ∀ (f : Cur l Prop) (vs : List Value), app False l f vs → ∃ x : TT l, vals l x = vs ∧ unc l f x := by
  induction l with
  | nil =>
    intro f vs h
    cases vs with
    | nil => exact ⟨(), rfl, h⟩
    | cons v vs => exact False.elim h
  | cons s l ih =>
    intro f vs h
    cases vs with
    | nil => exact False.elim h
    | cons v vs =>
      simp only [app] at h
      split at h
      · rename_i x hx
        obtain ⟨y, hy, hf⟩ := ih (f x) vs h
        exact ⟨(x, y), by simp only [vals, hy, Sh.of?_some hx], hf⟩
      · exact h.elim

/-! ### Layouts of results -/
inductive Lay where
  | one (s : Sh)
  | agg (l : List Sh)

def flat : List Lay → List Sh
  | [] => []
  | .one s :: r => s :: flat r
  | .agg l :: r => l ++ flat r

def parts : List Lay → List Value → List Value
  | [], _ => []
  | .one _ :: r, vs => vs.headD (.tuple #[]) :: parts r vs.tail
  | .agg l :: r, vs => .agg (vs.take l.length).toArray :: parts r (vs.drop l.length)

/-- A call's result: one value, or a tuple of none or several. -/
def asm (r : List Lay) (vs : List Value) : Value :=
  match parts r vs with
  | [v] => v
  | l => .tuple l.toArray

/-! ### Steps -/
def KEEP (h h' : Heap) : List Nat → Prop
  | [] => True
  | b :: bs => h'[b]? = h[b]? ∧ KEEP h h' bs

def OFF (a : Addr) : List Nat → Prop
  | [] => True
  | b :: bs => a.block ≠ b ∧ OFF a bs

def COND (b : Bool) (A B : Prop) : Prop := (b = true → A) ∧ (b = false → B)
def NN (o : Option Addr) (K : Addr → Prop) : Prop := ∃ a, o = some a ∧ K a
/-- This memory and no other. -/
def EQ (h : Heap) : Heap → Prop := fun h' => h' = h
/-- A load that gives one value in every memory of a class. -/
def LD (s : Sh) (a : Addr) (S : Heap → Prop) (K : s.T → Prop) : Prop := ∃ x : s.T, (∀ h, S h → cell h a = some (s.v x)) ∧ K x
def LDN : (l : List Sh) → Addr → Nat → (Heap → Prop) → Cur l Prop → Prop
  | [], _, _, _, K => K
  | s :: l, a, i, S, K => ∃ x : s.T, (∀ h, S h → cell h (a.add i) = some (s.v x)) ∧ LDN l a (i + 1) S (K x)
def ST (a : Addr) (v : Value) (h : Heap) (bs : List Nat) (K : Heap → Prop) : Prop :=
  oneC v = true ∧ (cell h a).isSome = true ∧ frz h a = false ∧ OFF a bs ∧ K (put h a v)
def STN (a : Addr) : List Value → Nat → Heap → List Nat → (Heap → Prop) → Prop
  | [], _, h, _, K => K h
  | v :: vs, i, h, bs, K => ST (a.add i) v h bs fun h => STN a vs (i + 1) h bs K
/-- A store into a variable of the call's own that is known. -/
def PUT (b i : Nat) (v : Value) (h : Heap) (K : Heap → Prop) : Prop := oneC v = true ∧ K (put h ⟨b, i, none⟩ v)
def PUTN (b : Nat) : List Value → Nat → Heap → (Heap → Prop) → Prop
  | [], _, h, K => K h
  | v :: vs, i, h, K => PUT b i v h fun h => PUTN b vs (i + 1) h K
def ALLOC (cs : List Value) (t : Nat) (h : Heap) (K : Nat → Heap → Prop) : Prop := K h.size (h.push (.cells cs.toArray t (0, 0)))
def IXA (size : Nat) (a : Option Addr) (len : Nat) (i : Int) (K : Addr → Prop) : Prop :=
  ∃ a0, a = some a0 ∧ 0 ≤ i ∧ i < len ∧ K (a0.add (i.toNat * size))
def STRIX (s : ByteArray) (i : Int) (K : Int → Prop) : Prop := 0 ≤ i ∧ ∃ b, s[i.toNat]? = some b ∧ K (b.toNat : Int)
def SLBo (o : Option Int) (y dflt : Nat) (K : Nat → Prop) : Prop :=
  match o with
  | some i => 0 ≤ i ∧ i ≤ y ∧ K i.toNat
  | none => K dflt
def SLI (size : Nat) (a : Option Addr) (len cap : Nat) (lo hi mx : Option Int) (K : Sl → Prop) : Prop :=
  SLBo mx cap cap fun m => SLBo hi m len fun h => SLBo lo h 0 fun l =>
    K ⟨if m = l then a else a.map (·.add (l * size)), h - l, m - l⟩
def SLS (s : ByteArray) (lo hi : Option Int) (K : ByteArray → Prop) : Prop :=
  SLBo hi s.size s.size fun h => SLBo lo h 0 fun l => K (s.extract l h)

/-- The first n cells from an address on. -/
def RDC (h : Heap) (a : Option Addr) (vs : List Value) : Prop :=
  match a with
  | none => vs = []
  | some a => ∀ i, i < vs.length → cell h (a.add i) = vs[i]?

def zeroes (zero : List Value) (n : Nat) : List Value := (List.replicate n zero).flatten

def APPEND (size bytes t : Nat) (zero : List Value) (a : Option Addr) (len cap : Nat) (xa : Option Addr) (xlen : Nat) (h : Heap) (bs : List Nat) (K : Sl → Heap → Prop) : Prop :=
  ∃ new : List Value, (xa.isSome = true → new.length = xlen * size) ∧ RDC h xa new ∧
    ((len + xlen ≤ cap ∧ match a with
        | some a0 => STN (a0.add (len * size)) new 0 h bs fun h' => K ⟨a, len + xlen, cap⟩ h'
        | none => K ⟨a, len + xlen, cap⟩ h) ∨
     (cap < len + xlen ∧ 0 < bytes ∧ Builtin.nextslicecap (len + xlen) cap * bytes ≤ 2 ^ 48 ∧
      ∃ old : List Value, (a.isSome = true → old.length = len * size) ∧ RDC h a old ∧
        ∀ c, len + xlen ≤ c → c < 2 ^ 63 → K ⟨some ⟨h.size, 0, none⟩, len + xlen, c⟩ (h.push (.cells (old ++ new ++ zeroes zero (c - (len + xlen))).toArray t (0, 0)))))

def bytesV (s : ByteArray) : List Value := s.data.toList.map fun b => Value.int .u8 b.toNat

def APPSTR (t : Nat) (a : Option Addr) (len cap : Nat) (s : ByteArray) (h : Heap) (bs : List Nat) (K : Sl → Heap → Prop) : Prop :=
    ((len + s.size ≤ cap ∧ match a with
        | some a0 => STN (a0.add len) (bytesV s) 0 h bs fun h' => K ⟨a, len + s.size, cap⟩ h'
        | none => K ⟨a, len + s.size, cap⟩ h) ∨
     (cap < len + s.size ∧ Builtin.nextslicecap (len + s.size) cap ≤ 2 ^ 48 ∧
      ∃ old : List Value, (a.isSome = true → old.length = len) ∧ RDC h a old ∧
        ∀ c, len + s.size ≤ c → c < 2 ^ 63 → K ⟨some ⟨h.size, 0, none⟩, len + s.size, c⟩ (h.push (.cells (old ++ bytesV s ++ List.replicate (c - (len + s.size)) (Value.int .u8 0)).toArray t (0, 0)))))

/-- string(b) -/
def BTS (a : Option Addr) (len : Nat) (S : Heap → Prop) (K : ByteArray → Prop) : Prop :=
  match a with
  | none => K .empty
  | some a => ∃ ns : List Int, ns.length = len ∧ (∀ h, S h → ∀ i, i < ns.length → cell h (a.add i) = (ns[i]?).map (Value.int .u8)) ∧ K ⟨(ns.map fun n => UInt8.ofNat n.toNat).toArray⟩
/-- []byte(s) -/
def STB (s : ByteArray) (t : Nat) (h : Heap) (K : Sl → Heap → Prop) : Prop :=
  s.size < 2 ^ 63 ∧ ∀ c, s.size ≤ c → c < 2 ^ 63 → K ⟨some ⟨h.size, 0, none⟩, s.size, c⟩
    (h.push (.cells (bytesV s ++ List.replicate (c - s.size) (Value.int .u8 0)).toArray t (c, c + 1)))
def MKS (bytes t : Nat) (zero : List Value) (len cap : Int) (h : Heap) (K : Sl → Heap → Prop) : Prop :=
  0 ≤ len ∧ len ≤ cap ∧ bytes * cap ≤ 2 ^ 48 ∧ cap < 2 ^ 63 ∧
    K ⟨some ⟨h.size, 0, none⟩, len.toNat, cap.toNat⟩ (h.push (.cells (zeroes zero cap.toNat).toArray t (0, 0)))

/-- A string gone through, rune by rune. -/
def ITER (s : ByteArray) (h : Heap) (K : Nat → Heap → Prop) : Prop := K h.size (h.push (.stringIter s 0))
def NEXTS (b : Nat) (h : Heap) (K1 : Heap → Prop) (K2 : Int → Int → Heap → Prop) : Prop :=
  ∃ s pos, h[b]? = some (.stringIter s pos) ∧ (¬ pos < s.size → K1 h) ∧
    (pos < s.size → K2 pos (Utf8.decode s pos).1 (h.setIfInBounds b (.stringIter s (pos + (Utf8.decode s pos).2))))
/-- An interface value held against a type. -/
def TAC (t : Nat) (l : Lay) (v : Value) (K1 : Cur (flat [l]) Prop) (K2 : Prop) : Prop :=
  (∀ u, v = .iface t u → ∃ x : TT (flat [l]), u = asm [l] (vals _ x) ∧ unc _ K1 x) ∧ ((∀ u, v ≠ .iface t u) → (v = .nilIface ∨ ∃ t' u, v = .iface t' u) ∧ K2)

/-! ### A statement whose operations may come in more than one order -/
def DRAW (h : Heap) (bs : List Nat) (K : (Heap → Prop) → Prop) : Prop := ∃ S : Heap → Prop, S h ∧ (∀ h', S h' → KEEP h h' bs) ∧ K S
def SS (S : Heap → Prop) (h : Heap) (K : Prop) : Prop := S h ∧ K

/-! ### Jumps -/
def IMP (l : List Sh) (K k : Cur l (Heap → Prop)) : Prop := ∀ (x : TT l) (h : Heap), unc l K x h → unc l k x h
def JOIN (l : List Sh) (body : Cur l (Heap → Prop) → Prop) (K : Cur l (Heap → Prop)) : Prop := ∀ k, IMP l K k → body k
def LOOP (l : List Sh) (body : Cur l (Heap → Cur l (Heap → Prop) → Prop)) : Cur l (Heap → Prop) := cur l fun x0 h0 =>
  ∃ (I : TT l → Heap → Prop) (μ : TT l → Heap → Nat), I x0 h0 ∧
    ∀ x h, I x h → unc l body x h (cur l fun x' h' => I x' h' ∧ μ x' h' < μ x h)

end Go.VK

/-
  The evaluator D of the model's code over an abstract heap, and the relation of its heaps to the model's.
  Conditions: none beyond those that the statements bear.
-/
import GoSem.Decode
import GoSem.Elab.Main
import GoSem.Step
import Derived.Orders
import Derived.Recover
import Derived.AtR
import Derived.RangeFuncIn
import Derived.RangeFuncLeaves
set_option maxRecDepth 100000
namespace Go.Bel

section
inductive Tr (α : Type) where
  | nil
  | node (v : Option α) (l r : Tr α)

namespace Tr
variable {α : Type}
def get : Tr α → Nat → Option α
  | .nil, _ => none
  | .node v l r, n =>
    match n with
    | 0 => v
    | m + 1 => match Nat.beq (m % 2) 0 with
      | true => l.get (m / 2)
      | false => r.get (m / 2)
def set : Nat → Tr α → Nat → α → Tr α
  | 0, t, _, _ => t
  | f + 1, .nil, n, x =>
    match n with
    | 0 => .node (some x) .nil .nil
    | m + 1 => match Nat.beq (m % 2) 0 with
      | true => .node none (set f .nil (m / 2) x) .nil
      | false => .node none .nil (set f .nil (m / 2) x)
  | f + 1, .node v l r, n, x =>
    match n with
    | 0 => .node (some x) l r
    | m + 1 => match Nat.beq (m % 2) 0 with
      | true => .node v (set f l (m / 2) x) r
      | false => .node v l (set f r (m / 2) x)
/-- always deep enough -/
def put (t : Tr α) (n : Nat) (x : α) : Tr α := set (n + 1) t n x
def ofList : List α → Nat → Tr α → Tr α
  | [], _, t => t
  | x :: xs, i, t => ofList xs (i + 1) (put t i x)
end Tr

/-- slices whose capacity is known only from below have `loose + least` as capacity -/
def loose : Nat := 2 ^ 60

inductive AObj where
  | rw (o : Obj)
  | ro (cells : List Value)
  | dead

structure St where
  heap : Tr AObj
  next : Nat

/-- what an operation does -/
inductive AS (α : Type) where
  | ret (a : α)
  | fail
  | loads (a : Addr) (n : Nat) (k : List Value → AS α)
  | stores (a : Addr) (vs : List Value) (k : AS α)
  | new (o : Obj) (k : Nat → AS α)
  | getObj (r : Nat) (k : Obj → AS α)
  | setObj (r : Nat) (o : Obj) (k : AS α)
  | freeze (a : Addr) (n : Nat) (k : AS α)
  | stringish (a : Addr) (k : AS α)
  /-- there are so many cells of a row of such elements -/
  | rowOf (a : Addr) (n : Nat) (e : TypeId) (head : Bool) (k : AS α)
  /-- a loose slice of so many cells, in a row of such elements, gets more behind it: in a new block -/
  | grow (a : Addr) (n : Nat) (e : TypeId) (vs : List Value) (k : Nat → AS α)

def AS.bind {α β : Type} : AS α → (α → AS β) → AS β
  | .ret a, f => f a
  | .fail, _ => .fail
  | .loads a n k, f => .loads a n fun vs => (k vs).bind f
  | .stores a vs k, f => .stores a vs (k.bind f)
  | .new o k, f => .new o fun r => (k r).bind f
  | .getObj r k, f => .getObj r fun o => (k o).bind f
  | .setObj r o k, f => .setObj r o (k.bind f)
  | .freeze a n k, f => .freeze a n (k.bind f)
  | .stringish a k, f => .stringish a (k.bind f)
  | .rowOf a n e z k, f => .rowOf a n e z (k.bind f)
  | .grow a n e vs k, f => .grow a n e vs fun r => (k r).bind f

instance : Monad AS where
  pure := .ret
  bind := AS.bind

def lst2 {α β : Type} (f : α → β) : List α → List β
  | [] => []
  | x :: l => f x :: lst2 f l

/-- n things from place i on -/
def cut (l : List Value) (i n : Nat) : Option (List Value) :=
  let r := (l.drop i).take n
  match Nat.beq r.length n with
  | true => some r
  | false => none
/-- put things over those from place i on -/
def lay (l : List Value) (i : Nat) (vs : List Value) : Option (List Value) :=
  match i, l, vs with
  | _, l, [] => some l
  | 0, _ :: l, v :: vs => (lay l 0 vs).map (v :: ·)
  | i + 1, x :: l, vs => (lay l i vs).map (x :: ·)
  | _, [], _ :: _ => none

def St.cellsAt (s : St) (a : Addr) (n : Nat) : Option (List Value) :=
  match a.spot, s.heap.get a.block with
  | none, some (.rw (.cells c _ _)) => cut c.toList a.off n
  | none, some (.ro c) => cut c a.off n
  | _, _ => none

def flat : Value → Bool
  | .agg _ => false
  | .tuple _ => false
  | .chan (some n) => (match n with
    | 0 => false
    | _ => true)
  | _ => true

def St.setCells (s : St) (a : Addr) (vs : List Value) : Option St :=
  match a.spot, s.heap.get a.block with
  | none, some (.rw (.cells c e (lo, hi))) =>
    match vs.all flat && Nat.beq hi 0 with
    | true => match lay c.toList a.off vs with
      | some c' => some { s with heap := s.heap.put a.block (.rw (.cells ⟨c'⟩ e (lo, hi))) }
      | none => none
    | false => none
  | _, _ => none

def isCells : Obj → Bool
  | .cells .. => true
  | _ => false

def St.rowOf (s : St) (a : Addr) (n : Nat) (t : TypeId) (head : Bool) : Bool :=
  match a.spot, s.heap.get a.block with
  | none, some (.rw (.cells c e (lo, _))) => Nat.beq e t && Nat.ble (a.off + n) c.toList.length && (!head || Nat.beq lo 0)
  | _, _ => false

def AS.run {α : Type} : AS α → St → Option (α × St)
  | .ret a, s => some (a, s)
  | .fail, _ => none
  | .loads a n k, s => match s.cellsAt a n with
    | some vs => (k vs).run s
    | none => none
  | .stores a vs k, s => match s.setCells a vs with
    | some s' => k.run s'
    | none => none
  | .new o k, s => (k s.next).run { heap := s.heap.put s.next (.rw o), next := s.next + 1 }
  | .getObj r k, s => match s.heap.get r with
    | some (.rw o) => match isCells o with
      | true => none
      | false => (k o).run s
    | _ => none
  | .setObj r o k, s => match s.heap.get r with
    | some (.rw o') => match isCells o' || isCells o with
      | true => none
      | false => k.run { s with heap := s.heap.put r (.rw o) }
    | _ => none
  | .freeze a n k, s => match a.spot, s.heap.get a.block with
    | none, some (.rw (.cells c e (lo, _hi))) =>
      match Nat.ble 1 n && Nat.ble (a.off + n) c.toList.length with
      | true => k.run { s with heap := s.heap.put a.block (.rw (.cells c e (lo, 1))) }
      | false => none
    | _, _ => none
  | .stringish a k, s => match s.heap.get a.block with
    | some (.rw (.cells c e (lo, _))) => k.run { s with heap := s.heap.put a.block (.rw (.cells c e (lo, 1))) }
    | _ => none
  | .rowOf a n t z k, s => match s.rowOf a n t z with
    | true => k.run s
    | false => none
  | .grow a n e vs k, s => match a.spot, s.heap.get a.block with
    | none, some (.rw (.cells c e' (_lo, hi))) => match cut c.toList a.off n, Nat.beq hi 0 && Nat.beq e e' && vs.all flat with
      | some old, true => (k s.next).run { heap := (s.heap.put a.block .dead).put s.next (.rw (.cells ⟨old ++ vs⟩ e (1, 0))), next := s.next + 1 }
      | _, _ => none
    | _, _ => none

/-- it only reads -/
def AS.read {α : Type} : AS α → St → Option α
  | .ret a, _ => some a
  | .loads a n k, s => match s.cellsAt a n with
    | some vs => (k vs).read s
    | none => none
  | .getObj r k, s => match s.heap.get r with
    | some (.rw o) => match isCells o with
      | true => none
      | false => (k o).read s
    | _ => none
  | .rowOf a n t z k, s => match s.rowOf a n t z with
    | true => k.read s
    | false => none
  | _, _ => none

/-- it makes one block -/
def AS.make {α : Type} : AS α → Nat → Option (α × Obj)
  | .new o k, r => match k r with
    | .ret a => some (a, o)
    | _ => none
  | _, _ => none

structure Tab where
  P : Program
  ty : Tr TypeInfo
  fn : Tr Func
  /-- structs that are held against each other -/
  eqs : Nat → Bool

section ops
variable (T : Tab)

def Tab.info (t : TypeId) : Option TypeInfo := T.ty.get t
def Tab.und (t : TypeId) : Option TypeDesc :=
  match T.ty.get t with
  | some i => match i.desc with
    | .named _ u => match T.ty.get u with
      | some j => some j.desc
      | none => none
    | d => some d
  | none => none
def Tab.agg (t : TypeId) : Option Bool :=
  match T.und t with
  | some (.struct _) => some true
  | some (.array _ _) => some true
  | some _ => some false
  | none => none
def Tab.size (t : TypeId) : Option Nat := (T.ty.get t).map (·.size)

/-- no addresses in it -/
def plain : Value → Bool
  | .bool _ | .int _ _ | .float _ _ | .complex _ _ _ | .string _ | .pointer none | .slice none _ _ | .map none | .chan none | .nilFunc | .nilIface => true
  | .func (.yield _) _ _ => false
  | .func _ f c => f.toList.isEmpty && c.toList.isEmpty
  | .iface _ v => plain v
  | .agg ⟨l⟩ => go l
  | .tuple ⟨l⟩ => go l
  | _ => false
  where go : List Value → Bool
  | [] => true
  | v :: l => plain v && go l

def Tab.zero (t : TypeId) : Option Value :=
  match T.ty.get t with
  | some i => match i.zero with
    | some v => match plain v with
      | true => some v
      | false => none
    | none => none
  | none => none

def lift {α : Type} : Option α → AS α
  | some a => .ret a
  | none => .fail

def lst : Value → List Value
  | .agg ⟨l⟩ => l
  | v => [v]

def aLoad (t : TypeId) (v : Value) : AS Value :=
  match v, T.agg t, T.size t with
  | .pointer (some a), some true, some n => .loads a n fun vs => .ret (.agg ⟨vs⟩)
  | .pointer (some a), some false, _ => .loads a 1 fun vs => match vs with
    | [x] => .ret x
    | _ => .fail
  | _, _, _ => .fail
/-- something is known of it -/
def known : Value → Bool
  | .chan (some n) => (match n with
    | 0 => false
    | _ => true)
  | _ => true
def aStore (t : TypeId) (v x : Value) : AS Unit :=
  match v, T.size t with
  | .pointer (some a), some n => match known x && Nat.beq (lst x).length n with
    | true => .stores a (lst x) (.ret ())
    | false => .fail
  | _, _ => .fail
def ptr (r : Nat) : Value := .pointer (some ⟨r, 0, none⟩)
def aNew (t : TypeId) (cells : List Value) : AS Value := .new (.cells ⟨cells⟩ t) fun r => .ret (ptr r)

def aPart (t : TypeId) (cs : List Value) (off : Nat) : AS Value :=
  match T.agg t, T.size t with
  | some true, some n => match cut cs off n with
    | some l => .ret (.agg ⟨l⟩)
    | none => .fail
  | some false, _ => match cut cs off 1 with
    | some [v] => .ret v
    | _ => .fail
  | _, _ => .fail

def fillA (place : Nat → Option (Nat × Nat)) (cells : List Value) : List (Nat × Value) → Option (List Value)
  | [] => some cells
  | (i, v) :: rest =>
    match place i with
    | none => none
    | some (off, size) =>
      match known v && Nat.ble 1 size && Nat.beq (lst v).length size with
      | true => match lay cells off (lst v) with
        | some c => fillA place c rest
        | none => none
      | false => none

def nth {α : Type} : List α → Nat → Option α
  | [], _ => none
  | x :: _, 0 => some x
  | _ :: l, n + 1 => nth l n

def placesA : List Field → Option (List (Nat × Nat))
  | [] => some []
  | f :: l => match T.size f.type, placesA l with
    | some n, some r => some ((f.offset, n) :: r)
    | _, _ => none
def aBuild (t : TypeId) (parts : List (Nat × Value)) : AS Value :=
  match T.zero t, T.und t with
  | some z, some (.struct fs) =>
    match placesA T fs.toList with
    | some ps => match fillA (nth ps) (lst z) parts with
      | some c => .ret (.agg ⟨c⟩)
      | none => .fail
    | none => .fail
  | some z, some (.array _ e) => match T.size e with
    | some n => match fillA (fun i => some (i * n, n)) (lst z) parts with
      | some c => .ret (.agg ⟨c⟩)
      | none => .fail
    | none => .fail
  | _, _ => .fail

def rep {α : Type} : Nat → List α → List α
  | 0, _ => []
  | n + 1, l => l ++ rep n l

def aBuildSlice (t : TypeId) (len : Nat) (parts : List (Nat × Value)) : AS Value :=
  match T.und t with
  | some (.slice e) => match T.size e, T.zero e with
    | some n, some z => match Nat.ble 1 n && Nat.beq (lst z).length n && Nat.ble (len * n) 16777216 with
      | true => match fillA (fun i => some (i * n, n)) (rep len (lst z)) parts with
        | some c => .new (.cells ⟨c⟩ e) fun r => .ret (.slice (some ⟨r, 0, none⟩) len len)
        | none => .fail
      | false => .fail
    | _, _ => .fail
  | _ => .fail

def Addr.plus (a : Addr) (n : Nat) : Addr := match a with
  | ⟨b, o, none⟩ => ⟨b, o + n, none⟩
  | a => a.add n

def aFieldAddr (s : TypeId) (v : Value) (f : Nat) : AS Value :=
  match v, T.und s with
  | .pointer (some ⟨b, o, none⟩), some (.struct fs) => match nth fs.toList f with
    | some f => match T.size f.type with
      | some (_ + 1) => .ret (.pointer (some ⟨b, o + f.offset, none⟩))
      | _ => .fail
    | none => .fail
  | _, _ => .fail
def aField (t : TypeId) (v : Value) (f : Nat) : AS Value :=
  match v, T.und t with
  | .agg ⟨l⟩, some (.struct fs) => match nth fs.toList f with
    | some f => aPart T f.type l f.offset
    | none => .fail
  | _, _ => .fail
/-- a number from 0 to below n -/
def inside (i : Int) (n : Nat) : Option Nat := match i with
  | .ofNat k => match Nat.blt k n with
    | true => some k
    | false => none
  | .negSucc _ => none
def upto (i : Int) (n : Nat) : Option Nat := inside i (n + 1)

def aIndexAddr (t : TypeId) (v ix : Value) : AS Value :=
  match ix, v, T.und t with
  | .int _ i, .pointer (some ⟨b, o, none⟩), some (.array n e) => match inside i n, T.size e with
    | some k, some z => .ret (.pointer (some ⟨b, o + k * z, none⟩))
    | _, _ => .fail
  | .int _ i, .slice (some ⟨b, o, none⟩) n _, some (.slice e) => match inside i n, T.size e with
    | some k, some z => .ret (.pointer (some ⟨b, o + k * z, none⟩))
    | _, _ => .fail
  | _, _, _ => .fail
def aIndex (t : TypeId) (v ix : Value) : AS Value :=
  match ix, v, T.und t with
  | .int _ i, .agg ⟨l⟩, some (.array n e) => match inside i n, T.size e with
    | some k, some z => aPart T e l (k * z)
    | _, _ => .fail
  | .int _ i, .string s, some .string => match i with
    | .ofNat k => match nth s.data.toList k with
      | some b => .ret (.int .u8 (.ofNat b.toNat))
      | none => .fail
    | _ => .fail
  | _, _, _ => .fail

def bound (x : Option Value) (y other : Nat) : Option Nat := match x with
  | none => some other
  | some (.int _ i) => upto i y
  | _ => none

def aSlice (t : TypeId) (v : Value) (lo hi mx : Option Value) : AS Value :=
  match v, T.und t with
  | .string s, some .string => match mx, bound hi s.data.toList.length s.data.toList.length with
    | none, some h => match bound lo h 0 with
      | some l => .ret (.string ⟨⟨(s.data.toList.take h).drop l⟩⟩)
      | none => .fail
    | _, _ => .fail
  | .slice none n c, some (.slice e) => match bound mx c c, (mx.isSome && hi.isNone) with
    | some m, false => match bound hi m n with
      | some h => match bound lo h 0, T.size e with
        | some l, some _ => .ret (.slice none (h - l) (m - l))
        | _, _ => .fail
      | none => .fail
    | _, _ => .fail
  | .slice (some ⟨b, o, none⟩) n c, some (.slice e) => match T.size e, (mx.isSome && hi.isNone) with
    | some z, false => match Nat.ble loose c with
      | false => match bound mx c c with
        | some m => match bound hi m n with
          | some h => match bound lo h 0 with
            | some l => .ret (.slice (some (match Nat.beq m l with | true => ⟨b, o, none⟩ | false => ⟨b, o + l * z, none⟩)) (h - l) (m - l))
            | none => .fail
          | none => .fail
        | none => .fail
      | true =>
        -- a loose slice: within what is known
        match Nat.beq (c / loose) z, mx with
        | true, none => match bound hi (c % loose) n with
          | some h => match bound lo h 0 with
            | some l => .ret (.slice (some ⟨b, o + l * z, none⟩) (h - l) (loose * z + (c % loose - l)))
            | none => .fail
          | none => .fail
        | true, some mx => match bound (some mx) (c % loose) 0 with
          | some m => match bound hi m n with
            | some h => match bound lo h 0 with
              | some l => match Nat.beq m l with
                | true => .ret (.slice (some ⟨b, o, none⟩) (h - l) (loose * z))
                | false => .ret (.slice (some ⟨b, o + l * z, none⟩) (h - l) (m - l))
              | none => .fail
            | none => .fail
          | none => .fail
        | false, _ => .fail
    | _, _ => .fail
  | .pointer (some ⟨b, o, none⟩), some (.array n e) => match bound mx n n, (mx.isSome && hi.isNone) with
    | some m, false => match bound hi m n with
      | some h => match bound lo h 0, T.size e with
        | some l, some z => match Nat.blt n loose with
          | true => .ret (.slice (some (match Nat.beq m l with | true => ⟨b, o, none⟩ | false => ⟨b, o + l * z, none⟩)) (h - l) (m - l))
          | false => .fail
        | _, _ => .fail
      | none => .fail
    | _, _ => .fail
  | _, _ => .fail

/-- equality of values of a type without addresses -/
def eqL (f : Nat → Value → Value → Option Bool) (part : TypeId → List Value → Nat → Option Value) : List Field → List Value → List Value → Option Bool
  | [], _, _ => some true
  | g :: gs, xs, ys => match part g.type xs g.offset, part g.type ys g.offset with
    | some x, some y => match f g.type x y with
      | some true => eqL f part gs xs ys
      | some false => some false
      | none => none
    | _, _ => none
def partO (t : TypeId) (cs : List Value) (off : Nat) : Option Value :=
  match T.agg t, T.size t with
  | some true, some n => match cut cs off n with
    | some l => some (.agg ⟨l⟩)
    | none => none
  | some false, _ => match cut cs off 1 with
    | some [v] => some v
    | _ => none
  | _, _ => none
def byteEq : List UInt8 → List UInt8 → Bool
  | [], [] => true
  | a :: x, b :: y => match Nat.beq a.toNat b.toNat with
    | true => byteEq x y
    | false => false
  | _, _ => false
def intEq : Int → Int → Bool
  | .ofNat a, .ofNat b => Nat.beq a b
  | .negSucc a, .negSucc b => Nat.beq a b
  | _, _ => false
def eqAtom (d : TypeDesc) (x y : Value) : Option Bool := match d with
  | .bool => match x, y with
    | .bool a, .bool b => some (match a, b with | true, true => true | false, false => true | _, _ => false)
    | _, _ => none
  | .int _ => match x, y with
    | .int j a, .int k b => match decide (j = k) with
      | true => some (intEq a b)
      | false => none
    | _, _ => none
  | .string => match x, y with
    | .string a, .string b => some (byteEq a.data.toList b.data.toList)
    | _, _ => none
  | .pointer _ => match x, y with
    | .pointer none, .pointer b => some b.isNone
    | .pointer (some _), .pointer none => some false
    | _, _ => none
  | .interface _ => match x, y with
    | .nilIface, .iface _ _ => some false
    | .iface _ _, .nilIface => some false
    | _, _ => none
  | .slice _ => match x, y with
    | .slice none _ _, .slice b _ _ => some b.isNone
    | .slice (some _) _ _, .slice none _ _ => some false
    | _, _ => none
  | .map _ _ => match x, y with
    | .map none, .map b => some b.isNone
    | .map (some _), .map none => some false
    | _, _ => none
  | .func _ _ _ => match x, y with
    | .nilFunc, .nilFunc => some true
    | .nilFunc, .func _ _ _ => some false
    | .func _ _ _, .nilFunc => some false
    | _, _ => none
  | _ => none
def eqV : Nat → TypeId → Value → Value → Option Bool
  | 0, _, _, _ => none
  | d + 1, t, x, y => match T.und t with
    | some (.struct fs) => match x, y with
      | .agg ⟨xs⟩, .agg ⟨ys⟩ => match T.eqs t with
        | true => eqL (eqV d) (partO T) fs.toList xs ys
        | false => none
      | _, _ => none
    | some k => eqAtom k x y
    | none => none
/-- `x == nil` of an interface value: one of the two is the constant nil -/
def eqI (t : TypeId) (x y : Value) : Option Bool :=
  match eqV T 20 t x y with
  | some b => some b
  | none => match T.und t with
    | some (.interface _) => match x, y with
      | .nilIface, .nilIface => some true
      | _, _ => none
    | some (.pointer e) => match x, y with
      | .pointer (some ⟨a, o, none⟩), .pointer (some ⟨b, q, none⟩) => match Nat.beq a b, T.size e with
        | true, some (_ + 1) => some (Nat.beq o q)
        | _, _ => none
      | _, _ => none
    | _ => none

def bytesLt : List UInt8 → List UInt8 → Bool
  | _, [] => false
  | [], _ :: _ => true
  | a :: x, b :: y => match Nat.blt a.toNat b.toNat with
    | true => true
    | false => match Nat.beq a.toNat b.toNat with
      | true => bytesLt x y
      | false => false

def isConstOp : Operand → Bool
  | .const _ => true
  | _ => false

/-- the operators on numbers; the model's own -/
def ofSem {α : Type} : Sem α → AS α
  | .pure a => .ret a
  | _ => .fail

def aBinInt (op : BinOp) (k : IntKind) (a : Int) (yk : IntKind) (b : Int) : AS Value := match op with
  | .shl | .shr => ofSem (Op.shift op k a yk b)
  | .add | .sub | .mul => match decide (k = yk) with
    | true => ofSem (Op.intArith op k a b)
    | false => .fail
  | .quo | .rem => match decide (k = yk) with
    | true => ofSem (Op.intDiv op k a b)
    | false => .fail
  | .and | .or | .xor | .andNot => match decide (k = yk) with
    | true => ofSem (Op.intBits op k a b)
    | false => .fail
  | .eql => match decide (k = yk) with
    | true => .ret (.bool (intEq a b))
    | false => .fail
  | .neq => match decide (k = yk) with
    | true => .ret (.bool (!(intEq a b)))
    | false => .fail
  | _ => match decide (k = yk) with
    | true => ofSem (Op.intCmp op a b)
    | false => .fail
def aBinStr (op : BinOp) (a b : List UInt8) : AS Value := match op with
  | .add => match Nat.blt (a.length + b.length) 9223372036854775808 with
    | true => .ret (.string ⟨⟨a ++ b⟩⟩)
    | false => .fail
  | .eql => .ret (.bool (byteEq a b))
  | .neq => .ret (.bool (!(byteEq a b)))
  | .lss => .ret (.bool (bytesLt a b))
  | .leq => .ret (.bool (bytesLt a b || byteEq a b))
  | .gtr => .ret (.bool (!(bytesLt a b || byteEq a b)))
  | .geq => .ret (.bool (!(bytesLt a b)))
  | _ => .fail
def aBinEq (op : BinOp) (t : TypeId) (x y : Value) : AS Value := match op with
  | .eql => match eqI T t x y with
    | some b => .ret (.bool b)
    | none => .fail
  | .neq => match eqI T t x y with
    | some b => .ret (.bool (!b))
    | none => .fail
  | _ => .fail
/-- held against a number that is at least c -/
def aGe (op : BinOp) (k : IntKind) (a : Int) (c : Nat) : AS Value := match op, k, a with
  | .gtr, .i64, .ofNat m => (match Nat.ble m c with
    | true => .ret (.bool false)
    | false => .fail)
  | _, _, _ => .fail
def aBin (op : BinOp) (t : TypeId) (x y : Value) : AS Value :=
  match x with
  | .int k a => match y with
    | .int yk b => aBinInt op k a yk b
    | .chan (some n) => match Nat.ble 6 n with
      | true => aGe op k a (n - 6)
      | false => .fail
    | _ => .fail
  | .string a => match y with
    | .string b => aBinStr op a.data.toList b.data.toList
    | _ => .fail
  | .chan (some (n + 1)) => match op, n, y with
    | .gtr, 2, .int .i64 (.ofNat 400) => .ret (.bool false)
    | .gtr, 3, .int .i64 (.ofNat 400) => .ret (.bool true)
    | _, _, _ => .fail
  | _ => aBinEq T op t x y

def toBytes : List Value → Option (List UInt8)
  | [] => some []
  | .int .u8 n :: l => match toBytes l with
    | some r => some (UInt8.ofNat n.toNat :: r)
    | none => none
  | _ => none

theorem toBytes_nil : toBytes [] = some [] := rfl
theorem toBytes_cons {v : Value} {l : List Value} {r : List UInt8} (h : toBytes (v :: l) = some r) : ∃ n r', v = .int .u8 n ∧ toBytes l = some r' ∧ r = UInt8.ofNat n.toNat :: r' := by
  cases v with
  | int k n =>
    cases k with
    | u8 =>
      cases hl : toBytes l with
      | none =>
        have h : (match toBytes l with | some r => some (UInt8.ofNat n.toNat :: r) | none => none) = some r := h
        rw [hl] at h; cases h
      | some r' =>
        have h : (match toBytes l with | some r => some (UInt8.ofNat n.toNat :: r) | none => none) = some r := h
        rw [hl] at h
        simp only [Option.some.injEq] at h
        exact ⟨n, r', rfl, rfl, h.symm⟩
    | _ => cases h
  | _ => cases h

def aConvert (src dst : TypeId) (x : Value) : AS Value :=
  match T.und src, T.und dst, x with
  | some _, some (.int k), .int _ n => ofSem (Conv.intToInt k n)
  | some _, some .string, .string s => .ret (.string s)
  | some _, some (.slice e), .string s => match T.und e with
    | some (.int .u8) =>
      match Nat.blt s.data.toList.length 1000000000000 with
      | true => .new (.cells ⟨lst2 (fun b => .int .u8 (.ofNat b.toNat)) s.data.toList⟩ e) fun r =>
        .ret (.slice (some ⟨r, 0, none⟩) s.data.toList.length (loose * 1 + s.data.toList.length))
      | false => .fail
    | _ => .fail
  | some (.pointer t), some .unsafePointer, .pointer (some ⟨b, 0, none⟩) => match T.size t with
    | some (n + 1) => .rowOf ⟨b, 0, none⟩ (n + 1) t true (.rowOf ⟨b, 0, none⟩ (n + 1) t true (.ret x))
    | _ => .fail
  | some .unsafePointer, some (.pointer t), .pointer (some ⟨b, 0, none⟩) => match T.size t with
    | some (n + 1) => .rowOf ⟨b, 0, none⟩ (n + 1) t true (.rowOf ⟨b, 0, none⟩ (n + 1) t true (.ret x))
    | _ => .fail
  | some (.slice _), some (.slice e), .slice (some a) _ _ => match Nat.beq src dst, T.und e with
    | true, some (.int .u8) => .stringish a (.ret x)
    | _, _ => .fail
  | some (.slice e), some .string, .slice a n _ => match T.und e with
    | some (.int .u8) => match a with
      | none => .ret (.string ⟨⟨[]⟩⟩)
      | some a => .loads a n fun vs => match toBytes vs with
        | some l => .ret (.string ⟨⟨l⟩⟩)
        | none => .fail
    | _ => .fail
  | _, _, _ => .fail

theorem aConvert_forced (src dst : TypeId) (x : Value) : aConvert T src dst x = aConvert T src dst x := by
  unfold aConvert
  split <;> rfl

def aMakeSlice (t : TypeId) (n c : Value) : AS Value :=
  match T.und t, n, c with
  | some (.slice e), .int .i64 (.ofNat n), .int .i64 (.ofNat c) => match T.size e, T.zero e, T.info e with
    | some z, some zero, some i => match Nat.ble n c && Nat.ble (c * (i.bytes + 1)) 1000000000000 && Nat.ble 1 z && Nat.beq (lst zero).length z with
      | true => .new (.cells ⟨rep c (lst zero)⟩ e) fun r => .ret (.slice (some ⟨r, 0, none⟩) n c)
      | false => .fail
    | _, _, _ => .fail
  | _, _, _ => .fail

/-- keys: numbers, texts, structs of these -/
def findK (t : TypeId) (k : Value) : List MapEntry → Nat → Option (Option (Nat × Value))
  | [], _ => some none
  | e :: es, i => match eqV T 20 t k e.key with
    | some true => some (some (i, e.val))
    | some false => findK t k es (i + 1)
    | none => none
def atomKey : Value → Bool
  | .int _ _ => true
  | .string _ => true
  | _ => false
def allKey : List Value → Bool
  | [] => true
  | v :: l => atomKey v && allKey l
def keyOk : Value → Bool
  | .agg ⟨l⟩ => allKey l
  | v => atomKey v
def scalarFits (d : Option TypeDesc) (v : Value) : Bool := match v with
  | .int _ _ => match d with
    | some (.int _) => true
    | _ => false
  | .string _ => match d with
    | some .string => true
    | _ => false
  | _ => false
def fieldsFit (l : List Value) : List Field → Bool
  | [] => true
  | f :: fs => (match partO T f.type l f.offset with
    | some v => scalarFits (T.und f.type) v
    | none => false) && fieldsFit l fs
def keyFits (t : TypeId) (k : Value) : Bool := match k with
  | .agg ⟨l⟩ => match T.und t with
    | some (.struct fs) => fieldsFit T l fs.toList
    | _ => false
  | v => scalarFits (T.und t) v
def tellA (z : Value) (ok : Bool) (r : Option (Nat × Value)) : Value := match r, ok with
  | some (_, v), true => .tuple ⟨[v, .bool true]⟩
  | some (_, v), false => v
  | none, true => .tuple ⟨[z, .bool false]⟩
  | none, false => z
def aLookup (t : TypeId) (m k : Value) (ok : Bool) : AS Value :=
  match T.und t with
  | some (.map kt et) => match keyOk k && keyFits T kt k, T.zero et with
    | true, some z =>
      match m with
      | .map none => .ret (tellA z ok none)
      | .map (some r) => .getObj r fun o => match o with
        | .map es _ => match findK T kt k es.toList 0 with
          | some f => .ret (tellA z ok f)
          | none => .fail
        | _ => .fail
      | _ => .fail
    | _, _ => .fail
  | _ => .fail
def sameAtom (v w : Value) : Bool := match v with
  | .int j a => match w with
    | .int k b => decide (j = k) && intEq a b
    | _ => false
  | .string a => match w with
    | .string b => byteEq a.data.toList b.data.toList
    | _ => false
  | _ => false
def sameAtoms : List Value → List Value → Bool
  | [], [] => true
  | v :: l, w :: m => sameAtom v w && sameAtoms l m
  | _, _ => false
def sameKey (v w : Value) : Bool := match v with
  | .agg ⟨l⟩ => match w with
    | .agg ⟨m⟩ => sameAtoms l m
    | _ => false
  | v => sameAtom v w
def modNth {α : Type} (f : α → α) : List α → Nat → List α
  | [], _ => []
  | x :: l, 0 => f x :: l
  | x :: l, n + 1 => x :: modNth f l n
def aMapUpdate (t : TypeId) (m k v : Value) : AS Unit :=
  match T.und t, m with
  | some (.map kt _), .map (some r) => match keyOk k && keyFits T kt k with
    | true => .getObj r fun o => match o with
      | .map es clock => match findK T kt k es.toList 0 with
        | some (some (i, _)) => match nth es.toList i with
          | some e => match sameKey e.key k with
            | true => .setObj r (.map ⟨modNth (fun e => { e with key := k, val := v }) es.toList i⟩ clock) (.ret ())
            | false => .fail
          | none => .fail
        | some none => .setObj r (.map ⟨es.toList ++ [{ key := k, val := v, born := clock }]⟩ (clock + 1)) (.ret ())
        | none => .fail
      | _ => .fail
    | false => .fail
  | _, _ => .fail
def delNth {α : Type} : List α → Nat → List α
  | [], _ => []
  | _ :: l, 0 => l
  | x :: l, n + 1 => x :: delNth l n
def aDelete (t : TypeId) (m k : Value) : AS Value :=
  match T.und t, m with
  | some (.map kt _), .map (some r) => match keyOk k && keyFits T kt k with
    | true => .getObj r fun o => match o with
      | .map es clock => match findK T kt k es.toList 0 with
        | some (some (i, _)) => .setObj r (.map ⟨delNth es.toList i⟩ clock) (.ret (.tuple ⟨[]⟩))
        | some none => .setObj r (.map es clock) (.ret (.tuple ⟨[]⟩))
        | none => .fail
      | _ => .fail
    | false => .fail
  | _, _ => .fail

def aRange (t : TypeId) (x : Value) : AS Value :=
  match T.und t, x with
  | some .string, .string s => .new (.stringIter s 0) fun r => .ret (ptr r)
  | some (.map _ _), .map none => .new (.mapIter none 0 #[] 0) fun r => .ret (ptr r)
  | some (.map _ _), .map (some m) => .getObj m fun o => match o with
    | .map _ clock => .new (.mapIter (some m) clock #[] clock) fun r => .ret (ptr r)
    | _ => .fail
  | _, _ => .fail
def goI (n : Nat) : Value := .int .i64 (.ofNat n)
def stepOk (seen : List Nat) (es : List MapEntry) (last : Nat) : Bool := match seen, es with
  | [], _ => true
  | _ :: _, [] => true
  | _ :: _, _ :: _ => es.any fun e => Nat.blt e.born last
def aNext (it : Value) (str : Bool) : AS Value :=
  match it with
  | .pointer (some ⟨r, 0, _⟩) => .getObj r fun o => match o, str with
    | .stringIter s pos, true =>
      match Nat.blt pos s.data.toList.length with
      | true =>
        let (c, width) := Utf8.decode s pos
        .setObj r (.stringIter s (pos + width)) (.ret (.tuple ⟨[.bool true, goI pos, .int .i32 c]⟩))
      | false => .ret (.tuple ⟨[.bool false]⟩)
    | .mapIter none _ _ _, false => .ret (.tuple ⟨[.bool false]⟩)
    | .mapIter (some m) since seen last, false => .getObj m fun o => match o with
      | .map es clock =>
        -- one candidate alone
        match stepOk seen.toList es.toList last with
        | false => .fail
        | true =>
        match es.toList.filter (fun e => !(seen.toList.any fun b => Nat.beq b e.born)) with
        | [] => .ret (.tuple ⟨[.bool false]⟩)
        | [e] => match Nat.blt e.born since with
          | true => .setObj r (.mapIter (some m) since ⟨seen.toList ++ [e.born]⟩ clock) (.ret (.tuple ⟨[.bool true, e.key, e.val]⟩))
          | false => .fail
        | _ => .fail
      | _ => .fail
    | _, _ => .fail
  | _ => .fail
def lastOf : List Nat → Option Nat
  | [] => none
  | [x] => some x
  | _ :: l => lastOf l
def aEntry (it : Value) : AS Value :=
  match it with
  | .pointer (some ⟨r, 0, _⟩) => .getObj r fun o => match o with
    | .mapIter (some m) _ seen stepped => match lastOf seen.toList with
      | some stamp => .getObj m fun o => match o with
        | .map es clock => match Nat.beq clock stepped with
          | true => match es.toList.find? (fun e => Nat.beq e.born stamp) with
            | some e => .ret (.tuple ⟨[e.key, e.val]⟩)
            | none => .fail
          | false => .fail
        | _ => .fail
      | none => .fail
    | _ => .fail
  | _ => .fail

def aTypeAssert (x : Value) (asserted : TypeId) (ok : Bool) : AS Value :=
  match T.und asserted, x with
  | some (.interface _), _ => .fail
  | some _, .iface t v => match Nat.beq t asserted, ok, T.zero asserted with
    | true, true, _ => .ret (.tuple ⟨[v, .bool true]⟩)
    | true, false, _ => .ret v
    | false, true, some z => .ret (.tuple ⟨[z, .bool false]⟩)
    | _, _, _ => .fail
  | some _, .nilIface => match ok, T.zero asserted with
    | true, some z => .ret (.tuple ⟨[z, .bool false]⟩)
    | _, _ => .fail
  | _, _ => .fail
def aExtract (x : Value) (i : Nat) : AS Value :=
  match x with
  | .tuple ⟨l⟩ => match nth l i with
    | some v => .ret v
    | none => .fail
  | _ => .fail

def firstA (size n : Nat) (x : Value) (k : List Value → AS Value) : AS Value := match x with
  | .slice (some a) _ _ => .loads a (n * size) k
  | .slice none _ _ => match n with
    | 0 => k []
    | _ => .fail
  | .string s => match Nat.beq size 1 with
    | true => k (lst2 (fun b => .int .u8 (.ofNat b.toNat)) (s.data.toList.take n))
    | false => .fail
  | _ => .fail
def lenA : Value → Option Nat
  | .slice _ n _ => some n
  | .string s => some s.data.toList.length
  | _ => none

def aAppend (ts : TypeId) (s x : Value) : AS Value :=
  match T.und ts, s, lenA x with
  | some (.slice e), .slice base n cap, some k => match T.size e, T.info e, T.zero e with
    | some z, some i, some zero => match Nat.ble 1 z && Nat.ble ((n + k + 1) * (i.bytes + 1)) 1000000000000 && Nat.beq (lst zero).length z with
      | true => match Nat.ble loose cap with
        | false => match Nat.ble (n + k) cap with
          | true => match base with
            | some ⟨b, o, none⟩ => firstA z k x fun vs => .stores ⟨b, o + n * z, none⟩ vs (.ret (.slice base (n + k) cap))
            | none => match k with
              | 0 => .ret (.slice base (n + k) cap)
              | _ => .fail
            | _ => .fail
          | false => firstA z n s fun old => firstA z k x fun vs =>
            .new (.cells ⟨old ++ vs⟩ e) fun r => .ret (.slice (some ⟨r, 0, none⟩) (n + k) (loose * z + (n + k)))
        | true => match Nat.beq (cap / loose) z, base with
          | true, some ⟨b, o, none⟩ => match Nat.ble (n + k) (cap % loose) with
            | true => firstA z k x fun vs => .stores ⟨b, o + n * z, none⟩ vs (.ret (.slice base (n + k) cap))
            | false => firstA z k x fun vs =>
              .grow ⟨b, o, none⟩ (n * z) e vs fun r => .ret (.slice (some ⟨r, 0, none⟩) (n + k) (loose * z + (n + k)))
          | _, _ => .fail
      | false => .fail
    | _, _, _ => .fail
  | _, _, _ => .fail
/-- no `append` of a made slice -/
def noMake : List TypeId → Bool
  | [] => true
  | t :: _ => match T.und t with
    | some (.int _) => false
    | some _ => true
    | none => false

def aCopy (td : TypeId) (d x : Value) : AS Value :=
  match T.und td, d, lenA x with
  | some (.slice e), .slice base n _, some k => match T.size e with
    | some z => firstA z (min k n) x fun vs => match base with
      | some a => .stores a vs (.ret (goI (min k n)))
      | none => .ret (goI (min k n))
    | none => .fail
  | _, _, _ => .fail
def aLen (t : TypeId) (x : Value) : AS Value :=
  match T.und t, x with
  | some .string, .string s => .ret (goI s.data.toList.length)
  | some (.array n _), _ => .ret (goI n)
  | some (.slice _), .slice _ n _ => .ret (goI n)
  | some (.slice _), .chan (some 1) => .ret (.chan (some 3))
  | some (.slice _), .chan (some 2) => .ret (.chan (some 4))
  | some (.map _ _), .map none => .ret (goI 0)
  | some (.map _ _), .map (some r) => .getObj r fun o => match o with
    | .map es _ => .ret (goI es.toList.length)
    | _ => .fail
  | _, _ => .fail
def aCap (t : TypeId) (x : Value) : AS Value :=
  match T.und t, x with
  | some (.array n _), _ => .ret (goI n)
  | some (.slice _), .slice _ _ n => match Nat.ble loose n with
    | true => .ret (.chan (some (n % loose + 6)))
    | false => .ret (goI n)
  | _, _ => .fail
def aClear (t : TypeId) (x : Value) : AS Value :=
  match T.und t, x with
  | some (.map _ _), .map none => .ret (.tuple ⟨[]⟩)
  | some (.slice _), .slice none _ _ => .ret (.tuple ⟨[]⟩)
  | some (.slice e), .slice (some a) n _ => match n, T.zero e with
    | 0, _ => .ret (.tuple ⟨[]⟩)
    | n + 1, some z => .stores a (rep (n + 1) (lst z)) (.ret (.tuple ⟨[]⟩))
    | _, _ => .fail
  | some (.map _ _), .map (some r) => .getObj r fun o => match o with
    | .map _ clock => .setObj r (.map ⟨[]⟩ clock) (.ret (.tuple ⟨[]⟩))
    | _ => .fail
  | _, _ => .fail
def intLt : Int → Int → Bool
  | .ofNat a, .ofNat b => Nat.blt a b
  | .negSucc _, .ofNat _ => true
  | .ofNat _, .negSucc _ => false
  | .negSucc a, .negSucc b => Nat.blt b a
def maxFrom (k : IntKind) : Int → List Value → Option Value
  | a, [] => some (.int k a)
  | a, .int _ b :: l => maxFrom k (match intLt a b with | true => b | false => a) l
  | _, _ => none
def minFrom (k : IntKind) : Int → List Value → Option Value
  | a, [] => some (.int k a)
  | a, .int _ b :: l => minFrom k (match intLt b a with | true => b | false => a) l
  | _, _ => none
def aMax : List Value → Option Value
  | .int k a :: l => maxFrom k a l
  | _ => none
def aMin : List Value → Option Value
  | .int k a :: l => minFrom k a l
  | _ => none

/-- what comes next -/
inductive Nx where
  | value (v : Value)
  | skip
  | enter (f : FuncId) (args : List Value)
  | yield (l : Nat) (r : Loop) (args : List Value)
  | defer (d : Deferred)
  | recover

def vNx (s : AS Value) : AS Nx := s.bind fun v => .ret (.value v)
def uNx (s : AS Unit) : AS Nx := s.bind fun _ => .ret .skip

def aUString (pt : TypeId) (n : Nat) (p : Option Addr) : AS Value := match n, p with
    | 0, _ => .ret (.string ⟨⟨[]⟩⟩)
    | n + 1, some a => match T.und pt with
      | some (.pointer e) => match T.und e, Nat.blt n 1000000000000 with
        | some (.int .u8), true => (match T.size e with
          | some 1 => .rowOf a (n + 1) e false (.loads a (n + 1) fun vs => match toBytes vs with
            | some l => .freeze a (n + 1) (.ret (.string ⟨⟨l⟩⟩))
            | none => .fail)
          | _ => .fail)
        | _, _ => .fail
      | _ => .fail
    | _, _ => .fail
def aBuiltin (b : Builtin) (ts : List TypeId) (_t : TypeId) (args : List Value) : AS Nx :=
  match b, ts, args with
  | .append, ts :: rest, [s, x] => match noMake T rest with
    | true => vNx (aAppend T ts s x)
    | false => .fail
  | .len, t :: _, [x] => vNx (aLen T t x)
  | .cap, t :: _, [x] => vNx (aCap T t x)
  | .clear, t :: _, [x] => vNx (aClear T t x)
  | .copy, t :: _, [d, x] => vNx (aCopy T t d x)
  | .delete, t :: _, [m, k] => vNx (aDelete T t m k)
  | .max, _, l => vNx (lift (aMax l))
  | .min, _, l => vNx (lift (aMin l))
  | .unsafeSliceData, _, [.slice none _ _] => .ret (.value (.pointer none))
  | .unsafeSliceData, _, [.slice (some a) _ c] => match Nat.ble loose c, Nat.beq (c % loose) 0, Nat.beq c 0 with
    | true, false, _ => .ret (.value (.pointer (some a)))
    | false, _, false => .ret (.value (.pointer (some a)))
    | _, _, _ => .fail
  | .unsafeString, pt :: _, [.pointer p, .int _ (.ofNat n)] => vNx (aUString T pt n p)
  | .recover, _, _ => .ret .recover
  | _, _, _ => .fail

def idx1 (c : Nat) : List UInt8 → Nat → Int
  | [], _ => -1
  | b :: l, i => match Nat.beq b.toNat c with
    | true => .ofNat i
    | false => idx1 c l (i + 1)
def cnt1 (c : Nat) : List UInt8 → Nat → Nat
  | [], n => n
  | b :: l, n => match Nat.beq b.toNat c with
    | true => cnt1 c l (n + 1)
    | false => cnt1 c l n
/-- a cell of which nothing is known -/
def unk : Value := .chan (some 0)
def aExtern (fn : Func) (args : List Value) : AS Nx :=
  match fn.name, args with
  | "internal/bytealg.MakeNoZero", [.int .i64 (.ofNat n)] => match fn.resultTypes.toList with
    | [t] => match T.und t with
      | some (.slice e) => match Nat.ble n 1000000000000 with
        | true => .new (.cells ⟨rep n [unk]⟩ e) fun r => .ret (.value (.slice (some ⟨r, 0, none⟩) n (loose * 1 + n)))
        | false => .fail
      | _ => .fail
    | _ => .fail
  | "internal/abi.NoEscape", [x] => .ret (.value x)
  | "internal/bytealg.IndexByteString", [.string s, .int .u8 (.ofNat c)] => match Nat.blt c 256 with
    | true => .ret (.value (.int .i64 (idx1 c s.data.toList 0)))
    | false => .fail
  | "internal/bytealg.CountString", [.string s, .int .u8 (.ofNat c)] => match Nat.blt c 256 with
    | true => .ret (.value (goI (cnt1 c s.data.toList 0)))
    | false => .fail
  | "maps.clone", [.iface t (.map (some r))] => .getObj r fun o => match o with
    | .map es clock => .new (.map es clock) fun r => .ret (.value (.iface t (.map (some r))))
    | _ => .fail
  | _, _ => .fail
def aCallFn (f : FuncId) (args : List Value) : AS Nx :=
  match T.fn.get f with
  | some fn => match fn.body.isSome with
    | true => .ret (.enter f args)
    | false => aExtern T fn args
  | none => .fail

def aCall (η : Operand → Value) (c : Call) (t : TypeId) : AS Nx :=
  match c.callee with
  | .builtin b => aBuiltin T b c.argTypes.toList t (lst2 η c.args.toList)
  | .invoke recv name => match η recv with
    | .iface t v => match T.ty.get t with
      | some i => match i.methods.toList.find? (fun m => m.name == name) with
        | some m => match m.path.toList, m.func with
          | [], some (f, false) => match T.und t with
            | some (.pointer _) => .fail
            | some _ => aCallFn T f (v :: lst2 η c.args.toList)
            | none => .fail
          | [], some (f, true) => match T.und t with
            | some (.pointer _) => aCallFn T f (v :: lst2 η c.args.toList)
            | _ => .fail
          | _, _ => .fail
        | none => .fail
      | none => .fail
    | _ => .fail
  | .value f => match η f with
    | .func (.func f) first captured => aCallFn T f ((first.toList ++ lst2 η c.args.toList) ++ captured.toList)
    | .func (.yield l) first captured => match first.toList, captured.toList with
      | [], [] => .getObj l fun o => match o with
        | .loop r => match Nat.beq r.params.toList.length c.args.toList.length with
          | true => .ret (.yield l r (lst2 η c.args.toList))
          | false => .fail
        | _ => .fail
      | _, _ => .fail
    | _ => .fail

/-- two nil interface values are held against each other only where one is the constant -/
def ifaceOk (x y : Value) (ox oy : Operand) : Bool := match x, y with
  | .nilIface, .nilIface => isConstOp ox || isConstOp oy
  | _, _ => true
def noYield : Fn → Bool
  | .yield _ => false
  | _ => true
/-- an explicit panic: with what -/
def panicOf (η : Operand → Value) (o : Oper) : Option Value :=
  match o.op with
  | .panic x => match η x with
    | .iface t v => some (.iface t v)
    | _ => none
  | .call c => match c.callee, c.args.toList with
    | .builtin .panic, [x] => match η x with
      | .iface t v => some (.iface t v)
      | _ => none
    | _, _ => none
  | _ => none

def aOp (η : Operand → Value) (o : Oper) : AS Nx :=
  match o.op with
  | .move x | .assign x => .ret (.value (η x))
  | .pick c a b => match η c with
    | .bool true => .ret (.value (η a))
    | .bool false => .ret (.value (η b))
    | _ => .fail
  | .alloc e => match T.zero e with
    | some z => vNx (aNew e (lst z))
    | none => .fail
  | .box e x => match known (η x) with
    | true => vNx (aNew e (lst (η x)))
    | false => .fail
  | .build t parts => vNx (aBuild T t (lst2 (fun (i, x) => (i, η x)) parts.toList))
  | .buildSlice t n parts => vNx (aBuildSlice T t n (lst2 (fun (i, x) => (i, η x)) parts.toList))
  | .load t a => vNx (aLoad T t (η a))
  | .store t a x => uNx (aStore T t (η a) (η x))
  | .nilCheck x => match η x with
    | .pointer (some a) => .ret (.value (.pointer (some a)))
    | .func (.func f) a b => .ret (.value (.func (.func f) a b))
    | .iface t v => .ret (.value (.iface t v))
    | .func (.yield l) a b => .ret (.value (.func (.yield l) a b))
    | _ => .fail
  | .binOp op t x y _ => match ifaceOk (η x) (η y) x y with
    | true => vNx (aBin T op t (η x) (η y))
    | false => .fail
  | .unOp op _ x => vNx (ofSem (Op.unary op (η x)))
  | .convert s d x => vNx (aConvert T s d (η x))
  | .makeInterface t x => match T.und t with
    | some (.interface _) => .fail
    | some _ => .ret (.value (.iface t (η x)))
    | none => .fail
  | .makeFunc fn first captured => match noYield fn with
    | true => .ret (.value (.func fn ⟨lst2 η first.toList⟩ ⟨lst2 η captured.toList⟩))
    | false => .fail
  | .makeMap _ none => vNx (.new (.map #[] 0) fun r => .ret (.map (some r)))
  | .makeMap t (some x) => match T.und t, η x with
    | some (.map _ _), .int _ _ => vNx (.new (.map #[] 0) fun r => .ret (.map (some r)))
    | _, _ => .fail
  | .makeSlice t l c => vNx (aMakeSlice T t (η l) (η c))
  | .slice t x lo hi mx => vNx (aSlice T t (η x) (lo.map η) (hi.map η) (mx.map η))
  | .fieldAddr s x f => vNx (aFieldAddr T s (η x) f)
  | .field t x f => vNx (aField T t (η x) f)
  | .indexAddr t x i => vNx (aIndexAddr T t (η x) (η i))
  | .index t x i => vNx (aIndex T t (η x) (η i))
  | .lookup t x i ok => vNx (aLookup T t (η x) (η i) ok)
  | .mapUpdate t m k x | .insert t m k x => uNx (aMapUpdate T t (η m) (η k) (η x))
  | .range t x => vNx (aRange T t (η x))
  | .next it str => vNx (aNext (η it) str)
  | .entry it => vNx (aEntry (η it))
  | .typeAssert x _ t ok => vNx (aTypeAssert T (η x) t ok)
  | .extract x i => vNx (aExtract (η x) i)
  | .call c => aCall T η c o.type
  | .defer c => match c.callee with
    | .value f => match η f with
      | .func (.func f) first captured => .ret (.defer { target := .fn (.func f) captured, args := ⟨first.toList ++ lst2 η c.args.toList⟩ })
      | _ => .fail
    | _ => .fail
  | _ => .fail
end ops

/-- a frame -/
structure Fr where
  fn : FuncId
  tmps : Tr Value
  n : Nat
  defers : List Deferred
  /-- of a frame of a deferred call: the caller's mode -/
  up : Option FrameMode
  /-- the loop of which this is a round -/
  round : Option Nat

def Fr.eval (fr : Fr) : Operand → Value
  | .tmp t => match fr.tmps.get t with
    | some v => v
    | none => .tuple #[]
  | .const v => v
  | .global g => .pointer (some ⟨g, 0, none⟩)
  | .func f => .func (.func f) #[] #[]

/-- constants bear no addresses; globals are not looked at -/
def okOperand : Operand → Bool
  | .tmp _ => true
  | .const v => plain v
  | .global _ => false
  | .func _ => true

def Fr.put (fr : Fr) (d : Option Tmp) (v : Value) : Option Fr := match d with
  | none => some fr
  | some t => match Nat.blt t fr.n with
    | true => some { fr with tmps := fr.tmps.put t v }
    | false => none

inductive Ex where
  | normal
  | exit (id : Nat)
  | goto (l : Nat)
  | ret
  | panic (ch : List PanicEntry)

inductive Task where
  | code (c : Code) (fr : Fr)
  | scope (cur body : Code) (fr : Fr)
  | loop (body : Code) (fr : Fr)
  | call (f : FuncId) (args : List Value)
  | callD (f : FuncId) (args : List Value) (u : FrameMode)
  | leave (fn : Func) (tmps : Tr Value) (ds : List Deferred) (u : FrameMode)

inductive Res where
  | ret (v : Value)
  | panic (ch : List PanicEntry)

inductive Out where
  | code (e : Ex) (fr : Fr)
  | res (r : Res)
  | resD (r : Res) (u : FrameMode)

section step
variable (T : Tab) (summ : FuncId → Option (List Value → St → Option (Res × St))) (rec : Task → St → Option (Out × St))

def wantedA (ops : List Oper) (o : Oper) (fr : Fr) : Option Bool := match o.guard with
  | none => some true
  | some (j, want) => match nth ops j with
    | some g => match g.dst with
      | some d => match fr.tmps.get d with
        | some (.bool b) => some (match b, want with | true, true => true | false, false => true | _, _ => false)
        | some (.tuple _) => some false
        | some _ => none
        | none => some false
      | none => some false
    | none => some false

/-- how an operation goes on: a value, or a way out -/
inductive Did where
  | value (v : Value) (fr : Fr) (s : St)
  | out (ch : List PanicEntry) (fr : Fr) (s : St)

def callA (f : FuncId) (args : List Value) (s : St) : Option (Res × St) :=
  match summ f with
  | some g => g args s
  | none => match rec (.call f args) s with
    | some (.res r, s) => some (r, s)
    | _ => none

def layTmps (T : Tr Value) : List Tmp → List Value → Tr Value
  | t :: ts, v :: vs => layTmps (T.put t v) ts vs
  | _, _ => T

/-- a round of a range over a function -/
def roundA (l : Nat) (r : Loop) (args : List Value) (s : St) : Option (Res × St) :=
  match r.state, r.params.toList.all (fun t => Nat.blt t r.tmps.size) && (T.fn.get r.fn).isSome with
  | .ready, true =>
    let fr0 : Fr := { fn := r.fn, tmps := layTmps (Tr.ofList r.tmps.toList 0 .nil) r.params.toList args, n := r.tmps.size, defers := [], up := none, round := some l }
    match rec (.code r.assign fr0) s with
    | some (.code .normal fr1, s) => match s.heap.get l with
      | some (.rw (.loop r1)) => match r1.state with
        | .ready =>
          match rec (.code r.body fr1) { s with heap := s.heap.put l (.rw (.loop { r1 with state := .busy })) } with
          | some (.code e fr2, s) => match fr2.defers, s.heap.get l with
            | [], some (.rw (.loop r)) => match e with
              | .normal => some (.ret (.bool true), { s with heap := s.heap.put l (.rw (.loop { r with state := .ready, pending := none })) })
              | .ret => some (.ret (.bool false), { s with heap := s.heap.put l (.rw (.loop { r with state := .done, pending := some .ret })) })
              | .exit id => some (.ret (.bool false), { s with heap := s.heap.put l (.rw (.loop { r with state := .done, pending := some (.exit id) })) })
              | .goto t => some (.ret (.bool false), { s with heap := s.heap.put l (.rw (.loop { r with state := .done, pending := some (.goto t) })) })
              | .panic ch => some (.panic ch, s)
            | _, _ => none
          | _ => none
        | _ => none
      | _ => none
    | _ => none
  | _, _ => none

def doOp (o : Oper) (fr : Fr) (s : St) : Option Did :=
  match panicOf fr.eval o with
  | some v => some (.out [{ v, recovered := false }] fr s)
  | none =>
  match (AS.run (aOp T fr.eval o) s) with
  | some (nx, s) => match nx with
    | .value v => some (.value v fr s)
    | .skip => some (.value (.tuple #[]) fr s)
    | .enter f args => match callA summ rec f args s with
      | some (.ret v, s) => some (.value v fr s)
      | some (.panic ch, s) => some (.out ch fr s)
      | none => none
    | .yield l r args => match roundA T rec l r args s with
      | some (.ret v, s) => some (.value v fr s)
      | some (.panic ch, s) => some (.out ch fr s)
      | none => none
    | .defer d => match fr.round with
      | none => some (.value (.tuple #[]) { fr with defers := d :: fr.defers } s)
      | some _ => none
    | .recover => match fr.up with
      | some (.panicking ({ v, recovered := false, goexit := false } :: older)) =>
        some (.value v { fr with up := some (.panicking ({ v, recovered := true } :: older)) } s)
      | some _ => some (.value .nilIface fr s)
      | none => none
  | none => none

def allOk : List Operand → Bool
  | [] => true
  | x :: l => okOperand x && allOk l

def runOps (ops : List Oper) : List Oper → Fr → St → Option (Ex × Fr × St)
  | [], fr, s => some (.normal, fr, s)
  | o :: rest, fr, s =>
    match allOk o.op.operands.toList with
    | true => match wantedA ops o fr with
      | some true => match doOp T summ rec o fr s with
        | some (.value v fr s) => match fr.put o.dst v with
          | some fr => runOps ops rest fr s
          | none => none
        | some (.out ch fr s) => some (.panic ch, fr, s)
        | none => none
      | some false => match fr.put o.dst (.tuple #[]) with
        | some fr => runOps ops rest fr s
        | none => none
      | none => none
    | false => none

/-! regions that draw their order -/

def bindsA (e : Edge) : Bool := match e.ground with
  | .textOnly _ => false
  | .gcOnly _ => false
  | _ => true
def ancOf (acc : List Nat) : List Edge → Nat
  | [] => 0
  | e :: l => match bindsA e with
    | true => match nth acc e.on with
      | some m => Nat.lor (Nat.lor (2 ^ e.on) m) (ancOf acc l)
      | none => Nat.lor (2 ^ e.on) (ancOf acc l)
    | false => ancOf acc l
/-- who must stand ahead of each operation -/
def ancs : List Oper → List Nat → List Nat
  | [], acc => acc
  | o :: l, acc => ancs l (acc ++ [ancOf acc o.after.toList])
def bit (m i : Nat) : Bool := Nat.beq (Nat.land (Nat.shiftRight m i) 1) 1

/-- edges lead back -/
def backs : List Oper → Nat → Bool
  | [], _ => true
  | o :: l, i => o.after.toList.all (fun e => !(bindsA e) || Nat.blt e.on i) && backs l (i + 1)
def tmpsOf : List Operand → List Tmp
  | [] => []
  | .tmp t :: l => t :: tmpsOf l
  | _ :: l => tmpsOf l
def guardTmp (ops : List Oper) (o : Oper) : List Tmp := match o.guard with
  | some (j, _) => match nth ops j with
    | some g => match g.dst with
      | some d => [d]
      | none => []
    | none => []
  | none => []
/-- who writes it: its place -/
def writer (t : Tmp) : List Oper → Nat → Option Nat
  | [], _ => none
  | o :: l, i => match o.dst with
    | some d => match Nat.beq d t with
      | true => some i
      | false => writer t l (i + 1)
    | none => writer t l (i + 1)
def lone1 (ops : List Oper) (ms : List Nat) : List Oper → Nat → Bool
  | [], _ => true
  | o :: l, j =>
    (match o.dst with
      | some d => match writer d ops 0 with
        | some i => Nat.beq i j
        | none => false
      | none => true) &&
    (tmpsOf o.op.operands.toList ++ guardTmp ops o).all (fun t => match writer t ops 0 with
      | none => true
      | some i => Nat.beq i j || bit ((nth ms j).getD 0) i || bit ((nth ms i).getD 0) j) && lone1 ops ms l (j + 1)
def fitRegion (ops : List Oper) : Bool := backs ops 0 && lone1 ops (ancs ops []) ops 0

mutual
def veq : Value → Value → Bool
  | .bool true, .bool true => true
  | .bool false, .bool false => true
  | .int j a, .int k b => decide (j = k) && intEq a b
  | .string ⟨⟨a⟩⟩, .string ⟨⟨b⟩⟩ => byteEq a b
  | .pointer none, .pointer none => true
  | .pointer (some ⟨a, b, none⟩), .pointer (some ⟨c, d, none⟩) => Nat.beq a c && Nat.beq b d
  | .slice none a b, .slice none c d => Nat.beq a c && Nat.beq b d
  | .slice (some ⟨a, b, none⟩) e f, .slice (some ⟨c, d, none⟩) g h => Nat.beq a c && Nat.beq b d && Nat.beq e g && Nat.beq f h
  | .map none, .map none => true
  | .map (some a), .map (some b) => Nat.beq a b
  | .chan (some a), .chan (some b) => Nat.beq a b
  | .func (.func f) ⟨a⟩ ⟨b⟩, .func (.func g) ⟨c⟩ ⟨d⟩ => Nat.beq f g && veqL a c && veqL b d
  | .nilFunc, .nilFunc => true
  | .iface t v, .iface u w => Nat.beq t u && veq v w
  | .nilIface, .nilIface => true
  | .agg ⟨a⟩, .agg ⟨b⟩ => veqL a b
  | .tuple ⟨a⟩, .tuple ⟨b⟩ => veqL a b
  | _, _ => false
def veqL : List Value → List Value → Bool
  | [], [] => true
  | a :: x, b :: y => veq a b && veqL x y
  | _, _ => false
end

structure Pend where
  at_ : Nat
  id : Nat
  obj : Obj
structure Rd where
  at_ : Nat
  tree : AS Nx
  val : Value
structure Eff where
  at_ : Nat
  pre : St
  post : St
/-- those of which something is so are laid into the heap -/
def layPend (f : Nat → Bool) : List Pend → Tr AObj → Tr AObj
  | [], h => h
  | p :: l, h => match f p.at_ with
    | true => layPend f l (h.put p.id (.rw p.obj))
    | false => layPend f l h
def readsAs (tree : AS Nx) (s : St) (v : Value) : Bool := match AS.read tree s with
  | some (.value w) => veq w v
  | _ => false

structure Dr where
  fr : Fr
  s : St
  pend : List Pend
  rds : List Rd
  effs : List Eff

def rdOk (m : Nat) (tree : AS Nx) (v : Value) (effs : List Eff) : Bool :=
  effs.all fun e => bit m e.at_ || (readsAs tree e.pre v && readsAs tree e.post v)
def effOk (m : Nat) (rds : List Rd) (pre post : St) : Bool :=
  rds.all fun r => bit m r.at_ || (readsAs r.tree pre r.val && readsAs r.tree post r.val)
def lastEff (m : Nat) : List Eff → Bool
  | [] => true
  | e :: _ => bit m e.at_

/-- an operation that writes nothing: its value -/
def quietOp (i base m : Nat) (o : Oper) (d : Dr) : Option (Value × Dr) :=
  match panicOf d.fr.eval o with
  | some _ => none
  | none =>
  let tree := aOp T d.fr.eval o
  let cur : St := { d.s with heap := layPend (bit m) d.pend d.s.heap }
  match AS.read tree cur with
  | some (.value v) => match rdOk m tree v d.effs with
    | true => some (v, { d with rds := { at_ := i, tree, val := v } :: d.rds })
    | false => none
  | some _ => none
  | none => match AS.make tree (base + i) with
    | some (.value v, obj) => some (v, { d with pend := { at_ := i, id := base + i, obj } :: d.pend })
    | _ => none

/-- a quiet operation, or one that is not wanted -/
def stepQ (ops : List Oper) (m base : Nat) (o : Oper) (i : Nat) (d : Dr) : Option Dr :=
  match allOk o.op.operands.toList, wantedA ops o d.fr with
  | true, some false => match d.fr.put o.dst (.tuple #[]) with
    | some fr => some { d with fr }
    | none => none
  | true, some true => match quietOp T i base m o d with
    | some (v, d) => match d.fr.put o.dst v with
      | some fr => some { d with fr }
      | none => none
    | none => none
  | _, _ => none

def doDraw (o : Oper) (fr : Fr) (s : St) : Option (Option Value × List PanicEntry × St) :=
  match panicOf fr.eval o with
  | some v => some (none, [{ v, recovered := false }], s)
  | none =>
  match (AS.run (aOp T fr.eval o) s) with
  | some (nx, s) => match nx with
    | .value v => some (some v, [], s)
    | .skip => some (some (.tuple #[]), [], s)
    | .enter f args => match callA summ rec f args s with
      | some (.ret v, s) => some (some v, [], s)
      | some (.panic ch, s) => some (none, ch, s)
      | none => none
    | .yield l r args => match roundA T rec l r args s with
      | some (.ret v, s) => some (some v, [], s)
      | some (.panic ch, s) => some (none, ch, s)
      | none => none
    | _ => none
  | none => none

inductive DD where
  | on (d : Dr)
  | out (ch : List PanicEntry) (s : St)
def stepE (ops : List Oper) (m : Nat) (o : Oper) (i : Nat) (d : Dr) : Option DD :=
  match allOk o.op.operands.toList && lastEff m d.effs, wantedA ops o d.fr with
  | true, some true => match doDraw T summ rec o d.fr { d.s with heap := layPend (bit m) d.pend d.s.heap } with
    | some (some v, _, s) => match effOk m d.rds d.s s, d.fr.put o.dst v with
      | true, some fr => some (.on { d with fr, s, pend := d.pend.filter (fun p => !(bit m p.at_)), effs := { at_ := i, pre := d.s, post := s } :: d.effs })
      | _, _ => none
    | some (none, ch, s) => some (.out ch s)
    | none => none
  | _, _ => none

/-- behind a panic: what might have stood ahead of it must be quiet -/
def quietRest (ops : List Oper) (ms : List Nat) (base p : Nat) : List Oper → Nat → Dr → Bool
  | [], _, _ => true
  | o :: l, i, d => match bit ((nth ms i).getD 0) p with
    | true => quietRest ops ms base p l (i + 1) d
    | false => match stepQ T ops ((nth ms i).getD 0) base o i d with
      | some d => quietRest ops ms base p l (i + 1) d
      | none => false

/-- the frame behind a panic in a region: what its operations wrote is not known -/
def forget (fr : Fr) : List Oper → Fr
  | [] => fr
  | o :: l => match o.dst with
    | some t => forget { fr with tmps := fr.tmps.put t unk } l
    | none => forget fr l

def runDraw (ops : List Oper) (ms : List Nat) (base : Nat) (fr0 : Fr) : List Oper → Nat → Dr → Option (Ex × Fr × St)
  | [], _, d => some (.normal, d.fr, { d.s with heap := layPend (fun _ => true) d.pend d.s.heap })
  | o :: rest, i, d => match stepQ T ops ((nth ms i).getD 0) base o i d with
    | some d => runDraw ops ms base fr0 rest (i + 1) d
    | none => match stepE T summ rec ops ((nth ms i).getD 0) o i d with
      | some (.on d) => runDraw ops ms base fr0 rest (i + 1) d
      | some (.out ch s) => match quietRest T ops ms base i rest (i + 1) d with
        | true => some (.panic ch, forget fr0 ops, s)
        | false => none
      | none => none

def regionDraw (ops : List Oper) (fr : Fr) (s : St) : Option (Ex × Fr × St) :=
  match fitRegion ops with
  | true => runDraw T summ rec ops (ancs ops []) s.next fr ops 0 { fr, s := { s with next := s.next + ops.length }, pend := [], rds := [], effs := [] }
  | false => none

def code (c : Code) (fr : Fr) (s : St) : Option (Ex × Fr × St) :=
  match rec (.code c fr) s with
  | some (.code e fr, s) => some (e, fr, s)
  | _ => none

def out (r : Option (Ex × Fr × St)) : Option (Out × St) := match r with
  | some (e, fr, s) => some (.code e fr, s)
  | none => none

def frameOf (f : FuncId) (fn : Func) (args : List Value) (up : Option FrameMode) : Fr :=
  { fn := f, tmps := Tr.ofList args 0 .nil, n := max args.length fn.ntmps, defers := [], up, round := none }

def results (fn : Func) (tmps : Tr Value) (s : St) : Option Value :=
  let rec go : List ResultVar → Option (List Value)
    | [] => some []
    | .tmp t :: l => match go l with
      | some r => some ((match tmps.get t with | some v => v | none => .tuple #[]) :: r)
      | none => none
    | .cell a t :: l => match tmps.get a with
      | some (.pointer (some p)) => match (aLoad T t (.pointer (some p))).read s, go l with
        | some v, some r => some (v :: r)
        | _, _ => none
      | _ => none
  match go fn.results.toList with
  | some [v] => some v
  | some l => some (.tuple ⟨l⟩)
  | none => none

def settleA (u : FrameMode) : FrameMode := match u with
  | .panicking ({ recovered := true, .. } :: older) => match older.dropWhile (fun e => !e.goexit) with
    | [] => .returning
    | rest => .panicking rest
  | m => m
def raisedA (u : FrameMode) (ch : List PanicEntry) : FrameMode := match u with
  | .panicking old => .panicking (ch ++ old)
  | _ => .panicking ch

def stepA : Task → St → Option (Out × St)
  | .code c fr, s => match c with
    | .skip => some (.code .normal fr, s)
    | .label _ => some (.code .normal fr, s)
    | .region _ ops false => out (runOps T summ rec ops.toList ops.toList fr s)
    | .region _ ops true => out (regionDraw T summ rec ops.toList fr s)
    | .seq a b => match code rec a fr s with
      | some (.normal, fr, s) => rec (.code b fr) s
      | r => out r
    | .cond c a b => match allOk [c], fr.eval c with
      | true, .bool true => rec (.code a fr) s
      | true, .bool false => rec (.code b fr) s
      | _, _ => none
    | .block id b => match code rec b fr s with
      | some (.exit j, fr, s) => match Nat.beq j id with
        | true => some (.code .normal fr, s)
        | false => some (.code (.exit j) fr, s)
      | r => out r
    | .loop b => rec (.loop b fr) s
    | .rangeFunc f params assign body => match allOk [f] with
      | false => none
      | true =>
      -- enterLoop
      let tmps := (List.range fr.n).map fun t => match fr.tmps.get t with | some v => v | none => .tuple #[]
      match (match fr.round with
        | none => some (fr.defers, { heap := s.heap.put s.next (.rw (.deferred (some []))), next := s.next + 1 : St }, s.next)
        | some l => match s.heap.get l with
          | some (.rw (.loop r)) => some (fr.defers, s, r.defers)
          | _ => none) with
      | none => none
      | some (ds, s1, blk) =>
        let l := s1.next
        let s2 : St := { heap := s1.heap.put l (.rw (.loop { state := .ready, pending := none, fn := fr.fn, tmps := ⟨tmps⟩, params, assign, body, defers := blk })), next := l + 1 }
        let fr := match fr.round with
          | none => { fr with defers := { target := .collected blk, args := #[] } :: ds }
          | some _ => fr
        match fr.eval f with
        | .func (.func g) first captured => match T.fn.get g with
          | some fn => match fn.body.isSome with
            | true => match callA summ rec g ((first.toList ++ [.func (.yield l) #[] #[]]) ++ captured.toList) s2 with
              | some (.ret _, s) => match s.heap.get l with
                | some (.rw (.loop r)) => match r.state with
                  | .busy => none
                  | _ =>
                    match r.pending with
                    | none => some (.code .normal fr, { s with heap := s.heap.put l (.rw (.loop { r with state := .exhausted })) })
                    | some j => rec (.code j fr) { s with heap := s.heap.put l (.rw (.loop { r with state := .exhausted })) }
                | _ => none
              | some (.panic ch, s) => some (.code (.panic ch) fr, s)
              | none => none
            | false => none
          | none => none
        | _ => none
    | .exit id => some (.code (.exit id) fr, s)
    | .scope b => rec (.scope b b fr) s
    | .goto l => some (.code (.goto l) fr, s)
    | .ret => some (.code .ret fr, s)
    | .refuse _ => none
  | .scope cur body fr, s => match code rec cur fr s with
    | some (.goto l, fr, s) => match findLabel body l with
      | some rest => rec (.scope rest body fr) s
      | none => some (.code (.goto l) fr, s)
    | r => out r
  | .loop b fr, s => match code rec b fr s with
    | some (.normal, fr, s) => rec (.loop b fr) s
    | r => out r
  | .call f args, s => match T.fn.get f with
    | some fn => match fn.body with
      | some c => match code rec c (frameOf f fn args none) s with
        | some (.normal, fr, s) => rec (.leave fn fr.tmps fr.defers .returning) s
        | some (.ret, fr, s) => rec (.leave fn fr.tmps fr.defers .returning) s
        | some (.panic ch, fr, s) => rec (.leave fn fr.tmps fr.defers (.panicking ch)) s
        | _ => none
      | none => none
    | none => none
  | .callD f args u, s => match T.fn.get f with
    | some fn => match fn.body with
      | some c => match code rec c (frameOf f fn args (some u)) s with
        | some (.normal, fr, s) | some (.ret, fr, s) => match fr.defers, results T fn fr.tmps s, fr.up with
          | [], some v, some u => some (.resD (.ret v) u, s)
          | _, _, _ => none
        | some (.panic ch, fr, s) => match fr.defers, fr.up with
          | [], some u => some (.resD (.panic ch) u, s)
          | _, _ => none
        | _ => none
      | none => none
    | none => none
  | .leave fn tmps ds u, s => match ds with
    | [] => match u with
      | .returning => match results T fn tmps s with
        | some v => some (.res (.ret v), s)
        | none => none
      | .panicking ch => some (.res (.panic ch), s)
      | .run => none
    | d :: ds => match d.target with
      | .collected b => match s.heap.get b with
        | some (.rw (.deferred (some []))) => rec (.leave fn tmps ds u) { s with heap := s.heap.put b (.rw (.deferred none)) }
        | _ => none
      | .fn (.func f) captured => match T.fn.get f with
        | some g => match g.body.isSome with
          | true => match rec (.callD f (d.args.toList ++ captured.toList) u) s with
            | some (.resD (.ret _) u, s) => rec (.leave fn tmps ds (settleA u)) s
            | some (.resD (.panic ch) u, s) => rec (.leave fn tmps ds (raisedA u ch)) s
            | _ => none
          | false => none
        | none => none
      | _ => none
end step

noncomputable def ev (T : Tab) (summ : FuncId → Option (List Value → St → Option (Res × St))) (n : Nat) : Task → St → Option (Out × St) :=
  Nat.rec (motive := fun _ => Task → St → Option (Out × St)) (fun _ _ => none) (fun _ ih => stepA T summ ih) n
end

section
namespace Tr
variable {α : Type}
@[simp] theorem get_nil (n : Nat) : (Tr.nil : Tr α).get n = none := rfl
theorem get_node_zero (v : Option α) (l r : Tr α) : (Tr.node v l r).get 0 = v := rfl
theorem get_node_succ (v : Option α) (l r : Tr α) (m : Nat) : (Tr.node v l r).get (m + 1) = if m % 2 = 0 then l.get (m / 2) else r.get (m / 2) := by
  show (match Nat.beq (m % 2) 0 with | true => l.get (m / 2) | false => r.get (m / 2)) = _
  by_cases h : m % 2 = 0
  · simp [h]
  · have : Nat.beq (m % 2) 0 = false := by
      cases hb : Nat.beq (m % 2) 0
      · rfl
      · exact absurd (Nat.eq_of_beq_eq_true hb) h
    simp [h, this]
theorem set_node_zero (f : Nat) (v : Option α) (l r : Tr α) (x : α) : set (f + 1) (.node v l r) 0 x = .node (some x) l r := rfl
theorem set_nil_zero (f : Nat) (x : α) : set (f + 1) (.nil : Tr α) 0 x = .node (some x) .nil .nil := rfl
theorem set_node_succ (f : Nat) (v : Option α) (l r : Tr α) (m : Nat) (x : α) : set (f + 1) (.node v l r) (m + 1) x =
    if m % 2 = 0 then .node v (set f l (m / 2) x) r else .node v l (set f r (m / 2) x) := by
  show (match Nat.beq (m % 2) 0 with | true => Tr.node v (set f l (m / 2) x) r | false => Tr.node v l (set f r (m / 2) x)) = _
  by_cases h : m % 2 = 0
  · simp [h]
  · have : Nat.beq (m % 2) 0 = false := by
      cases hb : Nat.beq (m % 2) 0
      · rfl
      · exact absurd (Nat.eq_of_beq_eq_true hb) h
    simp [h, this]
theorem set_nil_succ (f : Nat) (m : Nat) (x : α) : set (f + 1) (.nil : Tr α) (m + 1) x =
    if m % 2 = 0 then .node none (set f .nil (m / 2) x) .nil else .node none .nil (set f .nil (m / 2) x) := by
  show (match Nat.beq (m % 2) 0 with | true => Tr.node none (set f .nil (m / 2) x) .nil | false => Tr.node none .nil (set f .nil (m / 2) x)) = _
  by_cases h : m % 2 = 0
  · simp [h]
  · have : Nat.beq (m % 2) 0 = false := by
      cases hb : Nat.beq (m % 2) 0
      · rfl
      · exact absurd (Nat.eq_of_beq_eq_true hb) h
    simp [h, this]
theorem get_set : ∀ (f : Nat) (t : Tr α) (i : Nat) (x : α) (j : Nat), i < f → (set f t i x).get j = if j = i then some x else t.get j := by
  intro f
  induction f with
  | zero => intro t i x j h; omega
  | succ f ih =>
    intro t i x j h
    cases i with
    | zero =>
      cases t with
      | nil =>
        rw [set_nil_zero]
        cases j with
        | zero => simp [get_node_zero]
        | succ j => rw [get_node_succ]; simp
      | node v l r =>
        rw [set_node_zero]
        cases j with
        | zero => simp [get_node_zero]
        | succ j => rw [get_node_succ, get_node_succ]; simp
    | succ m =>
      cases t with
      | nil =>
        rw [set_nil_succ]
        cases j with
        | zero => split <;> simp [get_node_zero]
        | succ j =>
          by_cases hm : m % 2 = 0
          · rw [if_pos hm, get_node_succ]
            by_cases hj : j % 2 = 0
            · rw [if_pos hj, ih _ _ _ _ (by omega)]
              by_cases he : j = m
              · subst he; simp
              · rw [if_neg (by omega), if_neg (by omega)]; simp
            · rw [if_neg hj, if_neg (by omega)]; simp
          · rw [if_neg hm, get_node_succ]
            by_cases hj : j % 2 = 0
            · rw [if_pos hj, if_neg (by omega)]; simp
            · rw [if_neg hj, ih _ _ _ _ (by omega)]
              by_cases he : j = m
              · subst he; simp
              · rw [if_neg (by omega), if_neg (by omega)]; simp
      | node v l r =>
        rw [set_node_succ]
        cases j with
        | zero => split <;> simp [get_node_zero]
        | succ j =>
          by_cases hm : m % 2 = 0
          · rw [if_pos hm, get_node_succ, get_node_succ]
            by_cases hj : j % 2 = 0
            · rw [if_pos hj, if_pos hj, ih _ _ _ _ (by omega)]
              by_cases he : j = m
              · subst he; simp
              · rw [if_neg (by omega), if_neg (by omega)]
            · rw [if_neg hj, if_neg hj, if_neg (by omega)]
          · rw [if_neg hm, get_node_succ, get_node_succ]
            by_cases hj : j % 2 = 0
            · rw [if_pos hj, if_pos hj, if_neg (by omega)]
            · rw [if_neg hj, if_neg hj, ih _ _ _ _ (by omega)]
              by_cases he : j = m
              · subst he; simp
              · rw [if_neg (by omega), if_neg (by omega)]
@[simp] theorem get_put (t : Tr α) (i : Nat) (x : α) (j : Nat) : (t.put i x).get j = if j = i then some x else t.get j := get_set _ _ _ _ _ (by omega)
end Tr

/-! ## which block is which -/

structure BI where
  blk : Nat
  base : Nat
  /-- cells of the row from the base on -/
  avail : Nat
  /-- cells of an element -/
  size : Nat

abbrev Rho := Nat → Option BI
def Rho.le (ρ ρ' : Rho) : Prop := ∀ i b, ρ i = some b → ρ' i = some b
theorem Rho.le.refl (ρ : Rho) : ρ.le ρ := fun _ _ h => h
theorem Rho.le.trans {a b c : Rho} (h : a.le b) (k : b.le c) : a.le c := fun i x hx => k i x (h i x hx)

inductive AddrRel (ρ : Rho) : Addr → Addr → Prop where
  | mk {i o : Nat} {b : BI} (h : ρ i = some b) : AddrRel ρ ⟨i, o, none⟩ ⟨b.blk, b.base + o, none⟩
theorem AddrRel.mono {ρ ρ' : Rho} (hle : ρ.le ρ') {a a' : Addr} (h : AddrRel ρ a a') : AddrRel ρ' a a' := by
  cases h with | mk h => exact .mk (hle _ _ h)

/-- values without addresses that are no list of others -/
def atom : Value → Bool
  | .bool _ | .int _ _ | .float _ _ | .complex _ _ _ | .string _ | .pointer none | .slice none _ _ | .map none | .chan none | .nilFunc | .nilIface => true
  | _ => false

inductive FnRel (ρ : Rho) : Fn → Fn → Prop where
  | same {fn : Fn} (h : ∀ l, fn ≠ .yield l) : FnRel ρ fn fn
  | yield {l : Nat} {b : BI} (h : ρ l = some b) : FnRel ρ (.yield l) (.yield b.blk)

mutual
inductive VRel (ρ : Rho) : Value → Value → Prop where
  | unk {v : Value} : VRel ρ unk v
  /-- a slice that is short, or long; a number that is small, or great; any number -/
  | shortS {a : Option Addr} {n c : Nat} (h : n ≤ 400) : VRel ρ (.chan (some 1)) (.slice a n c)
  | longS {a : Option Addr} {n c : Nat} (h : 400 < n) : VRel ρ (.chan (some 2)) (.slice a n c)
  | shortI {n : Nat} (h : n ≤ 400) : VRel ρ (.chan (some 3)) (.int .i64 n)
  | longI {n : Nat} (h : 400 < n) : VRel ρ (.chan (some 4)) (.int .i64 n)
  | anyI {k : IntKind} {n : Int} : VRel ρ (.chan (some 5)) (.int k n)
  | geI {c n : Nat} (h : c ≤ n) : VRel ρ (.chan (some (c + 6))) (.int .i64 n)
  | atom {v : Value} (h : atom v = true) : VRel ρ v v
  | ptr {a a' : Addr} (h : AddrRel ρ a a') : VRel ρ (.pointer (some a)) (.pointer (some a'))
  | slice {a a' : Addr} {n c : Nat} (h : AddrRel ρ a a') (hc : c < loose) : VRel ρ (.slice (some a) n c) (.slice (some a') n c)
  | loose {i o x n c c' : Nat} {b : BI} (h : ρ i = some b) (hx : x = b.base + o ∨ c' = 0) (hn : n ≤ c') (hc : c ≤ c') (ho : o + c' * b.size ≤ b.avail) (hl : c < loose) (hz : 1 ≤ b.size) :
      VRel ρ (.slice (some ⟨i, o, none⟩) n (loose * b.size + c)) (.slice (some ⟨b.blk, x, none⟩) n c')
  | map {r : Nat} {b : BI} (h : ρ r = some b) : VRel ρ (.map (some r)) (.map (some b.blk))
  | func {fn fn' : Fn} {a a' c c' : List Value} (h : FnRel ρ fn fn') (ha : VRelL ρ a a') (hc : VRelL ρ c c') : VRel ρ (.func fn ⟨a⟩ ⟨c⟩) (.func fn' ⟨a'⟩ ⟨c'⟩)
  | iface {t : TypeId} {v v' : Value} (h : VRel ρ v v') : VRel ρ (.iface t v) (.iface t v')
  | agg {l l' : List Value} (h : VRelL ρ l l') : VRel ρ (.agg ⟨l⟩) (.agg ⟨l'⟩)
  | tuple {l l' : List Value} (h : VRelL ρ l l') : VRel ρ (.tuple ⟨l⟩) (.tuple ⟨l'⟩)
inductive VRelL (ρ : Rho) : List Value → List Value → Prop where
  | nil : VRelL ρ [] []
  | cons {v v' : Value} {l l' : List Value} (h : VRel ρ v v') (ht : VRelL ρ l l') : VRelL ρ (v :: l) (v' :: l')
end

mutual
theorem VRel.mono {ρ ρ' : Rho} (hle : ρ.le ρ') {v v' : Value} : VRel ρ v v' → VRel ρ' v v'
  | .unk => .unk
  | .shortS h => .shortS h
  | .longS h => .longS h
  | .shortI h => .shortI h
  | .longI h => .longI h
  | .anyI => .anyI
  | .geI h => .geI h
  | .atom h => .atom h
  | .ptr h => .ptr (h.mono hle)
  | .slice h hc => .slice (h.mono hle) hc
  | .loose h hx hn hc ho hl hz => .loose (hle _ _ h) hx hn hc ho hl hz
  | .map h => .map (hle _ _ h)
  | .func h ha hc => .func (by cases h with | same h => exact .same h | yield h => exact .yield (hle _ _ h)) (VRelL.mono hle ha) (VRelL.mono hle hc)
  | .iface h => .iface (VRel.mono hle h)
  | .agg h => .agg (VRelL.mono hle h)
  | .tuple h => .tuple (VRelL.mono hle h)
theorem VRelL.mono {ρ ρ' : Rho} (hle : ρ.le ρ') {l l' : List Value} : VRelL ρ l l' → VRelL ρ' l l'
  | .nil => .nil
  | .cons h ht => .cons (VRel.mono hle h) (VRelL.mono hle ht)
end

theorem VRelL.length {ρ : Rho} {l l' : List Value} (h : VRelL ρ l l') : l.length = l'.length := by
  induction l generalizing l' with
  | nil => cases h; rfl
  | cons v l ih => cases h with | cons h ht => simp [ih ht]
theorem VRelL.append {ρ : Rho} {a a' b b' : List Value} (h : VRelL ρ a a') (k : VRelL ρ b b') : VRelL ρ (a ++ b) (a' ++ b') := by
  induction a generalizing a' with
  | nil => cases h; exact k
  | cons v l ih => cases h with | cons h ht => exact .cons h (ih ht)
theorem VRelL.drop {ρ : Rho} {l l' : List Value} (h : VRelL ρ l l') (n : Nat) : VRelL ρ (l.drop n) (l'.drop n) := by
  induction n generalizing l l' with
  | zero => exact h
  | succ n ih => cases h with
    | nil => exact .nil
    | cons h ht => exact ih ht
theorem VRelL.take {ρ : Rho} {l l' : List Value} (h : VRelL ρ l l') (n : Nat) : VRelL ρ (l.take n) (l'.take n) := by
  induction n generalizing l l' with
  | zero => exact .nil
  | succ n ih => cases h with
    | nil => exact .nil
    | cons h ht => exact .cons h (ih ht)
theorem VRelL.nth {ρ : Rho} {l l' : List Value} (h : VRelL ρ l l') {i : Nat} {v : Value} (hv : l[i]? = some v) : ∃ v', l'[i]? = some v' ∧ VRel ρ v v' := by
  induction l generalizing l' i with
  | nil => simp at hv
  | cons x l ih =>
    cases h with
    | cons h ht =>
      cases i with
      | zero => simp at hv; subst hv; exact ⟨_, by simp, h⟩
      | succ i => simp at hv; obtain ⟨v', h1, h2⟩ := ih ht hv; exact ⟨v', by simpa using h1, h2⟩

/-! ## objects, heaps, worlds -/

structure ERel (ρ : Rho) (e e' : MapEntry) : Prop where
  key : e'.key = e.key
  ok : keyOk e.key = true
  val : VRel ρ e.val e'.val
  born : e'.born = e.born
inductive ERelL (ρ : Rho) : List MapEntry → List MapEntry → Prop where
  | nil : ERelL ρ [] []
  | cons {e e' : MapEntry} {l l' : List MapEntry} (h : ERel ρ e e') (ht : ERelL ρ l l') : ERelL ρ (e :: l) (e' :: l')
theorem ERelL.mono {ρ ρ' : Rho} (hle : ρ.le ρ') {l l' : List MapEntry} (h : ERelL ρ l l') : ERelL ρ' l l' := by
  induction l generalizing l' with
  | nil => cases h; exact .nil
  | cons e l ih => cases h with | cons h ht => exact .cons ⟨h.key, h.ok, h.val.mono hle, h.born⟩ (ih ht)

inductive ORel (ρ : Rho) (b : BI) : Obj → Obj → Prop where
  | cells {c c' : List Value} {e lo hi lo' hi' : Nat} (hlen : c.length ≤ b.avail) (hav : b.base + b.avail ≤ c'.length)
      (hc : VRelL ρ c ((c'.drop b.base).take c.length)) (hf : hi = 0 → ∀ o, o < b.avail → lo' ≤ b.base + o → b.base + o < hi' → False)
      (hal : lo = 0 → b.base = 0) (hsz : 1 ≤ b.size ∨ b.avail = 0) :
      ORel ρ b (.cells ⟨c⟩ e (lo, hi)) (.cells ⟨c'⟩ e (lo', hi'))
  | map {es es' : List MapEntry} {clock : Nat} (h : ERelL ρ es es') (h0 : b.base = 0 := by first | rfl | assumption) : ORel ρ b (.map ⟨es⟩ clock) (.map ⟨es'⟩ clock)
  | strIter {s : ByteArray} {p : Nat} (h0 : b.base = 0 := by first | rfl | assumption) : ORel ρ b (.stringIter s p) (.stringIter s p)
  | mapIterNil {since stepped : Nat} {seen : Array Nat} (h0 : b.base = 0 := by first | rfl | assumption) : ORel ρ b (.mapIter none since seen stepped) (.mapIter none since seen stepped)
  | mapIter {m since stepped : Nat} {seen : Array Nat} {bm : BI} (h : ρ m = some bm) (h0 : b.base = 0 := by first | rfl | assumption) : ORel ρ b (.mapIter (some m) since seen stepped) (.mapIter (some bm.blk) since seen stepped)
  | loop {st : LoopState} {pd : Option Code} {fn : FuncId} {t t' : List Value} {ps : Array Tmp} {as bd : Code} {d : Nat} {bd' : BI} (h : VRelL ρ t t') (hd : ρ d = some bd') (h0 : b.base = 0 := by first | rfl | assumption) :
      ORel ρ b (.loop { state := st, pending := pd, fn, tmps := ⟨t⟩, params := ps, assign := as, body := bd, defers := d })
        (.loop { state := st, pending := pd, fn, tmps := ⟨t'⟩, params := ps, assign := as, body := bd, defers := bd'.blk })
  | nodefer (h0 : b.base = 0 := by first | rfl | assumption) : ORel ρ b (.deferred (some [])) (.deferred (some []))
  | shut (h0 : b.base = 0 := by first | rfl | assumption) : ORel ρ b (.deferred none) (.deferred none)
theorem ORel.mono {ρ ρ' : Rho} (hle : ρ.le ρ') {b : BI} {o o' : Obj} (h : ORel ρ b o o') : ORel ρ' b o o' := by
  cases h with
  | cells h1 h2 h3 h4 h5 h6 => exact .cells h1 h2 (h3.mono hle) h4 h5 h6
  | map h h0 => exact .map (h.mono hle)
  | strIter h0 => exact .strIter
  | mapIterNil h0 => exact .mapIterNil
  | mapIter h h0 => exact .mapIter (hle _ _ h)
  | loop h hd h0 => exact .loop (h.mono hle) (hle _ _ hd)
  | nodefer h0 => exact .nodefer
  | shut h0 => exact .shut
theorem ORel.isCells {ρ : Rho} {b : BI} {o o' : Obj} (h : ORel ρ b o o') : isCells o' = isCells o := by cases h <;> rfl
theorem ORel.zero {ρ : Rho} {b : BI} {o o' : Obj} (h : ORel ρ b o o') (hc : Bel.isCells o = false) : b.base = 0 := by
  cases h with
  | cells => cases hc
  | _ => assumption

abbrev Hp := Nat → Option AObj

/-- the blocks of the call's own, and those that are only read -/
structure HRel (ρ : Rho) (h : Hp) (w : World) : Prop where
  rw : ∀ i o, h i = some (.rw o) → ∃ b o', ρ i = some b ∧ w.heap[b.blk]? = some o' ∧ ORel ρ b o o'
  ro : ∀ i c, h i = some (.ro c) → ∃ b c' e f, ρ i = some b ∧ w.heap[b.blk]? = some (.cells c' e f) ∧ VRelL ρ c ((c'.toList.drop b.base).take c.length)
  apart : ∀ i j o o' b b', h i = some (.rw o) → h j = some (.rw o') → ρ i = some b → ρ j = some b' → b.blk = b'.blk → i = j
  roApart : ∀ i j o c b b', h i = some (.rw o) → h j = some (.ro c) → ρ i = some b → ρ j = some b' → b.blk ≠ b'.blk

structure SRel (ρ : Rho) (s : St) (w : World) : Prop where
  heap : HRel ρ s.heap.get w
  fresh : ∀ i, s.next ≤ i → ρ i = none
  none : ∀ i, s.next ≤ i → s.heap.get i = none

def owned (ρ : Rho) (h : Hp) (k : Nat) : Prop := ∃ i o b, h i = some (.rw o) ∧ ρ i = some b ∧ b.blk = k

structure Kept (ρ : Rho) (h : Hp) (w w' : World) : Prop where
  os : w'.os = w.os
  tape : w'.tape = w.tape
  output : w'.output = w.output
  size : w.heap.size ≤ w'.heap.size
  block : ∀ k, k < w.heap.size → ¬ owned ρ h k → w'.heap[k]? = w.heap[k]?

/-- a step: from a state and a world to others -/
structure Post (ρ : Rho) (s : St) (w : World) (ρ' : Rho) (s' : St) (w' : World) : Prop where
  same : ∀ i, i < s.next → ρ' i = ρ i
  rel : SRel ρ' s' w'
  kept : Kept ρ s.heap.get w w'
  own : ∀ k, owned ρ' s'.heap.get k → w.heap.size ≤ k ∨ owned ρ s.heap.get k
  next : s.next ≤ s'.next
  gone : ∀ i, i < s.next → s.heap.get i = none → s'.heap.get i = none
  old : ∀ i c, s'.heap.get i = some (.ro c) → s.heap.get i = some (.ro c)

theorem Kept.refl (ρ : Rho) (h : Hp) (w : World) : Kept ρ h w w := ⟨rfl, rfl, rfl, Nat.le_refl _, fun _ _ _ => rfl⟩
theorem Post.le {ρ ρ' : Rho} {s s' : St} {w w' : World} (hs : SRel ρ s w) (h : Post ρ s w ρ' s' w') : ρ.le ρ' := by
  intro i b hb
  by_cases hi : i < s.next
  · rw [h.same i hi]; exact hb
  · rw [hs.fresh i (by omega)] at hb; cases hb
theorem Post.refl {ρ : Rho} {s : St} {w : World} (h : SRel ρ s w) : Post ρ s w ρ s w :=
  ⟨fun _ _ => rfl, h, Kept.refl _ _ _, fun _ h => .inr h, Nat.le_refl _, fun _ _ h => h, fun _ _ h => h⟩
theorem Post.trans {ρ ρ₁ ρ₂ : Rho} {s s₁ s₂ : St} {w w₁ w₂ : World} (h : Post ρ s w ρ₁ s₁ w₁) (k : Post ρ₁ s₁ w₁ ρ₂ s₂ w₂) : Post ρ s w ρ₂ s₂ w₂ where
  same i hi := by rw [k.same i (Nat.lt_of_lt_of_le hi h.next), h.same i hi]
  rel := k.rel
  kept := {
    os := k.kept.os.trans h.kept.os
    tape := k.kept.tape.trans h.kept.tape
    output := k.kept.output.trans h.kept.output
    size := Nat.le_trans h.kept.size k.kept.size
    block := fun j hj ho => by
      rw [k.kept.block j (Nat.lt_of_lt_of_le hj h.kept.size) (fun hh => ?_), h.kept.block j hj ho]
      rcases h.own j hh with h1 | h1
      · omega
      · exact ho h1 }
  own j hj := by
    rcases k.own j hj with h1 | h1
    · exact .inl (Nat.le_trans h.kept.size h1)
    · exact h.own j h1
  next := Nat.le_trans h.next k.next
  gone i hi hn := k.gone i (Nat.lt_of_lt_of_le hi h.next) (h.gone i hi hn)
  old i c hc := h.old i c (k.old i c hc)
/-- a draw from the tape -/
theorem Post.drew {ρ : Rho} {s : St} {w : World} (h : SRel ρ s w) (n : Nat) : Post ρ s w ρ s { w with drawn := n } :=
  ⟨fun _ _ => rfl, ⟨⟨h.heap.rw, h.heap.ro, h.heap.apart, h.heap.roApart⟩, h.fresh, h.none⟩, ⟨rfl, rfl, rfl, Nat.le_refl _, fun _ _ _ => rfl⟩, fun _ h => .inr h, Nat.le_refl _, fun _ _ h => h, fun _ _ h => h⟩
end

section
variable {P : Program}

/-! ## running the model's memory operations -/

theorem add_eq (b o n : Nat) : (⟨b, o, none⟩ : Addr).add n = ⟨b, o + n, none⟩ := by
  unfold Addr.add
  by_cases h : n = 0
  · subst h; rfl
  · rw [if_neg h]

theorem run_bind_ok {α β : Type} {s : Sem α} {f : α → Sem β} {w w' : World} {a : α} (h : s.run P w = .ok a w') : (s.bind f).run P w = (f a).run P w' := by
  have := Sem.run_bind' P s f w
  simp only [h, Result.andThen] at this
  exact this

theorem run_loadCellsFrom (a' : Addr) (w : World) : ∀ (n i : Nat) (acc : Array Value) (vs : List Value), vs.length = n →
    (∀ k, k < n → w.cell? (a'.add (i + k)) = vs[k]?) → (loadCellsFrom a' i n acc).run P w = .ok ⟨acc.toList ++ vs⟩ w := by
  intro n
  induction n with
  | zero =>
    intro i acc vs hl _
    have : vs = [] := List.length_eq_zero_iff.1 hl
    subst this
    simp [loadCellsFrom, pure]
  | succ n ih =>
    intro i acc vs hl hc
    match vs, hl with
    | v :: vs, hl =>
      have h0 := hc 0 (by omega)
      simp at h0
      have : (loadCellsFrom a' i (n + 1) acc).run P w = (loadCellsFrom a' (i + 1) n (acc.push v)).run P w := by
        simp [loadCellsFrom, load, bind, Sem.bind, Sem.run, h0]
      rw [this, ih (i + 1) (acc.push v) vs (by simpa using hl) (fun k hk => ?_)]
      · simp
      · have := hc (k + 1) (by omega)
        rw [show i + 1 + k = i + (k + 1) by omega, this]; simp
theorem run_loadCells {a' : Addr} {w : World} {n : Nat} {vs : List Value} (hl : vs.length = n) (hc : ∀ k, k < n → w.cell? (a'.add k) = vs[k]?) :
    (loadCells a' n).run P w = .ok ⟨vs⟩ w := by
  have := run_loadCellsFrom (P := P) a' w n 0 #[] vs hl (fun k hk => by simpa using hc k hk)
  simpa [loadCells] using this

theorem loadCellsFrom_world (a' : Addr) : ∀ (n i : Nat) (acc : Array Value) (w w' : World) (vs : Array Value), (loadCellsFrom a' i n acc).run P w = .ok vs w' → w' = w := by
  intro n
  induction n with
  | zero =>
    intro i acc w w' vs h
    simp only [loadCellsFrom, pure, Sem.run, Result.ok.injEq] at h
    exact h.2.symm
  | succ n ih =>
    intro i acc w w' vs h
    simp only [loadCellsFrom, load, bind, Sem.bind, Sem.run] at h
    split at h
    · exact ih _ _ _ _ _ h
    · split at h
      · exact ih _ _ _ _ _ h
      · cases h
theorem loadCells_world {a' : Addr} {n : Nat} {w w' : World} {vs : Array Value} (h : (loadCells a' n).run P w = .ok vs w') : w' = w := loadCellsFrom_world a' n 0 #[] w w' vs h
/-- two readings -/
theorem run_swap {β : Type} {c : Addr} {m : Nat} {s : Sem (Array Value)} {f : Array Value → Array Value → Sem β} {w w' : World} {vs : Array Value} {b : β} (h : s.run P w = .ok vs w)
    (k : ((loadCells c m).bind fun old => f old vs).run P w = .ok b w') : ((loadCells c m).bind fun old => s.bind fun new => f old new).run P w = .ok b w' := by
  rw [Sem.run_bind'] at k ⊢
  cases hl : (loadCells c m).run P w with
  | ok old w1 =>
    rw [hl] at k
    have := loadCells_world hl
    subst this
    simp only [Result.andThen] at k ⊢
    rw [run_bind_ok h]
    exact k
  | _ =>
    rw [hl] at k
    simp only [Result.andThen] at k
    cases k

/-- the world with another row in a block -/
def World.row (w : World) (r : Nat) (c : List Value) (e : TypeId) (f : Nat × Nat) : World :=
  { w with heap := w.heap.setIfInBounds r (.cells ⟨c⟩ e f) }

def real : Value → Bool
  | .agg _ => false
  | .tuple _ => false
  | _ => true

theorem setCell_row {w : World} {r o : Nat} {c : List Value} {e : TypeId} {f : Nat × Nat} (h : w.heap[r]? = some (.cells ⟨c⟩ e f)) (v : Value) :
    w.setCell ⟨r, o, none⟩ v = World.row w r (c.set o v) e f := by
  have hr : r < w.heap.size := (Array.getElem?_eq_some_iff.1 h).1
  have hv : w.heap[r] = .cells ⟨c⟩ e f := (Array.getElem?_eq_some_iff.1 h).2
  unfold World.setCell World.row
  congr 1
  apply Array.ext_getElem?
  intro i
  rw [Array.getElem?_modify, Array.getElem?_setIfInBounds]
  by_cases hi : r = i
  · subst hi
    simp [hr, hv]
  · simp [hi]

theorem row_row (w : World) (r : Nat) (c c' : List Value) (e e' : TypeId) (f f' : Nat × Nat) : World.row (World.row w r c e f) r c' e' f' = World.row w r c' e' f' := by
  unfold World.row
  congr 1
  apply Array.ext_getElem?
  intro i
  simp only [Array.getElem?_setIfInBounds]
  by_cases hi : r = i
  · subst hi; simp
  · simp [hi]
theorem row_get {w : World} {r : Nat} (hr : r < w.heap.size) (c : List Value) (e : TypeId) (f : Nat × Nat) : (World.row w r c e f).heap[r]? = some (.cells ⟨c⟩ e f) := by
  simp [World.row, hr]
theorem row_other {w : World} {r k : Nat} (hk : k ≠ r) (c : List Value) (e : TypeId) (f : Nat × Nat) : (World.row w r c e f).heap[k]? = w.heap[k]? := by
  simp only [World.row, Array.getElem?_setIfInBounds]
  rw [if_neg (fun h => hk h.symm)]
theorem row_same {w : World} {r : Nat} {c : List Value} {e : TypeId} {f : Nat × Nat} (h : w.heap[r]? = some (.cells ⟨c⟩ e f)) : World.row w r c e f = w := by
  have hr : r < w.heap.size := (Array.getElem?_eq_some_iff.1 h).1
  have hv : w.heap[r] = .cells ⟨c⟩ e f := (Array.getElem?_eq_some_iff.1 h).2
  have : w.heap.setIfInBounds r (.cells ⟨c⟩ e f) = w.heap := by
    apply Array.ext_getElem?
    intro i
    rw [Array.getElem?_setIfInBounds]
    by_cases hi : r = i
    · subst hi; simp [hr, hv]
    · simp [hi]
  unfold World.row
  rw [this]

theorem run_storeCells (r off : Nat) (e : TypeId) (f : Nat × Nat) : ∀ (vs : List Value) (i : Nat) (w : World) (c : List Value),
    w.heap[r]? = some (.cells ⟨c⟩ e f) → (∀ v ∈ vs, real v = true) → off + i + vs.length ≤ c.length →
    (∀ k, k < vs.length → ¬ (f.1 ≤ off + i + k ∧ off + i + k < f.2)) →
    (storeCells ⟨r, off, none⟩ vs i).run P w = .ok () (World.row w r (c.take (off + i) ++ vs ++ c.drop (off + i + vs.length)) e f) := by
  intro vs
  induction vs with
  | nil =>
    intro i w c h _ _ _
    simp only [storeCells, pure, Sem.run, List.append_nil, List.length_nil, Nat.add_zero, List.take_append_drop]
    rw [row_same h]
  | cons v vs ih =>
    intro i w c h hv hl hf
    have hcell : w.cell? ⟨r, off + i, none⟩ = c[off + i]? := by simp [World.cell?, h]
    have hlt : off + i < c.length := by simp at hl; omega
    have hfz : w.frozen? ⟨r, off + i, none⟩ = false := by
      have := hf 0 (by simp)
      obtain ⟨lo, hi⟩ := f
      simp only [World.frozen?, h]
      simp at this ⊢
      omega
    have hreal : real v = true := hv v (by simp)
    have hstep : (storeCells ⟨r, off, none⟩ (v :: vs) i).run P w = (storeCells ⟨r, off, none⟩ vs (i + 1)).run P (w.setCell ⟨r, off + i, none⟩ v) := by
      simp only [storeCells, store, bind, Sem.bind, add_eq]
      cases v
      case agg => cases hreal
      case tuple => cases hreal
      all_goals (simp only [Sem.run, hcell, List.getElem?_eq_getElem hlt, hfz]; rfl)
    rw [hstep, setCell_row h]
    have hr : r < w.heap.size := (Array.getElem?_eq_some_iff.1 h).1
    rw [ih (i + 1) _ (c.set (off + i) v) (row_get hr _ _ _) (fun u hu => hv u (by simp [hu])) (by simp at hl ⊢; omega)
      (fun k hk => by have := hf (k + 1) (by simp; omega); rw [show off + (i + 1) + k = off + i + (k + 1) by omega]; exact this), row_row]
    congr 2
    rw [show off + (i + 1) = off + i + 1 by omega]
    rw [List.take_set, List.drop_set]
    simp only [List.length_cons]
    rw [if_pos (by omega), show off + i + 1 + vs.length = off + i + (vs.length + 1) by omega]
    congr 1
    rw [List.take_add_one]
    simp only [List.getElem?_eq_getElem hlt, Option.toList_some]
    rw [List.set_append]
    simp [List.length_take, Nat.min_eq_left (Nat.le_of_lt hlt)]

/-! ## lists cut and laid -/

theorem cut_eq {l : List Value} {i n : Nat} {r : List Value} (h : cut l i n = some r) : r = (l.drop i).take n ∧ r.length = n := by
  unfold cut at h
  simp only at h
  split at h
  · rename_i hb
    have hb := Nat.eq_of_beq_eq_true hb
    simp only [Option.some.injEq] at h
    exact ⟨h.symm, by rw [← h]; exact hb⟩
  · cases h
theorem cut_bound {l : List Value} {i n : Nat} {r : List Value} (h : cut l i n = some r) : n = 0 ∨ i + n ≤ l.length := by
  obtain ⟨h1, h2⟩ := cut_eq h
  rw [h1] at h2
  simp only [List.length_take, List.length_drop] at h2
  omega

theorem lay_eq : ∀ (i : Nat) (l vs : List Value) (r : List Value), lay l i vs = some r → (vs = [] ∧ r = l) ∨ (i + vs.length ≤ l.length ∧ r = l.take i ++ vs ++ l.drop (i + vs.length)) := by
  intro i
  induction i with
  | zero =>
    intro l vs
    induction vs generalizing l with
    | nil => intro r h; cases l <;> simp [lay] at h <;> first | exact .inl ⟨rfl, h.symm⟩ | exact .inl ⟨rfl, h⟩
    | cons v vs ih =>
      intro r h
      cases l with
      | nil => simp [lay] at h
      | cons x l =>
        simp only [lay, Option.map_eq_some_iff] at h
        obtain ⟨r', h', rfl⟩ := h
        rcases ih l r' h' with ⟨rfl, rfl⟩ | ⟨h1, h2⟩
        · right; simp
        · right
          refine ⟨by simp at h1 ⊢; omega, ?_⟩
          simp at h2
          simp [h2]
  | succ i ih =>
    intro l vs r h
    cases vs with
    | nil => cases l <;> simp [lay] at h <;> first | exact .inl ⟨rfl, h.symm⟩ | exact .inl ⟨rfl, h⟩
    | cons v vs =>
      cases l with
      | nil => simp [lay] at h
      | cons x l =>
        simp only [lay, Option.map_eq_some_iff] at h
        obtain ⟨r', h', rfl⟩ := h
        rcases ih l (v :: vs) r' h' with ⟨h1, _⟩ | ⟨h1, h2⟩
        · cases h1
        · right
          refine ⟨by simp at h1 ⊢; omega, ?_⟩
          rw [h2]
          simp only [List.length_cons, List.take_succ_cons, List.cons_append]
          rw [show i + 1 + (vs.length + 1) = (i + (vs.length + 1)) + 1 by omega, List.drop_succ_cons]
theorem lay_length {i : Nat} {l vs r : List Value} (h : lay l i vs = some r) : r.length = l.length := by
  rcases lay_eq _ _ _ _ h with ⟨_, rfl⟩ | ⟨h1, rfl⟩
  · rfl
  · simp; omega

theorem VRel.flat {ρ : Rho} {v v' : Value} (h : VRel ρ v v') (hf : flat v = true) : real v' = true := by
  cases h with
  | unk => exact absurd hf (by decide)
  | atom h => cases v <;> simp_all [Go.Bel.flat, real, Go.Bel.atom]
  | agg => simp [Go.Bel.flat] at hf
  | tuple => simp [Go.Bel.flat] at hf
  | _ => rfl
theorem VRelL.flat {ρ : Rho} {l l' : List Value} (h : VRelL ρ l l') (hf : l.all flat = true) : ∀ v ∈ l', real v = true := by
  induction l generalizing l' with
  | nil => cases h; simp
  | cons x l ih =>
    cases h with
    | cons h ht =>
      simp only [List.all_cons, Bool.and_eq_true] at hf
      intro v hv
      rcases List.mem_cons.1 hv with rfl | hv
      · exact h.flat hf.1
      · exact ih ht hf.2 v hv

/-! ## reading -/

theorem cell_of_row {w : World} {r o : Nat} {c : List Value} {e : TypeId} {f : Nat × Nat} (h : w.heap[r]? = some (.cells ⟨c⟩ e f)) : w.cell? ⟨r, o, none⟩ = c[o]? := by
  simp [World.cell?, h]

/-- a heap that has at least what a state has -/
def Sub (s : St) (h : Hp) : Prop := ∀ i o, s.heap.get i = some o → h i = some o

theorem cellsAt_rel {ρ : Rho} {s : St} {h : Hp} {w : World} (hr : HRel ρ h w) (hs : Sub s h) {a a' : Addr} {n : Nat} {vs : List Value} (ha : AddrRel ρ a a') (hc : s.cellsAt a n = some vs) :
    ∃ vs', VRelL ρ vs vs' ∧ vs.length = n ∧ ∀ k, k < n → w.cell? (a'.add k) = vs'[k]? := by
  cases ha with
  | @mk i o b hb =>
  have key : ∀ (c c' : List Value) (e : TypeId) (f : Nat × Nat), w.heap[b.blk]? = some (.cells ⟨c'⟩ e f) → VRelL ρ c ((c'.drop b.base).take c.length) → cut c o n = some vs →
      ∃ vs', VRelL ρ vs vs' ∧ vs.length = n ∧ ∀ k, k < n → w.cell? ((⟨b.blk, b.base + o, none⟩ : Addr).add k) = vs'[k]? := by
    intro c c' e f hw hv hcut
    obtain ⟨h1, h2⟩ := cut_eq hcut
    refine ⟨(((c'.drop b.base).take c.length).drop o).take n, ?_, h2, ?_⟩
    · rw [h1]; exact (hv.drop o).take n
    · intro k hk
      rcases cut_bound hcut with h0 | h0
      · omega
      · rw [add_eq, cell_of_row hw]
        rw [List.getElem?_take_of_lt hk, List.getElem?_drop, List.getElem?_take_of_lt (by omega), List.getElem?_drop]
        congr 1
        omega
  unfold St.cellsAt at hc
  simp only at hc
  split at hc
  · rename_i c e f _ hget
    obtain ⟨b', o', hb', hw, ho⟩ := hr.rw i _ (hs _ _ hget)
    rw [hb] at hb'; cases hb'
    obtain ⟨cl⟩ := c
    cases ho with
    | cells h1 h2 h3 h4 h5 h6 => exact key cl _ _ _ hw h3 hc
  · rename_i c _ hget
    obtain ⟨b', c', e, f, hb', hw, hv⟩ := hr.ro i _ (hs _ _ hget)
    rw [hb] at hb'; cases hb'
    obtain ⟨cl⟩ := c'
    exact key c cl e f hw hv hc
  · cases hc
end

section
variable {P : Program}

/-- what an operation of ours has to do with the model's -/
inductive SR (P : Program) {α β : Type} (R : Rho → α → β → Prop) : Rho → AS α → Sem β → Prop where
  | ret {ρ : Rho} {a : α} {b : β} (h : R ρ a b) : SR P R ρ (.ret a) (.pure b)
  | fail {ρ : Rho} {s' : Sem β} : SR P R ρ .fail s'
  | equiv {ρ : Rho} {s : AS α} {s' s'' : Sem β} (h : ∀ w, s'.run P w = s''.run P w) (k : SR P R ρ s s'') : SR P R ρ s s'
  | choose {ρ : Rho} {s : AS α} {q : Question} {k' : Nat → Sem β} (hq : q.forced = false) (h : ∀ t, SR P R ρ s (k' (q.cut t))) : SR P R ρ s (.choose q k')
  | loads {ρ : Rho} {a a' : Addr} {n : Nat} {k : List Value → AS α} {k' : Array Value → Sem β} (ha : n = 0 ∨ AddrRel ρ a a')
      (h : ∀ vs vs', VRelL ρ vs vs' → vs.length = n → SR P R ρ (k vs) (k' ⟨vs'⟩)) : SR P R ρ (.loads a n k) ((loadCells a' n).bind k')
  /-- the model reads another row first -/
  | swap {ρ : Rho} {a a' c : Addr} {n m : Nat} {k : List Value → AS α} {f : Array Value → Array Value → Sem β} (ha : n = 0 ∨ AddrRel ρ a a')
      (h : ∀ vs vs', VRelL ρ vs vs' → vs.length = n → SR P R ρ (k vs) ((loadCells c m).bind fun old => f old ⟨vs'⟩)) :
      SR P R ρ (.loads a n k) ((loadCells c m).bind fun old => (loadCells a' n).bind fun new => f old new)
  /-- the model reads the cells in another way -/
  | reads {ρ : Rho} {a a' : Addr} {n : Nat} {k : List Value → AS α} {s' : Sem β} (g : List Value → Sem β) (Q : List Value → Prop) (ha : AddrRel ρ a a') (hn : ∀ vs, ¬ Q vs → k vs = .fail)
      (h : ∀ vs vs', VRelL ρ vs vs' → vs.length = n → SR P R ρ (k vs) (g vs'))
      (h2 : ∀ vs vs', VRelL ρ vs vs' → vs.length = n → Q vs → ∀ w : World, (∀ i, i < n → w.cell? (a'.add i) = vs'[i]?) → s'.run P w = (g vs').run P w) :
      SR P R ρ (.loads a n k) s'
  | stores {ρ : Rho} {a a' : Addr} {vs vs' : List Value} {k : AS α} {k' : Unit → Sem β} (ha : vs = [] ∨ AddrRel ρ a a') (hv : VRelL ρ vs vs')
      (h : SR P R ρ k (k' ())) : SR P R ρ (.stores a vs k) ((storeCells a' vs').bind k')
  | new {ρ : Rho} {o o' : Obj} {k : Nat → AS α} {k' : Nat → Sem β} {av sz : Nat} (ho : ∀ r, ORel ρ ⟨r, 0, av, sz⟩ o o')
      (h : ∀ (ρ' : Rho) (r r' : Nat), ρ.le ρ' → ρ' r = some ⟨r', 0, av, sz⟩ → SR P R ρ' (k r) (k' r')) : SR P R ρ (.new o k) (.new o' k')
  /-- a text's bytes -/
  | newStr {ρ : Rho} {c c' : List Value} {e : TypeId} {k : Nat → AS α} {k' : Addr → Sem β} (hl : c.length ≤ c'.length) (hc : VRelL ρ c (c'.take c.length))
      (h : ∀ (ρ' : Rho) (r r' : Nat), ρ.le ρ' → ρ' r = some ⟨r', 0, c'.length, 1⟩ → SR P R ρ' (k r) (k' ⟨r', 0, none⟩)) :
      SR P R ρ (.new (.cells ⟨c⟩ e) k) ((newRow e ⟨c'⟩).bind fun a => (markStringish a).bind fun _ => k' a)
  | getObj {ρ : Rho} {r : Nat} {b : BI} {k : Obj → AS α} {k' : Obj → Sem β} (hb : ρ r = some b)
      (h : ∀ o o', ORel ρ b o o' → isCells o = false → SR P R ρ (k o) (k' o')) : SR P R ρ (.getObj r k) (.getObj b.blk k')
  | based {ρ : Rho} {r : Nat} {b : BI} {k : Obj → AS α} {s' : Sem β} (hb : ρ r = some b) (h : b.base = 0 → SR P R ρ (.getObj r k) s') : SR P R ρ (.getObj r k) s'
  | setObj {ρ : Rho} {r : Nat} {b : BI} {o o' : Obj} {k : AS α} {k' : Sem β} (hb : ρ r = some b) (ho : ORel ρ b o o')
      (h : SR P R ρ k k') : SR P R ρ (.setObj r o k) (.setObj b.blk o' k')
  | freeze {ρ : Rho} {a a' : Addr} {n : Nat} {k : AS α} {k' : Sem β} (ha : AddrRel ρ a a') (h : SR P R ρ k k') : SR P R ρ (.freeze a n k) (.freeze a' n k')
  | rowOf {ρ : Rho} {a : Addr} {b : BI} {n : Nat} {e : TypeId} {z : Bool} {k : AS α} {k' : Option (TypeId × Nat) → Sem β} (hb : ρ a.block = some b)
      (h : ∀ m, b.base + a.off + n ≤ m → (z = true → b.base = 0) → SR P R ρ k (k' (some (e, m)))) : SR P R ρ (.rowOf a n e z k) (.shape b.blk k')
  | stringish {ρ : Rho} {a a' : Addr} {b : BI} {k : AS α} {k' : Unit → Sem β} (hb : ρ a.block = some b) (ha : a'.block = b.blk)
      (h : SR P R ρ k (k' ())) : SR P R ρ (.stringish a k) ((markStringish a').bind k')
  /-- in place -/
  | growIn {ρ : Rho} {i o n : Nat} {b : BI} {e : TypeId} {vs vs' : List Value} {k : Nat → AS α} {k' : Unit → Sem β} (hb : ρ i = some b) (hv : VRelL ρ vs vs')
      (hroom : o + n + vs.length ≤ b.avail)
      (h : ∀ (ρ' : Rho) (r : Nat), ρ.le ρ' → ρ' r = some ⟨b.blk, b.base + o, b.avail - o, b.size⟩ → SR P R ρ' (k r) (k' ())) :
      SR P R ρ (.grow ⟨i, o, none⟩ n e vs k) ((storeCells ⟨b.blk, b.base + o + n, none⟩ vs').bind k')
  /-- anew -/
  | growNew {ρ : Rho} {i o n : Nat} {a' : Addr} {b : BI} {e : TypeId} {vs vs' rest : List Value} {k : Nat → AS α} {k' : Nat → Sem β} {sz : Nat} (hb : ρ i = some b) (hv : VRelL ρ vs vs')
      (ha : n = 0 ∨ a' = ⟨b.blk, b.base + o, none⟩) (hsz : 1 ≤ sz)
      (h : ∀ (ρ' : Rho) (r r' : Nat), ρ.le ρ' → ρ' r = some ⟨r', 0, n + vs.length + rest.length, sz⟩ → SR P R ρ' (k r) (k' r')) :
      SR P R ρ (.grow ⟨i, o, none⟩ n e vs k) ((loadCells a' n).bind fun old => .new (.cells (old ++ ⟨vs'⟩ ++ ⟨rest⟩) e) k')

/-! ## new and changed blocks -/

def Rho.with (ρ : Rho) (i : Nat) (b : BI) : Rho := fun j => if j = i then some b else ρ j
theorem Rho.with_same (ρ : Rho) (i : Nat) (b : BI) : ρ.with i b i = some b := by simp [Rho.with]
theorem Rho.with_other {ρ : Rho} {i j : Nat} (b : BI) (h : j ≠ i) : ρ.with i b j = ρ j := by simp [Rho.with, h]
theorem Rho.le_with {ρ : Rho} {i : Nat} (b : BI) (h : ρ i = none) : ρ.le (ρ.with i b) := by
  intro j x hx
  by_cases hj : j = i
  · subst hj; rw [h] at hx; cases hx
  · rw [Rho.with_other b hj]; exact hx

theorem HRel.mono {ρ ρ' : Rho} {h : Hp} {w : World} (hle : ρ.le ρ') (hr : HRel ρ h w) : HRel ρ' h w where
  rw i o hi := by
    obtain ⟨b, o', h1, h2, h3⟩ := hr.rw i o hi
    exact ⟨b, o', hle _ _ h1, h2, h3.mono hle⟩
  ro i c hi := by
    obtain ⟨b, c', e, f, h1, h2, h3⟩ := hr.ro i c hi
    exact ⟨b, c', e, f, hle _ _ h1, h2, h3.mono hle⟩
  apart i j o o' b b' hi hj h1 h2 := by
    obtain ⟨c, _, h3, _⟩ := hr.rw i o hi
    obtain ⟨c', _, h4, _⟩ := hr.rw j o' hj
    have e1 := hle _ _ h3; rw [h1] at e1; cases e1
    have e2 := hle _ _ h4; rw [h2] at e2; cases e2
    exact hr.apart i j o o' b b' hi hj h3 h4
  roApart i j o c b b' hi hj h1 h2 := by
    obtain ⟨x, _, h3, _⟩ := hr.rw i o hi
    obtain ⟨x', _, _, _, h4, _⟩ := hr.ro j c hj
    have e1 := hle _ _ h3; rw [h1] at e1; cases e1
    have e2 := hle _ _ h4; rw [h2] at e2; cases e2
    exact hr.roApart i j o c b b' hi hj h3 h4

/-- less is known of the heap -/
theorem HRel.sub {ρ : Rho} {h h' : Hp} {w : World} (hr : HRel ρ h w) (hs : ∀ i o, h' i = some o → (∀ x, o = .rw x → h i = some o) ∧ (∀ x, o = .ro x → h i = some o)) : HRel ρ h' w where
  rw i o hi := hr.rw i o ((hs _ _ hi).1 _ rfl)
  ro i c hi := hr.ro i c ((hs _ _ hi).2 _ rfl)
  apart i j o o' b b' hi hj := hr.apart i j o o' b b' ((hs _ _ hi).1 _ rfl) ((hs _ _ hj).1 _ rfl)
  roApart i j o c b b' hi hj := hr.roApart i j o c b b' ((hs _ _ hi).1 _ rfl) ((hs _ _ hj).2 _ rfl)

def Hp.with (h : Hp) (i : Nat) (o : AObj) : Hp := fun j => if j = i then some o else h j
theorem put_with {_α : Type} (t : Tr AObj) (i : Nat) (o : AObj) : (t.put i o).get = (Hp.with t.get i o) := by
  funext j; simp [Hp.with]

/-- a new block -/
theorem HRel.new {ρ : Rho} {h : Hp} {w : World} (hr : HRel ρ h w) {i : Nat} {b : BI} {o o' : Obj} (hi : ρ i = none) (hn : h i = none) (hb : b.blk = w.heap.size) (ho : ORel ρ b o o') {n : Nat} :
    HRel (ρ.with i b) (Hp.with h i (.rw o)) { w with heap := w.heap.push o', drawn := n } where
  rw j x hj := by
    simp only [Hp.with] at hj
    split at hj
    · rename_i hji; subst hji; cases hj
      refine ⟨b, o', Rho.with_same _ _ _, ?_, ho.mono (Rho.le_with b hi)⟩
      simp [hb]
    · rename_i hji
      obtain ⟨c, o'', h1, h2, h3⟩ := hr.rw j x hj
      refine ⟨c, o'', by rw [Rho.with_other b hji]; exact h1, ?_, h3.mono (Rho.le_with b hi)⟩
      have : c.blk < w.heap.size := (Array.getElem?_eq_some_iff.1 h2).1
      simp only [Array.getElem?_push]
      rw [if_neg (by omega)]; exact h2
  ro j x hj := by
    simp only [Hp.with] at hj
    split at hj
    · cases hj
    · rename_i hji
      obtain ⟨c, c', e, f, h1, h2, h3⟩ := hr.ro j x hj
      refine ⟨c, c', e, f, by rw [Rho.with_other b hji]; exact h1, ?_, h3.mono (Rho.le_with b hi)⟩
      have : c.blk < w.heap.size := (Array.getElem?_eq_some_iff.1 h2).1
      simp only [Array.getElem?_push]
      rw [if_neg (by omega)]; exact h2
  apart j k x y c d hj hk hc hd he := by
    simp only [Hp.with] at hj hk
    split at hj <;> split at hk
    · omega
    · rename_i h1 h2
      subst h1
      rw [Rho.with_same] at hc; cases hc
      rw [Rho.with_other b h2] at hd
      obtain ⟨d', y', h3, h4, _⟩ := hr.rw k y hk
      rw [hd] at h3; cases h3
      have : d.blk < w.heap.size := (Array.getElem?_eq_some_iff.1 h4).1
      omega
    · rename_i h1 h2
      subst h2
      rw [Rho.with_same] at hd; cases hd
      rw [Rho.with_other b h1] at hc
      obtain ⟨d', y', h3, h4, _⟩ := hr.rw j x hj
      rw [hc] at h3; cases h3
      have : c.blk < w.heap.size := (Array.getElem?_eq_some_iff.1 h4).1
      omega
    · rename_i h1 h2
      rw [Rho.with_other b h1] at hc
      rw [Rho.with_other b h2] at hd
      exact hr.apart j k x y c d hj hk hc hd he
  roApart j k x y c d hj hk hc hd := by
    simp only [Hp.with] at hj hk
    split at hk
    · cases hk
    · rename_i h2
      rw [Rho.with_other b h2] at hd
      obtain ⟨d', y', e, f, h3, h4, _⟩ := hr.ro k y hk
      rw [hd] at h3; cases h3
      have : d.blk < w.heap.size := (Array.getElem?_eq_some_iff.1 h4).1
      split at hj
      · rename_i h1; subst h1
        rw [Rho.with_same] at hc; cases hc
        omega
      · rename_i h1
        rw [Rho.with_other b h1] at hc
        exact hr.roApart j k x y c d hj hk hc hd

/-- another thing in a block -/
theorem HRel.set {ρ : Rho} {h : Hp} {w : World} (hr : HRel ρ h w) {i : Nat} {b : BI} {x o o' : Obj} (hi : h i = some (.rw x)) (hb : ρ i = some b) (ho : ORel ρ b o o') :
    HRel ρ (Hp.with h i (.rw o)) { w with heap := w.heap.setIfInBounds b.blk o' } where
  rw j y hj := by
    obtain ⟨b', x', h1, h2, _⟩ := hr.rw i x hi
    rw [hb] at h1; cases h1
    have hlt : b.blk < w.heap.size := (Array.getElem?_eq_some_iff.1 h2).1
    simp only [Hp.with] at hj
    split at hj
    · rename_i hji; subst hji; cases hj
      exact ⟨b, o', hb, by simp [hlt], ho⟩
    · rename_i hji
      obtain ⟨c, o'', h1, h2, h3⟩ := hr.rw j y hj
      refine ⟨c, o'', h1, ?_, h3⟩
      rw [Array.getElem?_setIfInBounds, if_neg]
      · exact h2
      · intro he
        exact hji (hr.apart j i y x c b hj hi h1 hb he.symm)
  ro j c hj := by
    simp only [Hp.with] at hj
    split at hj
    · cases hj
    · rename_i hji
      obtain ⟨d, c', e, f, h1, h2, h3⟩ := hr.ro j c hj
      refine ⟨d, c', e, f, h1, ?_, h3⟩
      rw [Array.getElem?_setIfInBounds, if_neg]
      · exact h2
      · intro he
        exact hr.roApart i j x c b d hi hj hb h1 he
  apart j k y z c d hj hk hc hd he := by
    simp only [Hp.with] at hj hk
    have h1 : ∃ y', h j = some (.rw y') := by
      split at hj
      · rename_i hji; subst hji; exact ⟨x, hi⟩
      · exact ⟨y, hj⟩
    have h2 : ∃ y', h k = some (.rw y') := by
      split at hk
      · rename_i hki; subst hki; exact ⟨x, hi⟩
      · exact ⟨z, hk⟩
    obtain ⟨y', h1⟩ := h1
    obtain ⟨z', h2⟩ := h2
    exact hr.apart j k y' z' c d h1 h2 hc hd he
  roApart j k y z c d hj hk hc hd := by
    simp only [Hp.with] at hj hk
    have h1 : ∃ y', h j = some (.rw y') := by
      split at hj
      · rename_i hji; subst hji; exact ⟨x, hi⟩
      · exact ⟨y, hj⟩
    obtain ⟨y', h1⟩ := h1
    split at hk
    · cases hk
    · exact hr.roApart j k y' z c d h1 hk hc hd

theorem Post.new {ρ : Rho} {s : St} {w : World} (hs : SRel ρ s w) {b : BI} {o o' : Obj} (hb : b.blk = w.heap.size) (ho : ORel ρ b o o') (n : Nat) :
    Post ρ s w (ρ.with s.next b) { heap := s.heap.put s.next (.rw o), next := s.next + 1 } { w with heap := w.heap.push o', drawn := n } where
  same i hi := Rho.with_other b (by omega)
  rel := {
    heap := by
      show HRel _ (s.heap.put s.next (.rw o)).get _
      rw [put_with (_α := AObj)]; exact hs.heap.new (hs.fresh _ (Nat.le_refl _)) (hs.none _ (Nat.le_refl _)) hb ho
    fresh := fun i hi => by
      have hi : s.next + 1 ≤ i := hi
      rw [Rho.with_other b (by omega)]; exact hs.fresh i (by omega)
    none := fun i hi => by
      have hi : s.next + 1 ≤ i := hi
      show (s.heap.put s.next (.rw o)).get i = none
      rw [Tr.get_put, if_neg (by omega)]; exact hs.none i (by omega) }
  kept := ⟨rfl, rfl, rfl, by simp, fun k hk _ => by
    simp only [Array.getElem?_push]; rw [if_neg (by omega)]⟩
  own k hk := by
    obtain ⟨i, x, c, h1, h2, h3⟩ := hk
    simp only [Tr.get_put] at h1
    split at h1
    · rename_i hi; subst hi
      rw [Rho.with_same] at h2; cases h2
      left; omega
    · rename_i hi
      rw [Rho.with_other b hi] at h2
      exact .inr ⟨i, x, c, h1, h2, h3⟩
  next := Nat.le_succ _
  gone i hi hn := by
    show (s.heap.put s.next (.rw o)).get i = none
    rw [Tr.get_put, if_neg (by omega)]; exact hn
  old i c hc := by
    have hc : (s.heap.put s.next (.rw o)).get i = some (.ro c) := hc
    rw [Tr.get_put] at hc
    split at hc
    · cases hc
    · exact hc

theorem Post.set {ρ : Rho} {s : St} {w : World} (hs : SRel ρ s w) {i : Nat} {b : BI} {x o o' : Obj} (hi : s.heap.get i = some (.rw x)) (hb : ρ i = some b) (ho : ORel ρ b o o') :
    Post ρ s w ρ { s with heap := s.heap.put i (.rw o) } { w with heap := w.heap.setIfInBounds b.blk o' } where
  same _ _ := rfl
  rel := {
    heap := by
      show HRel _ (s.heap.put i (.rw o)).get _
      rw [put_with (_α := AObj)]; exact hs.heap.set hi hb ho
    fresh := hs.fresh
    none := fun j hj => by
      show (s.heap.put i (.rw o)).get j = none
      rw [Tr.get_put, if_neg]
      · exact hs.none j hj
      · intro he; subst he; rw [hs.none _ hj] at hi; cases hi }
  kept := ⟨rfl, rfl, rfl, by simp, fun k hk hn => by
    simp only [Array.getElem?_setIfInBounds]
    rw [if_neg]
    intro he
    exact hn ⟨i, x, b, hi, hb, he⟩⟩
  own k hk := by
    obtain ⟨j, y, c, h1, h2, h3⟩ := hk
    simp only [Tr.get_put] at h1
    split at h1
    · rename_i hji; subst hji; exact .inr ⟨j, x, c, hi, h2, h3⟩
    · exact .inr ⟨j, y, c, h1, h2, h3⟩
  next := Nat.le_refl _
  gone j hj hn := by
    show (s.heap.put i (.rw o)).get j = none
    rw [Tr.get_put, if_neg]
    · exact hn
    · intro he; subst he; rw [hn] at hi; cases hi
  old j c hc := by
    have hc : (s.heap.put i (.rw o)).get j = some (.ro c) := hc
    rw [Tr.get_put] at hc
    split at hc
    · cases hc
    · exact hc
end

section
variable {P : Program}

theorem SRel.congr {ρ : Rho} {s s' : St} {w : World} (h : SRel ρ s w) (hg : s'.heap.get = s.heap.get) (hn : s'.next = s.next) : SRel ρ s' w :=
  ⟨by rw [hg]; exact h.heap, by rw [hn]; exact h.fresh, by rw [hn, hg]; exact h.none⟩
theorem Post.congr {ρ ρ' : Rho} {s s' s'' : St} {w w' : World} (h : Post ρ s w ρ' s' w') (hg : s''.heap.get = s'.heap.get) (hn : s''.next = s'.next) : Post ρ s w ρ' s'' w' :=
  ⟨h.same, h.rel.congr hg hn, h.kept, by rw [hg]; exact h.own, by rw [hn]; exact h.next, by rw [hg]; exact h.gone, by rw [hg]; exact h.old⟩

/-- writing into a row -/
theorem lay_rel {ρ : Rho} {c c' vs vs' r : List Value} {base off : Nat} (hc : VRelL ρ c ((c'.drop base).take c.length)) (hv : VRelL ρ vs vs')
    (hne : vs ≠ []) (h : lay c off vs = some r) :
    off + vs.length ≤ c.length ∧ VRelL ρ r (((c'.take (base + off) ++ vs' ++ c'.drop (base + off + vs'.length)).drop base).take r.length) := by
  rcases lay_eq _ _ _ _ h with ⟨h0, _⟩ | ⟨h1, h2⟩
  · exact absurd h0 hne
  refine ⟨h1, ?_⟩
  have hl := hv.length
  have hlen := hc.length
  simp only [List.length_take, List.length_drop] at hlen
  have e : ((c'.take (base + off) ++ vs' ++ c'.drop (base + off + vs'.length)).drop base).take r.length =
      ((c'.drop base).take c.length).take off ++ vs' ++ ((c'.drop base).take c.length).drop (off + vs.length) := by
    rw [lay_length h]
    apply List.ext_getElem?
    intro i
    simp only [List.getElem?_take, List.getElem?_drop, List.getElem?_append, List.length_append, List.length_take, List.length_drop]
    by_cases h1 : i < c.length
    · simp only [h1, if_true]
      by_cases h3 : i < off
      · rw [if_pos (by omega), if_pos (by omega), if_pos (by omega), if_pos (by omega), if_pos (by omega), if_pos h3]
      · by_cases h4 : i < off + vs.length
        · rw [if_pos (by omega), if_neg (by omega), if_pos (by omega), if_neg (by omega)]
          congr 1
          omega
        · rw [if_neg (by omega), if_neg (by omega)]
          rw [if_pos (by omega)]
          congr 1
          omega
    · simp only [h1, if_false]
      rw [if_neg (by omega)]
      rw [if_neg (by omega)]
  rw [e, h2]
  exact ((hc.take off).append hv).append (hc.drop (off + vs.length))

theorem run_getObj' {α : Type} {r : Nat} {o : Obj} {k : Obj → Sem α} {w : World} (h : w.heap[r]? = some o) (hc : isCells o = false) : (Sem.getObj r k).run P w = (k o).run P w := by
  cases o
  case cells => cases hc
  all_goals simp [Sem.run, h]
theorem run_setObj' {α : Type} {r : Nat} {x o : Obj} {k : Sem α} {w : World} (h : w.heap[r]? = some x) (hc : isCells x = false) :
    (Sem.setObj r o k).run P w = k.run P { w with heap := w.heap.setIfInBounds r o } := by
  cases x
  case cells => cases hc
  all_goals simp [Sem.run, h]

theorem run_newStr {α : Type} {e : TypeId} {c' : List Value} {k' : Addr → Sem α} (w : World) :
    ((newRow e ⟨c'⟩).bind fun a => (markStringish a).bind fun _ => k' a).run P w = (k' ⟨w.heap.size, 0, none⟩).run P { w with heap := w.heap.push (.cells ⟨c'⟩ e (c'.length, c'.length + 1)) } := by
  simp only [newRow, newObj, markStringish, shape, freeze, bind, Sem.bind, pure, Sem.run]
  have h1 : ({ w with heap := w.heap.push (.cells ⟨c'⟩ e (0, 0)) } : World).shape? w.heap.size = some (e, c'.length) := by
    simp [World.shape?]
  simp only [h1, Sem.bind, Sem.run]
  congr 1
  unfold World.freeze
  rw [if_neg (by omega)]
  simp only
  congr 1
  apply Array.ext_getElem?
  intro i
  rw [Array.getElem?_modify, Array.getElem?_push, Array.getElem?_push]
  by_cases hi : w.heap.size = i
  · subst hi; simp
  · rw [if_neg hi, if_neg (fun h => hi h.symm), if_neg (fun h => hi h.symm)]

theorem SR.run_sound {α β : Type} {R : Rho → α → β → Prop} {ρ : Rho} {s : AS α} {s' : Sem β} (h : SR P R ρ s s') :
    ∀ {st : St} {w : World} {a : α} {st' : St}, SRel ρ st w → s.run st = some (a, st') →
      ∃ ρ' b w', s'.run P w = .ok b w' ∧ R ρ' a b ∧ Post ρ st w ρ' st' w' := by
  induction h with
  | ret h =>
    intro st w a st' hs hr
    simp only [AS.run, Option.some.injEq, Prod.mk.injEq] at hr
    obtain ⟨rfl, rfl⟩ := hr
    exact ⟨_, _, w, rfl, h, Post.refl hs⟩
  | fail => intro st w a st' hs hr; simp [AS.run] at hr
  | equiv h _ ih =>
    intro st w a st' hs hr
    obtain ⟨ρ', b, w', h1, h2⟩ := ih hs hr
    exact ⟨ρ', b, w', (h w).trans h1, h2⟩
  | choose hq _ ih =>
    intro st w a st' hs hr
    rename_i ρ s q k' _
    obtain ⟨ρ', b, w', h1, h2, h3⟩ := ih (w.tape w.drawn q) (Post.drew hs (w.drawn + 1)).rel hr
    refine ⟨ρ', b, w', ?_, h2, (Post.drew hs _).trans h3⟩
    simp only [Sem.run, hq]
    exact h1
  | loads ha _ ih =>
    rename_i ρ a₀ a' n k k' _
    intro st w a st' hs hr
    simp only [AS.run] at hr
    split at hr
    · rename_i vs hc
      rcases ha with rfl | ha
      · have h0 : vs = [] := by
          have : vs.length = 0 := by
            unfold St.cellsAt at hc
            split at hc
            · exact (cut_eq hc).2
            · exact (cut_eq hc).2
            · cases hc
          exact List.length_eq_zero_iff.1 this
        subst h0
        obtain ⟨ρ', b, w', h1, h2⟩ := ih [] [] .nil rfl hs hr
        exact ⟨ρ', b, w', (run_bind_ok (run_loadCells (vs := []) rfl (fun k hk => absurd hk (Nat.not_lt_zero k)))).trans h1, h2⟩
      · obtain ⟨vs', hv, hl, hcell⟩ := cellsAt_rel hs.heap (fun _ _ h => h) ha hc
        obtain ⟨ρ', b, w', h1, h2⟩ := ih vs vs' hv hl hs hr
        exact ⟨ρ', b, w', (run_bind_ok (run_loadCells (hv.length.symm.trans hl) hcell)).trans h1, h2⟩
    · cases hr
  | swap ha _ ih =>
    rename_i ρ a₀ a' c n m k f _
    intro st w a st' hs hr
    simp only [AS.run] at hr
    split at hr
    · rename_i vs hc
      rcases ha with rfl | ha
      · have h0 : vs = [] := by
          have : vs.length = 0 := by
            unfold St.cellsAt at hc
            split at hc
            · exact (cut_eq hc).2
            · exact (cut_eq hc).2
            · cases hc
          exact List.length_eq_zero_iff.1 this
        subst h0
        obtain ⟨ρ', b, w', h1, h2⟩ := ih [] [] .nil rfl hs hr
        exact ⟨ρ', b, w', run_swap (run_loadCells (vs := []) rfl (fun k hk => absurd hk (Nat.not_lt_zero k))) h1, h2⟩
      · obtain ⟨vs', hv, hl, hcell⟩ := cellsAt_rel hs.heap (fun _ _ h => h) ha hc
        obtain ⟨ρ', b, w', h1, h2⟩ := ih vs vs' hv hl hs hr
        exact ⟨ρ', b, w', run_swap (run_loadCells (hv.length.symm.trans hl) hcell) h1, h2⟩
    · cases hr
  | reads g Q ha hn _ h2 ih =>
    rename_i ρ a₀ a' n k s' _
    intro st w a st' hs hr
    simp only [AS.run] at hr
    split at hr
    · rename_i vs hc
      obtain ⟨vs', hv, hl, hcell⟩ := cellsAt_rel hs.heap (fun _ _ h => h) ha hc
      by_cases hq : Q vs
      · obtain ⟨ρ', b, w', h1, h3⟩ := ih vs vs' hv hl hs hr
        exact ⟨ρ', b, w', (h2 vs vs' hv hl hq w hcell).trans h1, h3⟩
      · rw [hn vs hq] at hr
        simp [AS.run] at hr
    · cases hr
  | stores ha hv _ ih =>
    rename_i ρ a₀ a' vs vs' k k' _
    intro st w a st' hs hr
    simp only [AS.run] at hr
    split at hr
    · rename_i st1 hc
      unfold St.setCells at hc
      split at hc
      · rename_i c e lo hi hspot hget
        split at hc
        · rename_i hcond
          simp only [Bool.and_eq_true] at hcond
          have h0 := Nat.eq_of_beq_eq_true hcond.2
          split at hc
          · rename_i c1 hlay
            simp only [Option.some.injEq] at hc
            subst hc
            by_cases hne : vs = []
            · subst hne
              cases hv
              rcases lay_eq _ _ _ _ hlay with ⟨_, h1⟩ | ⟨_, h1⟩
              all_goals
                have h1 : c1 = c.toList := by simpa using h1
                subst h1
                have hsame : ({ st with heap := st.heap.put a₀.block (.rw (.cells ⟨c.toList⟩ e (lo, hi))) } : St).heap.get = st.heap.get := by
                  funext j
                  simp only [Tr.get_put]
                  split
                  · rename_i hj; subst hj; exact hget.symm
                  · rfl
                obtain ⟨ρ', b, w', h1, h2, h3⟩ := ih (hs.congr hsame rfl) hr
                refine ⟨ρ', b, w', ?_, h2, ((Post.refl hs).congr hsame rfl).trans h3⟩
                exact (run_bind_ok (by simp [storeCells, pure])).trans h1
            · rcases ha with ha | ha
              · exact absurd ha hne
              · cases ha with
                | @mk i o bi hb =>
                obtain ⟨bi', o', hb', hw, ho⟩ := hs.heap.rw i _ hget
                rw [hb] at hb'; cases hb'
                obtain ⟨cl⟩ := c
                cases ho with
                | @cells _ c' _ _ _ lo' hi' h1 h2 h3 h4 h5 h6 =>
                obtain ⟨hb1, hb2⟩ := lay_rel h3 hv hne hlay
                have hb1 : o + vs.length ≤ cl.length := hb1
                have hlv := hv.length
                have hst := run_storeCells (P := P) bi.blk (bi.base + o) e (lo', hi') vs' 0 w c' hw (hv.flat hcond.1) (by omega)
                  (fun k hk hf => h4 h0 (o + k) (by omega) (by simp at hf; omega) (by simp at hf; omega))
                simp only [Nat.add_zero] at hst
                have hpost := Post.set (o := .cells ⟨c1⟩ e (lo, hi)) (o' := .cells ⟨c'.take (bi.base + o) ++ vs' ++ c'.drop (bi.base + o + vs'.length)⟩ e (lo', hi')) hs hget hb
                  (.cells (by rw [lay_length hlay]; exact h1) (by simp; omega) hb2 h4 h5 h6)
                obtain ⟨ρ', b, w', h7, h8, h9⟩ := ih hpost.rel hr
                exact ⟨ρ', b, w', (run_bind_ok hst).trans h7, h8, hpost.trans h9⟩
          · cases hc
        · cases hc
      · cases hc
    · cases hr
  | new ho _ ih =>
    rename_i ρ o o' k k' av sz _
    intro st w a st' hs hr
    simp only [AS.run] at hr
    have hpost := Post.new (b := ⟨w.heap.size, 0, av, sz⟩) hs rfl (ho w.heap.size) w.drawn
    obtain ⟨ρ', b, w', h1, h2, h3⟩ := ih _ st.next w.heap.size (Rho.le_with _ (hs.fresh _ (Nat.le_refl _))) (Rho.with_same _ _ _) hpost.rel hr
    exact ⟨ρ', b, w', by simp only [Sem.run]; exact h1, h2, hpost.trans h3⟩
  | newStr hl hc _ ih =>
    rename_i ρ c c' e k k' _
    intro st w a st' hs hr
    simp only [AS.run] at hr
    have hpost := Post.new (b := ⟨w.heap.size, 0, c'.length, 1⟩) (o := .cells ⟨c⟩ e) (o' := .cells ⟨c'⟩ e (c'.length, c'.length + 1)) hs rfl
      (.cells hl (by simp) (by simpa using hc) (fun _ o h1 h2 _ => by simp only at h1 h2; omega) (fun _ => rfl) (.inl (Nat.le_refl _))) w.drawn
    obtain ⟨ρ', b, w', h1, h2, h3⟩ := ih _ st.next w.heap.size (Rho.le_with _ (hs.fresh _ (Nat.le_refl _))) (Rho.with_same _ _ _) hpost.rel hr
    exact ⟨ρ', b, w', by rw [run_newStr]; exact h1, h2, hpost.trans h3⟩
  | based hb _ ih =>
    rename_i ρ r bi k s' _
    intro st w a st' hs hr
    refine ih ?_ hs hr
    simp only [AS.run] at hr
    split at hr
    · rename_i o hget
      split at hr
      · cases hr
      · rename_i hcells
        obtain ⟨bi', o', hb', hw, ho⟩ := hs.heap.rw r _ hget
        rw [hb] at hb'; cases hb'
        exact ho.zero hcells
    · cases hr
  | getObj hb _ ih =>
    rename_i ρ r bi k k' _
    intro st w a st' hs hr
    simp only [AS.run] at hr
    split at hr
    · rename_i o hget
      split at hr
      · cases hr
      · rename_i hcells
        obtain ⟨bi', o', hb', hw, ho⟩ := hs.heap.rw r _ hget
        rw [hb] at hb'; cases hb'
        obtain ⟨ρ', b, w', h1, h2⟩ := ih o o' ho hcells hs hr
        refine ⟨ρ', b, w', ?_, h2⟩
        rw [run_getObj' hw (by rw [ho.isCells]; exact hcells)]
        exact h1
    · cases hr
  | setObj hb ho _ ih =>
    rename_i ρ r bi o o' k k' _
    intro st w a st' hs hr
    simp only [AS.run] at hr
    split at hr
    · rename_i x hget
      split at hr
      · cases hr
      · rename_i hcells
        simp only [Bool.or_eq_false_iff] at hcells
        obtain ⟨bi', x', hb', hw, hx⟩ := hs.heap.rw r _ hget
        rw [hb] at hb'; cases hb'
        have hpost := Post.set (o := o) (o' := o') hs hget hb ho
        obtain ⟨ρ', b, w', h1, h2, h3⟩ := ih hpost.rel hr
        refine ⟨ρ', b, w', ?_, h2, hpost.trans h3⟩
        rw [run_setObj' hw (by rw [hx.isCells]; exact hcells.1)]
        exact h1
    · cases hr
  | freeze ha _ ih =>
    rename_i ρ a₀ a' n k k' _
    intro st w a st' hs hr
    simp only [AS.run] at hr
    split at hr
    · rename_i c e lo hi hspot hget
      split at hr
      · rename_i hcond
        simp only [Bool.and_eq_true] at hcond
        have hn := Nat.le_of_ble_eq_true hcond.1
        cases ha with
        | @mk i o bi hb =>
        obtain ⟨bi', o', hb', hw, ho⟩ := hs.heap.rw i _ hget
        rw [hb] at hb'; cases hb'
        obtain ⟨cl⟩ := c
        cases ho with
        | @cells _ c' _ _ _ lo' hi' h1 h2 h3 h4 h5 h6 =>
        obtain ⟨fz, hfz⟩ : ∃ fz : Nat × Nat, w.freeze ⟨bi.blk, bi.base + o, none⟩ n = { w with heap := w.heap.setIfInBounds bi.blk (.cells ⟨c'⟩ e fz) } := by
          refine ⟨?_, ?_⟩
          rotate_left
          · unfold World.freeze
            rw [if_neg (by omega)]
            congr 1
            apply Array.ext_getElem?
            intro j
            have hr' : bi.blk < w.heap.size := (Array.getElem?_eq_some_iff.1 hw).1
            have hv' : w.heap[bi.blk] = .cells ⟨c'⟩ e (lo', hi') := (Array.getElem?_eq_some_iff.1 hw).2
            rw [Array.getElem?_modify, Array.getElem?_setIfInBounds]
            by_cases hj : bi.blk = j
            · subst hj; simp [hr', hv']; rfl
            · simp [hj]
        have hpost := Post.set (o := .cells ⟨cl⟩ e (lo, 1)) (o' := .cells ⟨c'⟩ e fz) hs hget hb
          (by obtain ⟨f1, f2⟩ := fz; exact .cells h1 h2 h3 (fun hh => by omega) h5 h6)
        obtain ⟨ρ', b, w', h7, h8, h9⟩ := ih hpost.rel hr
        refine ⟨ρ', b, w', ?_, h8, hpost.trans h9⟩
        simp only [Sem.run, hfz]; exact h7
      · cases hr
    · cases hr
  | rowOf hb _ ih =>
    rename_i ρ a₀ bi n e z k k' _
    intro st w a st' hs hr
    simp only [AS.run] at hr
    split at hr
    · rename_i hrow
      unfold St.rowOf at hrow
      split at hrow
      · rename_i c e' lo hi hspot hget
        simp only [Bool.and_eq_true] at hrow
        have he := Nat.eq_of_beq_eq_true hrow.1.1
        have hn := Nat.le_of_ble_eq_true hrow.1.2
        subst he
        obtain ⟨bi', o', hb', hw, ho⟩ := hs.heap.rw _ _ hget
        rw [hb] at hb'; cases hb'
        obtain ⟨cl⟩ := c
        cases ho with
        | @cells _ c' _ _ _ lo' hi' h1 h2 h3 h4 h5 h6 =>
        obtain ⟨ρ', b, w', h7, h8, h9⟩ := ih c'.length (by simp only at hn; omega) (fun hz => h5 (by
          have := hrow.2
          rw [hz] at this
          simpa using this)) hs hr
        refine ⟨ρ', b, w', ?_, h8, h9⟩
        simp only [Sem.run, World.shape?, hw]
        exact h7
      · cases hrow
    · cases hr
  | stringish hb ha _ ih =>
    rename_i ρ a₀ a' bi k k' _
    intro st w a st' hs hr
    simp only [AS.run] at hr
    split at hr
    · rename_i c e lo hi hget
      obtain ⟨bi', o', hb', hw, ho⟩ := hs.heap.rw _ _ hget
      rw [hb] at hb'; cases hb'
      obtain ⟨cl⟩ := c
      cases ho with
      | @cells _ c' _ _ _ lo' hi' h1 h2 h3 h4 h5 h6 =>
      obtain ⟨fz, hfz⟩ : ∃ fz : Nat × Nat, w.freeze { block := a'.block, off := c'.length } 1 = { w with heap := w.heap.setIfInBounds bi.blk (.cells ⟨c'⟩ e fz) } := by
        refine ⟨?_, ?_⟩
        rotate_left
        · unfold World.freeze
          rw [if_neg (by omega)]
          congr 1
          apply Array.ext_getElem?
          intro j
          have hr' : bi.blk < w.heap.size := (Array.getElem?_eq_some_iff.1 hw).1
          have hv' : w.heap[bi.blk] = .cells ⟨c'⟩ e (lo', hi') := (Array.getElem?_eq_some_iff.1 hw).2
          rw [Array.getElem?_modify, Array.getElem?_setIfInBounds, ha]
          by_cases hj : bi.blk = j
          · subst hj; simp [hr', hv']; rfl
          · simp [hj]
      have hpost := Post.set (o := .cells ⟨cl⟩ e (lo, 1)) (o' := .cells ⟨c'⟩ e fz) hs hget hb
        (by obtain ⟨f1, f2⟩ := fz; exact .cells h1 h2 h3 (fun hh => by omega) h5 h6)
      obtain ⟨ρ', b, w', h7, h8, h9⟩ := ih hpost.rel hr
      refine ⟨ρ', b, w', ?_, h8, hpost.trans h9⟩
      refine (run_bind_ok (a := ()) (w' := w.freeze { block := a'.block, off := c'.length } 1) ?_).trans (by rw [hfz]; exact h7)
      simp only [markStringish, shape, bind, Sem.bind, Sem.run, World.shape?, ha, hw]
      rfl
    · cases hr
  | growIn hb hv hroom _ ih =>
    rename_i ρ i o n bi e vs vs' k k' _
    intro st w a st' hs hr
    simp only [AS.run] at hr
    split at hr
    · rename_i c e' lo hi hspot hget
      split at hr
      · rename_i old hcut hcond
        simp only [Bool.and_eq_true] at hcond
        have h0 := Nat.eq_of_beq_eq_true hcond.1.1
        have he := Nat.eq_of_beq_eq_true hcond.1.2
        subst he
        obtain ⟨bi', o', hb', hw, ho⟩ := hs.heap.rw i _ hget
        rw [hb] at hb'; cases hb'
        obtain ⟨cl⟩ := c
        cases ho with
        | @cells _ c' _ _ _ lo' hi' h1 h2 h3 h4 h5 h6 =>
        obtain ⟨hc1, hc2⟩ := cut_eq hcut
        have hlv := hv.length
        have hlen3 := h3.length
        have hst := run_storeCells (P := P) bi.blk (bi.base + o + n) e (lo', hi') vs' 0 w c' hw (hv.flat hcond.2) (by omega)
          (fun k hk hf => h4 h0 (o + n + k) (by omega) (by simp at hf; omega) (by simp at hf; omega))
        simp only [Nat.add_zero] at hst
        have hnext : ρ st.next = none := hs.fresh _ (Nat.le_refl _)
        have hnn : st.heap.get st.next = none := hs.none _ (Nat.le_refl _)
        have hin : i ≠ st.next := by intro hh; subst hh; rw [hnn] at hget; cases hget
        have hblk : bi.blk < w.heap.size := (Array.getElem?_eq_some_iff.1 hw).1
        have hnew : ORel ρ ⟨bi.blk, bi.base + o, bi.avail - o, bi.size⟩ (.cells ⟨old ++ vs⟩ e (1, 0)) (.cells ⟨c'.take (bi.base + o + n) ++ vs' ++ c'.drop (bi.base + o + n + vs'.length)⟩ e (lo', hi')) := by
          have hcb : n = 0 ∨ o + n ≤ cl.length := cut_bound hcut
          refine .cells (by simp; omega) (by simp; omega) ?_ (fun _ x hx a1 a2 => h4 h0 (o + x) (by simp at hx; omega) (by simp at a1; omega) (by simp at a2; omega)) ?_ ?_
          · have e1 : ((c'.take (bi.base + o + n) ++ vs' ++ c'.drop (bi.base + o + n + vs'.length)).drop (bi.base + o)).take (old ++ vs).length = ((((c'.drop bi.base).take cl.length).drop o).take n) ++ vs' := by
              apply List.ext_getElem?
              intro j
              simp only [List.getElem?_take, List.getElem?_drop, List.getElem?_append, List.length_append, List.length_take, List.length_drop, hc2]
              by_cases hj : j < n
              · rcases hcb with hcb | hcb
                · omega
                · rw [if_pos (by omega), if_pos (by omega), if_pos (by omega), if_pos (by omega), if_pos (by omega), if_pos hj, if_pos (by omega)]
                  congr 1
                  omega
              · by_cases hj2 : j < n + vs.length
                · rw [if_pos hj2, if_pos (by omega), if_neg (by omega), if_neg (by rcases hcb with hcb | hcb <;> omega)]
                  congr 1
                  rcases hcb with hcb | hcb
                  · subst hcb; simp; omega
                  · omega
                · rw [if_neg hj2, if_neg (by rcases hcb with hcb | hcb <;> omega)]
                  symm
                  apply List.getElem?_eq_none
                  rcases hcb with hcb | hcb <;> omega
            rw [e1, hc1]
            exact ((h3.drop o).take n).append hv
          · intro h; cases h
          · rcases h6 with h6 | h6
            · exact .inl h6
            · right; show bi.avail - o = 0; omega
        have hpost : Post ρ st w (ρ.with st.next ⟨bi.blk, bi.base + o, bi.avail - o, bi.size⟩)
            { heap := (st.heap.put i .dead).put st.next (.rw (.cells ⟨old ++ vs⟩ e (1, 0))), next := st.next + 1 }
            (World.row w bi.blk (c'.take (bi.base + o + n) ++ vs' ++ c'.drop (bi.base + o + n + vs'.length)) e (lo', hi')) := by
          have hle : ρ.le (ρ.with st.next ⟨bi.blk, bi.base + o, bi.avail - o, bi.size⟩) := Rho.le_with _ hnext
          refine ⟨fun j hj => Rho.with_other _ (by omega), ⟨⟨?_, ?_, ?_, ?_⟩, ?_, ?_⟩, ⟨rfl, rfl, rfl, by simp [World.row], ?_⟩, ?_, Nat.le_succ _, ?_, ?_⟩
          · intro j x hj
            simp only [Tr.get_put] at hj
            split at hj
            · rename_i hj1; subst hj1; cases hj
              exact ⟨_, _, Rho.with_same _ _ _, row_get hblk _ _ _, hnew.mono hle⟩
            · rename_i hj1
              split at hj
              · cases hj
              · rename_i hj2
                obtain ⟨d, x', g1, g2, g3⟩ := hs.heap.rw j x hj
                refine ⟨d, x', hle _ _ g1, ?_, g3.mono hle⟩
                rw [row_other]
                · exact g2
                · intro hh; exact hj2 (hs.heap.apart j i _ _ _ _ hj hget g1 hb hh)
          · intro j x hj
            simp only [Tr.get_put] at hj
            split at hj
            · cases hj
            · split at hj
              · cases hj
              · obtain ⟨d, x', e2, f2, g1, g2, g3⟩ := hs.heap.ro j x hj
                refine ⟨d, x', e2, f2, hle _ _ g1, ?_, g3.mono hle⟩
                rw [row_other]
                · exact g2
                · intro hh; exact hs.heap.roApart i j _ _ _ _ hget hj hb g1 hh.symm
          · intro j l x y d d' hj hl hd hd' hh
            simp only [Tr.get_put] at hj hl
            split at hj <;> split at hl
            · omega
            · rename_i h7 h8
              subst h7
              rw [Rho.with_same] at hd; cases hd
              rw [Rho.with_other _ h8] at hd'
              split at hl
              · cases hl
              · rename_i h9
                exact absurd (hs.heap.apart i l _ _ _ _ hget hl hb hd' hh) (fun q => h9 q.symm)
            · rename_i h7 h8
              subst h8
              rw [Rho.with_same] at hd'; cases hd'
              rw [Rho.with_other _ h7] at hd
              split at hj
              · cases hj
              · rename_i h9
                exact absurd (hs.heap.apart j i _ _ _ _ hj hget hd hb hh) h9
            · rename_i h7 h8
              rw [Rho.with_other _ h7] at hd
              rw [Rho.with_other _ h8] at hd'
              split at hj
              · cases hj
              · split at hl
                · cases hl
                · exact hs.heap.apart j l x y d d' hj hl hd hd' hh
          · intro j l x y d d' hj hl hd hd'
            simp only [Tr.get_put] at hj hl
            split at hl
            · cases hl
            · rename_i h8
              rw [Rho.with_other _ h8] at hd'
              split at hl
              · cases hl
              · split at hj
                · rename_i h7
                  subst h7
                  rw [Rho.with_same] at hd; cases hd
                  have := hs.heap.roApart i l _ _ bi _ hget hl hb hd'
                  exact this
                · rename_i h7
                  rw [Rho.with_other _ h7] at hd
                  split at hj
                  · cases hj
                  · exact hs.heap.roApart j l x y d d' hj hl hd hd'
          · intro j hj
            have hj : st.next + 1 ≤ j := hj
            rw [Rho.with_other _ (by omega)]; exact hs.fresh j (by omega)
          · intro j hj
            have hj : st.next + 1 ≤ j := hj
            simp only [Tr.get_put]
            rw [if_neg (by omega), if_neg]
            · exact hs.none j (by omega)
            · intro hh; subst hh; rw [hs.none j (by omega)] at hget; cases hget
          · intro j hj hno
            rw [row_other]
            intro hh; subst hh; exact hno ⟨i, _, bi, hget, hb, rfl⟩
          · intro j hj
            obtain ⟨l, x, d, g1, g2, g3⟩ := hj
            simp only [Tr.get_put] at g1
            split at g1
            · rename_i h7; subst h7
              rw [Rho.with_same] at g2; cases g2
              exact .inr ⟨i, _, bi, hget, hb, g3⟩
            · rename_i h7
              rw [Rho.with_other _ h7] at g2
              split at g1
              · cases g1
              · exact .inr ⟨l, x, d, g1, g2, g3⟩
          · intro j hj hn
            simp only [Tr.get_put]
            rw [if_neg (by omega), if_neg]
            · exact hn
            · intro hh; subst hh; rw [hn] at hget; cases hget
          · intro j c0 hc
            simp only [Tr.get_put] at hc
            split at hc
            · cases hc
            · split at hc
              · cases hc
              · exact hc
        obtain ⟨ρ', b, w', h7, h8, h9⟩ := ih _ st.next (Rho.le_with _ hnext) (Rho.with_same _ _ _) hpost.rel hr
        exact ⟨ρ', b, w', (run_bind_ok hst).trans h7, h8, hpost.trans h9⟩
      · cases hr
    · cases hr
  | growNew hb hv ha hsz _ ih =>
    rename_i ρ i o n a' bi e vs vs' rest k k' sz _
    intro st w a st' hs hr
    simp only [AS.run] at hr
    split at hr
    · rename_i c e' lo hi hspot hget
      split at hr
      · rename_i old hcut hcond
        obtain ⟨hc1, hc2⟩ := cut_eq hcut
        have hlv := hv.length
        obtain ⟨old', hold, hcell⟩ : ∃ old', VRelL ρ old old' ∧ ∀ k, k < n → w.cell? (a'.add k) = old'[k]? := by
          rcases ha with rfl | ha
          · have : old = [] := List.length_eq_zero_iff.1 hc2
            subst this
            exact ⟨[], .nil, fun k hk => by omega⟩
          · subst ha
            obtain ⟨l, g1, _, g3⟩ := cellsAt_rel (n := n) (vs := old) hs.heap (fun _ _ h => h) (AddrRel.mk (o := o) hb) (by unfold St.cellsAt; simp only [hget]; exact hcut)
            exact ⟨l, g1, g3⟩
        have hold' := hold.length
        have hld := run_loadCells (P := P) (w := w) (a' := a') (n := n) (vs := old') (by omega) hcell
        have hkill : SRel ρ { st with heap := st.heap.put i .dead } w := by
          refine ⟨hs.heap.sub fun j x hj => ?_, hs.fresh, fun j hj => ?_⟩
          · simp only [Tr.get_put] at hj
            split at hj
            · cases hj; exact ⟨fun y hy => (by cases hy), fun y hy => (by cases hy)⟩
            · exact ⟨fun y hy => hj, fun y hy => hj⟩
          · simp only [Tr.get_put]
            rw [if_neg]
            · exact hs.none j hj
            · intro hh; subst hh; rw [hs.none _ hj] at hget; cases hget
        have hpost0 : Post ρ st w ρ { st with heap := st.heap.put i .dead } w := by
          refine ⟨fun _ _ => rfl, hkill, Kept.refl _ _ _, fun k hk => ?_, Nat.le_refl _, fun j hj hn => ?_, fun j c hc => by
            simp only [Tr.get_put] at hc
            split at hc
            · cases hc
            · exact hc⟩
          · obtain ⟨l, x, d, g1, g2, g3⟩ := hk
            simp only [Tr.get_put] at g1
            split at g1
            · cases g1
            · exact .inr ⟨l, x, d, g1, g2, g3⟩
          · simp only [Tr.get_put]
            rw [if_neg]
            · exact hn
            · intro hh; subst hh; rw [hn] at hget; cases hget
        have hpost1 := Post.new (b := ⟨w.heap.size, 0, n + vs.length + rest.length, sz⟩) (o := .cells ⟨old ++ vs⟩ e (1, 0)) (o' := .cells ((⟨old'⟩ : Array Value) ++ ⟨vs'⟩ ++ ⟨rest⟩) e) hkill rfl (by
          have e2 : ((⟨old'⟩ : Array Value) ++ ⟨vs'⟩ ++ ⟨rest⟩) = ⟨old' ++ vs' ++ rest⟩ := by simp
          rw [e2]
          refine .cells (by simp; omega) (by simp; omega) ?_ (fun _ x _ _ h => by omega) (fun _ => rfl) (.inl hsz)
          have e3 : ((old' ++ vs' ++ rest).drop 0).take (old ++ vs).length = old' ++ vs' := by
            rw [List.drop_zero, List.take_append_of_le_length (by simp; omega), List.take_of_length_le (by simp; omega)]
          rw [e3]
          exact hold.append hv) w.drawn
        obtain ⟨ρ', b, w', h7, h8, h9⟩ := ih _ st.next w.heap.size (Rho.le_with _ (hs.fresh _ (Nat.le_refl _))) (Rho.with_same _ _ _) hpost1.rel hr
        exact ⟨ρ', b, w', (run_bind_ok hld).trans (by simp only [Sem.run]; exact h7), h8, hpost0.trans (hpost1.trans h9)⟩
      · cases hr
    · cases hr
end

end Go.Bel

/-
  The abstract machine: its values, its heaps, what they stand for, and that any drawn order of operations ends as the order of the text. Conditions: none.
-/
import GoSem.Dispatch
import GoSem.Machine.Return
import Derived.Control
import Derived.Orders
import Derived.Laws.Sem
import Derived.CheckFast
import Derived.Laws.Cells
import Derived.Laws.IdiomCopy
import Derived.Laws.Entries
import Derived.Laws.NewFold
import Derived.Below
import Derived.Deep.Draws

set_option linter.all false
set_option linter.unnecessarySimpa false

/- An abstract machine over the model's own code: values without addresses, rows and boxes of the running call under fixed keys, one order of evaluation. Definitions alone. -/
namespace Go.Proofs.YtlhfgonjcpapnaaGreatDoor.Abs
open Go

/-- Values that nobody writes any more: by what they hold. -/
inductive PV where
  | lit (v : Value)
  | sl (k : Nat) (nl full : Bool) (xs : List PV)
  | ptr (root : PV) (off : Nat)
  | agg (cells : List PV)
  | tup (vs : List PV)
  | iface (t : TypeId) (v : PV)
  | clo (f : Fn) (first captured : List PV)
  deriving Inhabited

/-- Values of a running call: with references to its own rows and boxes. -/
inductive AV where
  | pv (p : PV)
  | mptr (d s g i off : Nat)
  | msl (d s g off n : Nat) (full : Bool)
  | agg (cells : List AV)
  | tup (vs : List AV)
  | clo (f : Fn) (first captured : List AV)
  | yld (d s g : Nat)
  deriving Inhabited

inductive AExit where
  | normal
  | exit (id : Nat)
  | goto (l : Nat)
  | ret
  deriving DecidableEq, Inhabited
/-- the record of a range over a function -/
inductive LpSt where
  | ready
  | busy
  | done (x : AExit)
  deriving DecidableEq, Inhabited

inductive Body where
  | dead
  | box (v : AV) (fz : Bool)
  | row (k : Nat) (e : TypeId) (xs : List PV) (fz : Bool)
  | iter (s : ByteArray) (pos : Nat)
  | lp (st : LpSt)
  deriving Inhabited

structure Row where
  g : Nat
  b : Body
  deriving Inhabited

abbrev Heap := List (List Row)

def putL {α : Type} (z : α) : List α → Nat → α → List α
  | [], 0, v => [v]
  | [], n + 1, v => z :: putL z [] n v
  | _ :: l, 0, v => v :: l
  | x :: l, n + 1, v => x :: putL z l n v

def row0 : Row := ⟨0, .dead⟩
def hget (h : Heap) (d s : Nat) : Row := (h.getD d []).getD s row0
def hput (h : Heap) (d s : Nat) (r : Row) : Heap := putL [] h d (putL row0 (h.getD d []) s r)
def live (h : Heap) (d s g : Nat) : Body := if (hget h d s).g = g then (hget h d s).b else .dead

structure St where
  t : List AV
  h : Heap
  g : Nat

def ofVal1 : Value → PV
  | .slice none n c => if n = 0 ∧ c = 0 then .sl 0 true true [] else .lit (.slice none n c)
  | .func f a b => if a.size = 0 ∧ b.size = 0 then .clo f [] [] else .lit (.func f a b)
  | v => .lit v
def ofVal : Value → PV
  | .agg cs => if cs.toList.all (·.oneCell') then .agg (cs.toList.map ofVal1) else .lit (.agg cs)
  | v => ofVal1 v

def undefA : AV := .pv (.lit undef)
def getT (t : List AV) (i : Nat) : AV := t.getD i undefA
def putT (t : List AV) (i : Nat) (v : AV) : List AV := putL undefA t i v
def putD (t : List AV) : Option Tmp → AV → List AV
  | some i, v => putT t i v
  | none, _ => t

def evalA (t : List AV) : Operand → AV
  | .tmp i => getT t i
  | .const v => .pv (ofVal v)
  | .global g => .pv (.lit (.pointer (some ⟨g, 0, none⟩)))
  | .func f => .pv (.clo (.func f) [] [])

def PV.cells : PV → List PV
  | .agg cs => cs
  | v => [v]
def AV.cells : AV → List AV
  | .pv p => p.cells.map .pv
  | .agg cs => cs
  | v => [v]
def PV.isAgg : PV → Bool
  | .agg _ => true
  | _ => false
def AV.isAgg : AV → Bool
  | .pv p => p.isAgg
  | .agg _ => true
  | _ => false

/-- may it stand in one cell, or is it a struct or an array? -/
def PV.ok : PV → Bool
  | .lit v => v.oneCell'
  | .tup _ => false
  | _ => true
def AV.ok : AV → Bool
  | .pv p => p.ok
  | .tup _ => false
  | _ => true

def allPV : List AV → Option (List PV)
  | [] => some []
  | .pv p :: l => (allPV l).map (p :: ·)
  | _ :: _ => none
def mkAgg (l : List AV) : AV := match allPV l with
  | some ps => .pv (.agg ps)
  | none => .agg l

def subP (ag : Bool) (m off : Nat) (p : PV) : Option PV :=
  if ag then (if off + m ≤ p.cells.length then some (.agg ((p.cells.drop off).take m)) else none) else p.cells[off]?
def subA (ag : Bool) (m off : Nat) : AV → Option AV
  | .pv p => (subP ag m off p).map .pv
  | v => if ag then (if off + m ≤ v.cells.length then some (mkAgg ((v.cells.drop off).take m)) else none) else v.cells[off]?

def splice {α : Type} (l : List α) (off : Nat) (new : List α) : List α := l.take off ++ new ++ l.drop (off + new.length)
/-- the value with other cells from a place on -/
def setA (v : AV) (off : Nat) (new : List AV) : Option AV :=
  if off + new.length ≤ v.cells.length then
    if v.isAgg then some (mkAgg (splice v.cells off new)) else new.head?
  else none
def setP (v : PV) (off : Nat) (new : List PV) : Option PV :=
  if off + new.length ≤ v.cells.length then
    if v.isAgg then some (.agg (splice v.cells off new)) else new.head?
  else none

/-! ### freezing: the value is read off; then the rows that it leads to are marked -/
abbrev Key := Nat × Nat
def pks (f : AV → Option (PV × List Key)) : List AV → Option (List PV × List Key)
  | [] => some ([], [])
  | v :: l => (f v).bind fun (p, k1) => (pks f l).map fun (ps, k2) => (p :: ps, k1 ++ k2)
def pk (h : Heap) : Nat → AV → Option (PV × List Key)
  | 0, _ => none
  | n + 1, v => match v with
    | .pv p => some (p, [])
    | .mptr d s g i off => match live h d s g with
      | .box v _ => if i = 0 then (pk h n v).map fun (p, ks) => (.ptr p off, (d, s) :: ks) else none
      | .row _ _ xs _ => (xs[i]?).map fun x => (.ptr x off, [(d, s)])
      | _ => none
    | .msl d s g off m full => match live h d s g with
      | .row k _ xs _ => if off + m ≤ xs.length then some (.sl k false full ((xs.drop off).take m), [(d, s)]) else none
      | _ => none
    | .agg l => (pks (pk h n) l).map fun (ps, ks) => (.agg ps, ks)
    | .tup l => (pks (pk h n) l).map fun (ps, ks) => (.tup ps, ks)
    | .clo f a b => (pks (pk h n) a).bind fun (pa, k1) => (pks (pk h n) b).map fun (pb, k2) => (.clo f pa pb, k1 ++ k2)
    | .yld .. => none
def markB : Body → Body
  | .box v _ => .box v true
  | .row k e xs _ => .row k e xs true
  | b => b
def mark (h : Heap) (k : Key) : Heap := hput h k.1 k.2 { (hget h k.1 k.2) with b := markB (hget h k.1 k.2).b }
def marks (ks : List Key) (h : Heap) : Heap := ks.foldl mark h
def frz (n : Nat) (v : AV) (h : Heap) : Option (PV × Heap) := (pk h n v).map fun (p, ks) => (p, marks ks h)
def frzs (n : Nat) (l : List AV) (h : Heap) : Option (List PV × Heap) := (pks (pk h n) l).map fun (ps, ks) => (ps, marks ks h)
def frzDepth : Nat := 8

/-! ### the model's own operations at values without addresses -/
def pureRun {α : Type} (P : Program) : Sem α → Option α
  | .pure a => some a
  | .program k => pureRun P (k P)
  | .mark _ k => pureRun P k
  | _ => none

def toVal1 : PV → Option Value
  | .lit v => some v
  | .sl _ true _ _ => some (.slice none 0 0)
  | .iface t (.lit v) => some (.iface t v)
  | _ => none
def toVals : List PV → Option (List Value)
  | [] => some []
  | p :: l => (toVal1 p).bind fun v => (toVals l).map (v :: ·)
def toVal : PV → Option Value
  | .agg cs => (toVals cs).map fun l => .agg l.toArray
  | p => toVal1 p
def valA : AV → Option Value
  | .pv p => toVal p
  | _ => none
def litA (v : Value) : AV := .pv (.lit v)

/-- a value that is not nil beside nil -/
def nilBeside : TypeDesc → AV → AV → Bool
  | .slice _, .msl .., .pv (.sl _ true _ _) => true
  | .slice _, .pv (.sl _ false _ _), .pv (.sl _ true _ _) => true
  | .pointer _, .mptr .., .pv (.lit (.pointer none)) => true
  | .pointer _, .pv (.ptr ..), .pv (.lit (.pointer none)) => true
  | .interface _, .pv (.iface ..), .pv (.lit .nilIface) => true
  | .func .., .pv (.clo ..), .pv (.lit .nilFunc) => true
  | .func .., .clo .., .pv (.lit .nilFunc) => true
  | _, _, _ => false

def abin (P : Program) (op : BinOp) (t : TypeId) (xo yo : Operand) (x y : AV) : Option AV :=
  match valA x, valA y with
  | some a, some b => (pureRun P (do eqGuard op t xo yo a b; binOp op t a b)).map litA
  | _, _ => match P.underlying t, op with
    | some d, .eql => if nilBeside d x y then some (litA (.bool false)) else none
    | some d, .neq => if nilBeside d x y then some (litA (.bool true)) else none
    | _, _ => none

def szOf (P : Program) (t : TypeId) : Option Nat := (P.info? t).map (·.size)
def byOf (P : Program) (t : TypeId) : Option Nat := (P.info? t).map (·.bytes)
def aggT (P : Program) (t : TypeId) : Option Bool := match P.underlying t with
  | some (.struct _) | some (.array _ _) => some true
  | some _ => some false
  | none => none
def zeroOf (P : Program) (t : TypeId) : Option Value := (P.info? t).bind (·.zero)

def fillA (place : Nat → Option (Nat × Nat)) : List AV → List (Nat × AV) → Option (List AV)
  | cells, [] => some cells
  | cells, (i, v) :: rest => match place i with
    | none => none
    | some (off, size) => if v.cells.length = size ∧ off + size ≤ cells.length ∧ v.ok = true then fillA place (splice cells off v.cells) rest else none

def places (P : Program) (fields : Array Field) : Option (List (Nat × Nat)) :=
  fields.toList.mapM fun f => (szOf P f.type).map fun n => (f.offset, n)

def bytesPV (s : ByteArray) : List PV := s.data.toList.map fun b => .lit (.int .u8 b.toNat)
def pvBytes : List PV → Option (List UInt8)
  | [] => some []
  | .lit (.int .u8 n) :: l => (pvBytes l).map (UInt8.ofNat n.toNat :: ·)
  | _ :: _ => none

/-- the elements of what is appended or copied -/
def elemsOf (size : Nat) (h : Heap) : AV → Option (List PV)
  | .pv (.sl k nl _ ys) => if nl = true then (if ys.length = 0 then some [] else none) else if k = size then some ys else none
  | .pv (.lit (.string s)) => if size = 1 then some (bytesPV s) else none
  | .msl d s g off n _ => match live h d s g with
    | .row k _ xs _ => if k = size ∧ off + n ≤ xs.length then some ((xs.drop off).take n) else none
    | _ => none
  | _ => none

def slicey : AV → Bool
  | .pv (.sl ..) | .msl .. => true
  | _ => false
def room47 : Nat := 140737488355328
def maxInt : Nat := 9223372036854775807
def fitsRow (n bytes : Nat) : Bool := decide (n * bytes ≤ room47) && decide (n ≤ maxInt)

def aappend (e size bytes d slot gen : Nat) (h : Heap) (tgt : AV) (ys : List PV) : Option (AV × Heap) :=
  match tgt with
  | .pv (.sl k nl full xs) =>
    if ys.isEmpty then some (tgt, h)
    else if nl then (if xs.length = 0 ∧ fitsRow ys.length bytes = true then some (.msl d slot gen 0 ys.length false, hput h d slot ⟨gen, .row size e ys false⟩) else none)
    else if full = true ∧ k = size ∧ fitsRow (xs.length + ys.length) bytes = true then
      some (.msl d slot gen 0 (xs.length + ys.length) false, hput h d slot ⟨gen, .row size e (xs ++ ys) false⟩)
    else none
  | .msl d' s' g' off n full => match live h d' s' g' with
    | .row k e' xs fz =>
      if full then
        if ys.isEmpty then some (tgt, h)
        else if k = size ∧ off + n ≤ xs.length ∧ fitsRow (n + ys.length) bytes = true then
          some (.msl d slot gen 0 (n + ys.length) false, hput h d slot ⟨gen, .row size e ((xs.drop off).take n ++ ys) false⟩)
        else none
      else if fz = false ∧ k = size ∧ e' = e ∧ off + n = xs.length ∧ fitsRow (n + ys.length) bytes = true then
        some (.msl d' s' gen 0 (n + ys.length) false, hput h d' s' ⟨gen, .row size e (xs.drop off ++ ys) false⟩)
      else none
    | _ => none
  | _ => none

def intOf? : AV → Option Int
  | .pv (.lit (.int _ i)) => some i
  | _ => none
def natIn (v : Option AV) (dflt top : Nat) : Option Nat := match v with
  | none => some dflt
  | some a => (intOf? a).bind fun i => if 0 ≤ i ∧ i ≤ top then some i.toNat else none

/-- the bounds l, h, m of a slice expression over a slice whose length is n: beyond n it is not asked -/
def bounds (n : Nat) (lo hi mx : Option AV) : Option (Nat × Nat × Option Nat) :=
  (match mx with
    | none => some none
    | some _ => (natIn mx n n).map some).bind fun m =>
  (natIn hi n (m.getD n)).bind fun r =>
  (natIn lo 0 r).bind fun l =>
  if (mx.isSome && hi.isNone) = true then none else some (l, r, m)

def aslice (P : Program) (t : TypeId) (h : Heap) (x : AV) (lo hi mx : Option AV) : Option AV :=
  match P.underlying t, x with
  | some .string, .pv (.lit (.string s)) => do
    let (l, r, m) ← bounds s.size lo hi mx
    if m.isSome then none else some (litA (.string (s.extract l r)))
  | some (.slice e), .pv (.sl k nl full xs) => do
    let (l, r, m) ← bounds xs.length lo hi mx
    let size ← szOf P e
    if nl = true ∨ k = size then
      some (.pv (.sl k nl (match m with | some m => m == r | none => full && r == xs.length) ((xs.drop l).take (r - l))))
    else none
  | some (.slice e), .msl d s g off n full => do
    let (l, r, m) ← bounds n lo hi mx
    let size ← szOf P e
    match live h d s g with
    | .row k _ _ _ => if k = size then some (.msl d s g (off + l) (r - l) (match m with | some m => m == r | none => full && r == n)) else none
    | _ => none
  | some (.array n e), .mptr d s g i off => do
    let (l, r, m) ← bounds n lo hi mx
    let size ← szOf P e
    match live h d s g with
    | .box v _ => if i = 0 ∧ size = 1 ∧ off + n ≤ v.cells.length then some (.msl d s g (off + l) (r - l) (m.getD n == r)) else none
    | _ => none
  | _, _ => none

def afield (fields : Array Field) (P : Program) (f : Nat) : Option Nat := (fields[f]?).bind fun fd => (szOf P fd.type).bind fun n => if n = 0 then none else some fd.offset

def appendable (P : Program) (t : TypeId) : Bool := match P.underlying t with
  | some (.slice _) | some .string => true
  | _ => false
def litInt (n : Nat) : AV := litA (.int .i64 n)

def abuiltin (P : Program) (b : Builtin) (argTypes : Array TypeId) (type : TypeId) (d slot gen : Nat) (h : Heap) (args : List AV) : Option (AV × Heap) :=
  match b, args with
  | .len, [x] => match (argTypes[0]?).bind P.underlying, x with
    | some (.slice _), .pv (.sl _ _ _ xs) => some (litInt xs.length, h)
    | some (.slice _), .msl _ _ _ _ n _ => some (litInt n, h)
    | some .string, .pv (.lit (.string s)) => some (litInt s.size, h)
    | some (.array n _), _ => some (litInt n, h)
    | _, _ => none
  | .cap, [x] => match (argTypes[0]?).bind P.underlying, x with
    | some (.slice _), .pv (.sl _ nl true xs) => if nl = false ∨ xs.length = 0 then some (litInt xs.length, h) else none
    | some (.slice _), .msl _ _ _ _ n true => some (litInt n, h)
    | _, _ => none
  | .append, [x, y] => match argTypes.toList with
    | [t0, t1] => match P.underlying t0, appendable P t1 with
      | some (.slice e), true => do
        let size ← szOf P e
        let bytes ← byOf P e
        let z ← zeroOf P e
        let ys ← elemsOf size h y
        if size = 0 ∨ z.cells.size ≠ size then none else aappend e size bytes d slot gen h x ys
      | _, _ => none
    | _ => none
  | .clear, [x] => match (argTypes[0]?).bind P.underlying, x with
    | some (.slice e), .msl d s g off n _ => (zeroOf P e).bind fun z => match live h d s g with
      | .box v false => if n ≠ 0 ∧ (ofVal z).ok = true ∧ (ofVal z).isAgg = false then
          (setA v off (List.replicate n (.pv (ofVal z)))).map fun v' => (undefA, hput h d s ⟨g, .box v' false⟩)
        else if n = 0 then some (undefA, h) else none
      | .row k e' xs false => if n = 0 then some (undefA, h) else
          if (ofVal z).ok = true ∧ (ofVal z).cells.length = k ∧ k ≠ 0 ∧ off + n ≤ xs.length then some (undefA, hput h d s ⟨g, .row k e' (splice xs off (List.replicate n (ofVal z))) false⟩) else none
      | _ => none
    | _, _ => none
  | .max, _ => ((allPV args).bind toVals).bind fun vs => (pureRun P (Builtin.max_ argTypes type vs.toArray)).map fun v => (litA v, h)
  | .min, _ => ((allPV args).bind toVals).bind fun vs => (pureRun P (Builtin.min_ argTypes type vs.toArray)).map fun v => (litA v, h)
  | _, _ => none

/-- one operation that is no call of a function: what it gives, and the heap behind it -/
def aop (P : Program) (o : Oper) (ρ : Operand → AV) (d gen : Nat) (h : Heap) : Option (AV × Heap) :=
  match o.op with
  | .move x | .assign x => some (ρ x, h)
  | .pick c a b => match ρ c with
    | .pv (.lit (.bool t)) => some (if t then ρ a else ρ b, h)
    | _ => none
  | .alloc e => do
    let z ← zeroOf P e
    let s ← o.dst
    if (ofVal z).ok then some (.mptr d s gen 0 0, hput h d s ⟨gen, .box (.pv (ofVal z)) false⟩) else none
  | .box _ x => do
    let s ← o.dst
    if (ρ x).ok then some (.mptr d s gen 0 0, hput h d s ⟨gen, .box (ρ x) false⟩) else none
  | .build t parts => do
    let z ← zeroOf P t
    let cells := (ofVal z).cells.map AV.pv
    if (ofVal z).ok then match P.underlying t with
    | some (.struct fields) => do
      let pl ← places P fields
      let cs ← fillA (pl[·]?) cells (parts.toList.map fun (i, x) => (i, ρ x))
      some (mkAgg cs, h)
    | some (.array _ e) => do
      let size ← szOf P e
      let cs ← fillA (fun i => some (i * size, size)) cells (parts.toList.map fun (i, x) => (i, ρ x))
      some (mkAgg cs, h)
    | _ => none
    else none
  | .buildSlice t len parts => match P.underlying t with
    | some (.slice e) => do
      let size ← szOf P e
      if len = 0 ∧ parts.size = 0 then some (.pv (.sl size false true []), h) else do
      let z ← zeroOf P e
      let s ← o.dst
      if len * size ≤ 16777216 ∧ len * size ≠ 0 ∧ (ofVal z).cells.length = size ∧ (ofVal z).ok = true then do
        let (ps, h1) ← frzs frzDepth (parts.toList.map fun q => ρ q.2) h
        if (ps.all fun p => p.cells.length == size && p.ok) && (parts.toList.all fun q => decide (q.1 < len)) then
          let xs := ((parts.toList.map (·.1)).zip ps).foldl (fun l q => l.set q.1 q.2) (List.replicate len (ofVal z))
          some (.msl d s gen 0 len true, hput h1 d s ⟨gen, .row size e xs false⟩)
        else none
      else none
    | _ => none
  | .load t a => do
    let m ← szOf P t
    let ag ← aggT P t
    match ρ a with
    | .mptr d s g i off => match live h d s g with
      | .box v _ => if i = 0 then (subA ag m off v).map (·, h) else none
      | .row _ _ xs _ => (xs[i]?).bind fun x => (subP ag m off x).map fun p => (.pv p, h)
      | _ => none
    | .pv (.ptr root off) => (subP ag m off root).map fun p => (.pv p, h)
    | _ => none
  | .store t a x => do
    let m ← szOf P t
    if (ρ x).cells.length = m ∧ m ≠ 0 ∧ (ρ x).ok = true then
      match ρ a with
      | .mptr d s g i off => match live h d s g with
        | .box v false => if i = 0 then (setA v off (ρ x).cells).map fun v' => (undefA, hput h d s ⟨g, .box v' false⟩) else none
        | .row _ _ _ false => (frz frzDepth (ρ x) h).bind fun (p, h1) => match live h1 d s g with
          | .row k e xs false => (xs[i]?).bind fun y => if off + p.cells.length ≤ y.cells.length then (setP y off p.cells).map fun y' => (undefA, hput h1 d s ⟨g, .row k e (xs.set i y') false⟩) else none
          | _ => none
        | _ => none
      | _ => none
    else none
  | .nilCheck x => match ρ x with
    | .mptr d s g i off => some (.mptr d s g i off, h)
    | .pv (.ptr r off) => some (.pv (.ptr r off), h)
    | .pv (.clo (.func f) a b) => some (.pv (.clo (.func f) a b), h)
    | .clo (.func f) a b => some (.clo (.func f) a b, h)
    | _ => none
  | .binOp op t x y _ => (abin P op t x y (ρ x) (ρ y)).map (·, h)
  | .unOp op _ x => (valA (ρ x)).bind fun v => (pureRun P (Op.unary op v)).map fun r => (litA r, h)
  | .convert src dst x => match P.underlying src, P.underlying dst, ρ x with
    | some .string, some (.slice e), .pv (.lit (.string s)) => match P.underlying e, o.dst with
      | some (.int .u8), some sl => if s.size ≤ maxInt then some (.msl d sl gen 0 s.size false, hput h d sl ⟨gen, .row 1 e (bytesPV s) false⟩) else none
      | _, _ => none
    | some (.slice e), some .string, x => match P.underlying e with
      | some (.int .u8) => if slicey x then (elemsOf 1 h x).bind fun l => (pvBytes l).map fun bs => (litA (.string ⟨bs.toArray⟩), h) else none
      | _ => none
    | _, _, x => (valA x).bind fun v => (pureRun P (convert src dst v)).map fun r => (litA r, h)
  | .makeInterface t x => match P.underlying t with
    | some (.interface _) | none => none
    | some _ => (frz frzDepth (ρ x) h).map fun (p, h1) => (.pv (.iface t p), h1)
  | .makeFunc fn first captured => match allPV (first.toList.map ρ), allPV (captured.toList.map ρ) with
    | some a, some b => some (.pv (.clo fn a b), h)
    | _, _ => some (.clo fn (first.toList.map ρ) (captured.toList.map ρ), h)
  | .makeSlice t l c => match P.underlying t with
    | some (.slice e) => do
      let size ← szOf P e
      let bytes ← byOf P e
      let z ← zeroOf P e
      let s ← o.dst
      let l ← intOf? (ρ l)
      let c ← intOf? (ρ c)
      if 0 ≤ l ∧ l ≤ c ∧ fitsRow c.toNat bytes = true ∧ size ≠ 0 ∧ (ofVal z).cells.length = size ∧ (ofVal z).ok = true then
        some (.msl d s gen 0 l.toNat (decide (l = c)), hput h d s ⟨gen, .row size e (List.replicate l.toNat (ofVal z)) false⟩)
      else none
    | _ => none
  | .slice t x lo hi mx => (aslice P t h (ρ x) (lo.map ρ) (hi.map ρ) (mx.map ρ)).map (·, h)
  | .fieldAddr st x f => match P.underlying st with
    | some (.struct fields) => (afield fields P f).bind fun off => match ρ x with
      | .mptr d s g i o => some (.mptr d s g i (o + off), h)
      | .pv (.ptr r o) => some (.pv (.ptr r (o + off)), h)
      | _ => none
    | _ => none
  | .indexAddr t x ix => (intOf? (ρ ix)).bind fun i => match P.underlying t, ρ x with
    | some (.slice e), .pv (.sl k nl _ xs) => (szOf P e).bind fun size => if 0 ≤ i ∧ nl = false ∧ k = size then (xs[i.toNat]?).map fun y => (.pv (.ptr y 0), h) else none
    | some (.slice e), .msl d s g off n _ => (szOf P e).bind fun size => match live h d s g with
      | .row k _ _ _ => if 0 ≤ i ∧ i < n ∧ k = size then some (.mptr d s g (off + i.toNat) 0, h) else none
      | _ => none
    | some (.array n e), .mptr d s g j o => (szOf P e).bind fun size => if 0 ≤ i ∧ i < n then some (.mptr d s g j (o + i.toNat * size), h) else none
    | some (.array n e), .pv (.ptr r o) => (szOf P e).bind fun size => if 0 ≤ i ∧ i < n then some (.pv (.ptr r (o + i.toNat * size)), h) else none
    | _, _ => none
  | .index t x ix => match P.underlying t, ρ x, ρ ix with
    | some .string, .pv (.lit (.string s)), .pv (.lit (.int _ i)) => if h0 : 0 ≤ i ∧ i.toNat < s.size then some (litA (.int .u8 (s[i.toNat]'h0.2).toNat), h) else none
    | some (.array n e), v, .pv (.lit (.int _ i)) => if 0 ≤ i ∧ i < n then (szOf P e).bind fun size => (aggT P e).bind fun ag => if v.isAgg then (subA ag size (i.toNat * size) v).map (·, h) else none else none
    | _, _, _ => none
  | .field t x f => match P.underlying t with
    | some (.struct fields) => (fields[f]?).bind fun fd => (szOf P fd.type).bind fun size => (aggT P fd.type).bind fun ag => if (ρ x).isAgg then (subA ag size fd.offset (ρ x)).map (·, h) else none
    | _ => none
  | .extract x i => match ρ x with
    | .pv (.tup vs) => (vs[i]?).map fun p => (.pv p, h)
    | .tup vs => (vs[i]?).map (·, h)
    | _ => none
  | .range t x => match P.underlying t, ρ x, o.dst with
    | some .string, .pv (.lit (.string s)), some sl => some (.mptr d sl gen 0 0, hput h d sl ⟨gen, .iter s 0⟩)
    | _, _, _ => none
  | .next it true => match ρ it with
    | .mptr d s g 0 0 => match live h d s g with
      | .iter b pos => if pos < b.size then
          some (.pv (.tup [.lit (.bool true), .lit (.int .i64 pos), .lit (.int .i32 (Utf8.decode b pos).1)]), hput h d s ⟨g, .iter b (pos + (Utf8.decode b pos).2)⟩)
        else some (.pv (.tup [.lit (.bool false)]), h)
      | _ => none
    | _ => none
  | .call { callee := .builtin b, args, argTypes } => abuiltin P b argTypes o.type d (o.dst.getD 0) gen h (args.toList.map ρ)
  | _ => none

/-! ### calls and code -/
/-- what runs beside the program's text: functions that are known by a contract, called in the caller's heap, that hand over a row of their own; functions whose code was checked; what package-level variables hold -/
structure Env where
  P : Program
  intr : FuncId → Option (List PV → Option PV)
  inl : FuncId → Bool
  own : FuncId → Bool
  /-- of those in the caller's heap: which are given what they need of it under names of their own -/
  can : FuncId → Bool
  /-- which only read what pointers lead them to: they are given it as values -/
  rd : FuncId → Bool
  ok : FuncId → Bool
  /-- what is known of package-level variables, kept by whatever keeps the blocks that nobody writes -/
  gl : (Nat → Prop) → World → Prop
  glm : ∀ (I I' : Nat → Prop) (w w' : World), gl I w → (∀ b, I b → I' b) → (∀ b, I b → w'.heap[b]? = w.heap[b]?) → gl I' w'

/-- a round of a range over a function: does it go on? -/
abbrev Handler := List AV → Heap → Nat → Option (Bool × Heap × Nat)
abbrev Ys := List (Nat × Handler)
def Ys.get? : Ys → Nat → Option Handler
  | [], _ => none
  | (k, x) :: l, g => if k = g then some x else Ys.get? l g
/-- where a result that is a row of the callee's is laid in the caller's heap: depth, slot, gen -/
abbrev CallFn := Ys → FuncId → List AV → Nat → Nat → Nat → Heap → Nat → Option (AV × Heap × Nat)

def hasMut : Nat → AV → Bool
  | 0, _ => true
  | n + 1, v => match v with
    | .pv _ | .msl .. => false
    | .mptr .. | .yld .. => true
    | .agg l | .tup l => l.any (hasMut n)
    | .clo _ a b => a.any (hasMut n) || b.any (hasMut n)

/-- does a value lead to a row of depth dc or deeper? -/
def leads : Nat → Nat → AV → Bool
  | 0, _, _ => true
  | n + 1, dc, v => match v with
    | .pv _ => false
    | .msl d .. | .mptr d .. | .yld d .. => decide (dc ≤ d)
    | .agg l | .tup l => l.any (leads n dc)
    | .clo _ a b => a.any (leads n dc) || b.any (leads n dc)

def calleeOf : AV → Option (FuncId × List AV × List AV)
  | .pv (.clo (.func f) a b) => some (f, a.map .pv, b.map .pv)
  | .clo (.func f) a b => some (f, a, b)
  | _ => none

/-- what an operation does with the heap: nothing; it reads; it reads and marks; it lays a new box; anything -/
inductive Cls where
  | pu | rd | fz | al | eff
  deriving DecidableEq, Inhabited
def ptrParam (P : Program) (f : FuncId) : Bool := match P.funcs[f]? with
  | some fn => fn.params.any fun t => match P.underlying t with
    | some (.pointer _) | some (.func ..) => true
    | _ => false
  | none => true
def isSlice (P : Program) (t : TypeId) : Bool := match P.underlying t with
  | some (.slice _) => true
  | _ => false
def deadK (h : Heap) (d : Nat) : Option Tmp → Bool
  | some s => match (hget h d s).b with
    | .dead => true
    | _ => false
  | none => false
def clsOp (E : Env) (o : Oper) : Cls := match o.op with
  | .convert src dst _ => if isSlice E.P src || isSlice E.P dst then .eff else .pu
  | .move _ | .assign _ | .pick .. | .nilCheck _ | .binOp .. | .unOp .. | .makeFunc .. | .fieldAddr .. | .extract .. | .build .. | .field .. | .index .. => .pu
  | .load .. | .indexAddr .. | .slice .. => .rd
  | .makeInterface .. => .fz
  | .alloc _ | .box .. => .al
  | .call { callee := .builtin .len, .. } | .call { callee := .builtin .cap, .. } | .call { callee := .builtin .max, .. } | .call { callee := .builtin .min, .. } => .pu
  | .call { callee := .value (.func f), .. } => if E.own f || E.inl f || ptrParam E.P f then .eff else .fz
  | _ => .eff

/-- st: in a region that draws its order a call that marks alone may hand over nothing that can be written, and a new box lies where nothing lies -/
def stepV (E : Env) (call : CallFn) (ys : Ys) (st : Bool) (d gen : Nat) (o : Oper) (ρ : Operand → AV) (h : Heap) (g : Nat) : Option (AV × Heap × Nat) :=
  match o.op with
  | .call { callee := .value f, args, .. } => match ρ f with
    | .yld _ _ gl => (ys.get? gl).bind fun hd => (hd (args.toList.map ρ) h g).map fun (b, h, g) => (litA (.bool b), h, g)
    | fv => (calleeOf fv).bind fun (fid, a, b) =>
      if st && (clsOp E o == .fz) && (a ++ args.toList.map ρ ++ b).any (hasMut frzDepth) then none else
      call ys fid (a ++ args.toList.map ρ ++ b) d (o.dst.getD 0) gen h g
  | _ => if st && (clsOp E o == .al) && !deadK h d o.dst then none else (aop E.P o ρ d gen h).map fun (v, h) => (v, h, g)

def boolA : AV → Option Bool
  | .pv (.lit (.bool b)) => some b
  | _ => none
def wantedA (all : Array Oper) (t : List AV) (o : Oper) : Bool := match o.guard with
  | none => true
  | some (j, want) => (((all[j]?).bind (·.dst)).bind fun i => boolA (getT t i)) == some want

def opV (E : Env) (call : CallFn) (ys : Ys) (st : Bool) (d gb : Nat) (all : Array Oper) (i : Nat) (o : Oper) (t : List AV) (h : Heap) (g : Nat) : Option (AV × Heap × Nat) :=
  if wantedA all t o then stepV E call ys st d (gb + i) o (evalA t) h g else some (undefA, h, g)
def ostep (E : Env) (call : CallFn) (ys : Ys) (st : Bool) (d gb : Nat) (all : Array Oper) (i : Nat) (o : Oper) (s : St) : Option St :=
  (opV E call ys st d gb all i o s.t s.h s.g).map fun (v, h, g) => { t := putD s.t o.dst v, h, g }

def opsF (E : Env) (call : CallFn) (ys : Ys) (st : Bool) (d gb : Nat) (all : Array Oper) : List Oper → Nat → St → Option St
  | [], _, s => some s
  | o :: os, i, s => (ostep E call ys st d gb all i o s).bind (opsF E call ys st d gb all os (i + 1))

def loopF (body : St → Option (AExit × St)) : Nat → St → Option (AExit × St)
  | 0, _ => none
  | n + 1, s => match body s with
    | some (.normal, s') => loopF body n s'
    | r => r

def killKeys (E : Env) (d : Nat) : List Oper → Heap → Heap
  | [], h => h
  | o :: os, h => killKeys E d os (match clsOp E o, o.dst with
    | .al, some s => hput h d s row0
    | _, _ => h)

def setTs : List Tmp → List AV → List AV → List AV
  | p :: ps, v :: vs, t => setTs ps vs (putT t p v)
  | _, _, t => t
/-- does the model enter it as a function with a body? -/
def enters (E : Env) (f : FuncId) : Bool := E.ok f && (E.intr f).isNone && (match E.P.funcs[f]? with
  | some fn => fn.body.isSome
  | none => false)
/-- one round: its assignments, its body -/
def roundF (assign body : St → Option (AExit × St)) (ps : Array Tmp) (t : List AV) (d slot gen : Nat) : Handler := fun args h g =>
  if args.length = ps.size then match live h d slot gen with
    | .lp .ready => match assign { t := setTs ps.toList args t, h, g } with
      | some (.normal, s1) => match live s1.h d slot gen with
        | .lp .ready => match body { s1 with h := hput s1.h d slot ⟨gen, .lp .busy⟩ } with
          | some (x, s2) => match live s2.h d slot gen with
            | .lp .busy => if x = .normal then some (true, hput s2.h d slot ⟨gen, .lp .ready⟩, s2.g) else some (false, hput s2.h d slot ⟨gen, .lp (.done x)⟩, s2.g)
            | _ => none
          | none => none
        | _ => none
      | _ => none
    | _ => none
  else none

def codeF (E : Env) (call : CallFn) (ys : Ys) (d fuel : Nat) : Code → St → Option (AExit × St)
  | .skip, s | .label _, s => some (.normal, s)
  | .ret, s => some (.ret, s)
  | .exit id, s => some (.exit id, s)
  | .goto l, s => some (.goto l, s)
  | .region _ ops draw, s =>
    (opsF E call ys draw d s.g ops ops.toList 0 { s with h := if draw then killKeys E d ops.toList s.h else s.h, g := s.g + ops.size }).map fun s' => (.normal, s')
  | .seq a b, s => match codeF E call ys d fuel a s with
    | some (.normal, s') => codeF E call ys d fuel b s'
    | r => r
  | .cond c a b, s => match boolA (evalA s.t c) with
    | some true => codeF E call ys d fuel a s
    | some false => codeF E call ys d fuel b s
    | none => none
  | .block id c, s => match codeF E call ys d fuel c s with
    | some (.exit id', s') => some (if id' = id then .normal else .exit id', s')
    | r => r
  | .loop c, s => loopF (codeF E call ys d fuel c) fuel s
  | .rangeFunc f ps assign body, s =>
    (calleeOf (evalA s.t f)).bind fun (fid, a, b) =>
      if enters E fid then
        (call ((s.g, roundF (codeF E call ys d fuel assign) (codeF E call ys d fuel body) ps s.t d (ps.getD 0 0) s.g) :: ys) fid (a ++ [.yld d (ps.getD 0 0) s.g] ++ b) d (ps.getD 0 0) (s.g + 1)
          (hput s.h d (ps.getD 0 0) ⟨s.g, .lp .ready⟩) (s.g + 2)).bind fun (_, h, g) =>
        match live h d (ps.getD 0 0) s.g with
        | .lp .ready => some (.normal, { t := s.t, h := hput h d (ps.getD 0 0) row0, g })
        | .lp (.done x) => if x = .normal then none else some (x, { t := s.t, h := hput h d (ps.getD 0 0) row0, g })
        | _ => none
      else none
  | _, _ => none

def resultF (P : Program) (h : Heap) (t : List AV) : ResultVar → Option AV
  | .tmp i => some (getT t i)
  | .cell a ty => do
    let m ← szOf P ty
    let ag ← aggT P ty
    match getT t a with
    | .mptr d s g i off => match live h d s g with
      | .box v _ => if i = 0 then subA ag m off v else none
      | _ => none
    | _ => none
def mkTup (l : List AV) : AV := match allPV l with
  | some ps => .pv (.tup ps)
  | none => .tup l
def resultsF (P : Program) (fn : Func) (h : Heap) (t : List AV) : Option AV := match fn.results.toList with
  | [r] => resultF P h t r
  | rs => (rs.mapM (resultF P h t)).map mkTup

def padT (n : Nat) (l : List AV) : List AV := l ++ List.replicate (n - l.length) undefA
def padH (n d : Nat) (h : Heap) : Heap := putL [] h d (h.getD d [] ++ List.replicate n row0)
def bodyF (E : Env) (call : CallFn) (ys : Ys) (fuel : Nat) (fn : Func) (d : Nat) (args : List AV) (h : Heap) (g : Nat) : Option (AV × Heap × Nat) :=
  fn.body.bind fun c => match codeF E call ys d fuel c { t := padT fn.ntmps args, h := padH fn.ntmps d h, g } with
    | some (.normal, s) | some (.ret, s) => (resultsF E.P fn s.h s.t).map fun v => (v, s.h, s.g)
    | _ => none

/-- a row of the callee's own is taken over -/
def adopt (dc : Nat) (hc : Heap) (v : AV) (d slot gen : Nat) (h : Heap) : Option (AV × Heap) :=
  match v with
  | .msl d' s' g' off n full => if d' = dc then match live hc d' s' g' with
      | .row k e xs fz => some (.msl d slot gen off n full, hput h d slot ⟨gen, .row k e xs fz⟩)
      | _ => none
    else none
  | _ => none

/-! ### calls that are handed rows and boxes of the caller's: under names of their own -/
abbrev K2 := Nat × Nat
def refs : Nat → AV → List (K2 × Nat)
  | 0, _ => []
  | n + 1, v => match v with
    | .pv _ | .yld .. => []
    | .mptr d s g _ _ | .msl d s g _ _ _ => [((d, s), g)]
    | .agg l | .tup l => l.flatMap (refs n)
    | .clo _ a b => a.flatMap (refs n) ++ b.flatMap (refs n)
def refsB : Body → List (K2 × Nat)
  | .box v _ => refs frzDepth v
  | _ => []
def kidx : List K2 → K2 → Option Nat
  | [], _ => none
  | k :: ks, x => if k.1 == x.1 && k.2 == x.2 then some 0 else (kidx ks x).map (· + 1)
def collect (h : Heap) : Nat → List K2 → List K2 → List K2
  | 0, _, acc => acc
  | _ + 1, [], acc => acc
  | n + 1, k :: todo, acc => if (kidx acc k).isSome then collect h n todo acc else collect h n (todo ++ (refsB (hget h k.1 k.2).b).map (·.1)) (acc ++ [k])
def renL (f : AV → Option AV) : List AV → Option (List AV)
  | [] => some []
  | v :: l => (f v).bind fun w => (renL f l).map (w :: ·)
def ren (ρ : K2 → Option (K2 × Nat)) : Nat → AV → Option AV
  | 0, _ => none
  | n + 1, v => match v with
    | .pv p => some (.pv p)
    | .mptr d s _ i off => (ρ (d, s)).map fun k => .mptr k.1.1 k.1.2 k.2 i off
    | .msl d s _ off m full => (ρ (d, s)).map fun k => .msl k.1.1 k.1.2 k.2 off m full
    | .agg l => (renL (ren ρ n) l).map .agg
    | .tup l => (renL (ren ρ n) l).map .tup
    | .clo f a b => (renL (ren ρ n) a).bind fun a' => (renL (ren ρ n) b).map fun b' => .clo f a' b'
    | .yld .. => none
def renB (ρ : K2 → Option (K2 × Nat)) : Body → Option Body
  | .box v fz => (ren ρ frzDepth v).map fun v => .box v fz
  | .row k e xs fz => some (.row k e xs fz)
  | .iter s pos => some (.iter s pos)
  | _ => none
def gensOk (h : Heap) (l : List (K2 × Nat)) : Bool := l.all fun q => q.2 == (hget h q.1.1 q.1.2).g
def nodupK : List K2 → Bool
  | [] => true
  | k :: ks => (kidx ks k).isNone && nodupK ks
def canRows (ρ : K2 → Option (K2 × Nat)) (h : Heap) : Nat → List K2 → Option (List Row)
  | _, [] => some []
  | i, k :: ks => (renB ρ (hget h k.1 k.2).b).bind fun b => (canRows ρ h (i + 1) ks).map (⟨i, b⟩ :: ·)
def nameIn (ks : List K2) (k : K2) : Option (K2 × Nat) := (kidx ks k).map fun i => ((0, i), i)
def canFuel : Nat := 64
def canKeys (h : Heap) (args : List AV) : List K2 := collect h canFuel ((args.flatMap (refs frzDepth)).map (·.1)) []
/-- what is handed over: the keys, the arguments and the rows under their own names -/
def canIn (h : Heap) (args : List AV) : Option (List K2 × List AV × List Row) :=
  if nodupK (canKeys h args) then (renL (ren (nameIn (canKeys h args)) frzDepth) args).bind fun cargs => (canRows (nameIn (canKeys h args)) h 0 (canKeys h args)).map fun rows => (canKeys h args, cargs, rows) else none
def canGens (h : Heap) (ks : List K2) (args : List AV) : Bool := gensOk h (args.flatMap (refs frzDepth)) && ks.all fun k => gensOk h (refsB (hget h k.1 k.2).b)
def nameOut (m : Nat) (k : K2) : Option (K2 × Nat) := if k.1 == 0 && decide (k.2 < m) then some (k, k.2) else none
def outRows (m : Nat) (h1 : Heap) : Nat → Nat → Option (List Row)
  | _, 0 => some []
  | i, n + 1 => (renB (nameOut m) (hget h1 0 i).b).bind fun b => (outRows m h1 (i + 1) n).map (⟨i, b⟩ :: ·)
def rowsOk (h1 : Heap) : Nat → Nat → Bool
  | _, 0 => true
  | i, n + 1 => (hget h1 0 i).g == i && (gensOk h1 (refsB (hget h1 0 i).b) && rowsOk h1 (i + 1) n)
/-- what comes back: the result, the rows -/
def canOut (m : Nat) (v : AV) (h1 : Heap) : Option (AV × List Row) := match ren (nameOut m) frzDepth v with
  | some v' => if gensOk h1 (refs frzDepth v) && rowsOk h1 0 m then (outRows m h1 0 m).map fun rs => (v', rs) else none
  | none => (frz frzDepth v h1).bind fun q => if rowsOk q.2 0 m then (outRows m q.2 0 m).map fun rs => (.pv q.1, rs) else none
def nameBack (ks : List K2) (h : Heap) (k : K2) : Option (K2 × Nat) := (ks[k.2]?).map fun q => (q, (hget h q.1 q.2).g)
def backRows (β : K2 → Option (K2 × Nat)) (h0 : Heap) : List Row → List K2 → Heap → Option Heap
  | r :: rs, k :: ks, h => (renB β r.b).bind fun b => backRows β h0 rs ks (hput h k.1 k.2 ⟨(hget h0 k.1 k.2).g, b⟩)
  | [], [], h => some h
  | _, _, _ => none
def canBack (ks : List K2) (h : Heap) (v : AV) (rows : List Row) : Option (AV × Heap) := (ren (nameBack ks h) frzDepth v).bind fun v' => (backRows (nameBack ks h) h rows ks h).map fun h' => (v', h')
def canF (E : Env) (call : CallFn) (fuel : Nat) (fn : Func) (args : List AV) (rows : List Row) : Option (AV × List Row) :=
  (bodyF E call [] fuel fn 1 args [rows, []] rows.length).bind fun q => canOut rows.length q.1 q.2.1

def callN (E : Env) : Nat → CallFn
  | 0 => fun _ _ _ _ _ _ _ _ => none
  | n + 1 => fun ys f args d slot gen h g =>
    match E.intr f with
    | some fn => (frzs frzDepth args h).bind fun (ps, h1) => (fn ps).map fun r => (.pv r, h1, g)
    | none => match E.P.funcs[f]? with
      | none => none
      | some fn =>
        if E.ok f = false then none
        else if E.inl f || (!E.rd f && args.any (hasMut frzDepth)) then
          if E.can f then
            (canIn h args).bind fun q => if canGens h q.1 args then (canF E (callN E n) n fn q.2.1 q.2.2).bind fun r => (canBack q.1 h r.1 r.2).map fun z => (z.1, z.2, g) else none
          else (bodyF E (callN E n) ys n fn h.length args (h ++ [[]]) g).bind fun (v, h1, g1) =>
            if leads frzDepth h.length v = false then some (v, h1.take h.length, g1)
            else match adopt h.length h1 v d slot gen (h1.take h.length) with
              | some (v', h2) => some (v', h2, g1)
              | none => if hasMut frzDepth v then some (v, h1, g1) else (frz frzDepth v h1).map fun (p, h2) => (.pv p, h2.take h.length, g1)
        else (frzs frzDepth args h).bind fun (ps, h1) =>
          (bodyF E (callN E n) [] n fn 0 (ps.map .pv) [[]] 0).bind fun (v, hc, _) =>
            if E.own f then match v with
              | .pv p => some (.pv p, h1, g)
              | v => (adopt 0 hc v d slot gen h1).map fun (v', h2) => (v', h2, g)
            else (frz frzDepth v hc).map fun (p, _) => (.pv p, h1, g)

/-! ### what is asked of the code, once -/
/-- may y, the later in the text, be done ahead of x? -/
def swapOk (E : Env) (ops : Array Oper) (x y : Oper) : Bool := Oper.apart ops x y && (match clsOp E x, clsOp E y with
  | .pu, _ | _, .pu => true
  | .eff, _ | _, .eff => false
  | .al, .rd | .al, .fz => false
  | _, _ => true)
def backOk (i : Nat) (o : Oper) : Bool := o.after.all fun e => !Region.binds .any e || decide (e.on < i)
def lookB (i : Nat) (acc : List Nat) (j : Nat) : Nat := if j < i then acc.getD (i - 1 - j) 0 else 0
def pairsOk (E : Env) (ops : Array Oper) (o : Oper) (v : Nat) : List Oper → Nat → Bool
  | [], _ => true
  | x :: xs, j => (v.testBit j || swapOk E ops x o) && pairsOk E ops o v xs (j + 1)
def drawGo (E : Env) (ops : Array Oper) (l : List Oper) : List Oper → Nat → List Nat → Bool
  | [], _, _ => true
  | o :: rest, i, acc => CheckFast.force (CheckFast.one (lookB i acc) o) fun v =>
    backOk i o && pairsOk E ops o v (l.take i) 0 && drawGo E ops l rest (i + 1) (v :: acc)
def drawOk (E : Env) (ops : Array Oper) : Bool := drawGo E ops ops.toList ops.toList 0 []
def dstOk (n : Nat) (o : Oper) : Bool := match o.dst with
  | some d => decide (d < n)
  | none => true
def codeWf (E : Env) (n : Nat) : Code → Bool
  | .region _ ops draw => ops.all (dstOk n) && (!draw || drawOk E ops)
  | .seq a b | .cond _ a b => codeWf E n a && codeWf E n b
  | .block _ c | .loop c => codeWf E n c
  | .rangeFunc _ ps a b => ps.all (fun p => decide (p < n)) && codeWf E n a && codeWf E n b
  | _ => true
def fnWf (E : Env) (fn : Func) : Bool := !(fn.name == "runtime.NumGoroutine") && (match fn.body with
  | some c => codeWf E fn.ntmps c
  | none => true)
end Go.Proofs.YtlhfgonjcpapnaaGreatDoor.Abs

/- How the abstract machine's values, rows and boxes stand in the model's memory, and what keeps them. -/
set_option linter.unusedVariables false
set_option linter.unusedSimpArgs false
namespace Go.Proofs.YtlhfgonjcpapnaaGreatDoor.Abs
open Go Go.RowKit

/-! ### lists that grow -/
theorem getD_putL {α : Type} (z : α) : ∀ (l : List α) (i j : Nat) (v : α), (putL z l i v).getD j z = if i = j then v else l.getD j z
  | [], 0, 0, v => by simp [putL]
  | [], 0, j + 1, v => by simp [putL]
  | [], i + 1, 0, v => by simp [putL]
  | [], i + 1, j + 1, v => by simpa [putL] using getD_putL z [] i j v
  | x :: l, 0, 0, v => by simp [putL]
  | x :: l, 0, j + 1, v => by simp [putL]
  | x :: l, i + 1, 0, v => by simp [putL]
  | x :: l, i + 1, j + 1, v => by simpa [putL] using getD_putL z l i j v
theorem length_putL {α : Type} (z : α) : ∀ (l : List α) (i : Nat) (v : α), (putL z l i v).length = max l.length (i + 1)
  | [], 0, v => by simp [putL]
  | [], i + 1, v => by simp [putL, length_putL z [] i v]
  | x :: l, 0, v => by simp [putL]
  | x :: l, i + 1, v => by simp [putL, length_putL z l i v]
theorem getT_putT (t : List AV) (i j : Nat) (v : AV) : getT (putT t i v) j = if i = j then v else getT t j := getD_putL undefA t i j v
theorem hget_hput (h : Heap) (d s d' s' : Nat) (r : Row) : hget (hput h d s r) d' s' = if d = d' ∧ s = s' then r else hget h d' s' := by
  unfold hget hput
  rw [getD_putL]
  by_cases hd : d = d'
  · subst hd
    simp only [if_true, true_and]
    rw [getD_putL]
  · simp [hd]
theorem length_hput (h : Heap) (d s : Nat) (r : Row) (hd : d < h.length) : (hput h d s r).length = h.length := by
  unfold hput
  rw [length_putL]
  omega

/-! ### values -/
/-- blocks and worlds -/
abbrev Blk := Nat → Prop

inductive PRep (I : Blk) (w : World) : PV → Value → Prop
  | lit (v : Value) : PRep I w (.lit v) v
  | nil (k : Nat) (full : Bool) : PRep I w (.sl k true full []) (.slice none 0 0)
  | emp (k : Nat) (full : Bool) (a : Addr) (cap : Nat) (hfull : full = true → cap = 0) : PRep I w (.sl k false full []) (.slice (some a) 0 cap)
  | sl (k : Nat) (full : Bool) (xs : List PV) (b o cap : Nat) (vs : Nat → Nat → Value)
      (hcap : xs.length ≤ cap) (hfull : full = true → cap = xs.length) (hI : I b) (hk : ∀ x ∈ xs, x.cells.length = k ∧ x.ok = true)
      (hc : ∀ (i : Nat) (x : PV), xs[i]? = some x → ∀ (j : Nat) (p : PV), x.cells[j]? = some p → w.cell? ⟨b, o + i * k + j, none⟩ = some (vs i j) ∧ (vs i j).oneCell' = true)
      (hr : ∀ (i : Nat) (x : PV), xs[i]? = some x → ∀ (j : Nat) (p : PV), x.cells[j]? = some p → PRep I w p (vs i j)) :
      PRep I w (.sl k false full xs) (.slice (some ⟨b, o, none⟩) xs.length cap)
  | ptr (root : PV) (off b o : Nat) (vs : Nat → Value) (hI : I b)
      (hc : ∀ (j : Nat) (p : PV), root.cells[j]? = some p → w.cell? ⟨b, o + j, none⟩ = some (vs j) ∧ (vs j).oneCell' = true)
      (hr : ∀ (j : Nat) (p : PV), root.cells[j]? = some p → PRep I w p (vs j)) :
      PRep I w (.ptr root off) (.pointer (some ⟨b, o + off, none⟩))
  | agg (cs : List PV) (vs : List Value) (hl : vs.length = cs.length) (h1 : ∀ v ∈ vs, v.oneCell' = true)
      (hr : ∀ (j : Nat) (p : PV) (v : Value), cs[j]? = some p → vs[j]? = some v → PRep I w p v) : PRep I w (.agg cs) (.agg vs.toArray)
  | tup (cs : List PV) (vs : List Value) (hl : vs.length = cs.length)
      (hr : ∀ (j : Nat) (p : PV) (v : Value), cs[j]? = some p → vs[j]? = some v → PRep I w p v) : PRep I w (.tup cs) (.tuple vs.toArray)
  | iface (t : TypeId) (p : PV) (v : Value) (h : PRep I w p v) : PRep I w (.iface t p) (.iface t v)
  | clo (f : Fn) (a b : List PV) (va vb : List Value) (hla : va.length = a.length) (hlb : vb.length = b.length)
      (hra : ∀ (j : Nat) (p : PV) (v : Value), a[j]? = some p → va[j]? = some v → PRep I w p v) (hrb : ∀ (j : Nat) (p : PV) (v : Value), b[j]? = some p → vb[j]? = some v → PRep I w p v) :
      PRep I w (.clo f a b) (.func f va.toArray vb.toArray)

/-- where the rows of a generation lie: block, first cell, cells an element -/
abbrev Sig := Nat → Option (Nat × Nat × Nat)

inductive Rep (σ : Sig) (I : Blk) (w : World) : AV → Value → Prop
  | pv (p : PV) (v : Value) (h : PRep I w p v) : Rep σ I w (.pv p) v
  | mptr (d s g i off b o k : Nat) (h : σ g = some (b, o, k)) : Rep σ I w (.mptr d s g i off) (.pointer (some ⟨b, o + i * k + off, none⟩))
  | msl (d s g off n : Nat) (full : Bool) (b o k cap ad : Nat) (had : cap ≠ 0 → ad = o + off * k) (h : σ g = some (b, o, k)) (hn : n ≤ cap) (hfull : full = true → cap = n)
      (hroom : ∃ e m, w.shape? b = some (e, m) ∧ o + (off + cap) * k ≤ m) :
      Rep σ I w (.msl d s g off n full) (.slice (some ⟨b, ad, none⟩) n cap)
  | agg (cs : List AV) (vs : List Value) (hl : vs.length = cs.length) (h1 : ∀ v ∈ vs, v.oneCell' = true)
      (hr : ∀ (j : Nat) (p : AV) (v : Value), cs[j]? = some p → vs[j]? = some v → Rep σ I w p v) : Rep σ I w (.agg cs) (.agg vs.toArray)
  | tup (cs : List AV) (vs : List Value) (hl : vs.length = cs.length)
      (hr : ∀ (j : Nat) (p : AV) (v : Value), cs[j]? = some p → vs[j]? = some v → Rep σ I w p v) : Rep σ I w (.tup cs) (.tuple vs.toArray)
  | clo (f : Fn) (a b : List AV) (va vb : List Value) (hla : va.length = a.length) (hlb : vb.length = b.length)
      (hra : ∀ (j : Nat) (p : AV) (v : Value), a[j]? = some p → va[j]? = some v → Rep σ I w p v) (hrb : ∀ (j : Nat) (p : AV) (v : Value), b[j]? = some p → vb[j]? = some v → Rep σ I w p v) :
      Rep σ I w (.clo f a b) (.func f va.toArray vb.toArray)
  | yld (d s g b o k : Nat) (h : σ g = some (b, o, k)) : Rep σ I w (.yld d s g) (.func (.yield b) #[] #[])

/-! ### what a later world keeps -/
/-- what of a loop's record never changes -/
def SameLoop (r r' : Loop) : Prop := r'.fn = r.fn ∧ r'.tmps = r.tmps ∧ r'.params = r.params ∧ r'.assign = r.assign ∧ r'.body = r.body ∧ r'.defers = r.defers
theorem SameLoop.refl (r : Loop) : SameLoop r r := ⟨rfl, rfl, rfl, rfl, rfl, rfl⟩
theorem SameLoop.trans {a b c : Loop} (h : SameLoop a b) (k : SameLoop b c) : SameLoop a c :=
  ⟨k.1.trans h.1, k.2.1.trans h.2.1, k.2.2.1.trans h.2.2.1, k.2.2.2.1.trans h.2.2.2.1, k.2.2.2.2.1.trans h.2.2.2.2.1, k.2.2.2.2.2.trans h.2.2.2.2.2⟩
structure Keep0 (I : Blk) (w w' : World) : Prop where
  keep : ∀ b, I b → w'.heap[b]? = w.heap[b]?
  shape : ∀ b e n, w.shape? b = some (e, n) → w'.shape? b = some (e, n)
structure Keep (I : Blk) (w w' : World) : Prop where
  keep : ∀ b, I b → w'.heap[b]? = w.heap[b]?
  shape : ∀ b e n, w.shape? b = some (e, n) → w'.shape? b = some (e, n)
  loop : ∀ (b : Nat) (r : Loop), w.heap[b]? = some (Obj.loop r) → ∃ r', w'.heap[b]? = some (Obj.loop r') ∧ SameLoop r r'
  dfr : ∀ (b : Nat), w.heap[b]? = some (Obj.deferred (some [])) → w'.heap[b]? = some (Obj.deferred (some []))

theorem cell_of_heap {w w' : World} {b : Nat} (h : w'.heap[b]? = w.heap[b]?) (o : Nat) (s : Option Nat) : w'.cell? ⟨b, o, s⟩ = w.cell? ⟨b, o, s⟩ := by
  simp [World.cell?, h]
theorem frozen_of_heap {w w' : World} {b : Nat} (h : w'.heap[b]? = w.heap[b]?) (o : Nat) (s : Option Nat) : w'.frozen? ⟨b, o, s⟩ = w.frozen? ⟨b, o, s⟩ := by
  simp [World.frozen?, h]
theorem Keep.zero {I : Blk} {w w' : World} (h : Keep I w w') : Keep0 I w w' := ⟨h.keep, h.shape⟩
instance {I : Blk} {w w' : World} : Coe (Keep I w w') (Keep0 I w w') := ⟨Keep.zero⟩
theorem Keep.refl (I : Blk) (w : World) : Keep I w w := ⟨fun _ _ => rfl, fun _ _ _ h => h, fun _ r h => ⟨r, h, SameLoop.refl r⟩, fun _ h => h⟩
theorem Keep.trans {I I' : Blk} {a b c : World} (hI : ∀ x, I x → I' x) (h : Keep I a b) (k : Keep I' b c) : Keep I a c :=
  ⟨fun x hx => (k.keep x (hI x hx)).trans (h.keep x hx), fun x e n hx => k.shape x e n (h.shape x e n hx),
   fun x r hx => let ⟨r1, h1, s1⟩ := h.loop x r hx; let ⟨r2, h2, s2⟩ := k.loop x r1 h1; ⟨r2, h2, s1.trans s2⟩, fun x hx => k.dfr x (h.dfr x hx)⟩

theorem PRep.mono {I I' : Blk} {w w' : World} (hI : ∀ b, I b → I' b) (hk : ∀ b, I b → w'.heap[b]? = w.heap[b]?) {p : PV} {v : Value} (h : PRep I w p v) : PRep I' w' p v := by
  induction h with
  | lit v => exact .lit v
  | nil k full => exact .nil k full
  | emp k full a cap hfull => exact .emp k full a cap hfull
  | sl k full xs b o cap vs hcap hfull hb hk' hc hr ih =>
    exact .sl k full xs b o cap vs hcap hfull (hI b hb) hk' (fun i x hx j p hp => by rw [cell_of_heap (hk b hb)]; exact hc i x hx j p hp) ih
  | ptr root off b o vs hb hc hr ih =>
    exact .ptr root off b o vs (hI b hb) (fun j p hp => by rw [cell_of_heap (hk b hb)]; exact hc j p hp) ih
  | agg cs vs hl h1 hr ih => exact .agg cs vs hl h1 ih
  | tup cs vs hl hr ih => exact .tup cs vs hl ih
  | iface t p v h ih => exact .iface t p v ih
  | clo f a b va vb hla hlb hra hrb iha ihb => exact .clo f a b va vb hla hlb iha ihb

theorem Rep.mono {σ σ' : Sig} {I I' : Blk} {w w' : World} (hσ : ∀ g x, σ g = some x → σ' g = some x) (hI : ∀ b, I b → I' b) (hk : Keep0 I w w') {p : AV} {v : Value}
    (h : Rep σ I w p v) : Rep σ' I' w' p v := by
  induction h with
  | pv p v h => exact .pv p v (h.mono hI hk.keep)
  | mptr d s g i off b o k h => exact .mptr d s g i off b o k (hσ _ _ h)
  | msl d s g off n full b o k cap ad had h hn hfull hroom =>
    obtain ⟨e, m, hs, hm⟩ := hroom
    exact .msl d s g off n full b o k cap ad had (hσ _ _ h) hn hfull ⟨e, m, hk.shape _ _ _ hs, hm⟩
  | agg cs vs hl h1 hr ih => exact .agg cs vs hl h1 ih
  | tup cs vs hl hr ih => exact .tup cs vs hl ih
  | clo f a b va vb hla hlb hra hrb iha ihb => exact .clo f a b va vb hla hlb iha ihb
  | yld d s g b o k h => exact .yld d s g b o k (hσ _ _ h)

/-! ### rows and boxes -/
def AExit.code : AExit → Code
  | .normal => .skip
  | .exit id => .exit id
  | .goto l => .goto l
  | .ret => .ret
def LpOk : LpSt → Loop → Prop
  | .ready, r => r.state = .ready ∧ r.pending = none
  | .busy, r => r.state = .busy
  | .done x, r => r.state = .done ∧ r.pending = some x.code
def Fz (I : Blk) (base : Blk) (w : World) (b n : Nat) : Bool → Prop
  | true => I b
  | false => ¬ I b ∧ ¬ base b ∧ ∀ j, j < n → w.frozen? ⟨b, j, none⟩ = false

def RowRep (σ : Sig) (I : Blk) (base : Blk) (w : World) (r : Row) : Prop := match r.b with
  | .dead => True
  | .box v fz => ∃ b e, σ r.g = some (b, 0, 1) ∧ w.shape? b = some (e, v.cells.length) ∧ v.ok = true ∧
      (∀ (j : Nat) (p : AV), v.cells[j]? = some p → ∃ u, w.cell? ⟨b, j, none⟩ = some u ∧ u.oneCell' = true ∧ Rep σ I w p u) ∧ Fz I base w b v.cells.length fz
  | .row k e xs fz => ∃ b o n, σ r.g = some (b, o, k) ∧ w.shape? b = some (e, n) ∧ o + xs.length * k ≤ n ∧ (∀ x ∈ xs, x.cells.length = k ∧ x.ok = true) ∧
      (∀ (i : Nat) (x : PV), xs[i]? = some x → ∀ (j : Nat) (p : PV), x.cells[j]? = some p → ∃ u, w.cell? ⟨b, o + i * k + j, none⟩ = some u ∧ u.oneCell' = true ∧ PRep I w p u) ∧ Fz I base w b n fz
  | .iter s pos => ∃ b k, σ r.g = some (b, 0, k) ∧ w.heap[b]? = some (.stringIter s pos) ∧ ¬ I b ∧ ¬ base b
  | .lp st => ∃ b k, σ r.g = some (b, 0, k) ∧ (∃ x, w.heap[b]? = some (Obj.loop x) ∧ LpOk st x) ∧ ¬ I b ∧ ¬ base b

/-- a block that is there and is no mark of a range over a function -/
def Solid (w : World) (b : Nat) : Prop := ∃ o, w.heap[b]? = some o ∧ o ≠ Obj.deferred (some [])
theorem Solid.lt {w : World} {b : Nat} (h : Solid w b) : b < w.heap.size := by
  obtain ⟨o, h, _⟩ := h
  exact (Array.getElem?_eq_some_iff.1 h).1
theorem Solid.keep {w w' : World} {b : Nat} (h : Solid w b) (he : w'.heap[b]? = w.heap[b]?) : Solid w' b := by
  obtain ⟨o, h, hn⟩ := h
  exact ⟨o, he.trans h, hn⟩
theorem Solid.of_shape {w : World} {b n : Nat} {e : TypeId} (h : w.shape? b = some (e, n)) : Solid w b := by
  unfold World.shape? at h
  split at h
  · rename_i hh
    exact ⟨_, hh, by simp⟩
  · cases h
theorem Solid.of_iter {w : World} {b p : Nat} {s : ByteArray} (h : w.heap[b]? = some (.stringIter s p)) : Solid w b := ⟨_, h, by simp⟩
theorem Solid.of_loop {w : World} {b : Nat} {r : Loop} (h : w.heap[b]? = some (.loop r)) : Solid w b := ⟨_, h, by simp⟩

/-- the block that a row may write -/
def blkOf (σ : Sig) (r : Row) : Option Nat := match r.b with
  | .dead | .box _ true | .row _ _ _ true => none
  | _ => (σ r.g).map (·.1)

structure HRep (σ : Sig) (I : Blk) (base : Blk) (w : World) (h : Heap) : Prop where
  rows : ∀ d s, RowRep σ I base w (hget h d s)
  apart : ∀ d s d' s' b, blkOf σ (hget h d s) = some b → blkOf σ (hget h d' s') = some b → d = d' ∧ s = s'
  inW : ∀ b, I b → Solid w b

/-- what lies below stays -/
structure Blw (B : Blk) (w w' : World) : Prop where
  os : w'.os = w.os
  tape : w'.tape = w.tape
  output : w'.output = w.output
  size : w.heap.size ≤ w'.heap.size
  block : ∀ k, B k → w'.heap[k]? = w.heap[k]?
theorem Blw.refl (B : Blk) (w : World) : Blw B w w := ⟨rfl, rfl, rfl, Nat.le_refl _, fun _ _ => rfl⟩
theorem Blw.trans {B : Blk} {a b c : World} (h : Blw B a b) (k : Blw B b c) : Blw B a c :=
  ⟨k.os.trans h.os, k.tape.trans h.tape, k.output.trans h.output, Nat.le_trans h.size k.size, fun i hi => (k.block i hi).trans (h.block i hi)⟩
def Bnd (B : Blk) (n : Nat) : Prop := ∀ b, B b → b < n
theorem Bnd.up {B : Blk} {n : Nat} (h : Bnd B n) : ¬ B n := fun hb => Nat.lt_irrefl _ (h n hb)
theorem Bnd.mono {B : Blk} {n m : Nat} (h : Bnd B n) (hn : n ≤ m) : Bnd B m := fun b hb => Nat.lt_of_lt_of_le (h b hb) hn
/-- all blocks that are there -/
def Old (w : World) : Blk := fun b => b < w.heap.size
theorem Old.bnd (w : World) : Bnd (Old w) w.heap.size := fun _ h => h
theorem Blw.of_below {B : Blk} {w w' : World} {n : Nat} (h : Below n w w') (hB : Bnd B n) : Blw B w w' := ⟨h.os, h.tape, h.output, h.size, fun k hk => h.block k (hB k hk)⟩
theorem Blw.below {w w' : World} (h : Blw (Old w) w w') : Below w.heap.size w w' := ⟨h.os, h.tape, h.output, h.size, fun k hk => h.block k hk⟩

/-- how the world and what we know of it grow -/
structure Ext (base : Blk) (σ : Sig) (I : Blk) (w : World) (σ' : Sig) (I' : Blk) (w' : World) : Prop where
  sig : ∀ g x, σ g = some x → σ' g = some x
  blk : ∀ b, I b → I' b
  new : ∀ b, I' b → I b ∨ ¬ base b
  kp : Keep I w w'
  below : Blw base w w'

theorem Ext.refl (base : Blk) (σ : Sig) (I : Blk) (w : World) : Ext base σ I w σ I w := ⟨fun _ _ h => h, fun _ h => h, fun _ h => .inl h, Keep.refl I w, Blw.refl _ _⟩
theorem Ext.trans {base : Blk} {σ σ' σ'' : Sig} {I I' I'' : Blk} {w w' w'' : World} (h : Ext base σ I w σ' I' w') (k : Ext base σ' I' w' σ'' I'' w'') : Ext base σ I w σ'' I'' w'' :=
  ⟨fun g x hx => k.sig g x (h.sig g x hx), fun b hb => k.blk b (h.blk b hb), fun b hb => (k.new b hb).elim (fun h' => h.new b h') .inr, h.kp.trans h.blk k.kp, h.below.trans k.below⟩
theorem Ext.rep {base : Blk} {σ σ' : Sig} {I I' : Blk} {w w' : World} (h : Ext base σ I w σ' I' w') {p : AV} {v : Value} (r : Rep σ I w p v) : Rep σ' I' w' p v := r.mono h.sig h.blk h.kp
end Go.Proofs.YtlhfgonjcpapnaaGreatDoor.Abs

/- What a new block, a store into a row of the call's own, a freezing do to the picture of memory. -/
set_option linter.unusedVariables false
set_option linter.unusedSimpArgs false
namespace Go.Proofs.YtlhfgonjcpapnaaGreatDoor.Abs
open Go Go.RowKit

variable {σ σ' : Sig} {I I' : Blk} {base : Blk} {w w' : World} {h : Heap}

theorem shape_of_heap {b : Nat} (e : w'.heap[b]? = w.heap[b]?) : w'.shape? b = w.shape? b := by simp [World.shape?, e]
theorem lt_of_shape {b : Nat} {x : TypeId × Nat} (e : w.shape? b = some x) : b < w.heap.size := by
  unfold World.shape? at e
  rcases Nat.lt_or_ge b w.heap.size with hlt | hge
  · exact hlt
  · rw [Array.getElem?_eq_none hge] at e; cases e
theorem lt_of_heap {b : Nat} {x : Obj} (e : w.heap[b]? = some x) : b < w.heap.size := by
  rcases Nat.lt_or_ge b w.heap.size with hlt | hge
  · exact hlt
  · rw [Array.getElem?_eq_none hge] at e; cases e
theorem cell_lt_shape {b n : Nat} {e : TypeId} (hs : w.shape? b = some (e, n)) {j : Nat} (hj : j < n) : ∃ u, w.cell? ⟨b, j, none⟩ = some u := by
  unfold World.shape? at hs
  split at hs
  · rename_i c e' fr hc
    simp only [Option.some.injEq, Prod.mk.injEq] at hs
    obtain ⟨rfl, rfl⟩ := hs
    exact ⟨c[j], by simp [World.cell?, hc, hj]⟩
  · cases hs

/-! ### the heap's reading -/
def Fr (w : World) (n : Nat) (b : Nat) : Prop := ∀ j, j < n → w.frozen? ⟨b, j, none⟩ = false

theorem Fz.mono {b n : Nat} {fz : Bool} (hz : Fz I base w b n fz) (hI : ∀ b, I b → I' b) (hh : fz = false → w'.heap[b]? = w.heap[b]? ∧ ¬ I' b) : Fz I' base w' b n fz := by
  cases fz with
  | true => exact hI b hz
  | false =>
    obtain ⟨h1, h2, h3⟩ := hz
    exact ⟨(hh rfl).2, h2, fun j hj => by rw [frozen_of_heap (hh rfl).1]; exact h3 j hj⟩

theorem RowRep.mono {r : Row} (hr : RowRep σ I base w r) (hσ : ∀ g x, σ g = some x → σ' g = some x) (hI : ∀ b, I b → I' b) (hk : Keep0 I w w')
    (hb : ∀ b, blkOf σ r = some b → w'.heap[b]? = w.heap[b]? ∧ ¬ I' b) : RowRep σ' I' base w' r := by
  obtain ⟨g, b⟩ := r
  cases b with
  | dead => trivial
  | box v fz =>
    obtain ⟨b, e, hs, hsh, hok, hc, hz⟩ := hr
    refine ⟨b, e, hσ _ _ hs, hk.shape _ _ _ hsh, hok, fun j p hp => ?_, hz.mono hI ?_⟩
    · obtain ⟨u, hu, h1, hr⟩ := hc j p hp
      refine ⟨u, ?_, h1, hr.mono hσ hI hk⟩
      cases fz with
      | true => rw [cell_of_heap (hk.keep b hz)]; exact hu
      | false => rw [cell_of_heap (hb b (by simp [blkOf, hs])).1]; exact hu
    · rintro rfl
      exact hb b (by simp [blkOf, hs])
  | row k e xs fz =>
    obtain ⟨b, o, n, hs, hsh, hn, hx, hc, hz⟩ := hr
    refine ⟨b, o, n, hσ _ _ hs, hk.shape _ _ _ hsh, hn, hx, fun i x hi j p hp => ?_, hz.mono hI ?_⟩
    · obtain ⟨u, hu, h1, hr⟩ := hc i x hi j p hp
      refine ⟨u, ?_, h1, hr.mono hI hk.keep⟩
      cases fz with
      | true => rw [cell_of_heap (hk.keep b hz)]; exact hu
      | false => rw [cell_of_heap (hb b (by simp [blkOf, hs])).1]; exact hu
    · rintro rfl
      exact hb b (by simp [blkOf, hs])
  | iter s pos =>
    obtain ⟨b, k, hs, hh, h1, h2⟩ := hr
    have := hb b (by simp [blkOf, hs])
    exact ⟨b, k, hσ _ _ hs, this.1.trans hh, this.2, h2⟩
  | lp st =>
    obtain ⟨b, k, hs, ⟨x, hh, hx⟩, h1, h2⟩ := hr
    have := hb b (by simp [blkOf, hs])
    exact ⟨b, k, hσ _ _ hs, ⟨x, this.1.trans hh, hx⟩, this.2, h2⟩

theorem blkOf_sig {r : Row} (hr : RowRep σ I base w r) (hσ : ∀ g x, σ g = some x → σ' g = some x) : blkOf σ' r = blkOf σ r := by
  obtain ⟨g, b⟩ := r
  cases b with
  | dead => rfl
  | box v fz =>
    obtain ⟨b, e, hs, _⟩ := hr
    cases fz <;> simp [blkOf, hs, hσ _ _ hs]
  | row k e xs fz =>
    obtain ⟨b, o, n, hs, _⟩ := hr
    cases fz <;> simp [blkOf, hs, hσ _ _ hs]
  | iter s pos =>
    obtain ⟨b, k, hs, _⟩ := hr
    simp [blkOf, hs, hσ _ _ hs]
  | lp st =>
    obtain ⟨b, k, hs, _⟩ := hr
    simp [blkOf, hs, hσ _ _ hs]

theorem blkOf_facts {r : Row} (hr : RowRep σ I base w r) {b : Nat} (hb : blkOf σ r = some b) : b < w.heap.size ∧ ¬ I b ∧ ¬ base b := by
  obtain ⟨g, bd⟩ := r
  cases bd with
  | dead => simp [blkOf] at hb
  | box v fz =>
    obtain ⟨b', e, hs, hsh, _, hc, hz⟩ := hr
    cases fz with
    | true => simp [blkOf] at hb
    | false =>
      simp [blkOf, hs] at hb
      subst hb
      exact ⟨lt_of_shape hsh, hz.1, hz.2.1⟩
  | row k e xs fz =>
    obtain ⟨b', o, n, hs, hsh, _, _, hc, hz⟩ := hr
    cases fz with
    | true => simp [blkOf] at hb
    | false =>
      simp [blkOf, hs] at hb
      subst hb
      exact ⟨lt_of_shape hsh, hz.1, hz.2.1⟩
  | iter s pos =>
    obtain ⟨b', k, hs, hh, h1, h2⟩ := hr
    simp [blkOf, hs] at hb
    subst hb
    exact ⟨lt_of_heap hh, h1, h2⟩
  | lp st =>
    obtain ⟨b', k, hs, ⟨x, hh, _⟩, h1, h2⟩ := hr
    simp [blkOf, hs] at hb
    subst hb
    exact ⟨lt_of_heap hh, h1, h2⟩
theorem HRep.lt (H : HRep σ I base w h) (b : Nat) (hb : I b) : b < w.heap.size := (H.inW b hb).lt
theorem Keep.inW (hk : Keep I w w') (hin : ∀ b, I b → Solid w b) : ∀ b, I b → Solid w' b := fun b hb => (hin b hb).keep (hk.keep b hb)

theorem RowRep.dead (g : Nat) : RowRep σ I base w ⟨g, .dead⟩ := trivial

/-- a row is laid at a key; of the other rows it is known that they are kept -/
theorem HRep.put (H : HRep σ I base w h) (hσ : ∀ g x, σ g = some x → σ' g = some x) (hI : ∀ b, I b → I' b) (hk : Keep0 I w w') (hin : ∀ b, I' b → Solid w' b)
    (d s : Nat) (r : Row) (hr : RowRep σ' I' base w' r)
    (hb : ∀ d' s' b, ¬ (d = d' ∧ s = s') → blkOf σ (hget h d' s') = some b → w'.heap[b]? = w.heap[b]? ∧ ¬ I' b ∧ blkOf σ' r ≠ some b) :
    HRep σ' I' base w' (hput h d s r) where
  inW := hin
  rows d' s' := by
    rw [hget_hput]
    by_cases e : d = d' ∧ s = s'
    · rw [if_pos e]; exact hr
    · rw [if_neg e]
      exact (H.rows d' s').mono hσ hI hk fun b hbb => ⟨(hb d' s' b e hbb).1, (hb d' s' b e hbb).2.1⟩
  apart d1 s1 d2 s2 b h1 h2 := by
    rw [hget_hput] at h1 h2
    by_cases e1 : d = d1 ∧ s = s1
    · rw [if_pos e1] at h1
      by_cases e2 : d = d2 ∧ s = s2
      · exact ⟨e1.1.symm.trans e2.1, e1.2.symm.trans e2.2⟩
      · rw [if_neg e2, blkOf_sig (H.rows d2 s2) hσ] at h2
        exact absurd h1 (hb d2 s2 b e2 h2).2.2
    · rw [if_neg e1, blkOf_sig (H.rows d1 s1) hσ] at h1
      by_cases e2 : d = d2 ∧ s = s2
      · rw [if_pos e2] at h2
        exact absurd h2 (hb d1 s1 b e1 h1).2.2
      · rw [if_neg e2, blkOf_sig (H.rows d2 s2) hσ] at h2
        exact H.apart d1 s1 d2 s2 b h1 h2

/-- nothing of the heap is changed -/
theorem HRep.keep (H : HRep σ I base w h) (hσ : ∀ g x, σ g = some x → σ' g = some x) (hI : ∀ b, I b → I' b) (hk : Keep0 I w w') (hin : ∀ b, I' b → Solid w' b)
    (hb : ∀ d s b, blkOf σ (hget h d s) = some b → w'.heap[b]? = w.heap[b]? ∧ ¬ I' b) : HRep σ' I' base w' h where
  inW := hin
  rows d s := (H.rows d s).mono hσ hI hk (hb d s)
  apart d1 s1 d2 s2 b h1 h2 := by
    rw [blkOf_sig (H.rows d1 s1) hσ] at h1
    rw [blkOf_sig (H.rows d2 s2) hσ] at h2
    exact H.apart d1 s1 d2 s2 b h1 h2

theorem HRep.kill (H : HRep σ I base w h) (d s : Nat) : HRep σ I base w (hput h d s row0) :=
  H.put (fun _ _ h => h) (fun _ h => h) (Keep.refl I w) H.inW d s row0 trivial fun d' s' b _ hb => ⟨rfl, (blkOf_facts (H.rows d' s') hb).2.1, by simp [blkOf, row0]⟩

/-- a row found live -/
theorem live_row {d s g : Nat} {b : Body} (hl : live h d s g = b) (hne : b ≠ .dead) : hget h d s = ⟨g, b⟩ := by
  unfold live at hl
  split at hl
  · rename_i e
    rw [← e, ← hl]
  · exact absurd hl.symm hne
theorem HRep.live (H : HRep σ I base w h) {d s g : Nat} {b : Body} (hl : Abs.live h d s g = b) (hne : b ≠ .dead) : RowRep σ I base w ⟨g, b⟩ := by
  have := H.rows d s
  rw [live_row hl hne] at this
  exact this

/-! ### a new block -/
structure Grows (w w' : World) (o : Obj) : Prop where
  heap : w'.heap = w.heap.push o
  os : w'.os = w.os
  tape : w'.tape = w.tape
  output : w'.output = w.output
theorem Grows.old {o : Obj} (hg : Grows w w' o) {b : Nat} (hb : b < w.heap.size) : w'.heap[b]? = w.heap[b]? := by
  rw [hg.heap, Array.getElem?_push]; split
  · omega
  · rfl
theorem Grows.new {o : Obj} (hg : Grows w w' o) : w'.heap[w.heap.size]? = some o := by rw [hg.heap]; simp
theorem Grows.shape {c : Array Value} {e : TypeId} {fr : Nat × Nat} (hg : Grows w w' (.cells c e fr)) : w'.shape? w.heap.size = some (e, c.size) := by unfold World.shape?; rw [hg.new]
theorem Grows.cell {c : Array Value} {e : TypeId} {fr : Nat × Nat} (hg : Grows w w' (.cells c e fr)) (j : Nat) : w'.cell? ⟨w.heap.size, j, none⟩ = c[j]? := by unfold World.cell?; simp only [hg.new]; simp
theorem Grows.frozen {c : Array Value} {e : TypeId} (hg : Grows w w' (.cells c e)) (j : Nat) : w'.frozen? ⟨w.heap.size, j, none⟩ = false := by unfold World.frozen?; simp only [hg.new]; simp
theorem Grows.size {o : Obj} (hg : Grows w w' o) : w'.heap.size = w.heap.size + 1 := by rw [hg.heap]; simp
theorem Grows.below {o : Obj} (hg : Grows w w' o) (hB : Bnd base w.heap.size) : Blw base w w' := ⟨hg.os, hg.tape, hg.output, by rw [hg.size]; omega, fun k hk => hg.old (hB k hk)⟩
theorem Grows.keep {o : Obj} (hg : Grows w w' o) (hin : ∀ b, I b → b < w.heap.size) : Keep I w w' :=
  ⟨fun b hb => hg.old (hin b hb), fun b e n hs => by rw [shape_of_heap (hg.old (lt_of_shape hs))]; exact hs,
   fun b r hr => ⟨r, by rw [hg.old (lt_of_heap hr)]; exact hr, SameLoop.refl r⟩, fun b hb => by rw [hg.old (lt_of_heap hb)]; exact hb⟩

def upd (σ : Sig) (g : Nat) (x : Nat × Nat × Nat) : Sig := fun g' => if g' = g then some x else σ g'
theorem upd_sub {g : Nat} {x : Nat × Nat × Nat} (hg : σ g = none) : ∀ g' y, σ g' = some y → upd σ g x g' = some y := fun g' y hy => by
  unfold upd
  split
  · rename_i e; subst e; rw [hg] at hy; cases hy
  · exact hy
theorem upd_same {g : Nat} {x : Nat × Nat × Nat} : upd σ g x g = some x := by simp [upd]
theorem upd_other {g g' : Nat} {x : Nat × Nat × Nat} (hne : g' ≠ g) : upd σ g x g' = σ g' := by simp [upd, hne]

theorem Ext.push {o : Obj} (H : HRep σ I base w h) (hB : Bnd base w.heap.size) {g : Nat} {x : Nat × Nat × Nat} (hg : σ g = none) (hG : Grows w w' o) : Ext base σ I w (upd σ g x) I w' :=
  ⟨upd_sub hg, fun _ h => h, fun _ h => .inl h, hG.keep H.lt, hG.below hB⟩

theorem HRep.push {o : Obj} (H : HRep σ I base w h) {g k : Nat} {off : Nat} (hg : σ g = none) (hG : Grows w w' o) (d s : Nat) {b : Body}
    (hr : RowRep (upd σ g (w.heap.size, off, k)) I base w' ⟨g, b⟩) : HRep (upd σ g (w.heap.size, off, k)) I base w' (hput h d s ⟨g, b⟩) := by
  refine H.put (upd_sub hg) (fun _ h => h) (hG.keep H.lt) ((hG.keep H.lt).inW H.inW) d s _ hr ?_
  intro d' s' b' _ hb'
  have hf := blkOf_facts (H.rows d' s') hb'
  refine ⟨hG.old hf.1, hf.2.1, fun e => ?_⟩
  have : b' = w.heap.size := by
    cases b with
    | dead => simp [blkOf] at e
    | box v fz => cases fz <;> simp [blkOf, upd_same] at e; exact e.symm
    | row k e' xs fz => cases fz <;> simp [blkOf, upd_same] at e; exact e.symm
    | iter s pos => simp [blkOf, upd_same] at e; exact e.symm
    | lp st => simp [blkOf, upd_same] at e; exact e.symm
  omega

/-! ### cells written -/
theorem setCells_other (b : Nat) : ∀ (vs : List Value) (o : Nat) (w : World) (b' : Nat), b' ≠ b → (w.setCells b o vs).heap[b']? = w.heap[b']?
  | [], _, _, _, _ => rfl
  | v :: r, o, w, b', hne => by
    rw [World.setCells, setCells_other b r _ _ b' hne]
    simp [World.setCell, Array.getElem?_modify, Ne.symm hne]
theorem setCells_shape (b : Nat) : ∀ (vs : List Value) (o : Nat) (w : World) (b' : Nat), (w.setCells b o vs).shape? b' = w.shape? b'
  | [], _, _, _ => rfl
  | v :: r, o, w, b' => by
    rw [World.setCells, setCells_shape b r]
    unfold World.shape? World.setCell
    simp only [Array.getElem?_modify]
    by_cases e : b = b'
    · subst e
      rw [if_pos rfl]
      cases hx : w.heap[b]? with
      | none => simp
      | some x => cases x <;> simp
    · rw [if_neg e]
theorem setCells_obj (b : Nat) {ob : Obj} (ho : ∀ c e fr, ob ≠ .cells c e fr) : ∀ (vs : List Value) (o : Nat) (w : World) (b' : Nat), w.heap[b']? = some ob → (w.setCells b o vs).heap[b']? = some ob
  | [], _, _, _, h => h
  | v :: r, o, w, b', h => by
    rw [World.setCells]
    refine setCells_obj b ho r _ _ b' ?_
    simp only [World.setCell, Array.getElem?_modify]
    by_cases e : b = b'
    · subst e
      rw [if_pos rfl, h]
      cases ob <;> first | rfl | exact absurd rfl (ho _ _ _)
    · rw [if_neg e]; exact h
theorem setCells_size (b : Nat) : ∀ (vs : List Value) (o : Nat) (w : World), (w.setCells b o vs).heap.size = w.heap.size
  | [], _, _ => rfl
  | v :: r, o, w => by rw [World.setCells, setCells_size b r, World.size_setCell]
theorem setCells_os (b : Nat) : ∀ (vs : List Value) (o : Nat) (w : World), (w.setCells b o vs).os = w.os ∧ (w.setCells b o vs).tape = w.tape ∧ (w.setCells b o vs).output = w.output
  | [], _, _ => ⟨rfl, rfl, rfl⟩
  | v :: r, o, w => by rw [World.setCells]; exact setCells_os b r (o + 1) _
theorem setCells_below {b o : Nat} {vs : List Value} (hb : ¬ base b) : Blw base w (w.setCells b o vs) :=
  ⟨(setCells_os b vs o w).1, (setCells_os b vs o w).2.1, (setCells_os b vs o w).2.2, by rw [setCells_size]; exact Nat.le_refl _, fun k hk => setCells_other b vs o w k (fun e => hb (e ▸ hk))⟩
theorem setCells_keep {b o : Nat} {vs : List Value} (hb : ¬ I b) : Keep I w (w.setCells b o vs) :=
  ⟨fun b' hb' => setCells_other b vs o w b' (fun e => hb (e ▸ hb')), fun b' e n hs => by rw [setCells_shape]; exact hs,
   fun b' r hr => ⟨r, setCells_obj b (by simp) vs o w b' hr, SameLoop.refl r⟩, fun b' hb' => setCells_obj b (by simp) vs o w b' hb'⟩
theorem setCells_out {b o j : Nat} {vs : List Value} (hj : j < o ∨ o + vs.length ≤ j) : (w.setCells b o vs).cell? ⟨b, j, none⟩ = w.cell? ⟨b, j, none⟩ :=
  World.cell?_setCells_out b vs o w ⟨b, j, none⟩ fun _ _ => hj
theorem setCells_in {b o n : Nat} {e : TypeId} {vs : List Value} (hs : w.shape? b = some (e, n)) (hn : o + vs.length ≤ n) {j : Nat} (hj : j < vs.length) :
    (w.setCells b o vs).cell? ⟨b, o + j, none⟩ = some vs[j] :=
  World.cell?_setCells_in b vs o w (fun i hi => by obtain ⟨u, hu⟩ := cell_lt_shape hs (j := o + i) (by omega); rw [hu]; rfl) j hj
theorem run_storeCells_row {P : Program} {b o n : Nat} {e : TypeId} {vs : List Value} (hs : w.shape? b = some (e, n)) (hn : o + vs.length ≤ n) (hf : Fr w n b) (h1 : ∀ v ∈ vs, v.oneCell' = true) :
    (storeCells ⟨b, o, none⟩ vs).run P w = .ok () (w.setCells b o vs) := by
  have := run_storeCells_cells (P := P) b o vs 0 w (fun j hj => by obtain ⟨u, hu⟩ := cell_lt_shape hs (j := o + 0 + j) (by omega); rw [hu]; rfl) (fun j hj => hf _ (by omega)) h1
  simpa using this

theorem addr_add (b o n : Nat) : (⟨b, o, none⟩ : Addr).add n = ⟨b, o + n, none⟩ := by
  unfold Addr.add; split <;> simp_all
end Go.Proofs.YtlhfgonjcpapnaaGreatDoor.Abs

/- Freezing: a reference to a row of the call's own becomes a value by what it holds. -/
set_option linter.unusedVariables false
set_option linter.unusedSimpArgs false
namespace Go.Proofs.YtlhfgonjcpapnaaGreatDoor.Abs
open Go Go.RowKit

variable {σ σ' : Sig} {I I' : Blk} {base : Blk} {w w' : World} {h : Heap}

theorem cells_len_one {v : Value} (hv : v.oneCell' = true) : v.cells = #[v] := by cases v <;> simp_all [Value.cells, Value.oneCell']

/-- the cells of a value and of what stands for it -/
theorem PRep.cells {p : PV} {u : Value} (hr : PRep I w p u) (ho : p.ok = true) :
    u.cells.size = p.cells.length ∧ (∀ x ∈ u.cells.toList, x.oneCell' = true) ∧ ∀ (j : Nat) (c : PV) (x : Value), p.cells[j]? = some c → u.cells[j]? = some x → PRep I w c x := by
  have one : ∀ {p : PV} {u : Value}, PRep I w p u → p.cells = [p] → u.oneCell' = true →
      u.cells.size = p.cells.length ∧ (∀ x ∈ u.cells.toList, x.oneCell' = true) ∧ ∀ (j : Nat) (c : PV) (x : Value), p.cells[j]? = some c → u.cells[j]? = some x → PRep I w c x := by
    intro p u hr hp hu
    rw [hp, cells_len_one hu]
    refine ⟨rfl, by simpa using hu, fun j c x hc hx => ?_⟩
    cases j with
    | zero => simp at hc hx; subst hc; subst hx; exact hr
    | succ j => simp at hc
  cases hr with
  | lit => exact one (.lit _) rfl ho
  | nil k full => exact one (.nil k full) rfl rfl
  | emp k full a cap hfull => exact one (.emp k full a cap hfull) rfl rfl
  | sl k full xs b o cap vs hcap hfull hb hk' hc hr => exact one (.sl k full xs b o cap vs hcap hfull hb hk' hc hr) rfl rfl
  | ptr root off b o vs hb hc hr => exact one (.ptr root off b o vs hb hc hr) rfl rfl
  | agg cs vs hl h1 hr => exact ⟨by simpa [Value.cells, PV.cells] using hl, by simpa [Value.cells] using h1, fun j c x hc hx => hr j c x hc (by simpa [Value.cells] using hx)⟩
  | tup cs vs hl hr => cases ho
  | iface t p v h => exact one (.iface t p v h) rfl rfl
  | clo f a b va vb hla hlb hra hrb => exact one (.clo f a b va vb hla hlb hra hrb) rfl rfl

theorem Rep.cells {p : AV} {u : Value} (hr : Rep σ I w p u) (ho : p.ok = true) :
    u.cells.size = p.cells.length ∧ (∀ x ∈ u.cells.toList, x.oneCell' = true) ∧ ∀ (j : Nat) (c : AV) (x : Value), p.cells[j]? = some c → u.cells[j]? = some x → Rep σ I w c x := by
  have one : ∀ {p : AV} {u : Value}, Rep σ I w p u → p.cells = [p] → u.oneCell' = true →
      u.cells.size = p.cells.length ∧ (∀ x ∈ u.cells.toList, x.oneCell' = true) ∧ ∀ (j : Nat) (c : AV) (x : Value), p.cells[j]? = some c → u.cells[j]? = some x → Rep σ I w c x := by
    intro p u hr hp hu
    rw [hp, cells_len_one hu]
    refine ⟨rfl, by simpa using hu, fun j c x hc hx => ?_⟩
    cases j with
    | zero => simp at hc hx; subst hc; subst hx; exact hr
    | succ j => simp at hc
  cases hr with
  | pv p v h =>
    obtain ⟨h1, h2, h3⟩ := h.cells ho
    refine ⟨by simpa [AV.cells] using h1, h2, fun j c x hc hx => ?_⟩
    simp only [AV.cells, List.getElem?_map, Option.map_eq_some_iff] at hc
    obtain ⟨c', hc', rfl⟩ := hc
    exact .pv _ _ (h3 j c' x hc' hx)
  | mptr d s g i off b o k h => exact one (.mptr d s g i off b o k h) rfl rfl
  | msl d s g off n full b o k cap ad had h hn hfull hroom => exact one (.msl d s g off n full b o k cap ad had h hn hfull hroom) rfl rfl
  | agg cs vs hl h1 hr => exact ⟨by simpa [Value.cells, AV.cells] using hl, by simpa [Value.cells] using h1, fun j c x hc hx => hr j c x hc (by simpa [Value.cells] using hx)⟩
  | tup cs vs hl hr => cases ho
  | clo f a b va vb hla hlb hra hrb => exact one (.clo f a b va vb hla hlb hra hrb) rfl rfl
  | yld d s g b o k h => exact one (.yld d s g b o k h) rfl rfl

/-- a value out of its cells -/
theorem rep_of_cells {v : AV} (ho : v.ok = true) (us : List Value) (hl : us.length = v.cells.length) (h1 : ∀ x ∈ us, x.oneCell' = true)
    (hr : ∀ (j : Nat) (c : AV) (x : Value), v.cells[j]? = some c → us[j]? = some x → Rep σ I w c x) : ∃ u, Rep σ I w v u ∧ u.cells.toList = us := by
  have one : v.cells = [v] → ∃ u, Rep σ I w v u ∧ u.cells.toList = us := by
    intro hv
    rw [hv] at hl
    match us, hl with
    | [u], _ =>
      refine ⟨u, hr 0 v u (by rw [hv]; rfl) rfl, ?_⟩
      rw [cells_len_one (h1 u (by simp))]
  cases v with
  | pv p =>
    cases p with
    | agg cs =>
      refine ⟨.agg us.toArray, .pv _ _ (.agg cs us (by simpa [AV.cells, PV.cells] using hl) h1 fun j c x hc hx => ?_), rfl⟩
      have := hr j (.pv c) x (by simp [AV.cells, PV.cells, hc]) hx
      cases this with
      | pv _ _ h => exact h
    | _ => exact one rfl
  | agg cs => exact ⟨.agg us.toArray, .agg cs us (by simpa [AV.cells] using hl) h1 hr, rfl⟩
  | tup l => cases ho
  | _ => exact one rfl

theorem list_of_cells {α : Type} {P : Nat → α → Prop} : ∀ (n : Nat), (∀ j, j < n → ∃ u, P j u) → ∃ us : List α, us.length = n ∧ ∀ (j : Nat) (u : α), us[j]? = some u → P j u
  | 0, _ => ⟨[], rfl, fun j u hu => by simp at hu⟩
  | n + 1, hh => by
    obtain ⟨us, hl, hu⟩ := list_of_cells n fun j hj => hh j (by omega)
    obtain ⟨u, hP⟩ := hh n (by omega)
    refine ⟨us ++ [u], by simp [hl], fun j x hx => ?_⟩
    rcases Nat.lt_or_ge j n with hj | hj
    · rw [List.getElem?_append_left (by omega)] at hx; exact hu j x hx
    · rw [List.getElem?_append_right (by omega), hl] at hx
      cases hjn : j - n with
      | zero => rw [hjn] at hx; simp at hx; subst hx; rw [show j = n by omega]; exact hP
      | succ m => rw [hjn] at hx; simp at hx

/-- what a box holds, as one value -/
theorem box_val {g : Nat} {v : AV} {fz : Bool} (hr : RowRep σ I base w ⟨g, .box v fz⟩) :
    ∃ b k e u, σ g = some (b, 0, k) ∧ w.shape? b = some (e, v.cells.length) ∧ v.ok = true ∧ Rep σ I w v u ∧ Fz I base w b v.cells.length fz ∧ k = 1 ∧
      (∀ x ∈ u.cells.toList, x.oneCell' = true) ∧ u.cells.size = v.cells.length ∧ ∀ (j : Nat) (x : Value), u.cells[j]? = some x → w.cell? ⟨b, j, none⟩ = some x := by
  obtain ⟨b, e, hs, hsh, hok, hc, hz⟩ := hr
  obtain ⟨us, hl, hu⟩ := list_of_cells (P := fun j u => w.cell? ⟨b, j, none⟩ = some u ∧ u.oneCell' = true ∧ ∀ p, v.cells[j]? = some p → Rep σ I w p u) v.cells.length fun j hj => by
    obtain ⟨u, h1, h2, h3⟩ := hc j v.cells[j] (List.getElem?_eq_getElem hj)
    exact ⟨u, h1, h2, fun p hp => by rw [List.getElem?_eq_getElem hj] at hp; injection hp with hp; subst hp; exact h3⟩
  obtain ⟨u, hru, hcu⟩ := rep_of_cells (σ := σ) (I := I) (w := w) hok us hl (fun x hx => by
      obtain ⟨j, hj, rfl⟩ := List.mem_iff_getElem.1 hx
      exact (hu j _ (List.getElem?_eq_getElem hj)).2.1) (fun j c x hc hx => (hu j x hx).2.2 c hc)
  refine ⟨b, 1, e, u, hs, hsh, hok, hru, hz, rfl, ?_, ?_, fun j x hx => ?_⟩
  · intro x hx
    rw [hcu] at hx
    obtain ⟨j, hj, rfl⟩ := List.mem_iff_getElem.1 hx
    exact (hu j _ (List.getElem?_eq_getElem hj)).2.1
  · rw [← Array.length_toList, hcu, hl]
  · have : us[j]? = some x := by rw [← hcu]; simpa using hx
    exact (hu j x this).1

/-- the block of a row becomes one that nobody writes -/
theorem HRep.markAt (H : HRep σ I base w h) {d s g : Nat} {bd bd' : Body} {b o k : Nat} (hl : Abs.live h d s g = bd) (hne : bd ≠ .dead) (hs : σ g = some (b, o, k))
    (hb : Solid w b) (hfr : blkOf σ ⟨g, bd⟩ = some b ∨ I b) (hr : RowRep σ (fun x => I x ∨ x = b) base w ⟨g, bd'⟩) (hbd : blkOf σ ⟨g, bd'⟩ = none) :
    HRep σ (fun x => I x ∨ x = b) base w (hput h d s ⟨g, bd'⟩) := by
  refine H.put (fun _ _ h => h) (fun _ h => .inl h) (Keep.refl I w) (fun x hx => hx.elim (H.inW x) (fun e => e ▸ hb)) d s _ hr ?_
  intro d' s' b' hne' hb'
  have hf := blkOf_facts (H.rows d' s') hb'
  refine ⟨rfl, fun hx => ?_, by rw [hbd]; simp⟩
  rcases hx with hx | hx
  · exact hf.2.1 hx
  · subst hx
    rcases hfr with hfr | hfr
    · have hlive := live_row hl hne
      exact hne' (H.apart d s d' s' _ (by rw [hlive]; exact hfr) hb')
    · exact hf.2.1 hfr

def More (I I' : Blk) (base : Blk) : Prop := (∀ b, I b → I' b) ∧ ∀ b, I' b → I b ∨ ¬ base b
theorem More.refl : More I I base := ⟨fun _ h => h, fun _ h => .inl h⟩
theorem More.trans {I'' : Blk} (h : More I I' base) (k : More I' I'' base) : More I I'' base := ⟨fun b hb => k.1 b (h.1 b hb), fun b hb => (k.2 b hb).elim (h.2 b) .inr⟩

theorem row_block {g k : Nat} {e : TypeId} {xs : List PV} {fz : Bool} (hr : RowRep σ I base w ⟨g, .row k e xs fz⟩) :
    ∃ b o n, σ g = some (b, o, k) ∧ b < w.heap.size ∧ (fz = false → ¬ base b) ∧ (blkOf σ ⟨g, .row k e xs fz⟩ = some b ∨ I b) ∧ o + xs.length * k ≤ n ∧ w.shape? b = some (e, n) ∧
      (∀ x ∈ xs, x.cells.length = k ∧ x.ok = true) ∧
      (∀ i x, xs[i]? = some x → ∀ (j : Nat) (p : PV), x.cells[j]? = some p → ∃ u, w.cell? ⟨b, o + i * k + j, none⟩ = some u ∧ u.oneCell' = true ∧ PRep I w p u) ∧ Fz I base w b n fz := by
  obtain ⟨b, o, n, hs, hsh, hn, hx, hc, hz⟩ := hr
  refine ⟨b, o, n, hs, lt_of_shape hsh, ?_, ?_, hn, hsh, hx, hc, hz⟩
  · rintro rfl; exact hz.2.1
  · cases fz with
    | true => exact .inr hz
    | false => exact .inl (by simp [blkOf, hs])

theorem RowRep.freeze {g k : Nat} {e : TypeId} {xs : List PV} {fz : Bool} {b o : Nat} (hr : RowRep σ I base w ⟨g, .row k e xs fz⟩) (hs : σ g = some (b, o, k)) :
    RowRep σ (fun x => I x ∨ x = b) base w ⟨g, .row k e xs true⟩ := by
  obtain ⟨b', o', n, hs', hsh, hn, hx, hc, hz⟩ := hr
  rw [hs] at hs'
  simp only [Option.some.injEq, Prod.mk.injEq] at hs'
  obtain ⟨rfl, rfl, _⟩ := hs'
  exact ⟨b, o, n, hs, hsh, hn, hx, fun i x hi j p hp => by
    obtain ⟨u, h1, h2, h3⟩ := hc i x hi j p hp
    exact ⟨u, h1, h2, h3.mono (fun _ h => .inl h) fun _ _ => rfl⟩, .inr rfl⟩

/-- a choice of values for what holds of each place -/
theorem vals_of {P : Nat → Nat → Prop} {Q : Nat → Nat → Value → Prop} (hh : ∀ i j, P i j → ∃ u, Q i j u) : ∃ vs : Nat → Nat → Value, ∀ i j, P i j → Q i j (vs i j) := by
  classical
  refine ⟨fun i j => if hp : P i j then Classical.choose (hh i j hp) else default, fun i j hp => ?_⟩
  simp only [dif_pos hp]
  exact Classical.choose_spec (hh i j hp)

/-- the block of the row at a key is one that nobody writes -/
def Safe (σ : Sig) (I : Blk) (h : Heap) (k : Key) : Prop := ∃ b o m, σ (hget h k.1 k.2).g = some (b, o, m) ∧ I b
def Kind (h : Heap) (k : Key) : Prop := (∃ v fz, (hget h k.1 k.2).b = .box v fz) ∨ ∃ m e xs fz, (hget h k.1 k.2).b = .row m e xs fz

theorem row_vals {k : Nat} {xs : List PV} {b o : Nat} (hI : ∀ b, I b → I' b) (hc : ∀ i x, xs[i]? = some x → ∀ (j : Nat) (p : PV), x.cells[j]? = some p → ∃ u, w.cell? ⟨b, o + i * k + j, none⟩ = some u ∧ u.oneCell' = true ∧ PRep I w p u) :
    ∃ vs : Nat → Nat → Value, ∀ i x, xs[i]? = some x → ∀ (j : Nat) (p : PV), x.cells[j]? = some p → w.cell? ⟨b, o + i * k + j, none⟩ = some (vs i j) ∧ (vs i j).oneCell' = true ∧ PRep I' w p (vs i j) := by
  obtain ⟨vs, hvs⟩ := vals_of (P := fun i j => ∃ x p, xs[i]? = some x ∧ x.cells[j]? = some p)
    (Q := fun i j u => w.cell? ⟨b, o + i * k + j, none⟩ = some u ∧ u.oneCell' = true ∧ ∀ x p, xs[i]? = some x → x.cells[j]? = some p → PRep I' w p u) fun i j ⟨x, p, hi, hj⟩ => by
      obtain ⟨u, h1, h2, h3⟩ := hc i x hi j p hj
      refine ⟨u, h1, h2, fun x' p' hi' hj' => ?_⟩
      rw [hi] at hi'; injection hi' with hi'; subst hi'
      rw [hj] at hj'; injection hj' with hj'; subst hj'
      exact h3.mono hI fun _ _ => rfl
  exact ⟨vs, fun i x hi j p hj => ⟨(hvs i j ⟨x, p, hi, hj⟩).1, (hvs i j ⟨x, p, hi, hj⟩).2.1, (hvs i j ⟨x, p, hi, hj⟩).2.2 x p hi hj⟩⟩

theorem live_g {d s g : Nat} {b : Body} (hl : live h d s g = b) (hne : b ≠ .dead) : (hget h d s).g = g ∧ (hget h d s).b = b := by
  have := live_row hl hne
  rw [this]
  exact ⟨rfl, rfl⟩

theorem pks_sound {f : AV → Option (PV × List Key)}
    (hf : ∀ (v : AV) (p : PV) (ks : List Key) (u : Value), f v = some (p, ks) → Rep σ I w v u → (∀ k ∈ ks, Kind h k) ∧ ∀ I', (∀ b, I b → I' b) → (∀ k ∈ ks, Safe σ I' h k) → PRep I' w p u) :
    ∀ (l : List AV) (ps : List PV) (ks : List Key) (us : List Value), pks f l = some (ps, ks) → us.length = l.length → (∀ (j : Nat) (v : AV) (u : Value), l[j]? = some v → us[j]? = some u → Rep σ I w v u) →
      ps.length = l.length ∧ (∀ k ∈ ks, Kind h k) ∧ ∀ I', (∀ b, I b → I' b) → (∀ k ∈ ks, Safe σ I' h k) → ∀ (j : Nat) (p : PV) (u : Value), ps[j]? = some p → us[j]? = some u → PRep I' w p u
  | [], ps, ks, us, he, hl, hr => by
    simp only [pks, Option.some.injEq, Prod.mk.injEq] at he
    obtain ⟨rfl, rfl⟩ := he
    exact ⟨rfl, by simp, fun I' _ _ j p u hp => by simp at hp⟩
  | v :: l, ps, ks, us, he, hl, hr => by
    match us, hl with
    | u :: us, hl =>
      simp only [pks, Option.bind_eq_some_iff, Option.map_eq_some_iff, Prod.exists] at he
      obtain ⟨p, k1, hp, ps', k2, hps, he⟩ := he
      simp only [Prod.mk.injEq] at he
      obtain ⟨rfl, rfl⟩ := he
      obtain ⟨hk1, hp1⟩ := hf v p k1 u hp (hr 0 v u rfl rfl)
      obtain ⟨hlen, hk2, hp2⟩ := pks_sound hf l ps' k2 us hps (by simpa using hl) (fun j v' u' hv hu => hr (j + 1) v' u' (by simpa using hv) (by simpa using hu))
      refine ⟨by simp [hlen], fun k hk => (List.mem_append.1 hk).elim (hk1 k) (hk2 k), fun I' hI hs j p' u' hp' hu' => ?_⟩
      cases j with
      | zero =>
        simp at hp' hu'
        subst hp'; subst hu'
        exact hp1 I' hI fun k hk => hs k (by simp [hk])
      | succ j => exact hp2 I' hI (fun k hk => hs k (by simp [hk])) j p' u' (by simpa using hp') (by simpa using hu')

theorem pk_ok : ∀ {n : Nat} {v : AV} {p : PV} {ks : List Key}, pk h n v = some (p, ks) → v.ok = true → p.ok = true
  | 0, _, _, _, he, _ => by simp [pk] at he
  | n + 1, v, p, ks, he, ho => by
    cases v with
    | pv q => simp only [pk, Option.some.injEq, Prod.mk.injEq] at he; obtain ⟨rfl, _⟩ := he; exact ho
    | mptr d s g i off =>
      simp only [pk] at he
      split at he
      · split at he
        · simp only [Option.map_eq_some_iff, Prod.exists, Prod.mk.injEq] at he
          obtain ⟨_, _, _, rfl, _⟩ := he; rfl
        · cases he
      · simp only [Option.map_eq_some_iff, Prod.mk.injEq] at he
        obtain ⟨_, _, rfl, _⟩ := he; rfl
      · cases he
    | msl d s g off m full =>
      simp only [pk] at he
      split at he
      · split at he
        · simp only [Option.some.injEq, Prod.mk.injEq] at he; obtain ⟨rfl, _⟩ := he; rfl
        · cases he
      · cases he
    | agg l =>
      simp only [pk, Option.map_eq_some_iff, Prod.exists, Prod.mk.injEq] at he
      obtain ⟨_, _, _, rfl, _⟩ := he; rfl
    | tup l => cases ho
    | clo f a b =>
      simp only [pk, Option.bind_eq_some_iff, Option.map_eq_some_iff, Prod.exists, Prod.mk.injEq] at he
      obtain ⟨_, _, _, _, _, _, rfl, _⟩ := he; rfl
    | yld d s g => simp [pk] at he

theorem pk_sound (H : HRep σ I base w h) : ∀ (n : Nat) (v : AV) (p : PV) (ks : List Key) (u : Value), pk h n v = some (p, ks) → Rep σ I w v u →
    (∀ k ∈ ks, Kind h k) ∧ ∀ I', (∀ b, I b → I' b) → (∀ k ∈ ks, Safe σ I' h k) → PRep I' w p u
  | 0, v, p, ks, u, he, hr => by simp [pk] at he
  | n + 1, v, p, ks, u, he, hr => by
    have ih := pks_sound (σ := σ) (I := I) (w := w) (h := h) (f := pk h n) (pk_sound H n)
    cases hr with
    | pv p0 v0 hp =>
      simp only [pk, Option.some.injEq, Prod.mk.injEq] at he
      obtain ⟨rfl, rfl⟩ := he
      exact ⟨by simp, fun I' hI _ => hp.mono hI fun _ _ => rfl⟩
    | mptr d s g i off b o k hs =>
      simp only [pk] at he
      split at he
      · rename_i v0 fz hl
        split at he
        · rename_i hi
          subst hi
          simp only [Option.map_eq_some_iff, Prod.exists, Prod.mk.injEq] at he
          obtain ⟨p1, k1, hp1, rfl, rfl⟩ := he
          obtain ⟨b0, k0, e0, u0, hs0, hsh, hok, hru, hz, hf, h1c, hsz, hcell⟩ := box_val (H.live hl (by simp))
          rw [hs] at hs0
          simp only [Option.some.injEq, Prod.mk.injEq] at hs0
          obtain ⟨rfl, rfl, rfl⟩ := hs0
          obtain ⟨hkd, hpr⟩ := pk_sound H n v0 p1 k1 u0 hp1 hru
          obtain ⟨hlg, hlb⟩ := live_g hl (by simp)
          refine ⟨fun k hk => ?_, fun I' hI hsafe => ?_⟩
          · rcases List.mem_cons.1 hk with rfl | hk
            · exact .inl ⟨v0, fz, hlb⟩
            · exact hkd k hk
          · have hprep := hpr I' hI fun k hk => hsafe k (by simp [hk])
            have hpok := pk_ok hp1 hok
            obtain ⟨hps, hp1c, hpc⟩ := hprep.cells hpok
            obtain ⟨b2, o2, m2, hs2, hIb⟩ := hsafe (d, s) (by simp)
            rw [hlg, hs] at hs2
            simp only [Option.some.injEq, Prod.mk.injEq] at hs2
            obtain ⟨rfl, _, _⟩ := hs2
            have hx : ∀ j c, p1.cells[j]? = some c → ∃ x, u0.cells[j]? = some x ∧ w.cell? ⟨b, j, none⟩ = some x ∧ x.oneCell' = true ∧ PRep I' w c x := by
              intro j c hc
              have hj : j < u0.cells.size := by
                have := (List.getElem?_eq_some_iff.1 hc).1
                omega
              exact ⟨u0.cells[j], Array.getElem?_eq_getElem hj, hcell j _ (Array.getElem?_eq_getElem hj), hp1c _ (by simp), hpc j c _ hc (Array.getElem?_eq_getElem hj)⟩
            have := PRep.ptr (I := I') (w := w) p1 off b 0 (fun j => u0.cells.getD j default) hIb (fun j c hc => ?_) (fun j c hc => ?_)
            · simpa using this
            · obtain ⟨x, h1, h2, h3, _⟩ := hx j c hc
              simp only [Nat.zero_add, Array.getD_eq_getD_getElem?, h1, Option.getD_some]
              exact ⟨h2, h3⟩
            · obtain ⟨x, h1, h2, h3, h4⟩ := hx j c hc
              simp only [Array.getD_eq_getD_getElem?, h1, Option.getD_some]
              exact h4
        · cases he
      · rename_i k0 e0 xs fz hl
        simp only [Option.map_eq_some_iff, Prod.mk.injEq] at he
        obtain ⟨x, hx, rfl, rfl⟩ := he
        obtain ⟨b', o', n', hs', _, _, _, _, _, _, hc, _⟩ := row_block (H.live hl (by simp))
        rw [hs] at hs'
        simp only [Option.some.injEq, Prod.mk.injEq] at hs'
        obtain ⟨rfl, rfl, rfl⟩ := hs'
        obtain ⟨hlg, hlb⟩ := live_g hl (by simp)
        refine ⟨fun k hk => ?_, fun I' hI hsafe => ?_⟩
        · rw [List.mem_singleton.1 hk]
          exact .inr ⟨_, _, _, _, hlb⟩
        · obtain ⟨b2, o2, m2, hs2, hIb⟩ := hsafe (d, s) (by simp)
          rw [hlg, hs] at hs2
          simp only [Option.some.injEq, Prod.mk.injEq] at hs2
          obtain ⟨rfl, _, _⟩ := hs2
          obtain ⟨vs, hv⟩ := row_vals hI hc
          exact .ptr x off b (o + i * k) (vs i) hIb (fun j p hp => ⟨(hv i x hx j p hp).1, (hv i x hx j p hp).2.1⟩) (fun j p hp => (hv i x hx j p hp).2.2)
      · cases he
    | msl d s g off m full b o k cap ad had hs hn hfull hroom =>
      simp only [pk] at he
      split at he
      · rename_i k0 e0 xs fz hl
        split at he
        · rename_i hle
          simp only [Option.some.injEq, Prod.mk.injEq] at he
          obtain ⟨rfl, rfl⟩ := he
          obtain ⟨b', o', n', hs', _, _, _, _, _, hx, hc, _⟩ := row_block (H.live hl (by simp))
          rw [hs] at hs'
          simp only [Option.some.injEq, Prod.mk.injEq] at hs'
          obtain ⟨rfl, rfl, rfl⟩ := hs'
          obtain ⟨hlg, hlb⟩ := live_g hl (by simp)
          refine ⟨fun k hk => ?_, fun I' hI hsafe => ?_⟩
          · rw [List.mem_singleton.1 hk]
            exact .inr ⟨_, _, _, _, hlb⟩
          · obtain ⟨b2, o2, m2, hs2, hIb⟩ := hsafe (d, s) (by simp)
            rw [hlg, hs] at hs2
            simp only [Option.some.injEq, Prod.mk.injEq] at hs2
            obtain ⟨rfl, _, _⟩ := hs2
            obtain ⟨vs, hv⟩ := row_vals hI hc
            have hlen : ((xs.drop off).take m).length = m := by simp; omega
            have hget : ∀ i x, ((xs.drop off).take m)[i]? = some x → xs[off + i]? = some x := by
              intro i x hi
              rw [List.getElem?_take] at hi
              split at hi
              · rwa [List.getElem?_drop] at hi
              · cases hi
            have := PRep.sl (I := I') (w := w) k full ((xs.drop off).take m) b (o + off * k) cap (fun i j => vs (off + i) j) (by omega) (by rw [hlen]; exact hfull) hIb
              (fun x hxm => hx x (List.mem_of_mem_drop (List.mem_of_mem_take hxm)))
              (fun i x hi j p hp => by
                have := hv (off + i) x (hget i x hi) j p hp
                rw [show o + off * k + i * k + j = o + (off + i) * k + j by rw [Nat.add_mul]; omega]
                exact ⟨this.1, this.2.1⟩)
              (fun i x hi j p hp => (hv (off + i) x (hget i x hi) j p hp).2.2)
            rw [hlen] at this
            by_cases h0 : cap = 0
            · subst h0
              have hm : m = 0 := by omega
              subst hm
              exact .emp k full _ 0 fun _ => rfl
            · rw [had h0]
              exact this
        · cases he
      · cases he
    | agg cs vs hl h1 hr =>
      simp only [pk, Option.map_eq_some_iff, Prod.exists, Prod.mk.injEq] at he
      obtain ⟨ps, k1, hps, rfl, rfl⟩ := he
      obtain ⟨hlen, hkd, hp⟩ := ih cs ps k1 vs hps hl hr
      exact ⟨hkd, fun I' hI hs => .agg ps vs (by omega) h1 (hp I' hI hs)⟩
    | tup cs vs hl hr =>
      simp only [pk, Option.map_eq_some_iff, Prod.exists, Prod.mk.injEq] at he
      obtain ⟨ps, k1, hps, rfl, rfl⟩ := he
      obtain ⟨hlen, hkd, hp⟩ := ih cs ps k1 vs hps hl hr
      exact ⟨hkd, fun I' hI hs => .tup ps vs (by omega) (hp I' hI hs)⟩
    | clo f a b va vb hla hlb hra hrb =>
      simp only [pk, Option.bind_eq_some_iff, Option.map_eq_some_iff, Prod.exists, Prod.mk.injEq] at he
      obtain ⟨pa, k1, hpa, pb, k2, hpb, rfl, rfl⟩ := he
      obtain ⟨hlen1, hk1, hp1⟩ := ih a pa k1 va hpa hla hra
      obtain ⟨hlen2, hk2, hp2⟩ := ih b pb k2 vb hpb hlb hrb
      exact ⟨fun k hk => (List.mem_append.1 hk).elim (hk1 k) (hk2 k), fun I' hI hs => .clo f pa pb va vb (by omega) (by omega) (hp1 I' hI fun k hk => hs k (by simp [hk])) (hp2 I' hI fun k hk => hs k (by simp [hk]))⟩
    | yld d s g b o k h => simp [pk] at he

theorem HRep.mark_ (H : HRep σ I base w h) {k : Key} (hk : Kind h k) : ∃ I', HRep σ I' base w (mark h k) ∧ More I I' base ∧ Safe σ I' h k := by
  obtain ⟨d, s⟩ := k
  have hrow := H.rows d s
  generalize hr : hget h d s = r at hrow
  obtain ⟨g, bd⟩ := r
  have hlive : Abs.live h d s g = bd := by unfold Abs.live; rw [hr]; simp
  have hmark : Abs.mark h (d, s) = hput h d s ⟨g, markB bd⟩ := by unfold Abs.mark; rw [hr]
  rw [hmark]
  unfold Kind at hk
  simp only [hr] at hk
  rcases hk with ⟨v, fz, rfl⟩ | ⟨m, e, xs, fz, rfl⟩
  · obtain ⟨b, e0, hs, hsh, hok, hc, hz⟩ := hrow
    refine ⟨fun x => I x ∨ x = b, H.markAt hlive (by simp) hs (.of_shape hsh) ?_ ⟨b, e0, hs, hsh, hok, fun j p hp => ?_, .inr rfl⟩ rfl, ⟨fun _ h => .inl h, fun x hx => hx.elim .inl fun e => ?_⟩, b, 0, 1, by rw [hr]; exact hs, .inr rfl⟩
    · cases fz with
      | true => exact .inr hz
      | false => exact .inl (by simp [blkOf, hs])
    · obtain ⟨u, h1, h2, h3⟩ := hc j p hp
      exact ⟨u, h1, h2, h3.mono (fun _ _ h => h) (fun _ h => .inl h) (Keep.refl _ _).zero⟩
    · subst e
      cases fz with
      | true => exact .inl hz
      | false => exact .inr hz.2.1
  · have hrow' := hrow
    obtain ⟨b, o, n, hs, hb, hbase, hfr, hn, hsh, hx, hc, hz⟩ := row_block hrow
    refine ⟨fun x => I x ∨ x = b, H.markAt hlive (by simp) hs (.of_shape hsh) hfr (RowRep.freeze hrow' hs) rfl, ⟨fun _ h => .inl h, fun x hx => hx.elim .inl fun e => ?_⟩, b, o, m, by rw [hr]; exact hs, .inr rfl⟩
    subst e
    cases fz with
    | true => exact .inl hz
    | false => exact .inr (hbase rfl)

theorem mark_get (k : Key) (d s : Nat) : (hget (mark h k) d s).g = (hget h d s).g ∧ (hget (mark h k) d s).b = if k = (d, s) then markB (hget h d s).b else (hget h d s).b := by
  unfold mark
  rw [hget_hput]
  by_cases e : k.1 = d ∧ k.2 = s
  · have : k = (d, s) := Prod.ext e.1 e.2
    rw [if_pos e, if_pos this, this]
    exact ⟨rfl, rfl⟩
  · have : k ≠ (d, s) := fun hh => e ⟨by rw [hh], by rw [hh]⟩
    rw [if_neg e, if_neg this]
    exact ⟨rfl, rfl⟩
theorem Kind.mark {k k' : Key} (hk : Kind h k) : Kind (Abs.mark h k') k := by
  have hg := mark_get (h := h) k' k.1 k.2
  unfold Kind
  rw [hg.2]
  rcases hk with ⟨v, fz, hv⟩ | ⟨m, e, xs, fz, hv⟩
  · left
    split <;> rw [hv]
    · exact ⟨v, true, rfl⟩
    · exact ⟨v, fz, rfl⟩
  · right
    split <;> rw [hv]
    · exact ⟨m, e, xs, true, rfl⟩
    · exact ⟨m, e, xs, fz, rfl⟩
theorem Safe.mark {k k' : Key} : Safe σ I (Abs.mark h k') k ↔ Safe σ I h k := by
  unfold Safe
  rw [(mark_get (h := h) k' k.1 k.2).1]

theorem HRep.marks_ : ∀ (ks : List Key) {h : Heap} {I : Blk}, HRep σ I base w h → (∀ k ∈ ks, Kind h k) → ∃ I', HRep σ I' base w (marks ks h) ∧ More I I' base ∧ ∀ k ∈ ks, Safe σ I' h k
  | [], h, I, H, _ => ⟨I, H, More.refl, by simp⟩
  | k :: ks, h, I, H, hk => by
    obtain ⟨I1, H1, m1, hs1⟩ := H.mark_ (hk k (by simp))
    obtain ⟨I2, H2, m2, hs2⟩ := HRep.marks_ ks H1 fun k' hk' => (hk k' (by simp [hk'])).mark
    refine ⟨I2, H2, m1.trans m2, fun k' hk' => ?_⟩
    rcases List.mem_cons.1 hk' with rfl | hk'
    · obtain ⟨b, o, m, h1, h2⟩ := hs1
      exact ⟨b, o, m, h1, m2.1 b h2⟩
    · exact Safe.mark.1 (hs2 k' hk')

theorem frz_sound (n : Nat) (v : AV) (h : Heap) (p : PV) (h' : Heap) (u : Value) (I : Blk) (he : frz n v h = some (p, h')) (hr : Rep σ I w v u) (H : HRep σ I base w h) :
    ∃ I', PRep I' w p u ∧ HRep σ I' base w h' ∧ More I I' base := by
  unfold frz at he
  simp only [Option.map_eq_some_iff, Prod.exists, Prod.mk.injEq] at he
  obtain ⟨p', ks, hp, rfl, rfl⟩ := he
  obtain ⟨hk, hpr⟩ := pk_sound H n v p' ks u hp hr
  obtain ⟨I', H', m, hs⟩ := HRep.marks_ ks H hk
  exact ⟨I', hpr I' m.1 hs, H', m⟩
theorem frzs_sound (n : Nat) (l : List AV) (h : Heap) (ps : List PV) (h' : Heap) (us : List Value) (I : Blk) (he : frzs n l h = some (ps, h')) (hl : us.length = l.length)
    (hr : ∀ (j : Nat) (v : AV) (u : Value), l[j]? = some v → us[j]? = some u → Rep σ I w v u) (H : HRep σ I base w h) :
    ∃ I', ps.length = l.length ∧ (∀ (j : Nat) (p : PV) (u : Value), ps[j]? = some p → us[j]? = some u → PRep I' w p u) ∧ HRep σ I' base w h' ∧ More I I' base := by
  unfold frzs at he
  simp only [Option.map_eq_some_iff, Prod.exists, Prod.mk.injEq] at he
  obtain ⟨ps', ks, hp, rfl, rfl⟩ := he
  obtain ⟨hlen, hk, hpr⟩ := pks_sound (h := h) (pk_sound H n) l ps' ks us hp hl hr
  obtain ⟨I', H', m, hs⟩ := HRep.marks_ ks H hk
  exact ⟨I', hlen, hpr I' m.1 hs, H', m⟩
theorem frz_ok {n : Nat} {v : AV} {h h' : Heap} {p : PV} (he : frz n v h = some (p, h')) (ho : v.ok = true) : p.ok = true := by
  unfold frz at he
  simp only [Option.map_eq_some_iff, Prod.exists, Prod.mk.injEq] at he
  obtain ⟨p', ks, hp, rfl, rfl⟩ := he
  exact pk_ok hp ho
end Go.Proofs.YtlhfgonjcpapnaaGreatDoor.Abs

/- In a region that draws its order: operations that may be swapped give the same state in either order. -/
set_option linter.unusedVariables false
set_option linter.unusedSimpArgs false
namespace Go.Proofs.YtlhfgonjcpapnaaGreatDoor.Abs
open Go Go.RowKit

/-! ### lists -/
theorem putL_comm {α : Type} (z : α) : ∀ (l : List α) (i j : Nat) (v u : α), i ≠ j → putL z (putL z l i v) j u = putL z (putL z l j u) i v
  | [], 0, 0, _, _, h => absurd rfl h
  | [], 0, j + 1, v, u, _ => by simp [putL]
  | [], i + 1, 0, v, u, _ => by simp [putL]
  | [], i + 1, j + 1, v, u, h => by simp [putL]; exact putL_comm z [] i j v u (by omega)
  | x :: l, 0, 0, _, _, h => absurd rfl h
  | x :: l, 0, j + 1, v, u, _ => by simp [putL]
  | x :: l, i + 1, 0, v, u, _ => by simp [putL]
  | x :: l, i + 1, j + 1, v, u, h => by simp [putL]; exact putL_comm z l i j v u (by omega)
theorem putL_twice {α : Type} (z : α) : ∀ (l : List α) (i : Nat) (v u : α), putL z (putL z l i v) i u = putL z l i u
  | [], 0, _, _ => rfl
  | [], i + 1, v, u => by simp [putL]; exact putL_twice z [] i v u
  | x :: l, 0, _, _ => rfl
  | x :: l, i + 1, v, u => by simp [putL]; exact putL_twice z l i v u
theorem hput_comm (h : Heap) {d s d' s' : Nat} (r r' : Row) (hne : ¬ (d = d' ∧ s = s')) : hput (hput h d s r) d' s' r' = hput (hput h d' s' r') d s r := by
  unfold hput
  by_cases hd : d = d'
  · subst hd
    have hs : s ≠ s' := fun e => hne ⟨rfl, e⟩
    rw [putL_twice, putL_twice, getD_putL, getD_putL, if_pos rfl, if_pos rfl, putL_comm _ _ _ _ _ _ hs]
  · rw [getD_putL, getD_putL, if_neg hd, if_neg (fun e => hd e.symm), putL_comm _ _ _ _ _ _ hd]

/-! ### reading alike -/
def sameB (b b' : Body) : Prop := markB b = markB b'
/-- what is read in h is read in h2 -/
def Reads (h h2 : Heap) : Prop := ∀ d s g, live h d s g ≠ .dead → markB (live h2 d s g) = markB (live h d s g)
theorem Reads.refl (h : Heap) : Reads h h := fun _ _ _ _ => rfl

theorem mark_get' (h : Heap) (k : Key) (d s : Nat) : hget (mark h k) d s = if k.1 = d ∧ k.2 = s then { hget h d s with b := markB (hget h d s).b } else hget h d s := by
  unfold mark
  rw [hget_hput]
  by_cases e : k.1 = d ∧ k.2 = s
  · obtain ⟨rfl, rfl⟩ := e; simp
  · simp [e]
theorem markB_markB (b : Body) : markB (markB b) = markB b := by cases b <;> rfl
theorem markB_dead {b : Body} : markB b = .dead ↔ b = .dead := by cases b <;> simp [markB]
theorem mark_live (h : Heap) (k : Key) (d s g : Nat) : markB (live (mark h k) d s g) = markB (live h d s g) := by
  unfold live
  rw [mark_get']
  by_cases e : k.1 = d ∧ k.2 = s
  · rw [if_pos e]
    by_cases eg : (hget h d s).g = g <;> simp [eg, markB_markB]
  · rw [if_neg e]
theorem marks_live : ∀ (ks : List Key) (h : Heap) (d s g : Nat), markB (live (marks ks h) d s g) = markB (live h d s g)
  | [], _, _, _, _ => rfl
  | k :: ks, h, d, s, g => by
    have := marks_live ks (mark h k) d s g
    rw [mark_live] at this
    exact this
theorem mark_dead (h : Heap) (k : Key) (d s : Nat) : (hget (mark h k) d s).b = .dead ↔ (hget h d s).b = .dead := by
  rw [mark_get']
  by_cases e : k.1 = d ∧ k.2 = s
  · rw [if_pos e]; exact markB_dead
  · rw [if_neg e]
theorem marks_dead : ∀ (ks : List Key) (h : Heap) (d s : Nat), (hget (marks ks h) d s).b = .dead ↔ (hget h d s).b = .dead
  | [], _, _, _ => Iff.rfl
  | k :: ks, h, d, s => (marks_dead ks (mark h k) d s).trans (mark_dead h k d s)
theorem Reads.marks_l (ks : List Key) (h : Heap) : Reads (marks ks h) h := fun d s g _ => (marks_live ks h d s g).symm
theorem Reads.marks_r (ks : List Key) (h : Heap) : Reads h (marks ks h) := fun d s g _ => marks_live ks h d s g
theorem Reads.hput {h : Heap} {d s : Nat} {r : Row} (hd : (hget h d s).b = .dead) : Reads h (hput h d s r) := by
  intro d' s' g hl
  unfold live at *
  rw [hget_hput]
  by_cases e : d = d' ∧ s = s'
  · obtain ⟨rfl, rfl⟩ := e
    exfalso; apply hl
    by_cases eg : (hget h d s).g = g <;> simp [eg, hd]
  · rw [if_neg e]

theorem mark_comm (h : Heap) (k k' : Key) : mark (mark h k) k' = mark (mark h k') k := by
  by_cases e : k.1 = k'.1 ∧ k.2 = k'.2
  · have : k = k' := Prod.ext e.1 e.2
    rw [this]
  · have e' : ¬ (k'.1 = k.1 ∧ k'.2 = k.2) := fun x => e ⟨x.1.symm, x.2.symm⟩
    have h1 : hget (mark h k) k'.1 k'.2 = hget h k'.1 k'.2 := by rw [mark_get', if_neg e]
    have h2 : hget (mark h k') k.1 k.2 = hget h k.1 k.2 := by rw [mark_get', if_neg e']
    conv => lhs; rw [mark, h1]; rw [mark]
    conv => rhs; rw [mark, h2]; rw [mark]
    exact hput_comm h _ _ e
theorem marks_mark : ∀ (ks : List Key) (h : Heap) (k : Key), marks ks (mark h k) = mark (marks ks h) k
  | [], _, _ => rfl
  | k' :: ks, h, k => by
    show marks ks (mark (mark h k) k') = mark (marks ks (mark h k')) k
    rw [mark_comm, marks_mark ks]
theorem marks_comm : ∀ (ks ks' : List Key) (h : Heap), marks ks (marks ks' h) = marks ks' (marks ks h)
  | ks, [], _ => rfl
  | ks, k :: ks', h => by
    show marks ks (marks ks' (mark h k)) = marks ks' (mark (marks ks h) k)
    rw [marks_comm ks ks', marks_mark]
theorem mark_hput {h : Heap} {d s : Nat} {r : Row} {k : Key} (hne : ¬ (d = k.1 ∧ s = k.2)) : mark (hput h d s r) k = hput (mark h k) d s r := by
  unfold mark
  rw [hget_hput, if_neg hne, hput_comm h _ _ hne]
theorem marks_hput {d s : Nat} {r : Row} : ∀ {ks : List Key} {h : Heap}, (∀ k ∈ ks, ¬ (d = k.1 ∧ s = k.2)) → marks ks (hput h d s r) = hput (marks ks h) d s r
  | [], _, _ => rfl
  | k :: ks, h, hk => by
    show marks ks (mark (hput h d s r) k) = hput (marks ks (mark h k)) d s r
    rw [mark_hput (hk k (by simp)), marks_hput fun k' hk' => hk k' (by simp [hk'])]

/-! ### freezing reads alike -/
theorem markB_box {b : Body} {v : AV} {fz : Bool} (h : markB b = markB (.box v fz)) : ∃ fz', b = .box v fz' := by
  cases b <;> simp [markB] at h
  exact ⟨_, by rw [h]⟩
theorem markB_row {b : Body} {k : Nat} {e : TypeId} {xs : List PV} {fz : Bool} (h : markB b = markB (.row k e xs fz)) : ∃ fz', b = .row k e xs fz' := by
  cases b <;> simp [markB] at h
  obtain ⟨rfl, rfl, rfl⟩ := h
  exact ⟨_, rfl⟩
theorem live_ne {h : Heap} {d s g : Nat} {b : Body} (e : live h d s g = b) (hb : b ≠ .dead) : (hget h d s).b ≠ .dead := by
  unfold live at e
  split at e
  · rw [e]; exact hb
  · exact absurd e.symm hb

theorem pks_reads {f f2 : AV → Option (PV × List Key)} {Q : Key → Prop} : ∀ (l : List AV) (r : List PV × List Key), (∀ v ∈ l, ∀ r, f v = some r → f2 v = some r ∧ ∀ k ∈ r.2, Q k) →
    pks f l = some r → pks f2 l = some r ∧ ∀ k ∈ r.2, Q k
  | [], r, _, h => by simp [pks] at h ⊢; subst h; simp
  | v :: l, r, hf, h => by
    simp only [pks, Option.bind_eq_some_iff, Option.map_eq_some_iff] at h
    obtain ⟨⟨p, k1⟩, h1, ⟨ps, k2⟩, h2, rfl⟩ := h
    obtain ⟨g1, q1⟩ := hf v (by simp) _ h1
    obtain ⟨g2, q2⟩ := pks_reads l _ (fun v hv => hf v (by simp [hv])) h2
    refine ⟨by simp [pks, g1, g2], fun k hk => ?_⟩
    simp only [List.mem_append] at hk
    exact hk.elim (q1 k) (q2 k)
theorem pk_reads {h h2 : Heap} (hr : Reads h h2) : ∀ (n : Nat) (v : AV) (r : PV × List Key), pk h n v = some r → pk h2 n v = some r ∧ ∀ k ∈ r.2, (hget h k.1 k.2).b ≠ .dead
  | 0, _, _, e => by simp [pk] at e
  | n + 1, v, r, e => by
    cases v with
    | pv p => simp [pk] at e ⊢; subst e; simp
    | mptr d s g i off =>
      simp only [pk] at e ⊢
      split at e
      · rename_i w fz hl
        have := hr d s g (by rw [hl]; simp)
        rw [hl] at this
        obtain ⟨fz', hl2⟩ := markB_box this
        rw [hl2]
        by_cases hi : i = 0
        · simp only [hi, if_true, Option.map_eq_some_iff] at e ⊢
          obtain ⟨⟨p, ks⟩, h1, rfl⟩ := e
          obtain ⟨g1, q1⟩ := pk_reads hr n w _ h1
          refine ⟨⟨_, g1, rfl⟩, fun k hk => ?_⟩
          simp only [List.mem_cons] at hk
          rcases hk with rfl | hk
          · exact live_ne hl (by simp)
          · exact q1 k hk
        · simp [hi] at e
      · rename_i k e' xs fz hl
        have := hr d s g (by rw [hl]; simp)
        rw [hl] at this
        obtain ⟨fz', hl2⟩ := markB_row this
        rw [hl2]
        simp only [Option.map_eq_some_iff] at e ⊢
        obtain ⟨x, hx, rfl⟩ := e
        refine ⟨⟨x, hx, rfl⟩, fun k hk => ?_⟩
        simp only [List.mem_singleton] at hk
        subst hk
        exact live_ne hl (by simp)
      · cases e
    | msl d s g off m full =>
      simp only [pk] at e ⊢
      split at e
      · rename_i k e' xs fz hl
        have := hr d s g (by rw [hl]; simp)
        rw [hl] at this
        obtain ⟨fz', hl2⟩ := markB_row this
        rw [hl2]
        simp only [] at e ⊢
        split at e
        · rename_i hle
          injection e with e
          subst e
          refine ⟨by simp [hle], fun k hk => ?_⟩
          simp only [List.mem_singleton] at hk
          subst hk
          exact live_ne hl (by simp)
        · cases e
      · cases e
    | agg l =>
      simp only [pk, Option.map_eq_some_iff] at e ⊢
      obtain ⟨⟨ps, ks⟩, h1, rfl⟩ := e
      obtain ⟨g1, q1⟩ := pks_reads l _ (fun v _ r hv => pk_reads hr n v r hv) h1
      exact ⟨⟨_, g1, rfl⟩, q1⟩
    | tup l =>
      simp only [pk, Option.map_eq_some_iff] at e ⊢
      obtain ⟨⟨ps, ks⟩, h1, rfl⟩ := e
      obtain ⟨g1, q1⟩ := pks_reads l _ (fun v _ r hv => pk_reads hr n v r hv) h1
      exact ⟨⟨_, g1, rfl⟩, q1⟩
    | clo f a b =>
      simp only [pk, Option.bind_eq_some_iff, Option.map_eq_some_iff] at e ⊢
      obtain ⟨⟨pa, k1⟩, h1, ⟨pb, k2⟩, h2, rfl⟩ := e
      obtain ⟨g1, q1⟩ := pks_reads a _ (fun v _ r hv => pk_reads hr n v r hv) h1
      obtain ⟨g2, q2⟩ := pks_reads b _ (fun v _ r hv => pk_reads hr n v r hv) h2
      refine ⟨⟨_, g1, _, g2, rfl⟩, fun k hk => ?_⟩
      simp only [List.mem_append] at hk
      exact hk.elim (q1 k) (q2 k)
    | yld d s g => simp [pk] at e

/-! ### the classes -/
section
variable {P : Program} {o : Oper} {ρ ρ' : Operand → AV} {d gen : Nat} {h h' : Heap} {v : AV}

/-- how an outcome depends on the heap -/
def IsPu (F : Heap → Nat → Option (AV × Heap × Nat)) : Prop := ∀ h g v h' g', F h g = some (v, h', g') → h' = h ∧ g' = g ∧ ∀ h2 g2, F h2 g2 = some (v, h2, g2)
def IsFz (F : Heap → Nat → Option (AV × Heap × Nat)) : Prop := ∀ h g v h' g', F h g = some (v, h', g') →
  ∃ ks, (∀ k ∈ ks, (hget h k.1 k.2).b ≠ .dead) ∧ h' = marks ks h ∧ g' = g ∧ ∀ h2 g2, Reads h h2 → F h2 g2 = some (v, marks ks h2, g2)
def IsAl (d slot : Nat) (F : Heap → Nat → Option (AV × Heap × Nat)) : Prop := ∀ h g v h' g', F h g = some (v, h', g') →
  ∃ r, (hget h d slot).b = .dead ∧ h' = hput h d slot r ∧ g' = g ∧ ∀ h2 g2, (hget h2 d slot).b = .dead → F h2 g2 = some (v, hput h2 d slot r, g2)
theorem IsPu.fz {F} (hF : IsPu F) : IsFz F := fun h g v h' g' e => by
  obtain ⟨h1, h2, h3⟩ := hF h g v h' g' e
  exact ⟨[], by simp, h1, h2, fun h2 g2 _ => h3 h2 g2⟩
end
end Go.Proofs.YtlhfgonjcpapnaaGreatDoor.Abs

/- The classes of the operations are what they say. -/
set_option linter.unusedVariables false
set_option linter.unusedSimpArgs false
namespace Go.Proofs.YtlhfgonjcpapnaaGreatDoor.Abs
open Go Go.RowKit

section
variable {P : Program} {o : Oper} {ρ ρ' : Operand → AV} {d gen : Nat} {h h' : Heap} {v : AV}

theorem aop_congr (hρ : ∀ x ∈ o.op.operands, ρ x = ρ' x) : aop P o ρ d gen h = aop P o ρ' d gen h := by
  obtain ⟨dst, op, type, pos, after, guard⟩ := o
  have pairs : ∀ ps : Array (Nat × Operand), (∀ x ∈ ps.map (·.2), ρ x = ρ' x) →
      (ps.toList.map fun (i, x) => (i, ρ x)) = (ps.toList.map fun (i, x) => (i, ρ' x)) := fun ps hp =>
    List.map_congr_left fun p hm => by
      obtain ⟨i, x⟩ := p
      simp only [hp x (Array.mem_map.2 ⟨(i, x), by simpa using hm, rfl⟩)]
  have pairs2 : ∀ ps : Array (Nat × Operand), (∀ x ∈ ps.map (·.2), ρ x = ρ' x) →
      (ps.toList.map fun q => ρ q.2) = (ps.toList.map fun q => ρ' q.2) := fun ps hp =>
    List.map_congr_left fun p hm => by
      obtain ⟨i, x⟩ := p
      simp only [hp x (Array.mem_map.2 ⟨(i, x), by simpa using hm, rfl⟩)]
  have arr : ∀ xs : Array Operand, (∀ x ∈ xs, ρ x = ρ' x) → xs.toList.map ρ = xs.toList.map ρ' := fun xs hx => List.map_congr_left fun x hm => hx x (by simpa using hm)
  cases op <;> simp only [Op.operands] at hρ <;> simp only [aop]
  case build t ps => rw [pairs ps fun x hx => hρ x (by simpa using hx)]
  case buildSlice t n ps => rw [pairs2 ps fun x hx => hρ x (by simpa using hx)]
  case makeFunc fn first captured =>
    rw [arr first fun x hx => hρ x (by simp [hx]), arr captured fun x hx => hρ x (by simp [hx])]
  case call c =>
    obtain ⟨callee, args, argTypes⟩ := c
    cases callee with
    | builtin b => simp only []; rw [arr args fun x hx => hρ x (by simp [Call.operands, hx])]
    | _ => rfl
  case slice t x lo hi mx => cases lo <;> cases hi <;> cases mx <;> simp_all
  case next it s => cases s <;> simp_all
  all_goals (first | rfl | (simp_all; done))

/-! ### operations that neither read nor write -/
theorem map_pair {X : Option AV} {h : Heap} : (X.map fun r => (r, h)) = ((X.map fun r => (r, ([] : Heap))).map (·.1)).map fun r => (r, h) := by cases X <;> rfl
theorem map_pair' {α : Type} {X : Option α} {f : α → AV} {h : Heap} : (X.map fun r => (f r, h)) = ((X.map fun r => (f r, ([] : Heap))).map (·.1)).map fun r => (r, h) := by cases X <;> rfl
theorem bind_pair {α : Type} {X : Option α} {f f0 : α → Option (AV × Heap)} {h : Heap} (hf : ∀ a, f a = ((f0 a).map (·.1)).map fun r => (r, h)) :
    X.bind f = ((X.bind f0).map (·.1)).map fun r => (r, h) := by cases X <;> simp [hf]
theorem aop_pu {E : Env} (hc : clsOp E o = .pu) (hP : E.P = P) (h : Heap) : aop P o ρ d gen h = ((aop P o ρ d gen []).map (·.1)).map fun r => (r, h) := by
  obtain ⟨dst, op, type, pos, after, guard⟩ := o
  cases op <;> simp only [clsOp] at hc <;> try (first | (exfalso; revert hc; decide) | skip)
  case move x => rfl
  case assign x => rfl
  case pick c a b => simp only [aop]; split <;> rfl
  case nilCheck x => simp only [aop]; split <;> rfl
  case binOp op t x y ty => exact map_pair
  case unOp op t x => exact bind_pair fun a => map_pair'
  case makeFunc fn first captured => simp only [aop]; split <;> rfl
  case extract x i => simp only [aop]; split <;> first | exact map_pair | exact map_pair' | rfl
  case fieldAddr st x f =>
    simp only [aop]; split
    · refine bind_pair fun off => ?_
      split <;> rfl
    · rfl
  case index t x ix =>
    simp only [aop]; split
    · split <;> rfl
    · split
      · refine bind_pair fun size => bind_pair fun ag => ?_
        split
        · exact map_pair
        · rfl
      · rfl
    · rfl
  case field t x f =>
    simp only [aop]; split
    · refine bind_pair fun fd => bind_pair fun size => bind_pair fun ag => ?_
      split
      · exact map_pair
      · rfl
    · rfl
  case build t parts =>
    simp only [aop]
    refine bind_pair fun z => ?_
    split
    · split
      · exact bind_pair fun pl => bind_pair fun cs => rfl
      · exact bind_pair fun pl => bind_pair fun cs => rfl
      · rfl
    · rfl
  case convert src dst x =>
    simp only [aop]
    have hs : isSlice P src = false ∧ isSlice P dst = false := by
      subst hP
      cases h1 : isSlice E.P src <;> cases h2 : isSlice E.P dst <;> simp [h1, h2] at hc ⊢
    unfold isSlice at hs
    split
    · rename_i h1 h2 h3; rw [h2] at hs; simp at hs
    · rename_i h1 h2; rw [h1] at hs; simp at hs
    · exact bind_pair fun v => map_pair'
  case call c =>
    obtain ⟨callee, args, argTypes⟩ := c
    cases callee with
    | builtin b =>
      cases b <;> simp only [clsOp] at hc <;> try (first | (exfalso; revert hc; decide) | skip)
      all_goals
        simp only [aop, abuiltin]
        repeat' first | rfl | contradiction | exact bind_pair fun vs => map_pair' | split
    | value f => rfl
    | invoke r m => rfl

/-! ### operations that read -/
theorem reads_box {h2 : Heap} (hr : Reads h h2) {d s g : Nat} {v : AV} {fz : Bool} (hl : live h d s g = .box v fz) : ∃ fz', live h2 d s g = .box v fz' := by
  have := hr d s g (by rw [hl]; simp)
  rw [hl] at this
  exact markB_box this
theorem reads_row {h2 : Heap} (hr : Reads h h2) {d s g k : Nat} {e : TypeId} {xs : List PV} {fz : Bool} (hl : live h d s g = .row k e xs fz) : ∃ fz', live h2 d s g = .row k e xs fz' := by
  have := hr d s g (by rw [hl]; simp)
  rw [hl] at this
  exact markB_row this
theorem map_some {α : Type} {X : Option α} {f : α → AV} {h2 : Heap} (e : (X.map fun r => (f r, h)) = some (v, h')) : h' = h ∧ (X.map fun r => (f r, h2)) = some (v, h2) := by
  cases X <;> simp at e ⊢
  exact ⟨e.2.symm, e.1⟩
theorem bind_some {α : Type} {X : Option α} {f f2 : α → Option (AV × Heap)} {h2 : Heap} (e : X.bind f = some (v, h')) (hf : ∀ a, f a = some (v, h') → h' = h ∧ f2 a = some (v, h2)) :
    h' = h ∧ X.bind f2 = some (v, h2) := by
  cases X with
  | none => simp at e
  | some a => exact hf a e

theorem load_rd {h2 : Heap} {t : TypeId} {a : Operand} (ho : o.op = .load t a) (hr : Reads h h2) (e : aop P o ρ d gen h = some (v, h')) : h' = h ∧ aop P o ρ d gen h2 = some (v, h2) := by
  simp only [aop, ho] at e ⊢
  refine bind_some e fun m e => bind_some e fun ag e => ?_
  split at e
  · rename_i d s g i off hx
    split at e
    · rename_i w fz hl
      obtain ⟨fz', hl2⟩ := reads_box hr hl
      simp only [hl2]
      split at e
      · rename_i hi; simp only [hi, if_true]; exact map_some e
      · cases e
    · rename_i k e' xs fz hl
      obtain ⟨fz', hl2⟩ := reads_row hr hl
      simp only [hl2]
      exact bind_some e fun x e => map_some e
    · cases e
  · exact map_some e
  · cases e

theorem aslice_rd {h2 : Heap} {t : TypeId} {x : AV} {lo hi mx : Option AV} {v : AV} (hr : Reads h h2) (e : aslice P t h x lo hi mx = some v) : aslice P t h2 x lo hi mx = some v := by
  unfold aslice at *
  split at e
  · exact e
  · exact e
  · simp only [bind, Option.bind_eq_some_iff] at e ⊢
    obtain ⟨b, hb, size, hs, e⟩ := e
    refine ⟨b, hb, size, hs, ?_⟩
    split at e
    · rename_i k e'' xs fz hl
      obtain ⟨fz', hl2⟩ := reads_row hr hl
      rw [hl2]
      exact e
    · cases e
  · simp only [bind, Option.bind_eq_some_iff] at e ⊢
    obtain ⟨b, hb, size, hs, e⟩ := e
    refine ⟨b, hb, size, hs, ?_⟩
    split at e
    · rename_i w fz hl
      obtain ⟨fz', hl2⟩ := reads_box hr hl
      rw [hl2]
      exact e
    · cases e
  · cases e

theorem slice_rd {h2 : Heap} {t : TypeId} {x : Operand} {lo hi mx : Option Operand} (ho : o.op = .slice t x lo hi mx) (hr : Reads h h2) (e : aop P o ρ d gen h = some (v, h')) :
    h' = h ∧ aop P o ρ d gen h2 = some (v, h2) := by
  simp only [aop, ho] at e ⊢
  simp only [Option.map_eq_some_iff, Prod.mk.injEq] at e ⊢
  obtain ⟨a, ha, rfl, rfl⟩ := e
  exact ⟨rfl, a, aslice_rd hr ha, rfl, trivial⟩

theorem indexAddr_rd {h2 : Heap} {t : TypeId} {x ix : Operand} (ho : o.op = .indexAddr t x ix) (hr : Reads h h2) (e : aop P o ρ d gen h = some (v, h')) :
    h' = h ∧ aop P o ρ d gen h2 = some (v, h2) := by
  simp only [aop, ho] at e ⊢
  refine bind_some e fun i e => ?_
  split at e
  · refine bind_some e fun size e => ?_
    split at e
    · rename_i hi; rw [if_pos hi]; exact map_some e
    · cases e
  · refine bind_some e fun size e => ?_
    split at e
    · rename_i hl
      obtain ⟨fz', hl2⟩ := reads_row hr hl
      rw [hl2]
      simp only []
      split at e
      · rename_i hi; rw [if_pos hi]; injection e with e; injection e with e1 e2; subst e1 e2; exact ⟨rfl, rfl⟩
      · cases e
    · cases e
  · refine bind_some e fun size e => ?_
    split at e
    · rename_i hi; rw [if_pos hi]; injection e with e; injection e with e1 e2; subst e1 e2; exact ⟨rfl, rfl⟩
    · cases e
  · refine bind_some e fun size e => ?_
    split at e
    · rename_i hi; rw [if_pos hi]; injection e with e; injection e with e1 e2; subst e1 e2; exact ⟨rfl, rfl⟩
    · cases e
  · cases e

/-! ### operations that mark -/
theorem frz_reads {h2 : Heap} {n : Nat} {a : AV} {p : PV} (e : frz n a h = some (p, h')) : ∃ ks, (∀ k ∈ ks, (hget h k.1 k.2).b ≠ .dead) ∧ h' = marks ks h ∧ ∀ h2, Reads h h2 → frz n a h2 = some (p, marks ks h2) := by
  unfold frz at e
  simp only [Option.map_eq_some_iff, Prod.mk.injEq] at e
  obtain ⟨⟨p', ks⟩, he, rfl, rfl⟩ := e
  refine ⟨ks, (pk_reads (Reads.refl h) n a _ he).2, rfl, fun h2 hr => ?_⟩
  simp [frz, (pk_reads hr n a _ he).1]
theorem frzs_reads {n : Nat} {l : List AV} {ps : List PV} (e : frzs n l h = some (ps, h')) : ∃ ks, (∀ k ∈ ks, (hget h k.1 k.2).b ≠ .dead) ∧ h' = marks ks h ∧ ∀ h2, Reads h h2 → frzs n l h2 = some (ps, marks ks h2) := by
  unfold frzs at e
  simp only [Option.map_eq_some_iff, Prod.mk.injEq] at e
  obtain ⟨⟨p', ks⟩, he, rfl, rfl⟩ := e
  refine ⟨ks, (pks_reads l _ (fun v _ r hv => pk_reads (Reads.refl h) n v r hv) he).2, rfl, fun h2 hr => ?_⟩
  simp [frzs, (pks_reads l _ (fun v _ r hv => pk_reads hr n v r hv) he).1]
theorem makeInterface_fz {t : TypeId} {x : Operand} (ho : o.op = .makeInterface t x) (e : aop P o ρ d gen h = some (v, h')) :
    ∃ ks, (∀ k ∈ ks, (hget h k.1 k.2).b ≠ .dead) ∧ h' = marks ks h ∧ ∀ h2, Reads h h2 → aop P o ρ d gen h2 = some (v, marks ks h2) := by
  simp only [aop, ho] at e ⊢
  split at e
  · cases e
  · cases e
  · rename_i hd1 hd2
    simp only [Option.map_eq_some_iff, Prod.mk.injEq] at e
    obtain ⟨⟨p, h1⟩, hf, rfl, rfl⟩ := e
    obtain ⟨ks, k1, k2, k3⟩ := frz_reads (h2 := h) hf
    exact ⟨ks, k1, k2, fun h2 hr => by simp [k3 h2 hr]⟩

/-! ### operations that lay a box -/
theorem aop_al {E : Env} (hc : clsOp E o = .al) (e : aop P o ρ d gen h = some (v, h')) : ∃ s r, o.dst = some s ∧ h' = hput h d s r ∧ ∀ h2, aop P o ρ d gen h2 = some (v, hput h2 d s r) := by
  obtain ⟨dst, op, type, pos, after, guard⟩ := o
  cases op <;> simp only [clsOp] at hc <;> try (first | (exfalso; revert hc; decide) | skip)
  case alloc t =>
    simp only [aop, bind, Option.bind_eq_some_iff] at e ⊢
    obtain ⟨z, hz, s, hs, e⟩ := e
    split at e
    · rename_i hok
      injection e with e; injection e with e1 e2; subst e1 e2
      exact ⟨s, _, hs, rfl, fun h2 => ⟨z, hz, s, hs, by rw [if_pos hok]⟩⟩
    · cases e
  case box t x =>
    simp only [aop, bind, Option.bind_eq_some_iff] at e ⊢
    obtain ⟨s, hs, e⟩ := e
    split at e
    · rename_i hok
      injection e with e; injection e with e1 e2; subst e1 e2
      exact ⟨s, _, hs, rfl, fun h2 => ⟨s, hs, by rw [if_pos hok]⟩⟩
    · cases e
  case convert src dst x => split at hc <;> cases hc
  case call c =>
    obtain ⟨callee, args, argTypes⟩ := c
    exfalso
    cases callee with
    | builtin b => cases b <;> simp at hc
    | value f =>
      cases f <;> simp only [] at hc <;> try (cases hc; done)
      split at hc <;> cases hc
    | invoke r m => simp at hc
end
end Go.Proofs.YtlhfgonjcpapnaaGreatDoor.Abs

/- Any order that a region may draw gives the state that the text's order gives. -/
set_option linter.unusedVariables false
set_option linter.unusedSimpArgs false
namespace Go.Proofs.YtlhfgonjcpapnaaGreatDoor.Abs
open Go Go.RowKit

/-! ### variables -/
theorem evalA_putD {t : List AV} {dst : Option Tmp} {v : AV} {x : Operand} (h : ∀ d, dst = some d → x ≠ .tmp d) : evalA (putD t dst v) x = evalA t x := by
  cases dst with
  | none => rfl
  | some d =>
    cases x with
    | tmp i => simp only [evalA, putD]; rw [getT_putT, if_neg (fun e => h d rfl (by rw [e]))]
    | _ => rfl
theorem putD_comm (t : List AV) {x y : Option Tmp} (v u : AV) (h : ∀ d, x = some d → y ≠ some d) : putD (putD t x v) y u = putD (putD t y u) x v := by
  cases x with
  | none => cases y <;> rfl
  | some d =>
    cases y with
    | none => rfl
    | some e => exact putL_comm _ _ _ _ _ _ (fun q => h d rfl (by rw [q]))
theorem wantedA_putD {all : Array Oper} {o : Oper} {t : List AV} {dst : Option Tmp} {v : AV} (h : ∀ d, dst = some d → d ∉ o.looksAt all) : wantedA all (putD t dst v) o = wantedA all t o := by
  cases dst with
  | none => rfl
  | some d =>
    unfold wantedA
    cases hg : o.guard with
    | none => rfl
    | some gw =>
      obtain ⟨j, want⟩ := gw
      simp only []
      cases ht : (all[j]?).bind (·.dst) with
      | none => rfl
      | some i =>
        have hne : d ≠ i := fun e => h d rfl (by subst e; simp [Oper.looksAt, hg, ht])
        simp only [Option.bind_some, putD]
        rw [getT_putT, if_neg hne]

section
variable {E : Env} {call : CallFn} {ys : Ys} {st : Bool} {d gen gb : Nat} {all : Array Oper}

theorem stepV_congr {o : Oper} {ρ ρ' : Operand → AV} (hρ : ∀ x ∈ o.op.operands, ρ x = ρ' x) (h : Heap) (g : Nat) : stepV E call ys st d gen o ρ h g = stepV E call ys st d gen o ρ' h g := by
  unfold stepV
  split
  · rename_i f args argTypes ho
    rw [ho] at hρ
    have h1 : ρ f = ρ' f := hρ f (by simp [Op.operands, Call.operands])
    have h2 : args.toList.map ρ = args.toList.map ρ' := List.map_congr_left fun x hx => hρ x (by simp [Op.operands, Call.operands]; exact .inr (by simpa using hx))
    rw [h1, h2]
  · rw [aop_congr hρ]
theorem opV_putD {i : Nat} {o : Oper} {t : List AV} {dst : Option Tmp} {v : AV} (h : ∀ d, dst = some d → d ∉ o.looksAt all) : opV E call ys st d gb all i o (putD t dst v) = opV E call ys st d gb all i o t := by
  funext hh g
  unfold opV
  rw [wantedA_putD h, stepV_congr (ρ' := evalA t)]
  intro x hx
  exact evalA_putD fun d hd hxd => h d hd (by
    subst hxd
    exact List.mem_append_left _ (List.mem_filterMap.2 ⟨.tmp d, by simpa using hx, rfl⟩))

/-- a call that marks alone -/
def FzCall (E : Env) (call : CallFn) : Prop := ∀ fid args, E.own fid = false → E.inl fid = false → args.any (hasMut frzDepth) = false →
  ∃ r : List PV → Option PV, ∀ ys d slot gen h g, call ys fid args d slot gen h g = (frzs frzDepth args h).bind fun (ps, h1) => (r ps).map fun p => (.pv p, h1, g)

inductive OpCls (E : Env) (d : Nat) (o : Oper) (F : Heap → Nat → Option (AV × Heap × Nat)) : Prop
  | pu (h : IsPu F)
  | fz (hc : clsOp E o = .fz ∨ clsOp E o = .rd) (h : IsFz F)
  | al (slot : Nat) (hc : clsOp E o = .al) (hd : o.dst = some slot) (h : IsAl d slot F)
  | eff (hc : clsOp E o = .eff)

theorem isPu_some {v : AV} : IsPu (fun h g => some (v, h, g)) := fun h g v' h' g' e => by
  simp only [Option.some.injEq, Prod.mk.injEq] at e
  obtain ⟨rfl, rfl, rfl⟩ := e
  exact ⟨rfl, rfl, fun _ _ => rfl⟩
theorem isPu_none : IsPu (fun _ _ => none) := fun h g v' h' g' e => by cases e
theorem isFz_of {F : Heap → Option (AV × Heap)} (hF : ∀ h v h', F h = some (v, h') → ∃ ks, (∀ k ∈ ks, (hget h k.1 k.2).b ≠ .dead) ∧ h' = marks ks h ∧ ∀ h2, Reads h h2 → F h2 = some (v, marks ks h2)) :
    IsFz (fun h g => (F h).map fun (v, h) => (v, h, g)) := fun h g v h' g' e => by
  simp only [Option.map_eq_some_iff, Prod.mk.injEq] at e
  obtain ⟨⟨a, ha⟩, he, rfl, rfl, rfl⟩ := e
  obtain ⟨ks, k1, k2, k3⟩ := hF h a _ he
  exact ⟨ks, k1, k2, rfl, fun h2 g2 hr => by simp [k3 h2 hr]⟩
theorem isFz_rd {F : Heap → Option (AV × Heap)} (hF : ∀ h v h' h2, Reads h h2 → F h = some (v, h') → h' = h ∧ F h2 = some (v, h2)) :
    IsFz (fun h g => (F h).map fun (v, h) => (v, h, g)) := isFz_of fun h v h' e =>
  ⟨[], by simp, (hF h v h' h (Reads.refl h) e).1, fun h2 hr => (hF h v h' h2 hr e).2⟩

theorem stepV_cls (hcall : FzCall E call) (o : Oper) (t : List AV) : OpCls E d o (stepV E call ys true d gen o (evalA t)) := by
  by_cases hcl : ∃ f args ats, o.op = .call { callee := .value f, args := args, argTypes := ats }
  · obtain ⟨f, args, ats, ho⟩ := hcl
    cases hc : clsOp E o with
    | eff => exact .eff hc
    | fz =>
      cases f with
      | func fid =>
        have hc' := hc
        simp only [clsOp, ho] at hc'
        split at hc'
        · cases hc'
        · rename_i hn
          simp only [Bool.or_eq_true, not_or, Bool.not_eq_true] at hn
          have hF : ∀ h g, stepV E call ys true d gen o (evalA t) h g = if (args.toList.map (evalA t)).any (hasMut frzDepth) then none else call ys fid (args.toList.map (evalA t)) d (o.dst.getD 0) gen h g := by
            intro h g
            unfold stepV
            split
            · rename_i f' args' ats' ho'
              rw [ho] at ho'
              injection ho' with ho'
              injection ho' with h1 h2 h3
              injection h1 with h1
              subst h1 h2
              simp [evalA, calleeOf, hc]
            · rename_i hno
              exact absurd ho (hno _ _ _)
          cases hm : (args.toList.map (evalA t)).any (hasMut frzDepth) with
          | true => exact .pu (by have : stepV E call ys true d gen o (evalA t) = fun _ _ => none := by funext h g; rw [hF, hm]; rfl
                                  rw [this]; exact isPu_none)
          | false =>
            obtain ⟨r, hr⟩ := hcall fid _ hn.1.1 hn.1.2 hm
            refine .fz (.inl hc) ?_
            have : stepV E call ys true d gen o (evalA t) = fun h g => (((frzs frzDepth (args.toList.map (evalA t)) h).bind fun (ps, h1) => (r ps).map fun p => (AV.pv p, h1))).map fun (v, h) => (v, h, g) := by
              funext h g
              rw [hF, hm, hr]
              cases hz : frzs frzDepth (args.toList.map (evalA t)) h with
              | none => rfl
              | some q => obtain ⟨ps, h1⟩ := q; cases hrp : r ps <;> simp [hrp]
            rw [this]
            refine isFz_of fun h v h' e => ?_
            simp only [Option.bind_eq_some_iff, Option.map_eq_some_iff, Prod.mk.injEq] at e
            obtain ⟨⟨ps, h1⟩, e1, p, e2, rfl, rfl⟩ := e
            obtain ⟨ks, k1, k2, k3⟩ := frzs_reads e1
            exact ⟨ks, k1, k2, fun h2 hr => by simp [k3 h2 hr, e2]⟩
      | _ => simp [clsOp, ho] at hc
    | _ =>
      exfalso
      cases f <;> simp [clsOp, ho] at hc <;> (try split at hc) <;> cases hc
  · have hst : ∀ h g, stepV E call ys true d gen o (evalA t) h g = if (clsOp E o == .al) && !deadK h d o.dst then none else (aop E.P o (evalA t) d gen h).map fun (v, h) => (v, h, g) := by
      intro h g
      unfold stepV
      split
      · rename_i f args ats ho; exact absurd ⟨f, args, ats, ho⟩ hcl
      · simp
    cases hc : clsOp E o with
    | eff => exact .eff hc
    | pu =>
      refine .pu fun h g v h' g' e => ?_
      rw [hst, hc] at e
      simp only [Bool.false_and, Bool.false_eq_true, if_false, Option.map_eq_some_iff, Prod.mk.injEq, show ((Cls.pu == Cls.al) = false) from rfl] at e
      obtain ⟨⟨a, ha⟩, he, rfl, rfl, rfl⟩ := e
      rw [aop_pu hc rfl] at he
      cases hx : ((aop E.P o (evalA t) d gen []).map (·.1)) with
      | none => rw [hx] at he; cases he
      | some b =>
        rw [hx] at he
        simp only [Option.map_some, Option.some.injEq, Prod.mk.injEq] at he
        obtain ⟨rfl, rfl⟩ := he
        refine ⟨rfl, rfl, fun h2 g2 => ?_⟩
        rw [hst, hc, aop_pu hc rfl, hx]
        rfl
    | rd =>
      refine .fz (.inr hc) ?_
      have : stepV E call ys true d gen o (evalA t) = fun h g => (aop E.P o (evalA t) d gen h).map fun (v, h) => (v, h, g) := by
        funext h g; rw [hst, hc]; rfl
      rw [this]
      refine isFz_rd fun h v h' h2 hr e => ?_
      cases ho : o.op <;> simp only [clsOp, ho] at hc <;> try (first | (exfalso; revert hc; decide) | skip)
      · exact load_rd ho hr e
      · split at hc <;> cases hc
      · exact slice_rd ho hr e
      · exact indexAddr_rd ho hr e
      · rename_i c
        obtain ⟨callee, args, argTypes⟩ := c
        exfalso
        cases callee with
        | builtin b => cases b <;> simp at hc
        | value f => exact hcl ⟨_, _, _, ho⟩
        | invoke r m => simp at hc
    | fz =>
      refine .fz (.inl hc) ?_
      have : stepV E call ys true d gen o (evalA t) = fun h g => (aop E.P o (evalA t) d gen h).map fun (v, h) => (v, h, g) := by
        funext h g; rw [hst, hc]; rfl
      rw [this]
      refine isFz_of fun h v h' e => ?_
      cases ho : o.op <;> simp only [clsOp, ho] at hc <;> try (first | (exfalso; revert hc; decide) | skip)
      · split at hc <;> cases hc
      · exact makeInterface_fz ho e
      · rename_i c
        obtain ⟨callee, args, argTypes⟩ := c
        exfalso
        cases callee with
        | builtin b => cases b <;> simp at hc
        | value f => exact hcl ⟨_, _, _, ho⟩
        | invoke r m => simp at hc
    | al =>
      cases hd : o.dst with
      | none =>
        refine .pu ?_
        have : stepV E call ys true d gen o (evalA t) = fun _ _ => none := by
          funext h g; rw [hst, hc, hd]; simp [deadK]
        rw [this]; exact isPu_none
      | some slot =>
        refine .al slot hc hd fun h g v h' g' e => ?_
        have hdead : ∀ h, deadK h d (some slot) = true ↔ (hget h d slot).b = .dead := by
          intro h
          unfold deadK
          simp only []
          split <;> simp_all
        rw [hst, hc, hd] at e
        by_cases hk : deadK h d (some slot) = true
        · simp only [hk, Bool.not_true, Bool.and_false, Bool.false_eq_true, if_false, Option.map_eq_some_iff, Prod.mk.injEq] at e
          obtain ⟨⟨a, ha⟩, he, rfl, rfl, rfl⟩ := e
          obtain ⟨s, r, hs, h1, h2⟩ := aop_al hc he
          rw [hd] at hs
          injection hs with hs
          subst hs
          refine ⟨r, (hdead h).1 hk, h1, rfl, fun h3 g3 hk3 => ?_⟩
          rw [hst, hc, hd, (hdead h3).2 hk3, h2]
          rfl
        · simp [hk] at e
theorem opV_cls (hcall : FzCall E call) (i : Nat) (o : Oper) (t : List AV) : OpCls E d o (opV E call ys true d gb all i o t) := by
  unfold opV
  cases wantedA all t o with
  | true => exact stepV_cls hcall o t
  | false => exact .pu isPu_some

/-! ### two that may be swapped -/
theorem swap_core {x y : Oper} {ops : Array Oper} {Fx Fy : Heap → Nat → Option (AV × Heap × Nat)} (hx : OpCls E d x Fx) (hy : OpCls E d y Fy) (hok : swapOk E ops x y = true)
    {h hx' hy' : Heap} {g gx gy : Nat} {vx vy : AV} (ex : Fx h g = some (vx, hx', gx)) (ey : Fy hx' gx = some (vy, hy', gy)) :
    ∃ h' g', Fy h g = some (vy, h', g') ∧ Fx h' g' = some (vx, hy', gy) := by
  have hap : x.apart ops y = true := by
    unfold swapOk at hok
    simp only [Bool.and_eq_true] at hok
    exact hok.1
  have pu_x : IsPu Fx → ∃ h' g', Fy h g = some (vy, h', g') ∧ Fx h' g' = some (vx, hy', gy) := fun hp => by
    obtain ⟨rfl, rfl, k⟩ := hp _ _ _ _ _ ex
    exact ⟨_, _, ey, k _ _⟩
  have pu_y : IsPu Fy → ∃ h' g', Fy h g = some (vy, h', g') ∧ Fx h' g' = some (vx, hy', gy) := fun hp => by
    obtain ⟨rfl, rfl, k⟩ := hp _ _ _ _ _ ey
    exact ⟨_, _, k _ _, ex⟩
  cases hx with
  | pu hp => exact pu_x hp
  | eff hc =>
    cases hy with
    | pu hp => exact pu_y hp
    | fz hc' h' => rcases hc' with hc' | hc' <;> simp [swapOk, hc, hc'] at hok
    | al slot hc' _ _ => simp [swapOk, hc, hc'] at hok
    | eff hc' => simp [swapOk, hc, hc'] at hok
  | fz hc hfx =>
    obtain ⟨kx, x1, rfl, rfl, x3⟩ := hfx _ _ _ _ _ ex
    cases hy with
    | pu hp => exact pu_y hp
    | eff hc' => rcases hc with hc | hc <;> simp [swapOk, hc, hc'] at hok
    | fz hc' hfy =>
      obtain ⟨ky, y1, rfl, rfl, y3⟩ := hfy _ _ _ _ _ ey
      refine ⟨_, _, y3 _ _ (Reads.marks_l kx h), ?_⟩
      rw [x3 _ _ (Reads.marks_r ky h), marks_comm]
    | al slot hc' hd hfy =>
      obtain ⟨r, y1, rfl, rfl, y3⟩ := hfy _ _ _ _ _ ey
      rw [marks_dead] at y1
      refine ⟨_, _, y3 _ _ y1, ?_⟩
      rw [x3 _ _ (Reads.hput y1), marks_hput]
      rintro k hk ⟨rfl, rfl⟩
      exact x1 k hk y1
  | al slot hc hd hfx =>
    obtain ⟨r, x1, rfl, rfl, x3⟩ := hfx _ _ _ _ _ ex
    cases hy with
    | pu hp => exact pu_y hp
    | eff hc' => simp [swapOk, hc, hc'] at hok
    | fz hc' hfy => rcases hc' with hc' | hc' <;> simp [swapOk, hc, hc'] at hok
    | al slot' hc' hd' hfy =>
      obtain ⟨r', y1, rfl, rfl, y3⟩ := hfy _ _ _ _ _ ey
      have hne : slot ≠ slot' := by
        intro e
        subst e
        exact (Oper.apart_spec hap).2.1 _ hd hd'
      rw [hget_hput, if_neg (by simp [hne])] at y1
      refine ⟨_, _, y3 _ _ y1, ?_⟩
      rw [x3 _ _ (by rw [hget_hput, if_neg (fun q => hne q.2.symm)]; exact x1), hput_comm _ _ _ (fun q => hne q.2.symm)]

theorem ostep_swap (hcall : FzCall E call) {i j : Nat} {x y : Oper} {s s1 s2 : St} (hok : swapOk E all x y = true) (ex : ostep E call ys true d gb all j x s = some s1) (ey : ostep E call ys true d gb all i y s1 = some s2) :
    ∃ s1', ostep E call ys true d gb all i y s = some s1' ∧ ostep E call ys true d gb all j x s1' = some s2 := by
  have hap : x.apart all y = true := by
    have := hok
    unfold swapOk at this
    simp only [Bool.and_eq_true] at this
    exact this.1
  obtain ⟨a1, a2, a3⟩ := Oper.apart_spec hap
  unfold ostep at ex ey
  simp only [Option.map_eq_some_iff] at ex
  obtain ⟨⟨vx, hx', gx⟩, ex, rfl⟩ := ex
  simp only [] at ey
  rw [opV_putD a1] at ey
  simp only [Option.map_eq_some_iff] at ey
  obtain ⟨⟨vy, hy', gy⟩, ey, rfl⟩ := ey
  obtain ⟨h', g', e1, e2⟩ := swap_core (opV_cls hcall j x s.t) (opV_cls hcall i y s.t) hok ex ey
  refine ⟨{ t := putD s.t y.dst vy, h := h', g := g' }, by simp [ostep, e1], ?_⟩
  unfold ostep
  simp only []
  rw [opV_putD a3, e2]
  simp only [Option.map_some, putD_comm s.t vx vy a2]

/-! ### lists of operations by number -/
def opL (E : Env) (call : CallFn) (ys : Ys) (st : Bool) (d gb : Nat) (all : Array Oper) (i : Nat) (s : St) : Option St := match all[i]? with
  | some o => ostep E call ys st d gb all i o s
  | none => some s
def opsL (E : Env) (call : CallFn) (ys : Ys) (st : Bool) (d gb : Nat) (all : Array Oper) : List Nat → St → Option St
  | [], s => some s
  | i :: l, s => (opL E call ys st d gb all i s).bind (opsL E call ys st d gb all l)
theorem opsL_append (l l' : List Nat) (s : St) : opsL E call ys st d gb all (l ++ l') s = (opsL E call ys st d gb all l s).bind (opsL E call ys st d gb all l') := by
  induction l generalizing s with
  | nil => rfl
  | cons i l ih =>
    simp only [List.cons_append, opsL, Option.bind_assoc]
    congr 1
    funext s
    exact ih s
theorem opsF_eq : ∀ (os : List Oper) (i : Nat) (s : St), (∀ j, all[i + j]? = os[j]?) → opsF E call ys st d gb all os i s = opsL E call ys st d gb all (List.range' i os.length) s
  | [], _, _, _ => rfl
  | o :: os, i, s, h => by
    have h0 : all[i]? = some o := by simpa using h 0
    simp only [opsF, List.length_cons, List.range'_succ, opsL, opL, h0]
    congr 1
    funext s
    exact opsF_eq os (i + 1) s fun j => by have := h (j + 1); rw [show i + (j + 1) = i + 1 + j by omega] at this; simpa using this
theorem opsF_text (s : St) : opsF E call ys st d gb all all.toList 0 s = opsL E call ys st d gb all (List.range all.size) s := by
  rw [opsF_eq _ 0 s (fun j => by simp), List.range_eq_range', Array.length_toList]

def SwapAt (E : Env) (all : Array Oper) (j i : Nat) : Prop := ∃ x y, all[j]? = some x ∧ all[i]? = some y ∧ swapOk E all x y = true
theorem bubble (hcall : FzCall E call) {i : Nat} : ∀ (R1 R2 : List Nat) (s s' : St), (∀ r ∈ R1, SwapAt E all r i) → opsL E call ys true d gb all (R1 ++ i :: R2) s = some s' →
    opsL E call ys true d gb all (i :: (R1 ++ R2)) s = some s'
  | [], _, _, _, _, h => h
  | r :: R1, R2, s, s', hs, h => by
    simp only [List.cons_append, opsL, Option.bind_eq_some_iff] at h ⊢
    obtain ⟨s1, h1, h2⟩ := h
    have := bubble hcall R1 R2 s1 s' (fun r hr => hs r (by simp [hr])) h2
    simp only [opsL, Option.bind_eq_some_iff] at this
    obtain ⟨s2, h3, h4⟩ := this
    obtain ⟨x, y, hx, hy, hok⟩ := hs r (by simp)
    simp only [opL, hx] at h1
    simp only [opL, hy] at h3
    obtain ⟨s1', g1, g2⟩ := ostep_swap hcall hok h1 h3
    exact ⟨s1', by simp only [opL, hy]; exact g1, s2, by simp only [opL, hx]; exact g2, h4⟩
end
end Go.Proofs.YtlhfgonjcpapnaaGreatDoor.Abs

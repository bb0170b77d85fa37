/-
  The abstract machine over the model, its soundness, walks of the program's functions and what they compute. Conditions: the values are of their types.
-/
import GoSem.Dispatch
import GoSem.Machine.Return
import Derived.Control
import Derived.Orders
import Derived.Laws.Sem
import Derived.CheckFast
import Derived.Laws.Cells
import Derived.Laws.IdiomCopy
import Derived.Laws.Entries
import Derived.Laws.NewFold
import Derived.Below
import Derived.Deep.Draws
import Derived.Laws.StructEq
import Derived.Laws.Tables
import Derived.Great.BuildSlice
import Derived.Laws.BytesString
import Derived.IntWalk
import Derived.Deep.AppendSrc
import Derived.Deep.Upon

set_option linter.all false
set_option linter.unnecessarySimpa false

namespace Go.Proofs.YtcoeigibikbfdaaGreatDoor.Abs
open Go
inductive PV where
  | lit (v : Value)
  | sl (k : Nat) (nl full : Bool) (xs : List PV)
  | ptr (root : PV) (off : Nat)
  | agg (cells : List PV)
  | tup (vs : List PV)
  | iface (t : TypeId) (v : PV)
  | clo (f : Fn) (first captured : List PV)
  deriving Inhabited
inductive AV where
  | pv (p : PV)
  | mptr (d s g i off : Nat)
  | msl (d s g off n : Nat) (full : Bool)
  | agg (cells : List AV)
  | tup (vs : List AV)
  | clo (f : Fn) (first captured : List AV)
  | yld (d s g : Nat)
  | ifc (t : TypeId) (v : AV)
  /-- the nil pointer ahead in a strings.Builder that was never written: of that type its box is -/
  | btag (t : TypeId)
  deriving Inhabited
inductive AExit where
  | normal
  | exit (id : Nat)
  | goto (l : Nat)
  | ret
  deriving DecidableEq, Inhabited
inductive LpSt where
  | ready
  | busy
  | done (x : AExit)
  deriving DecidableEq, Inhabited
inductive Body where
  | dead
  | box (v : AV) (fz : Bool)
  | row (k : Nat) (e : TypeId) (xs : List PV) (fz : Bool)
  | iter (s : ByteArray) (pos : Nat)
  | lp (st : LpSt)
  deriving Inhabited
structure Row where
  g : Nat
  b : Body
  deriving Inhabited
abbrev Heap := List (List Row)
def putL {α : Type} (z : α) : List α → Nat → α → List α
  | [], 0, v => [v]
  | [], n + 1, v => z :: putL z [] n v
  | _ :: l, 0, v => v :: l
  | x :: l, n + 1, v => x :: putL z l n v
def row0 : Row := ⟨0, .dead⟩
def hget (h : Heap) (d s : Nat) : Row := (h.getD d []).getD s row0
def hput (h : Heap) (d s : Nat) (r : Row) : Heap := putL [] h d (putL row0 (h.getD d []) s r)
def live (h : Heap) (d s g : Nat) : Body := if (hget h d s).g = g then (hget h d s).b else .dead
structure St where
  t : List AV
  h : Heap
  g : Nat
def ofVal1 : Value → PV
  | .slice none n c => if n = 0 ∧ c = 0 then .sl 0 true true [] else .lit (.slice none n c)
  | .func f a b => if a.size = 0 ∧ b.size = 0 then .clo f [] [] else .lit (.func f a b)
  | v => .lit v
def ofVal : Value → PV
  | .agg cs => if cs.toList.all (·.oneCell') then .agg (cs.toList.map ofVal1) else .lit (.agg cs)
  | v => ofVal1 v
def undefA : AV := .pv (.lit undef)
def getT (t : List AV) (i : Nat) : AV := t.getD i undefA
def putT (t : List AV) (i : Nat) (v : AV) : List AV := putL undefA t i v
def putD (t : List AV) : Option Tmp → AV → List AV
  | some i, v => putT t i v
  | none, _ => t
def evalA (t : List AV) : Operand → AV
  | .tmp i => getT t i
  | .const v => .pv (ofVal v)
  | .global g => .pv (.lit (.pointer (some ⟨g, 0, none⟩)))
  | .func f => .pv (.clo (.func f) [] [])
def PV.cells : PV → List PV
  | .agg cs => cs
  | v => [v]
def AV.cells : AV → List AV
  | .pv p => p.cells.map .pv
  | .agg cs => cs
  | v => [v]
def PV.isAgg : PV → Bool
  | .agg _ => true
  | _ => false
def AV.isAgg : AV → Bool
  | .pv p => p.isAgg
  | .agg _ => true
  | _ => false
def PV.ok : PV → Bool
  | .lit v => v.oneCell'
  | .tup _ => false
  | _ => true
def AV.ok : AV → Bool
  | .pv p => p.ok
  | .tup _ => false
  | _ => true
def allPV : List AV → Option (List PV)
  | [] => some []
  | .pv p :: l => (allPV l).map (p :: ·)
  | _ :: _ => none
def mkAgg (l : List AV) : AV := match allPV l with
  | some ps => .pv (.agg ps)
  | none => .agg l
def subP (ag : Bool) (m off : Nat) (p : PV) : Option PV :=
  if ag then (if off + m ≤ p.cells.length then some (.agg ((p.cells.drop off).take m)) else none) else p.cells[off]?
def subA (ag : Bool) (m off : Nat) : AV → Option AV
  | .pv p => (subP ag m off p).map .pv
  | v => if ag then (if off + m ≤ v.cells.length then some (mkAgg ((v.cells.drop off).take m)) else none) else v.cells[off]?
def splice {α : Type} (l : List α) (off : Nat) (new : List α) : List α := l.take off ++ new ++ l.drop (off + new.length)
def AV.isTag : AV → Bool
  | .btag _ => true
  | _ => false
def headTag : Option AV → Option TypeId
  | some (.btag t) => some t
  | _ => none
def tagOf (v : AV) : Option TypeId := headTag v.cells.head?
def boxOk (e : TypeId) (v : AV) : Bool := v.ok && (match tagOf v with
  | some t => t == e
  | none => true)
def setA (v : AV) (off : Nat) (new : List AV) : Option AV :=
  if off + new.length ≤ v.cells.length ∧ new.any AV.isTag = false then
    if v.isAgg then some (mkAgg (splice v.cells off new)) else new.head?
  else none
def setP (v : PV) (off : Nat) (new : List PV) : Option PV :=
  if off + new.length ≤ v.cells.length then
    if v.isAgg then some (.agg (splice v.cells off new)) else new.head?
  else none
abbrev Key := Nat × Nat
def pks (f : AV → Option (PV × List Key)) : List AV → Option (List PV × List Key)
  | [] => some ([], [])
  | v :: l => (f v).bind fun (p, k1) => (pks f l).map fun (ps, k2) => (p :: ps, k1 ++ k2)
def pk (h : Heap) : Nat → AV → Option (PV × List Key)
  | 0, _ => none
  | n + 1, v => match v with
    | .pv p => some (p, [])
    | .mptr d s g i off => match live h d s g with
      | .box v _ => if i = 0 then (pk h n v).map fun (p, ks) => (.ptr p off, (d, s) :: ks) else none
      | .row _ _ xs _ => (xs[i]?).map fun x => (.ptr x off, [(d, s)])
      | _ => none
    | .msl d s g off m full => match live h d s g with
      | .row k _ xs _ => if off + m ≤ xs.length then some (.sl k false full ((xs.drop off).take m), [(d, s)]) else none
      | _ => none
    | .agg l => (pks (pk h n) l).map fun (ps, ks) => (.agg ps, ks)
    | .tup l => (pks (pk h n) l).map fun (ps, ks) => (.tup ps, ks)
    | .clo f a b => (pks (pk h n) a).bind fun (pa, k1) => (pks (pk h n) b).map fun (pb, k2) => (.clo f pa pb, k1 ++ k2)
    | .yld .. => none
    | .ifc t v => (pk h n v).map fun (p, ks) => (.iface t p, ks)
    | .btag _ => none
def markB : Body → Body
  | .box v _ => .box v true
  | .row k e xs _ => .row k e xs true
  | b => b
def mark (h : Heap) (k : Key) : Heap := hput h k.1 k.2 { (hget h k.1 k.2) with b := markB (hget h k.1 k.2).b }
def marks (ks : List Key) (h : Heap) : Heap := ks.foldl mark h
def frz (n : Nat) (v : AV) (h : Heap) : Option (PV × Heap) := (pk h n v).map fun (p, ks) => (p, marks ks h)
def frzs (n : Nat) (l : List AV) (h : Heap) : Option (List PV × Heap) := (pks (pk h n) l).map fun (ps, ks) => (ps, marks ks h)
def frzDepth : Nat := 8
def pureRun {α : Type} (P : Program) : Sem α → Option α
  | .pure a => some a
  | .program k => pureRun P (k P)
  | .mark _ k => pureRun P k
  | _ => none
def toVal1 : PV → Option Value
  | .lit v => some v
  | .sl _ true _ _ => some (.slice none 0 0)
  | .iface t (.lit v) => some (.iface t v)
  | _ => none
def toVals : List PV → Option (List Value)
  | [] => some []
  | p :: l => (toVal1 p).bind fun v => (toVals l).map (v :: ·)
def toVal : PV → Option Value
  | .agg cs => (toVals cs).map fun l => .agg l.toArray
  | p => toVal1 p
def valA : AV → Option Value
  | .pv p => toVal p
  | _ => none
def litA (v : Value) : AV := .pv (.lit v)
def nilBeside : TypeDesc → AV → AV → Bool
  | .slice _, .msl .., .pv (.sl _ true _ _) => true
  | .slice _, .pv (.sl _ false _ _), .pv (.sl _ true _ _) => true
  | .pointer _, .mptr .., .pv (.lit (.pointer none)) => true
  | .pointer _, .pv (.ptr ..), .pv (.lit (.pointer none)) => true
  | .interface _, .pv (.iface ..), .pv (.lit .nilIface) => true
  | .interface _, .ifc .., .pv (.lit .nilIface) => true
  | .func .., .pv (.clo ..), .pv (.lit .nilFunc) => true
  | .func .., .clo .., .pv (.lit .nilFunc) => true
  | _, _, _ => false
def unlike : TypeDesc → AV → AV → Bool
  | .interface _, .pv (.iface t _), .pv (.iface t' _) => t != t'
  | _, _, _ => false
def eqLeaf (P : Program) (t : TypeId) (a b : PV) : Option Bool := match P.underlying t, a, b with
  | some .string, .lit (.string x), .lit (.string y) => some (x.toList == y.toList)
  | some (.int _), .lit (.int k x), .lit (.int k' y) => if k = k' then some (x == y) else none
  | some .bool, .lit (.bool x), .lit (.bool y) => some (x == y)
  | _, _, _ => none
def eqCellsF (P : Program) : List Field → List PV → List PV → Option Bool
  | [], _, _ => some true
  | f :: fs, xs, ys => if f.name ≠ "_" then (xs[f.offset]?).bind fun a => (ys[f.offset]?).bind fun b => (eqLeaf P f.type a b).bind fun r => (eqCellsF P fs xs ys).map fun q => r && q else none
def structEq (P : Program) (t : TypeId) (xs ys : List PV) : Option Bool := match P.underlying t with
  | some (.struct fs) => if P.stoodInHeld t = false ∧ P.eqGuardType P.depth t = false then eqCellsF P fs.toList xs ys else none
  | _ => none
def eqAgg (P : Program) (op : BinOp) (t : TypeId) (x y : AV) : Option Bool := match x, y with
  | .pv (.agg xs), .pv (.agg ys) => (match op with
    | .eql => structEq P t xs ys
    | .neq => (structEq P t xs ys).map (!·)
    | _ => none)
  | _, _ => none
def abin (P : Program) (op : BinOp) (t : TypeId) (xo yo : Operand) (x y : AV) : Option AV := match eqAgg P op t x y with
  | some r => some (litA (.bool r))
  | none => match valA x, valA y with
  | some a, some b => (pureRun P (do eqGuard op t xo yo a b; binOp op t a b)).map litA
  | _, _ => match P.underlying t, op with
    | some d, .eql => if nilBeside d x y || unlike d x y then some (litA (.bool false)) else none
    | some d, .neq => if nilBeside d x y || unlike d x y then some (litA (.bool true)) else none
    | _, _ => none
def szOf (P : Program) (t : TypeId) : Option Nat := (P.info? t).map (·.size)
def byOf (P : Program) (t : TypeId) : Option Nat := (P.info? t).map (·.bytes)
def aggT (P : Program) (t : TypeId) : Option Bool := match P.underlying t with
  | some (.struct _) | some (.array _ _) => some true
  | some _ => some false
  | none => none
def zeroOf (P : Program) (t : TypeId) : Option Value := (P.info? t).bind (·.zero)
def fillA (place : Nat → Option (Nat × Nat)) : List AV → List (Nat × AV) → Option (List AV)
  | cells, [] => some cells
  | cells, (i, v) :: rest => match place i with
    | none => none
    | some (off, size) => if v.cells.length = size ∧ off + size ≤ cells.length ∧ v.ok = true then fillA place (splice cells off v.cells) rest else none
def places (P : Program) (fields : Array Field) : Option (List (Nat × Nat)) :=
  fields.toList.mapM fun f => (szOf P f.type).map fun n => (f.offset, n)
def bytesPV (s : ByteArray) : List PV := s.data.toList.map fun b => .lit (.int .u8 b.toNat)
def pvBytes : List PV → Option (List UInt8)
  | [] => some []
  | .lit (.int .u8 n) :: l => (pvBytes l).map (UInt8.ofNat n.toNat :: ·)
  | _ :: _ => none
def elemsOf (size : Nat) (h : Heap) : AV → Option (List PV)
  | .pv (.sl k nl _ ys) => if nl = true then (if ys.length = 0 then some [] else none) else if k = size then some ys else none
  | .pv (.lit (.string s)) => if size = 1 then some (bytesPV s) else none
  | .msl d s g off n _ => match live h d s g with
    | .row k _ xs _ => if k = size ∧ off + n ≤ xs.length then some ((xs.drop off).take n) else none
    | _ => none
  | _ => none
def slicey : AV → Bool
  | .pv (.sl ..) | .msl .. => true
  | _ => false
def room47 : Nat := 140737488355328
def maxInt : Nat := 9223372036854775807
def fitsRow (n bytes : Nat) : Bool := decide (n * bytes ≤ room47) && decide (n ≤ maxInt)
def aappend (e size bytes d slot gen : Nat) (h : Heap) (tgt : AV) (ys : List PV) : Option (AV × Heap) :=
  match tgt with
  | .pv (.sl k nl full xs) =>
    if ys.isEmpty then some (tgt, h)
    else if nl then (if xs.length = 0 ∧ fitsRow ys.length bytes = true then some (.msl d slot gen 0 ys.length false, hput h d slot ⟨gen, .row size e ys false⟩) else none)
    else if full = true ∧ k = size ∧ fitsRow (xs.length + ys.length) bytes = true then
      some (.msl d slot gen 0 (xs.length + ys.length) false, hput h d slot ⟨gen, .row size e (xs ++ ys) false⟩)
    else none
  | .msl d' s' g' off n full => match live h d' s' g' with
    | .row k e' xs fz =>
      if full then
        if ys.isEmpty then some (tgt, h)
        else if k = size ∧ off + n ≤ xs.length ∧ fitsRow (n + ys.length) bytes = true then
          some (.msl d slot gen 0 (n + ys.length) false, hput h d slot ⟨gen, .row size e ((xs.drop off).take n ++ ys) false⟩)
        else none
      else if fz = false ∧ k = size ∧ e' = e ∧ off + n = xs.length ∧ fitsRow (n + ys.length) bytes = true then
        some (.msl d' s' gen 0 (n + ys.length) false, hput h d' s' ⟨gen, .row size e (xs.drop off ++ ys) false⟩)
      else none
    | _ => none
  | _ => none
def intOf? : AV → Option Int
  | .pv (.lit (.int _ i)) => some i
  | _ => none
def natIn (v : Option AV) (dflt top : Nat) : Option Nat := match v with
  | none => some dflt
  | some a => (intOf? a).bind fun i => if 0 ≤ i ∧ i ≤ top then some i.toNat else none
def bounds (n : Nat) (lo hi mx : Option AV) : Option (Nat × Nat × Option Nat) :=
  (match mx with
    | none => some none
    | some _ => (natIn mx n n).map some).bind fun m =>
  (natIn hi n (m.getD n)).bind fun r =>
  (natIn lo 0 r).bind fun l =>
  if (mx.isSome && hi.isNone) = true then none else some (l, r, m)
def aslice (P : Program) (t : TypeId) (h : Heap) (x : AV) (lo hi mx : Option AV) : Option AV :=
  match P.underlying t, x with
  | some .string, .pv (.lit (.string s)) => do
    let (l, r, m) ← bounds s.size lo hi mx
    if m.isSome then none else some (litA (.string (s.extract l r)))
  | some (.slice e), .pv (.sl k nl full xs) => do
    let (l, r, m) ← bounds xs.length lo hi mx
    let size ← szOf P e
    if nl = true ∨ k = size then
      some (.pv (.sl k nl (match m with | some m => m == r | none => full && r == xs.length) ((xs.drop l).take (r - l))))
    else none
  | some (.slice e), .msl d s g off n full => do
    let (l, r, m) ← bounds n lo hi mx
    let size ← szOf P e
    match live h d s g with
    | .row k _ _ _ => if k = size then some (.msl d s g (off + l) (r - l) (match m with | some m => m == r | none => full && r == n)) else none
    | _ => none
  | some (.array n e), .mptr d s g i off => do
    let (l, r, m) ← bounds n lo hi mx
    let size ← szOf P e
    match live h d s g with
    | .box v _ => if i = 0 ∧ size = 1 ∧ off + n ≤ v.cells.length then some (.msl d s g (off + l) (r - l) (m.getD n == r)) else none
    | _ => none
  | _, _ => none
def afield (fields : Array Field) (P : Program) (f : Nat) : Option Nat := (fields[f]?).bind fun fd => (szOf P fd.type).bind fun n => if n = 0 then none else some fd.offset
def appendable (P : Program) (t : TypeId) : Bool := match P.underlying t with
  | some (.slice _) | some .string => true
  | _ => false
def litInt (n : Nat) : AV := litA (.int .i64 n)
def azeros (P : Program) (e t1 : TypeId) (d slot gen : Nat) (h : Heap) (x y : AV) : Option (AV × Heap) := match P.underlying t1, x, y with
  | some (.int _), .pv (.sl _ nl _ xs), .pv (.lit (.int _ n)) => do
    let size ← szOf P e
    let bytes ← byOf P e
    let z ← zeroOf P e
    if size = 0 ∨ z.cells.size ≠ size then none else
    if nl = true ∧ xs.length = 0 ∧ 1 ≤ n ∧ fitsRow n.toNat bytes = true then some (.msl d slot gen 0 n.toNat false, hput h d slot ⟨gen, .row size e [] false⟩) else none
  | _, _, _ => none
def abuiltin (P : Program) (b : Builtin) (argTypes : Array TypeId) (type : TypeId) (d slot gen : Nat) (h : Heap) (args : List AV) : Option (AV × Heap) :=
  match b, args with
  | .len, [x] => match (argTypes[0]?).bind P.underlying, x with
    | some (.slice _), .pv (.sl _ _ _ xs) => some (litInt xs.length, h)
    | some (.slice _), .msl _ _ _ _ n _ => some (litInt n, h)
    | some .string, .pv (.lit (.string s)) => some (litInt s.size, h)
    | some (.array n _), _ => some (litInt n, h)
    | _, _ => none
  | .cap, [x] => match (argTypes[0]?).bind P.underlying, x with
    | some (.slice _), .pv (.sl _ nl true xs) => if nl = false ∨ xs.length = 0 then some (litInt xs.length, h) else none
    | some (.slice _), .msl _ _ _ _ n true => some (litInt n, h)
    | _, _ => none
  | .append, [x, y] => match argTypes.toList with
    | [t0, t1] => match P.underlying t0, appendable P t1 with
      | some (.slice e), true => do
        let size ← szOf P e
        let bytes ← byOf P e
        let z ← zeroOf P e
        let ys ← elemsOf size h y
        if size = 0 ∨ z.cells.size ≠ size then none else aappend e size bytes d slot gen h x ys
      | some (.slice e), false => azeros P e t1 d slot gen h x y
      | _, _ => none
    | _ => none
  | .clear, [x] => match (argTypes[0]?).bind P.underlying, x with
    | some (.slice e), .msl d s g off n _ => (zeroOf P e).bind fun z => match live h d s g with
      | .box v false => if n ≠ 0 ∧ (ofVal z).ok = true ∧ (ofVal z).isAgg = false then
          (setA v off (List.replicate n (.pv (ofVal z)))).map fun v' => (undefA, hput h d s ⟨g, .box v' false⟩)
        else if n = 0 then some (undefA, h) else none
      | .row k e' xs false => if n = 0 then some (undefA, h) else
          if (ofVal z).ok = true ∧ (ofVal z).cells.length = k ∧ k ≠ 0 ∧ off + n ≤ xs.length then some (undefA, hput h d s ⟨g, .row k e' (splice xs off (List.replicate n (ofVal z))) false⟩) else none
      | _ => none
    | _, _ => none
  | .unsafeSliceData, [x] => match x with
    | .pv (.sl _ true _ _) => some (litA (.pointer none), h)
    | .msl d s g off (_ + 1) _ => some (.mptr d s g off 0, h)
    | _ => none
  | .unsafeString, [p, n] => match p, n with
    | .pv (.lit (.pointer none)), .pv (.lit (.int .i64 0)) => (argTypes[0]?).map fun _ => (litA (.string ⟨#[]⟩), h)
    | .mptr d s g off 0, .pv (.lit (.int .i64 n)) => match live h d s g with
      | .row 1 e xs false => match (argTypes[0]?).bind P.underlying with
        | some (.pointer e') => if 1 ≤ n ∧ n ≤ 9223372036854775807 ∧ off + n.toNat ≤ xs.length ∧ e' = e ∧ P.cellsOf e = 1 then
            (pvBytes ((xs.drop off).take n.toNat)).map fun bs => (litA (.string ⟨bs.toArray⟩), hput h d s ⟨g, .row 1 e xs true⟩) else none
        | _ => none
      | _ => none
    | _, _ => none
  | .max, _ => ((allPV args).bind toVals).bind fun vs => (pureRun P (Builtin.max_ argTypes type vs.toArray)).map fun v => (litA v, h)
  | .min, _ => ((allPV args).bind toVals).bind fun vs => (pureRun P (Builtin.min_ argTypes type vs.toArray)).map fun v => (litA v, h)
  | _, _ => none
def isPP (P : Program) : TypeDesc → Bool
  | .pointer e => match P.underlying e with
    | some (.pointer _) => true
    | _ => false
  | _ => false
def tagged (P : Program) (e : TypeId) (p : PV) : AV := match (P.info? e).map TypeInfo.desc, p with
  | some (.named "strings.Builder" _), .agg (.lit (.pointer none) :: l) => .agg (.btag e :: l.map .pv)
  | _, _ => .pv p
def lacks (want : Array (String × TypeId)) (got : Array Method) : Bool := want.toList.any fun q => !got.any fun m => m.name == q.1 && m.sig == q.2
def assertA (P : Program) (_x : Operand) (_xT aT : TypeId) (ok : Bool) (v : AV) : Option AV :=
  let fails : Option AV := if ok then (zeroOf P aT).map fun z => .pv (.tup [ofVal z, .lit (.bool false)]) else none
  let holds (p : PV) : Option AV := some (.pv (if ok then .tup [p, .lit (.bool true)] else p))
  match P.underlying aT, v with
  | some _, .pv (.lit .nilIface) => fails
  | some (.interface want), .pv (.iface t p) => (P.info? t).bind fun i => match lacks want i.methods with
    | false => holds (.iface t p)
    | true => fails
  | some _, .pv (.iface t p) => if t = aT then holds p else fails
  | _, _ => none
def methodA (P : Program) (v : AV) (name : String) : Option (FuncId × AV) := match v with
  | .pv (.iface t p) => ((P.info? t).bind fun i => i.methods.find? (·.name == name)).bind fun m =>
    if m.path.isEmpty then match m.func, P.underlying t with
      | some (f, true), some (.pointer _) => some (f, .pv p)
      | some (_, false), some (.pointer _) => none
      | some (f, false), some _ => some (f, .pv p)
      | _, _ => none
    else none
  | _ => none
def aop (P : Program) (o : Oper) (ρ : Operand → AV) (d gen : Nat) (h : Heap) : Option (AV × Heap) :=
  match o.op with
  | .move x | .assign x => some (ρ x, h)
  | .pick c a b => match ρ c with
    | .pv (.lit (.bool t)) => some (if t then ρ a else ρ b, h)
    | _ => none
  | .alloc e => do
    let z ← zeroOf P e
    let s ← o.dst
    if (ofVal z).ok then some (.mptr d s gen 0 0, hput h d s ⟨gen, .box (tagged P e (ofVal z)) false⟩) else none
  | .box _ x => do
    let s ← o.dst
    if (ρ x).ok ∧ (tagOf (ρ x)).isNone = true then some (.mptr d s gen 0 0, hput h d s ⟨gen, .box (ρ x) false⟩) else none
  | .build t parts => do
    let z ← zeroOf P t
    let cells := (ofVal z).cells.map AV.pv
    if (ofVal z).ok then match P.underlying t with
    | some (.struct fields) => do
      let pl ← places P fields
      let cs ← fillA (pl[·]?) cells (parts.toList.map fun (i, x) => (i, ρ x))
      some (mkAgg cs, h)
    | some (.array _ e) => do
      let size ← szOf P e
      let cs ← fillA (fun i => some (i * size, size)) cells (parts.toList.map fun (i, x) => (i, ρ x))
      some (mkAgg cs, h)
    | _ => none
    else none
  | .buildSlice t len parts => match P.underlying t with
    | some (.slice e) => do
      let size ← szOf P e
      if len = 0 ∧ parts.size = 0 then some (.pv (.sl size false true []), h) else do
      let z ← zeroOf P e
      let s ← o.dst
      if len * size ≤ 16777216 ∧ len * size ≠ 0 ∧ (ofVal z).cells.length = size ∧ (ofVal z).ok = true then do
        let (ps, h1) ← frzs frzDepth (parts.toList.map fun q => ρ q.2) h
        if (ps.all fun p => p.cells.length == size && p.ok) && (parts.toList.all fun q => decide (q.1 < len)) then
          let xs := ((parts.toList.map (·.1)).zip ps).foldl (fun l q => l.set q.1 q.2) (List.replicate len (ofVal z))
          some (.msl d s gen 0 len true, hput h1 d s ⟨gen, .row size e xs false⟩)
        else none
      else none
    | _ => none
  | .load t a => do
    let m ← szOf P t
    let ag ← aggT P t
    match ρ a with
    | .mptr d s g i off => match live h d s g with
      | .box v _ => if i = 0 then (subA ag m off v).map (·, h) else none
      | .row _ _ xs _ => (xs[i]?).bind fun x => (subP ag m off x).map fun p => (.pv p, h)
      | _ => none
    | .pv (.ptr root off) => (subP ag m off root).map fun p => (.pv p, h)
    | _ => none
  | .store t a x => do
    let m ← szOf P t
    if (ρ x).cells.length = m ∧ m ≠ 0 ∧ (ρ x).ok = true then
      match ρ a with
      | .mptr d s g i off => match live h d s g with
        | .box v false => if i = 0 then (setA v off (ρ x).cells).map fun v' => (undefA, hput h d s ⟨g, .box v' false⟩) else none
        | .row _ _ _ false => (frz frzDepth (ρ x) h).bind fun (p, h1) => match live h1 d s g with
          | .row k e xs false => (xs[i]?).bind fun y => if off + p.cells.length ≤ y.cells.length then (setP y off p.cells).map fun y' => (undefA, hput h1 d s ⟨g, .row k e (xs.set i y') false⟩) else none
          | _ => none
        | _ => none
      | _ => none
    else none
  | .nilCheck x => match ρ x with
    | .mptr d s g i off => some (.mptr d s g i off, h)
    | .pv (.ptr r off) => some (.pv (.ptr r off), h)
    | .pv (.clo (.func f) a b) => some (.pv (.clo (.func f) a b), h)
    | .clo (.func f) a b => some (.clo (.func f) a b, h)
    | .pv (.iface t p) => some (.pv (.iface t p), h)
    | _ => none
  | .binOp op t x y _ => (abin P op t x y (ρ x) (ρ y)).map (·, h)
  | .unOp op _ x => (valA (ρ x)).bind fun v => (pureRun P (Op.unary op v)).map fun r => (litA r, h)
  | .convert src dst x => match P.underlying src, P.underlying dst, ρ x with
    | some .string, some (.slice e), .pv (.lit (.string s)) => match P.underlying e, o.dst with
      | some (.int .u8), some sl => if s.size ≤ maxInt then some (.msl d sl gen 0 s.size false, hput h d sl ⟨gen, .row 1 e (bytesPV s) false⟩) else none
      | _, _ => none
    | some (.slice e), some .string, x => match P.underlying e with
      | some (.int .u8) => if slicey x then (elemsOf 1 h x).bind fun l => (pvBytes l).map fun bs => (litA (.string ⟨bs.toArray⟩), h) else none
      | _ => none
    | _, _, x => (valA x).bind fun v => (pureRun P (convert src dst v)).map fun r => (litA r, h)
  | .makeInterface t x => match P.underlying t with
    | some (.interface _) | none => none
    | some d => if isPP P d then some (.ifc t (ρ x), h) else (frz frzDepth (ρ x) h).map fun (p, h1) => (.pv (.iface t p), h1)
  | .typeAssert x xT aT ok => (assertA P x xT aT ok (ρ x)).map (·, h)
  | .makeFunc fn first captured => match allPV (first.toList.map ρ), allPV (captured.toList.map ρ) with
    | some a, some b => some (.pv (.clo fn a b), h)
    | _, _ => some (.clo fn (first.toList.map ρ) (captured.toList.map ρ), h)
  | .makeSlice t l c => match P.underlying t with
    | some (.slice e) => do
      let size ← szOf P e
      let bytes ← byOf P e
      let z ← zeroOf P e
      let s ← o.dst
      let l ← intOf? (ρ l)
      let c ← intOf? (ρ c)
      if 0 ≤ l ∧ l ≤ c ∧ fitsRow c.toNat bytes = true ∧ size ≠ 0 ∧ (ofVal z).cells.length = size ∧ (ofVal z).ok = true then
        some (.msl d s gen 0 l.toNat (decide (l = c)), hput h d s ⟨gen, .row size e (List.replicate l.toNat (ofVal z)) false⟩)
      else none
    | _ => none
  | .slice t x lo hi mx => (aslice P t h (ρ x) (lo.map ρ) (hi.map ρ) (mx.map ρ)).map (·, h)
  | .fieldAddr st x f => match P.underlying st with
    | some (.struct fields) => (afield fields P f).bind fun off => match ρ x with
      | .mptr d s g i o => some (.mptr d s g i (o + off), h)
      | .pv (.ptr r o) => some (.pv (.ptr r (o + off)), h)
      | _ => none
    | _ => none
  | .indexAddr t x ix => (intOf? (ρ ix)).bind fun i => match P.underlying t, ρ x with
    | some (.slice e), .pv (.sl k nl _ xs) => (szOf P e).bind fun size => if 0 ≤ i ∧ nl = false ∧ k = size then (xs[i.toNat]?).map fun y => (.pv (.ptr y 0), h) else none
    | some (.slice e), .msl d s g off n _ => (szOf P e).bind fun size => match live h d s g with
      | .row k _ _ _ => if 0 ≤ i ∧ i < n ∧ k = size then some (.mptr d s g (off + i.toNat) 0, h) else none
      | _ => none
    | some (.array n e), .mptr d s g j o => (szOf P e).bind fun size => if 0 ≤ i ∧ i < n then some (.mptr d s g j (o + i.toNat * size), h) else none
    | some (.array n e), .pv (.ptr r o) => (szOf P e).bind fun size => if 0 ≤ i ∧ i < n then some (.pv (.ptr r (o + i.toNat * size)), h) else none
    | _, _ => none
  | .index t x ix => match P.underlying t, ρ x, ρ ix with
    | some .string, .pv (.lit (.string s)), .pv (.lit (.int _ i)) => if h0 : 0 ≤ i ∧ i.toNat < s.size then some (litA (.int .u8 (s[i.toNat]'h0.2).toNat), h) else none
    | some (.array n e), v, .pv (.lit (.int _ i)) => if 0 ≤ i ∧ i < n then (szOf P e).bind fun size => (aggT P e).bind fun ag => if v.isAgg then (subA ag size (i.toNat * size) v).map (·, h) else none else none
    | _, _, _ => none
  | .field t x f => match P.underlying t with
    | some (.struct fields) => (fields[f]?).bind fun fd => (szOf P fd.type).bind fun size => (aggT P fd.type).bind fun ag => if (ρ x).isAgg then (subA ag size fd.offset (ρ x)).map (·, h) else none
    | _ => none
  | .extract x i => match ρ x with
    | .pv (.tup vs) => (vs[i]?).map fun p => (.pv p, h)
    | .tup vs => (vs[i]?).map (·, h)
    | _ => none
  | .range t x => match P.underlying t, ρ x, o.dst with
    | some .string, .pv (.lit (.string s)), some sl => some (.mptr d sl gen 0 0, hput h d sl ⟨gen, .iter s 0⟩)
    | _, _, _ => none
  | .next it true => match ρ it with
    | .mptr d s g 0 0 => match live h d s g with
      | .iter b pos => if pos < b.size then
          some (.pv (.tup [.lit (.bool true), .lit (.int .i64 pos), .lit (.int .i32 (Utf8.decode b pos).1)]), hput h d s ⟨g, .iter b (pos + (Utf8.decode b pos).2)⟩)
        else some (.pv (.tup [.lit (.bool false)]), h)
      | _ => none
    | _ => none
  | .call { callee := .builtin b, args, argTypes } => abuiltin P b argTypes o.type d (o.dst.getD 0) gen h (args.toList.map ρ)
  | _ => none
structure Env where
  P : Program
  intr : FuncId → Option (List PV → Option PV)
  inl : FuncId → Bool
  own : FuncId → Bool
  /-- of those in the caller's heap: which are given what they need of it under names of their own -/
  can : FuncId → Bool
  /-- which only read what pointers lead them to: they are given it as values -/
  rd : FuncId → Bool
  /-- errors.As: by the type of its target (a pointer to a variable), that of the variable -/
  asf : FuncId → TypeId → Option TypeId
  /-- regions that are not run (their drawn orders may part) -/
  bad : Array Oper → Bool
  /-- copyCheck of strings.Builder: its type -/
  ckf : FuncId → Option TypeId
  ok : FuncId → Bool
  /-- what is known of package-level variables, kept by whatever keeps the blocks that nobody writes -/
  gl : (Nat → Prop) → World → Prop
  glm : ∀ (I I' : Nat → Prop) (w w' : World), gl I w → (∀ b, I b → I' b) → (∀ b, I b → w'.heap[b]? = w.heap[b]?) → gl I' w'
abbrev Handler := List AV → Heap → Nat → Option (Bool × Heap × Nat)
abbrev Ys := List (Nat × Handler)
def Ys.get? : Ys → Nat → Option Handler
  | [], _ => none
  | (k, x) :: l, g => if k = g then some x else Ys.get? l g
abbrev CallFn := Ys → FuncId → List AV → Nat → Nat → Nat → Heap → Nat → Option (AV × Heap × Nat)
def hasMut : Nat → AV → Bool
  | 0, _ => true
  | n + 1, v => match v with
    | .pv _ | .msl .. => false
    | .mptr .. | .yld .. => true
    | .agg l | .tup l => l.any (hasMut n)
    | .clo _ a b => a.any (hasMut n) || b.any (hasMut n)
    | .ifc _ v => hasMut n v
    | .btag _ => true
def leads : Nat → Nat → AV → Bool
  | 0, _, _ => true
  | n + 1, dc, v => match v with
    | .pv _ => false
    | .msl d .. | .mptr d .. | .yld d .. => decide (dc ≤ d)
    | .agg l | .tup l => l.any (leads n dc)
    | .clo _ a b => a.any (leads n dc) || b.any (leads n dc)
    | .ifc _ v => leads n dc v
    | .btag _ => false
def calleeOf : AV → Option (FuncId × List AV × List AV)
  | .pv (.clo (.func f) a b) => some (f, a.map .pv, b.map .pv)
  | .clo (.func f) a b => some (f, a, b)
  | _ => none
inductive Cls where
  | pu | rd | fz | al | eff
  deriving DecidableEq, Inhabited
def ptrParam (P : Program) (f : FuncId) : Bool := match P.funcs[f]? with
  | some fn => fn.params.any fun t => match P.underlying t with
    | some (.pointer _) | some (.func ..) => true
    | _ => false
  | none => true
def isSlice (P : Program) (t : TypeId) : Bool := match P.underlying t with
  | some (.slice _) => true
  | _ => false
def deadK (h : Heap) (d : Nat) : Option Tmp → Bool
  | some s => match (hget h d s).b with
    | .dead => true
    | _ => false
  | none => false
def clsOp (E : Env) (o : Oper) : Cls := match o.op with
  | .convert src dst _ => if isSlice E.P src || isSlice E.P dst then .eff else .pu
  | .typeAssert .. | .move _ | .assign _ | .pick .. | .nilCheck _ | .binOp .. | .unOp .. | .makeFunc .. | .fieldAddr .. | .extract .. | .build .. | .field .. | .index .. => .pu
  | .load .. | .indexAddr .. | .slice .. => .rd
  | .makeInterface .. => .fz
  | .alloc _ | .box .. => .al
  | .call { callee := .builtin .len, .. } | .call { callee := .builtin .cap, .. } | .call { callee := .builtin .max, .. } | .call { callee := .builtin .min, .. } | .call { callee := .builtin .unsafeSliceData, .. } => .pu
  | .call { callee := .value (.func f), .. } => if E.own f || (E.inl f || E.rd f) || ptrParam E.P f then .eff else .fz
  | _ => .eff
def stepV (E : Env) (call : CallFn) (ys : Ys) (st : Bool) (d gen : Nat) (o : Oper) (ρ : Operand → AV) (h : Heap) (g : Nat) : Option (AV × Heap × Nat) :=
  match o.op with
  | .call { callee := .value f, args, .. } => match ρ f with
    | .yld _ _ gl => (ys.get? gl).bind fun hd => (hd (args.toList.map ρ) h g).map fun (b, h, g) => (litA (.bool b), h, g)
    | fv => (calleeOf fv).bind fun (fid, a, b) =>
      if st && (clsOp E o == .fz) && (a ++ args.toList.map ρ ++ b).any (hasMut frzDepth) then none else
      call ys fid (a ++ args.toList.map ρ ++ b) d (o.dst.getD 0) gen h g
  | .call { callee := .invoke r m, args, .. } => (methodA E.P (ρ r) m).bind fun (fid, rv) => call ys fid ([rv] ++ args.toList.map ρ) d (o.dst.getD 0) gen h g
  | _ => if st && (clsOp E o == .al) && !deadK h d o.dst then none else (aop E.P o ρ d gen h).map fun (v, h) => (v, h, g)
def boolA : AV → Option Bool
  | .pv (.lit (.bool b)) => some b
  | _ => none
def wantedA (all : Array Oper) (t : List AV) (o : Oper) : Bool := match o.guard with
  | none => true
  | some (j, want) => (((all[j]?).bind (·.dst)).bind fun i => boolA (getT t i)) == some want
def opV (E : Env) (call : CallFn) (ys : Ys) (st : Bool) (d gb : Nat) (all : Array Oper) (i : Nat) (o : Oper) (t : List AV) (h : Heap) (g : Nat) : Option (AV × Heap × Nat) :=
  if wantedA all t o then stepV E call ys st d (gb + i) o (evalA t) h g else some (undefA, h, g)
def ostep (E : Env) (call : CallFn) (ys : Ys) (st : Bool) (d gb : Nat) (all : Array Oper) (i : Nat) (o : Oper) (s : St) : Option St :=
  (opV E call ys st d gb all i o s.t s.h s.g).map fun (v, h, g) => { t := putD s.t o.dst v, h, g }
def opsF (E : Env) (call : CallFn) (ys : Ys) (st : Bool) (d gb : Nat) (all : Array Oper) : List Oper → Nat → St → Option St
  | [], _, s => some s
  | o :: os, i, s => (ostep E call ys st d gb all i o s).bind (opsF E call ys st d gb all os (i + 1))
def loopF (body : St → Option (AExit × St)) : Nat → St → Option (AExit × St)
  | 0, _ => none
  | n + 1, s => match body s with
    | some (.normal, s') => loopF body n s'
    | r => r
def killKeys (E : Env) (d : Nat) : List Oper → Heap → Heap
  | [], h => h
  | o :: os, h => killKeys E d os (match clsOp E o, o.dst with
    | .al, some s => hput h d s row0
    | _, _ => h)
def setTs : List Tmp → List AV → List AV → List AV
  | p :: ps, v :: vs, t => setTs ps vs (putT t p v)
  | _, _, t => t
def enters (E : Env) (f : FuncId) : Bool := E.ok f && (E.intr f).isNone && (match E.P.funcs[f]? with
  | some fn => fn.body.isSome
  | none => false)
def roundF (assign body : St → Option (AExit × St)) (ps : Array Tmp) (t : List AV) (d slot gen : Nat) : Handler := fun args h g =>
  if args.length = ps.size then match live h d slot gen with
    | .lp .ready => match assign { t := setTs ps.toList args t, h, g } with
      | some (.normal, s1) => match live s1.h d slot gen with
        | .lp .ready => match body { s1 with h := hput s1.h d slot ⟨gen, .lp .busy⟩ } with
          | some (x, s2) => match live s2.h d slot gen with
            | .lp .busy => if x = .normal then some (true, hput s2.h d slot ⟨gen, .lp .ready⟩, s2.g) else some (false, hput s2.h d slot ⟨gen, .lp (.done x)⟩, s2.g)
            | _ => none
          | none => none
        | _ => none
      | _ => none
    | _ => none
  else none
def codeF (E : Env) (call : CallFn) (ys : Ys) (d fuel : Nat) : Code → St → Option (AExit × St)
  | .skip, s | .label _, s => some (.normal, s)
  | .ret, s => some (.ret, s)
  | .exit id, s => some (.exit id, s)
  | .goto l, s => some (.goto l, s)
  | .region _ ops draw, s => if draw && E.bad ops then none else
    (opsF E call ys draw d s.g ops ops.toList 0 { s with h := if draw then killKeys E d ops.toList s.h else s.h, g := s.g + ops.size }).map fun s' => (.normal, s')
  | .seq a b, s => match codeF E call ys d fuel a s with
    | some (.normal, s') => codeF E call ys d fuel b s'
    | r => r
  | .cond c a b, s => match boolA (evalA s.t c) with
    | some true => codeF E call ys d fuel a s
    | some false => codeF E call ys d fuel b s
    | none => none
  | .block id c, s => match codeF E call ys d fuel c s with
    | some (.exit id', s') => some (if id' = id then .normal else .exit id', s')
    | r => r
  | .loop c, s => loopF (codeF E call ys d fuel c) fuel s
  | .rangeFunc f ps assign body, s =>
    (calleeOf (evalA s.t f)).bind fun (fid, a, b) =>
      if enters E fid then
        (call ((s.g, roundF (codeF E call ys d fuel assign) (codeF E call ys d fuel body) ps s.t d (ps.getD 0 0) s.g) :: ys) fid (a ++ [.yld d (ps.getD 0 0) s.g] ++ b) d (ps.getD 0 0) (s.g + 1)
          (hput s.h d (ps.getD 0 0) ⟨s.g, .lp .ready⟩) (s.g + 2)).bind fun (_, h, g) =>
        match live h d (ps.getD 0 0) s.g with
        | .lp .ready => some (.normal, { t := s.t, h := hput h d (ps.getD 0 0) row0, g })
        | .lp (.done x) => if x = .normal then none else some (x, { t := s.t, h := hput h d (ps.getD 0 0) row0, g })
        | _ => none
      else none
  | _, _ => none
def resultF (P : Program) (h : Heap) (t : List AV) : ResultVar → Option AV
  | .tmp i => some (getT t i)
  | .cell a ty => do
    let m ← szOf P ty
    let ag ← aggT P ty
    match getT t a with
    | .mptr d s g i off => match live h d s g with
      | .box v _ => if i = 0 then subA ag m off v else none
      | _ => none
    | _ => none
def mkTup (l : List AV) : AV := match allPV l with
  | some ps => .pv (.tup ps)
  | none => .tup l
def resultsF (P : Program) (fn : Func) (h : Heap) (t : List AV) : Option AV := match fn.results.toList with
  | [r] => resultF P h t r
  | rs => (rs.mapM (resultF P h t)).map mkTup
def padT (n : Nat) (l : List AV) : List AV := l ++ List.replicate (n - l.length) undefA
def padH (n d : Nat) (h : Heap) : Heap := putL [] h d (h.getD d [] ++ List.replicate n row0)
def bodyF (E : Env) (call : CallFn) (ys : Ys) (fuel : Nat) (fn : Func) (d : Nat) (args : List AV) (h : Heap) (g : Nat) : Option (AV × Heap × Nat) :=
  fn.body.bind fun c => match codeF E call ys d fuel c { t := padT fn.ntmps args, h := padH fn.ntmps d h, g } with
    | some (.normal, s) | some (.ret, s) => (resultsF E.P fn s.h s.t).map fun v => (v, s.h, s.g)
    | _ => none
def adopt (dc : Nat) (hc : Heap) (v : AV) (d slot gen : Nat) (h : Heap) : Option (AV × Heap) :=
  match v with
  | .msl d' s' g' off n full => if d' = dc then match live hc d' s' g' with
      | .row k e xs fz => some (.msl d slot gen off n full, hput h d slot ⟨gen, .row k e xs fz⟩)
      | _ => none
    else none
  | .mptr d' s' g' 0 off => if d' = dc then match live hc d' s' g' with
      | .box (.pv p) false => some (.mptr d slot gen 0 off, hput h d slot ⟨gen, .box (.pv p) false⟩)
      | _ => none
    else none
  | _ => none
abbrev K2 := Nat × Nat
def refs : Nat → AV → List (K2 × Nat)
  | 0, _ => []
  | n + 1, v => match v with
    | .pv _ | .yld .. => []
    | .mptr d s g _ _ | .msl d s g _ _ _ => [((d, s), g)]
    | .agg l | .tup l => l.flatMap (refs n)
    | .clo _ a b => a.flatMap (refs n) ++ b.flatMap (refs n)
    | .ifc _ v => refs n v
    | .btag _ => []
def refsB : Body → List (K2 × Nat)
  | .box v _ => refs frzDepth v
  | _ => []
def kidx : List K2 → K2 → Option Nat
  | [], _ => none
  | k :: ks, x => if k.1 == x.1 && k.2 == x.2 then some 0 else (kidx ks x).map (· + 1)
def collect (h : Heap) : Nat → List K2 → List K2 → List K2
  | 0, _, acc => acc
  | _ + 1, [], acc => acc
  | n + 1, k :: todo, acc => if (kidx acc k).isSome then collect h n todo acc else collect h n (todo ++ (refsB (hget h k.1 k.2).b).map (·.1)) (acc ++ [k])
def renL (f : AV → Option AV) : List AV → Option (List AV)
  | [] => some []
  | v :: l => (f v).bind fun w => (renL f l).map (w :: ·)
def ren (ρ : K2 → Option (K2 × Nat)) : Nat → AV → Option AV
  | 0, _ => none
  | n + 1, v => match v with
    | .pv p => some (.pv p)
    | .mptr d s _ i off => (ρ (d, s)).map fun k => .mptr k.1.1 k.1.2 k.2 i off
    | .msl d s _ off m full => (ρ (d, s)).map fun k => .msl k.1.1 k.1.2 k.2 off m full
    | .agg l => (renL (ren ρ n) l).map .agg
    | .tup l => (renL (ren ρ n) l).map .tup
    | .clo f a b => (renL (ren ρ n) a).bind fun a' => (renL (ren ρ n) b).map fun b' => .clo f a' b'
    | .yld .. => none
    | .ifc t v => (ren ρ n v).map (.ifc t)
    | .btag t => some (.btag t)
def renB (ρ : K2 → Option (K2 × Nat)) : Body → Option Body
  | .box v fz => (ren ρ frzDepth v).map fun v => .box v fz
  | .row k e xs fz => some (.row k e xs fz)
  | .iter s pos => some (.iter s pos)
  | _ => none
def gensOk (h : Heap) (l : List (K2 × Nat)) : Bool := l.all fun q => q.2 == (hget h q.1.1 q.1.2).g
def nodupK : List K2 → Bool
  | [] => true
  | k :: ks => (kidx ks k).isNone && nodupK ks
def canRows (ρ : K2 → Option (K2 × Nat)) (h : Heap) : Nat → List K2 → Option (List Row)
  | _, [] => some []
  | i, k :: ks => (renB ρ (hget h k.1 k.2).b).bind fun b => (canRows ρ h (i + 1) ks).map (⟨i, b⟩ :: ·)
def nameIn (ks : List K2) (k : K2) : Option (K2 × Nat) := (kidx ks k).map fun i => ((0, i), i)
def canFuel : Nat := 64
def canKeys (h : Heap) (args : List AV) : List K2 := collect h canFuel ((args.flatMap (refs frzDepth)).map (·.1)) []
def canIn (h : Heap) (args : List AV) : Option (List K2 × List AV × List Row) :=
  if nodupK (canKeys h args) then (renL (ren (nameIn (canKeys h args)) frzDepth) args).bind fun cargs => (canRows (nameIn (canKeys h args)) h 0 (canKeys h args)).map fun rows => (canKeys h args, cargs, rows) else none
def canGens (h : Heap) (ks : List K2) (args : List AV) : Bool := gensOk h (args.flatMap (refs frzDepth)) && ks.all fun k => gensOk h (refsB (hget h k.1 k.2).b)
def exKey (m : Nat) (h1 : Heap) : Option K2 := (((List.range m).flatMap fun i => refsB (hget h1 0 i).b).find? fun q => q.1.1 == 1).map (·.1)
def nameOut (m : Nat) (ex : Option K2) (k : K2) : Option (K2 × Nat) := if k.1 == 0 && decide (k.2 < m) then some (k, k.2) else match ex with
  | some e => if e.1 == k.1 && e.2 == k.2 then some ((0, m), m) else none
  | none => none
def outRows (m : Nat) (ex : Option K2) (h1 : Heap) : Nat → Nat → Option (List Row)
  | _, 0 => match ex with
    | none => some []
    | some e => match (hget h1 e.1 e.2).b with
      | .row k t xs fz => some [⟨m, .row k t xs fz⟩]
      | _ => none
  | i, n + 1 => (renB (nameOut m ex) (hget h1 0 i).b).bind fun b => (outRows m ex h1 (i + 1) n).map (⟨i, b⟩ :: ·)
def rowsOk (h1 : Heap) : Nat → Nat → Bool
  | _, 0 => true
  | i, n + 1 => (hget h1 0 i).g == i && (gensOk h1 (refsB (hget h1 0 i).b) && rowsOk h1 (i + 1) n)
def canOut (m : Nat) (v : AV) (h1 : Heap) : Option (AV × List Row) := match ren (nameOut m (exKey m h1)) frzDepth v with
  | some v' => if gensOk h1 (refs frzDepth v) && rowsOk h1 0 m then (outRows m (exKey m h1) h1 0 m).map fun rs => (v', rs) else none
  | none => (frz frzDepth v h1).bind fun q => if rowsOk q.2 0 m then (outRows m (exKey m q.2) q.2 0 m).map fun rs => (.pv q.1, rs) else none
def nameBack (ks : List K2) (h : Heap) (k : K2) : Option (K2 × Nat) := (ks[k.2]?).map fun q => (q, (hget h q.1 q.2).g)
def backRows (β : K2 → Option (K2 × Nat)) (h0 : Heap) : List Row → List K2 → Heap → Option Heap
  | r :: rs, k :: ks, h => (renB β r.b).bind fun b => backRows β h0 rs ks (hput h k.1 k.2 ⟨(hget h0 k.1 k.2).g, b⟩)
  | [], [], h => some h
  | _, _, _ => none
def backK (ks : List K2) (h : Heap) (v : AV) (rows : List Row) : Option (AV × Heap) := (ren (nameBack ks h) frzDepth v).bind fun v' => (backRows (nameBack ks h) h rows ks h).map fun h' => (v', h')
def canBack (d slot gen : Nat) (ks : List K2) (h : Heap) (v : AV) (rows : List Row) : Option (AV × Heap) :=
  if rows.length = ks.length then backK ks h v rows
  else if (kidx ks (d, slot)).isNone then backK (ks ++ [(d, slot)]) (hput h d slot ⟨gen, .dead⟩) v rows else none
def canF (E : Env) (call : CallFn) (fuel : Nat) (fn : Func) (args : List AV) (rows : List Row) : Option (AV × List Row) :=
  (bodyF E call [] fuel fn 1 args [rows, []] rows.length).bind fun q => canOut rows.length q.1 q.2.1
def rdOut (rd : Bool) (p : PV) (h h1 : Heap) (g : Nat) : Option (AV × Heap × Nat) := if rd then (match p with
  | .lit x => some (.pv (.lit x), h, g)
  | _ => none) else some (.pv p, h1, g)
def asF (E : Env) (f : FuncId) (args : List AV) (h : Heap) : Option (AV × Heap) := match args with
  | [.pv e, .ifc t2 (.mptr d s g 0 0)] => (E.asf f t2).bind fun t1 => match live h d s g, e with
    | .box (.pv old) false, .iface t (.ptr r o) => if t = t1 ∧ old.ok = true ∧ old.isAgg = false then some (litA (.bool true), hput h d s ⟨g, .box (.pv (.ptr r o)) false⟩) else none
    | _, .lit .nilIface => some (litA (.bool false), h)
    | _, _ => none
  | _ => none
def ckF (E : Env) (f : FuncId) (args : List AV) (h : Heap) : Option (AV × Heap) := match args with
  | [.mptr d s g 0 0] => (E.ckf f).bind fun T => match live h d s g with
    | .box (.agg (c :: l)) false => match c with
      | .btag t => if t = T ∧ l.length = 1 then some (.pv (.tup []), hput h d s ⟨g, .box (.agg (.mptr d s g 0 0 :: l)) false⟩) else none
      | .mptr d' s' g' 0 0 => if d' = d ∧ s' = s ∧ g' = g then some (.pv (.tup []), h) else none
      | _ => none
    | _ => none
  | _ => none
def specF (E : Env) (f : FuncId) (args : List AV) (h : Heap) : Option (AV × Heap) := if (E.ckf f).isSome then ckF E f args h else asF E f args h
def callN (E : Env) : Nat → CallFn
  | 0 => fun _ _ _ _ _ _ _ _ => none
  | n + 1 => fun ys f args d slot gen h g =>
    match E.intr f with
    | some fn => (frzs frzDepth args h).bind fun (ps, h1) => (fn ps).map fun r => (.pv r, h1, g)
    | none => match E.P.funcs[f]? with
      | none => none
      | some fn =>
        if E.ok f = false then (specF E f args h).map fun q => (q.1, q.2, g)
        else if E.inl f || (!E.rd f && args.any (hasMut frzDepth)) then
          if E.can f then
            (canIn h args).bind fun q => if canGens h q.1 args then (canF E (callN E n) n fn q.2.1 q.2.2).bind fun r => (canBack d slot gen q.1 h r.1 r.2).map fun z => (z.1, z.2, g) else none
          else (bodyF E (callN E n) ys n fn h.length args (h ++ [[]]) g).bind fun (v, h1, g1) =>
            if leads frzDepth h.length v = false then some (v, h1.take h.length, g1)
            else match adopt h.length h1 v d slot gen (h1.take h.length) with
              | some (v', h2) => some (v', h2, g1)
              | none => if hasMut frzDepth v then some (v, h1, g1) else (frz frzDepth v h1).map fun (p, h2) => (.pv p, h2.take h.length, g1)
        else (frzs frzDepth args h).bind fun (ps, h1) =>
          (bodyF E (callN E n) [] n fn 0 (ps.map .pv) [[]] 0).bind fun (v, hc, _) =>
            if E.own f then match v with
              | .pv p => some (.pv p, h1, g)
              | v => (adopt 0 hc v d slot gen h1).map fun (v', h2) => (v', h2, g)
            else (frz frzDepth v hc).bind fun q => rdOut (E.rd f) q.1 h h1 g
def swapOk (E : Env) (ops : Array Oper) (x y : Oper) : Bool := Oper.apart ops x y && (match clsOp E x, clsOp E y with
  | .pu, _ | _, .pu => true
  | .eff, _ | _, .eff => false
  | .al, .rd | .al, .fz => false
  | _, _ => true)
def backOk (i : Nat) (o : Oper) : Bool := o.after.all fun e => !Region.binds .any e || decide (e.on < i)
def lookB (i : Nat) (acc : List Nat) (j : Nat) : Nat := if j < i then acc.getD (i - 1 - j) 0 else 0
def pairsOk (E : Env) (ops : Array Oper) (o : Oper) (v : Nat) : List Oper → Nat → Bool
  | [], _ => true
  | x :: xs, j => (v.testBit j || swapOk E ops x o) && pairsOk E ops o v xs (j + 1)
def drawGo (E : Env) (ops : Array Oper) (l : List Oper) : List Oper → Nat → List Nat → Bool
  | [], _, _ => true
  | o :: rest, i, acc => CheckFast.force (CheckFast.one (lookB i acc) o) fun v =>
    backOk i o && pairsOk E ops o v (l.take i) 0 && drawGo E ops l rest (i + 1) (v :: acc)
def drawOk (E : Env) (ops : Array Oper) : Bool := drawGo E ops ops.toList ops.toList 0 []
def dstOk (n : Nat) (o : Oper) : Bool := match o.dst with
  | some d => decide (d < n)
  | none => true
def codeWf (E : Env) (n : Nat) : Code → Bool
  | .region _ ops draw => ops.all (dstOk n) && (!draw || (E.bad ops || drawOk E ops))
  | .seq a b | .cond _ a b => codeWf E n a && codeWf E n b
  | .block _ c | .loop c => codeWf E n c
  | .rangeFunc _ ps a b => ps.all (fun p => decide (p < n)) && codeWf E n a && codeWf E n b
  | _ => true
def fnWf (E : Env) (fn : Func) : Bool := !(fn.name == "runtime.NumGoroutine") && (match fn.body with
  | some c => codeWf E fn.ntmps c
  | none => true)
end Go.Proofs.YtcoeigibikbfdaaGreatDoor.Abs

namespace Go.Proofs.YtcoeigibikbfdaaGreatDoor.Abs
open Go Go.RowKit
theorem getD_putL {α : Type} (z : α) : ∀ (l : List α) (i j : Nat) (v : α), (putL z l i v).getD j z = if i = j then v else l.getD j z
  | [], 0, 0, v => by simp [putL]
  | [], 0, j + 1, v => by simp [putL]
  | [], i + 1, 0, v => by simp [putL]
  | [], i + 1, j + 1, v => by simpa [putL] using getD_putL z [] i j v
  | x :: l, 0, 0, v => by simp [putL]
  | x :: l, 0, j + 1, v => by simp [putL]
  | x :: l, i + 1, 0, v => by simp [putL]
  | x :: l, i + 1, j + 1, v => by simpa [putL] using getD_putL z l i j v
theorem getT_putT (t : List AV) (i j : Nat) (v : AV) : getT (putT t i v) j = if i = j then v else getT t j := getD_putL undefA t i j v
theorem hget_hput (h : Heap) (d s d' s' : Nat) (r : Row) : hget (hput h d s r) d' s' = if d = d' ∧ s = s' then r else hget h d' s' := by
  unfold hget hput
  rw [getD_putL]
  by_cases hd : d = d'
  · subst hd
    simp only [if_true, true_and]
    rw [getD_putL]
  · simp [hd]
abbrev Blk := Nat → Prop
inductive PRep (I : Blk) (w : World) : PV → Value → Prop
  | lit (v : Value) : PRep I w (.lit v) v
  | nil (k : Nat) (full : Bool) : PRep I w (.sl k true full []) (.slice none 0 0)
  | emp (k : Nat) (full : Bool) (a : Addr) (cap : Nat) (hfull : full = true → cap = 0) : PRep I w (.sl k false full []) (.slice (some a) 0 cap)
  | sl (k : Nat) (full : Bool) (xs : List PV) (b o cap : Nat) (vs : Nat → Nat → Value)
      (hcap : xs.length ≤ cap) (hfull : full = true → cap = xs.length) (hI : I b) (hk : ∀ x ∈ xs, x.cells.length = k ∧ x.ok = true)
      (hc : ∀ (i : Nat) (x : PV), xs[i]? = some x → ∀ (j : Nat) (p : PV), x.cells[j]? = some p → w.cell? ⟨b, o + i * k + j, none⟩ = some (vs i j) ∧ (vs i j).oneCell' = true)
      (hr : ∀ (i : Nat) (x : PV), xs[i]? = some x → ∀ (j : Nat) (p : PV), x.cells[j]? = some p → PRep I w p (vs i j)) :
      PRep I w (.sl k false full xs) (.slice (some ⟨b, o, none⟩) xs.length cap)
  | ptr (root : PV) (off b o : Nat) (vs : Nat → Value) (hI : I b)
      (hc : ∀ (j : Nat) (p : PV), root.cells[j]? = some p → w.cell? ⟨b, o + j, none⟩ = some (vs j) ∧ (vs j).oneCell' = true)
      (hr : ∀ (j : Nat) (p : PV), root.cells[j]? = some p → PRep I w p (vs j)) :
      PRep I w (.ptr root off) (.pointer (some ⟨b, o + off, none⟩))
  | agg (cs : List PV) (vs : List Value) (hl : vs.length = cs.length) (h1 : ∀ v ∈ vs, v.oneCell' = true)
      (hr : ∀ (j : Nat) (p : PV) (v : Value), cs[j]? = some p → vs[j]? = some v → PRep I w p v) : PRep I w (.agg cs) (.agg vs.toArray)
  | tup (cs : List PV) (vs : List Value) (hl : vs.length = cs.length)
      (hr : ∀ (j : Nat) (p : PV) (v : Value), cs[j]? = some p → vs[j]? = some v → PRep I w p v) : PRep I w (.tup cs) (.tuple vs.toArray)
  | iface (t : TypeId) (p : PV) (v : Value) (h : PRep I w p v) : PRep I w (.iface t p) (.iface t v)
  | clo (f : Fn) (a b : List PV) (va vb : List Value) (hla : va.length = a.length) (hlb : vb.length = b.length)
      (hra : ∀ (j : Nat) (p : PV) (v : Value), a[j]? = some p → va[j]? = some v → PRep I w p v) (hrb : ∀ (j : Nat) (p : PV) (v : Value), b[j]? = some p → vb[j]? = some v → PRep I w p v) :
      PRep I w (.clo f a b) (.func f va.toArray vb.toArray)
abbrev Sig := Nat → Option (Nat × Nat × Nat)
inductive Rep (σ : Sig) (I : Blk) (w : World) : AV → Value → Prop
  | pv (p : PV) (v : Value) (h : PRep I w p v) : Rep σ I w (.pv p) v
  | mptr (d s g i off b o k : Nat) (h : σ g = some (b, o, k)) : Rep σ I w (.mptr d s g i off) (.pointer (some ⟨b, o + i * k + off, none⟩))
  | msl (d s g off n : Nat) (full : Bool) (b o k cap ad : Nat) (had : cap ≠ 0 → ad = o + off * k) (h : σ g = some (b, o, k)) (hn : n ≤ cap) (hfull : full = true → cap = n)
      (hroom : ∃ e m, w.shape? b = some (e, m) ∧ o + (off + cap) * k ≤ m) :
      Rep σ I w (.msl d s g off n full) (.slice (some ⟨b, ad, none⟩) n cap)
  | agg (cs : List AV) (vs : List Value) (hl : vs.length = cs.length) (h1 : ∀ v ∈ vs, v.oneCell' = true)
      (hr : ∀ (j : Nat) (p : AV) (v : Value), cs[j]? = some p → vs[j]? = some v → Rep σ I w p v) : Rep σ I w (.agg cs) (.agg vs.toArray)
  | tup (cs : List AV) (vs : List Value) (hl : vs.length = cs.length)
      (hr : ∀ (j : Nat) (p : AV) (v : Value), cs[j]? = some p → vs[j]? = some v → Rep σ I w p v) : Rep σ I w (.tup cs) (.tuple vs.toArray)
  | clo (f : Fn) (a b : List AV) (va vb : List Value) (hla : va.length = a.length) (hlb : vb.length = b.length)
      (hra : ∀ (j : Nat) (p : AV) (v : Value), a[j]? = some p → va[j]? = some v → Rep σ I w p v) (hrb : ∀ (j : Nat) (p : AV) (v : Value), b[j]? = some p → vb[j]? = some v → Rep σ I w p v) :
      Rep σ I w (.clo f a b) (.func f va.toArray vb.toArray)
  | yld (d s g b o k : Nat) (h : σ g = some (b, o, k)) : Rep σ I w (.yld d s g) (.func (.yield b) #[] #[])
  | ifc (t : TypeId) (v : AV) (u : Value) (h : Rep σ I w v u) : Rep σ I w (.ifc t v) (.iface t u)
  | btag (t : TypeId) : Rep σ I w (.btag t) (.pointer none)
def SameLoop (r r' : Loop) : Prop := r'.fn = r.fn ∧ r'.tmps = r.tmps ∧ r'.params = r.params ∧ r'.assign = r.assign ∧ r'.body = r.body ∧ r'.defers = r.defers
theorem SameLoop.refl (r : Loop) : SameLoop r r := ⟨rfl, rfl, rfl, rfl, rfl, rfl⟩
theorem SameLoop.trans {a b c : Loop} (h : SameLoop a b) (k : SameLoop b c) : SameLoop a c :=
  ⟨k.1.trans h.1, k.2.1.trans h.2.1, k.2.2.1.trans h.2.2.1, k.2.2.2.1.trans h.2.2.2.1, k.2.2.2.2.1.trans h.2.2.2.2.1, k.2.2.2.2.2.trans h.2.2.2.2.2⟩
structure Keep0 (I : Blk) (w w' : World) : Prop where
  keep : ∀ b, I b → w'.heap[b]? = w.heap[b]?
  shape : ∀ b e n, w.shape? b = some (e, n) → w'.shape? b = some (e, n)
structure Keep (I : Blk) (w w' : World) : Prop where
  keep : ∀ b, I b → w'.heap[b]? = w.heap[b]?
  shape : ∀ b e n, w.shape? b = some (e, n) → w'.shape? b = some (e, n)
  loop : ∀ (b : Nat) (r : Loop), w.heap[b]? = some (Obj.loop r) → ∃ r', w'.heap[b]? = some (Obj.loop r') ∧ SameLoop r r'
  dfr : ∀ (b : Nat), w.heap[b]? = some (Obj.deferred (some [])) → w'.heap[b]? = some (Obj.deferred (some []))
theorem cell_of_heap {w w' : World} {b : Nat} (h : w'.heap[b]? = w.heap[b]?) (o : Nat) (s : Option Nat) : w'.cell? ⟨b, o, s⟩ = w.cell? ⟨b, o, s⟩ := by
  simp [World.cell?, h]
theorem frozen_of_heap {w w' : World} {b : Nat} (h : w'.heap[b]? = w.heap[b]?) (o : Nat) (s : Option Nat) : w'.frozen? ⟨b, o, s⟩ = w.frozen? ⟨b, o, s⟩ := by
  simp [World.frozen?, h]
theorem Keep.zero {I : Blk} {w w' : World} (h : Keep I w w') : Keep0 I w w' := ⟨h.keep, h.shape⟩
instance {I : Blk} {w w' : World} : Coe (Keep I w w') (Keep0 I w w') := ⟨Keep.zero⟩
theorem Keep.refl (I : Blk) (w : World) : Keep I w w := ⟨fun _ _ => rfl, fun _ _ _ h => h, fun _ r h => ⟨r, h, SameLoop.refl r⟩, fun _ h => h⟩
theorem Keep.trans {I I' : Blk} {a b c : World} (hI : ∀ x, I x → I' x) (h : Keep I a b) (k : Keep I' b c) : Keep I a c :=
  ⟨fun x hx => (k.keep x (hI x hx)).trans (h.keep x hx), fun x e n hx => k.shape x e n (h.shape x e n hx),
   fun x r hx => let ⟨r1, h1, s1⟩ := h.loop x r hx; let ⟨r2, h2, s2⟩ := k.loop x r1 h1; ⟨r2, h2, s1.trans s2⟩, fun x hx => k.dfr x (h.dfr x hx)⟩
theorem PRep.mono {I I' : Blk} {w w' : World} (hI : ∀ b, I b → I' b) (hk : ∀ b, I b → w'.heap[b]? = w.heap[b]?) {p : PV} {v : Value} (h : PRep I w p v) : PRep I' w' p v := by
  induction h with
  | lit v => exact .lit v
  | nil k full => exact .nil k full
  | emp k full a cap hfull => exact .emp k full a cap hfull
  | sl k full xs b o cap vs hcap hfull hb hk' hc hr ih =>
    exact .sl k full xs b o cap vs hcap hfull (hI b hb) hk' (fun i x hx j p hp => by rw [cell_of_heap (hk b hb)]; exact hc i x hx j p hp) ih
  | ptr root off b o vs hb hc hr ih =>
    exact .ptr root off b o vs (hI b hb) (fun j p hp => by rw [cell_of_heap (hk b hb)]; exact hc j p hp) ih
  | agg cs vs hl h1 hr ih => exact .agg cs vs hl h1 ih
  | tup cs vs hl hr ih => exact .tup cs vs hl ih
  | iface t p v h ih => exact .iface t p v ih
  | clo f a b va vb hla hlb hra hrb iha ihb => exact .clo f a b va vb hla hlb iha ihb
theorem Rep.mono {σ σ' : Sig} {I I' : Blk} {w w' : World} (hσ : ∀ g x, σ g = some x → σ' g = some x) (hI : ∀ b, I b → I' b) (hk : Keep0 I w w') {p : AV} {v : Value}
    (h : Rep σ I w p v) : Rep σ' I' w' p v := by
  induction h with
  | pv p v h => exact .pv p v (h.mono hI hk.keep)
  | mptr d s g i off b o k h => exact .mptr d s g i off b o k (hσ _ _ h)
  | msl d s g off n full b o k cap ad had h hn hfull hroom =>
    obtain ⟨e, m, hs, hm⟩ := hroom
    exact .msl d s g off n full b o k cap ad had (hσ _ _ h) hn hfull ⟨e, m, hk.shape _ _ _ hs, hm⟩
  | agg cs vs hl h1 hr ih => exact .agg cs vs hl h1 ih
  | tup cs vs hl hr ih => exact .tup cs vs hl ih
  | clo f a b va vb hla hlb hra hrb iha ihb => exact .clo f a b va vb hla hlb iha ihb
  | yld d s g b o k h => exact .yld d s g b o k (hσ _ _ h)
  | ifc t v u h ih => exact .ifc t v u ih
  | btag t => exact .btag t
def AExit.code : AExit → Code
  | .normal => .skip
  | .exit id => .exit id
  | .goto l => .goto l
  | .ret => .ret
def LpOk : LpSt → Loop → Prop
  | .ready, r => r.state = .ready ∧ r.pending = none
  | .busy, r => r.state = .busy
  | .done x, r => r.state = .done ∧ r.pending = some x.code
def Fz (I : Blk) (base : Blk) (w : World) (b n : Nat) : Bool → Prop
  | true => I b
  | false => ¬ I b ∧ ¬ base b ∧ ∀ j, j < n → w.frozen? ⟨b, j, none⟩ = false
def RowRep (σ : Sig) (I : Blk) (base : Blk) (w : World) (r : Row) : Prop := match r.b with
  | .dead => True
  | .box v fz => ∃ b e, σ r.g = some (b, 0, 1) ∧ w.shape? b = some (e, v.cells.length) ∧ boxOk e v = true ∧
      (∀ (j : Nat) (p : AV), v.cells[j]? = some p → ∃ u, w.cell? ⟨b, j, none⟩ = some u ∧ u.oneCell' = true ∧ Rep σ I w p u) ∧ Fz I base w b v.cells.length fz
  | .row k e xs fz => ∃ b o n, σ r.g = some (b, o, k) ∧ w.shape? b = some (e, n) ∧ o + xs.length * k ≤ n ∧ (∀ x ∈ xs, x.cells.length = k ∧ x.ok = true) ∧
      (∀ (i : Nat) (x : PV), xs[i]? = some x → ∀ (j : Nat) (p : PV), x.cells[j]? = some p → ∃ u, w.cell? ⟨b, o + i * k + j, none⟩ = some u ∧ u.oneCell' = true ∧ PRep I w p u) ∧ Fz I base w b n fz
  | .iter s pos => ∃ b k, σ r.g = some (b, 0, k) ∧ w.heap[b]? = some (.stringIter s pos) ∧ ¬ I b ∧ ¬ base b
  | .lp st => ∃ b k, σ r.g = some (b, 0, k) ∧ (∃ x, w.heap[b]? = some (Obj.loop x) ∧ LpOk st x) ∧ ¬ I b ∧ ¬ base b
theorem boxOk_ok {e : TypeId} {v : AV} (h : boxOk e v = true) : v.ok = true := by
  unfold boxOk at h
  simp only [Bool.and_eq_true] at h
  exact h.1
theorem boxOk_none {e : TypeId} {v : AV} (h : v.ok = true) (ht : tagOf v = none) : boxOk e v = true := by
  unfold boxOk
  rw [h, ht]; rfl
theorem boxOk_tag {e t : TypeId} {v : AV} (h : boxOk e v = true) (ht : tagOf v = some t) : t = e := by
  unfold boxOk at h
  rw [ht] at h
  simp only [Bool.and_eq_true, beq_iff_eq] at h
  exact h.2
theorem boxOk_of {e : TypeId} {v v' : AV} (h : boxOk e v = true) (h' : v'.ok = true) (ht : tagOf v' = tagOf v ∨ tagOf v' = none) : boxOk e v' = true := by
  unfold boxOk at h ⊢
  rw [h']
  rcases ht with ht | ht <;> rw [ht]
  · simp only [Bool.and_eq_true] at h ⊢
    exact ⟨trivial, h.2⟩
  · rfl
theorem tagOf_pv (p : PV) : tagOf (.pv p) = none := by
  unfold tagOf
  simp only [AV.cells, List.head?_map]
  cases p.cells.head? <;> rfl
def Solid (w : World) (b : Nat) : Prop := ∃ o, w.heap[b]? = some o ∧ o ≠ Obj.deferred (some [])
theorem Solid.lt {w : World} {b : Nat} (h : Solid w b) : b < w.heap.size := by
  obtain ⟨o, h, _⟩ := h
  exact (Array.getElem?_eq_some_iff.1 h).1
theorem Solid.keep {w w' : World} {b : Nat} (h : Solid w b) (he : w'.heap[b]? = w.heap[b]?) : Solid w' b := by
  obtain ⟨o, h, hn⟩ := h
  exact ⟨o, he.trans h, hn⟩
theorem Solid.of_shape {w : World} {b n : Nat} {e : TypeId} (h : w.shape? b = some (e, n)) : Solid w b := by
  unfold World.shape? at h
  split at h
  · rename_i hh
    exact ⟨_, hh, by simp⟩
  · cases h
def blkOf (σ : Sig) (r : Row) : Option Nat := match r.b with
  | .dead | .box _ true | .row _ _ _ true => none
  | _ => (σ r.g).map (·.1)
structure HRep (σ : Sig) (I : Blk) (base : Blk) (w : World) (h : Heap) : Prop where
  rows : ∀ d s, RowRep σ I base w (hget h d s)
  apart : ∀ d s d' s' b, blkOf σ (hget h d s) = some b → blkOf σ (hget h d' s') = some b → d = d' ∧ s = s'
  inW : ∀ b, I b → Solid w b
structure Blw (B : Blk) (w w' : World) : Prop where
  os : w'.os = w.os
  tape : w'.tape = w.tape
  output : w'.output = w.output
  size : w.heap.size ≤ w'.heap.size
  block : ∀ k, B k → w'.heap[k]? = w.heap[k]?
theorem Blw.refl (B : Blk) (w : World) : Blw B w w := ⟨rfl, rfl, rfl, Nat.le_refl _, fun _ _ => rfl⟩
theorem Blw.trans {B : Blk} {a b c : World} (h : Blw B a b) (k : Blw B b c) : Blw B a c :=
  ⟨k.os.trans h.os, k.tape.trans h.tape, k.output.trans h.output, Nat.le_trans h.size k.size, fun i hi => (k.block i hi).trans (h.block i hi)⟩
def Bnd (B : Blk) (n : Nat) : Prop := ∀ b, B b → b < n
theorem Bnd.up {B : Blk} {n : Nat} (h : Bnd B n) : ¬ B n := fun hb => Nat.lt_irrefl _ (h n hb)
theorem Bnd.mono {B : Blk} {n m : Nat} (h : Bnd B n) (hn : n ≤ m) : Bnd B m := fun b hb => Nat.lt_of_lt_of_le (h b hb) hn
def Old (w : World) : Blk := fun b => b < w.heap.size
theorem Old.bnd (w : World) : Bnd (Old w) w.heap.size := fun _ h => h
theorem Blw.of_below {B : Blk} {w w' : World} {n : Nat} (h : Below n w w') (hB : Bnd B n) : Blw B w w' := ⟨h.os, h.tape, h.output, h.size, fun k hk => h.block k (hB k hk)⟩
theorem Blw.below {w w' : World} (h : Blw (Old w) w w') : Below w.heap.size w w' := ⟨h.os, h.tape, h.output, h.size, fun k hk => h.block k hk⟩
structure Ext (base : Blk) (σ : Sig) (I : Blk) (w : World) (σ' : Sig) (I' : Blk) (w' : World) : Prop where
  sig : ∀ g x, σ g = some x → σ' g = some x
  blk : ∀ b, I b → I' b
  new : ∀ b, I' b → I b ∨ ¬ base b
  kp : Keep I w w'
  below : Blw base w w'
theorem Ext.refl (base : Blk) (σ : Sig) (I : Blk) (w : World) : Ext base σ I w σ I w := ⟨fun _ _ h => h, fun _ h => h, fun _ h => .inl h, Keep.refl I w, Blw.refl _ _⟩
theorem Ext.trans {base : Blk} {σ σ' σ'' : Sig} {I I' I'' : Blk} {w w' w'' : World} (h : Ext base σ I w σ' I' w') (k : Ext base σ' I' w' σ'' I'' w'') : Ext base σ I w σ'' I'' w'' :=
  ⟨fun g x hx => k.sig g x (h.sig g x hx), fun b hb => k.blk b (h.blk b hb), fun b hb => (k.new b hb).elim (fun h' => h.new b h') .inr, h.kp.trans h.blk k.kp, h.below.trans k.below⟩
theorem Ext.rep {base : Blk} {σ σ' : Sig} {I I' : Blk} {w w' : World} (h : Ext base σ I w σ' I' w') {p : AV} {v : Value} (r : Rep σ I w p v) : Rep σ' I' w' p v := r.mono h.sig h.blk h.kp
end Go.Proofs.YtcoeigibikbfdaaGreatDoor.Abs

namespace Go.Proofs.YtcoeigibikbfdaaGreatDoor.Abs
open Go Go.RowKit
variable {σ σ' : Sig} {I I' : Blk} {base : Blk} {w w' : World} {h : Heap}
theorem shape_of_heap {b : Nat} (e : w'.heap[b]? = w.heap[b]?) : w'.shape? b = w.shape? b := by simp [World.shape?, e]
theorem lt_of_shape {b : Nat} {x : TypeId × Nat} (e : w.shape? b = some x) : b < w.heap.size := by
  unfold World.shape? at e
  rcases Nat.lt_or_ge b w.heap.size with hlt | hge
  · exact hlt
  · rw [Array.getElem?_eq_none hge] at e; cases e
theorem lt_of_heap {b : Nat} {x : Obj} (e : w.heap[b]? = some x) : b < w.heap.size := by
  rcases Nat.lt_or_ge b w.heap.size with hlt | hge
  · exact hlt
  · rw [Array.getElem?_eq_none hge] at e; cases e
theorem cell_lt_shape {b n : Nat} {e : TypeId} (hs : w.shape? b = some (e, n)) {j : Nat} (hj : j < n) : ∃ u, w.cell? ⟨b, j, none⟩ = some u := by
  unfold World.shape? at hs
  split at hs
  · rename_i c e' fr hc
    simp only [Option.some.injEq, Prod.mk.injEq] at hs
    obtain ⟨rfl, rfl⟩ := hs
    exact ⟨c[j], by simp [World.cell?, hc, hj]⟩
  · cases hs
def Fr (w : World) (n : Nat) (b : Nat) : Prop := ∀ j, j < n → w.frozen? ⟨b, j, none⟩ = false
theorem Fz.mono {b n : Nat} {fz : Bool} (hz : Fz I base w b n fz) (hI : ∀ b, I b → I' b) (hh : fz = false → w'.heap[b]? = w.heap[b]? ∧ ¬ I' b) : Fz I' base w' b n fz := by
  cases fz with
  | true => exact hI b hz
  | false =>
    obtain ⟨h1, h2, h3⟩ := hz
    exact ⟨(hh rfl).2, h2, fun j hj => by rw [frozen_of_heap (hh rfl).1]; exact h3 j hj⟩
theorem RowRep.mono {r : Row} (hr : RowRep σ I base w r) (hσ : ∀ g x, σ g = some x → σ' g = some x) (hI : ∀ b, I b → I' b) (hk : Keep0 I w w')
    (hb : ∀ b, blkOf σ r = some b → w'.heap[b]? = w.heap[b]? ∧ ¬ I' b) : RowRep σ' I' base w' r := by
  obtain ⟨g, b⟩ := r
  cases b with
  | dead => trivial
  | box v fz =>
    obtain ⟨b, e, hs, hsh, hok, hc, hz⟩ := hr
    refine ⟨b, e, hσ _ _ hs, hk.shape _ _ _ hsh, hok, fun j p hp => ?_, hz.mono hI ?_⟩
    · obtain ⟨u, hu, h1, hr⟩ := hc j p hp
      refine ⟨u, ?_, h1, hr.mono hσ hI hk⟩
      cases fz with
      | true => rw [cell_of_heap (hk.keep b hz)]; exact hu
      | false => rw [cell_of_heap (hb b (by simp [blkOf, hs])).1]; exact hu
    · rintro rfl
      exact hb b (by simp [blkOf, hs])
  | row k e xs fz =>
    obtain ⟨b, o, n, hs, hsh, hn, hx, hc, hz⟩ := hr
    refine ⟨b, o, n, hσ _ _ hs, hk.shape _ _ _ hsh, hn, hx, fun i x hi j p hp => ?_, hz.mono hI ?_⟩
    · obtain ⟨u, hu, h1, hr⟩ := hc i x hi j p hp
      refine ⟨u, ?_, h1, hr.mono hI hk.keep⟩
      cases fz with
      | true => rw [cell_of_heap (hk.keep b hz)]; exact hu
      | false => rw [cell_of_heap (hb b (by simp [blkOf, hs])).1]; exact hu
    · rintro rfl
      exact hb b (by simp [blkOf, hs])
  | iter s pos =>
    obtain ⟨b, k, hs, hh, h1, h2⟩ := hr
    have := hb b (by simp [blkOf, hs])
    exact ⟨b, k, hσ _ _ hs, this.1.trans hh, this.2, h2⟩
  | lp st =>
    obtain ⟨b, k, hs, ⟨x, hh, hx⟩, h1, h2⟩ := hr
    have := hb b (by simp [blkOf, hs])
    exact ⟨b, k, hσ _ _ hs, ⟨x, this.1.trans hh, hx⟩, this.2, h2⟩
theorem blkOf_sig {r : Row} (hr : RowRep σ I base w r) (hσ : ∀ g x, σ g = some x → σ' g = some x) : blkOf σ' r = blkOf σ r := by
  obtain ⟨g, b⟩ := r
  cases b with
  | dead => rfl
  | box v fz =>
    obtain ⟨b, e, hs, _⟩ := hr
    cases fz <;> simp [blkOf, hs, hσ _ _ hs]
  | row k e xs fz =>
    obtain ⟨b, o, n, hs, _⟩ := hr
    cases fz <;> simp [blkOf, hs, hσ _ _ hs]
  | iter s pos =>
    obtain ⟨b, k, hs, _⟩ := hr
    simp [blkOf, hs, hσ _ _ hs]
  | lp st =>
    obtain ⟨b, k, hs, _⟩ := hr
    simp [blkOf, hs, hσ _ _ hs]
theorem blkOf_facts {r : Row} (hr : RowRep σ I base w r) {b : Nat} (hb : blkOf σ r = some b) : b < w.heap.size ∧ ¬ I b ∧ ¬ base b := by
  obtain ⟨g, bd⟩ := r
  cases bd with
  | dead => simp [blkOf] at hb
  | box v fz =>
    obtain ⟨b', e, hs, hsh, _, hc, hz⟩ := hr
    cases fz with
    | true => simp [blkOf] at hb
    | false =>
      simp [blkOf, hs] at hb
      subst hb
      exact ⟨lt_of_shape hsh, hz.1, hz.2.1⟩
  | row k e xs fz =>
    obtain ⟨b', o, n, hs, hsh, _, _, hc, hz⟩ := hr
    cases fz with
    | true => simp [blkOf] at hb
    | false =>
      simp [blkOf, hs] at hb
      subst hb
      exact ⟨lt_of_shape hsh, hz.1, hz.2.1⟩
  | iter s pos =>
    obtain ⟨b', k, hs, hh, h1, h2⟩ := hr
    simp [blkOf, hs] at hb
    subst hb
    exact ⟨lt_of_heap hh, h1, h2⟩
  | lp st =>
    obtain ⟨b', k, hs, ⟨x, hh, _⟩, h1, h2⟩ := hr
    simp [blkOf, hs] at hb
    subst hb
    exact ⟨lt_of_heap hh, h1, h2⟩
theorem HRep.lt (H : HRep σ I base w h) (b : Nat) (hb : I b) : b < w.heap.size := (H.inW b hb).lt
theorem Keep.inW (hk : Keep I w w') (hin : ∀ b, I b → Solid w b) : ∀ b, I b → Solid w' b := fun b hb => (hin b hb).keep (hk.keep b hb)
theorem RowRep.dead (g : Nat) : RowRep σ I base w ⟨g, .dead⟩ := trivial
theorem HRep.put (H : HRep σ I base w h) (hσ : ∀ g x, σ g = some x → σ' g = some x) (hI : ∀ b, I b → I' b) (hk : Keep0 I w w') (hin : ∀ b, I' b → Solid w' b)
    (d s : Nat) (r : Row) (hr : RowRep σ' I' base w' r)
    (hb : ∀ d' s' b, ¬ (d = d' ∧ s = s') → blkOf σ (hget h d' s') = some b → w'.heap[b]? = w.heap[b]? ∧ ¬ I' b ∧ blkOf σ' r ≠ some b) :
    HRep σ' I' base w' (hput h d s r) where
  inW := hin
  rows d' s' := by
    rw [hget_hput]
    by_cases e : d = d' ∧ s = s'
    · rw [if_pos e]; exact hr
    · rw [if_neg e]
      exact (H.rows d' s').mono hσ hI hk fun b hbb => ⟨(hb d' s' b e hbb).1, (hb d' s' b e hbb).2.1⟩
  apart d1 s1 d2 s2 b h1 h2 := by
    rw [hget_hput] at h1 h2
    by_cases e1 : d = d1 ∧ s = s1
    · rw [if_pos e1] at h1
      by_cases e2 : d = d2 ∧ s = s2
      · exact ⟨e1.1.symm.trans e2.1, e1.2.symm.trans e2.2⟩
      · rw [if_neg e2, blkOf_sig (H.rows d2 s2) hσ] at h2
        exact absurd h1 (hb d2 s2 b e2 h2).2.2
    · rw [if_neg e1, blkOf_sig (H.rows d1 s1) hσ] at h1
      by_cases e2 : d = d2 ∧ s = s2
      · rw [if_pos e2] at h2
        exact absurd h2 (hb d1 s1 b e1 h1).2.2
      · rw [if_neg e2, blkOf_sig (H.rows d2 s2) hσ] at h2
        exact H.apart d1 s1 d2 s2 b h1 h2
theorem HRep.keep (H : HRep σ I base w h) (hσ : ∀ g x, σ g = some x → σ' g = some x) (hI : ∀ b, I b → I' b) (hk : Keep0 I w w') (hin : ∀ b, I' b → Solid w' b)
    (hb : ∀ d s b, blkOf σ (hget h d s) = some b → w'.heap[b]? = w.heap[b]? ∧ ¬ I' b) : HRep σ' I' base w' h where
  inW := hin
  rows d s := (H.rows d s).mono hσ hI hk (hb d s)
  apart d1 s1 d2 s2 b h1 h2 := by
    rw [blkOf_sig (H.rows d1 s1) hσ] at h1
    rw [blkOf_sig (H.rows d2 s2) hσ] at h2
    exact H.apart d1 s1 d2 s2 b h1 h2
theorem HRep.kill (H : HRep σ I base w h) (d s : Nat) : HRep σ I base w (hput h d s row0) :=
  H.put (fun _ _ h => h) (fun _ h => h) (Keep.refl I w) H.inW d s row0 trivial fun d' s' b _ hb => ⟨rfl, (blkOf_facts (H.rows d' s') hb).2.1, by simp [blkOf, row0]⟩
theorem live_row {d s g : Nat} {b : Body} (hl : live h d s g = b) (hne : b ≠ .dead) : hget h d s = ⟨g, b⟩ := by
  unfold live at hl
  split at hl
  · rename_i e
    rw [← e, ← hl]
  · exact absurd hl.symm hne
theorem HRep.live (H : HRep σ I base w h) {d s g : Nat} {b : Body} (hl : Abs.live h d s g = b) (hne : b ≠ .dead) : RowRep σ I base w ⟨g, b⟩ := by
  have := H.rows d s
  rw [live_row hl hne] at this
  exact this
structure Grows (w w' : World) (o : Obj) : Prop where
  heap : w'.heap = w.heap.push o
  os : w'.os = w.os
  tape : w'.tape = w.tape
  output : w'.output = w.output
theorem Grows.old {o : Obj} (hg : Grows w w' o) {b : Nat} (hb : b < w.heap.size) : w'.heap[b]? = w.heap[b]? := by
  rw [hg.heap, Array.getElem?_push]; split
  · omega
  · rfl
theorem Grows.new {o : Obj} (hg : Grows w w' o) : w'.heap[w.heap.size]? = some o := by rw [hg.heap]; simp
theorem Grows.shape {c : Array Value} {e : TypeId} {fr : Nat × Nat} (hg : Grows w w' (.cells c e fr)) : w'.shape? w.heap.size = some (e, c.size) := by unfold World.shape?; rw [hg.new]
theorem Grows.cell {c : Array Value} {e : TypeId} {fr : Nat × Nat} (hg : Grows w w' (.cells c e fr)) (j : Nat) : w'.cell? ⟨w.heap.size, j, none⟩ = c[j]? := by unfold World.cell?; simp only [hg.new]; simp
theorem Grows.frozen {c : Array Value} {e : TypeId} (hg : Grows w w' (.cells c e)) (j : Nat) : w'.frozen? ⟨w.heap.size, j, none⟩ = false := by unfold World.frozen?; simp only [hg.new]; simp
theorem Grows.size {o : Obj} (hg : Grows w w' o) : w'.heap.size = w.heap.size + 1 := by rw [hg.heap]; simp
theorem Grows.below {o : Obj} (hg : Grows w w' o) (hB : Bnd base w.heap.size) : Blw base w w' := ⟨hg.os, hg.tape, hg.output, by rw [hg.size]; omega, fun k hk => hg.old (hB k hk)⟩
theorem Grows.keep {o : Obj} (hg : Grows w w' o) (hin : ∀ b, I b → b < w.heap.size) : Keep I w w' :=
  ⟨fun b hb => hg.old (hin b hb), fun b e n hs => by rw [shape_of_heap (hg.old (lt_of_shape hs))]; exact hs,
   fun b r hr => ⟨r, by rw [hg.old (lt_of_heap hr)]; exact hr, SameLoop.refl r⟩, fun b hb => by rw [hg.old (lt_of_heap hb)]; exact hb⟩
def upd (σ : Sig) (g : Nat) (x : Nat × Nat × Nat) : Sig := fun g' => if g' = g then some x else σ g'
theorem upd_sub {g : Nat} {x : Nat × Nat × Nat} (hg : σ g = none) : ∀ g' y, σ g' = some y → upd σ g x g' = some y := fun g' y hy => by
  unfold upd
  split
  · rename_i e; subst e; rw [hg] at hy; cases hy
  · exact hy
theorem upd_same {g : Nat} {x : Nat × Nat × Nat} : upd σ g x g = some x := by simp [upd]
theorem upd_other {g g' : Nat} {x : Nat × Nat × Nat} (hne : g' ≠ g) : upd σ g x g' = σ g' := by simp [upd, hne]
theorem Ext.push {o : Obj} (H : HRep σ I base w h) (hB : Bnd base w.heap.size) {g : Nat} {x : Nat × Nat × Nat} (hg : σ g = none) (hG : Grows w w' o) : Ext base σ I w (upd σ g x) I w' :=
  ⟨upd_sub hg, fun _ h => h, fun _ h => .inl h, hG.keep H.lt, hG.below hB⟩
theorem HRep.push {o : Obj} (H : HRep σ I base w h) {g k : Nat} {off : Nat} (hg : σ g = none) (hG : Grows w w' o) (d s : Nat) {b : Body}
    (hr : RowRep (upd σ g (w.heap.size, off, k)) I base w' ⟨g, b⟩) : HRep (upd σ g (w.heap.size, off, k)) I base w' (hput h d s ⟨g, b⟩) := by
  refine H.put (upd_sub hg) (fun _ h => h) (hG.keep H.lt) ((hG.keep H.lt).inW H.inW) d s _ hr ?_
  intro d' s' b' _ hb'
  have hf := blkOf_facts (H.rows d' s') hb'
  refine ⟨hG.old hf.1, hf.2.1, fun e => ?_⟩
  have : b' = w.heap.size := by
    cases b with
    | dead => simp [blkOf] at e
    | box v fz => cases fz <;> simp [blkOf, upd_same] at e; exact e.symm
    | row k e' xs fz => cases fz <;> simp [blkOf, upd_same] at e; exact e.symm
    | iter s pos => simp [blkOf, upd_same] at e; exact e.symm
    | lp st => simp [blkOf, upd_same] at e; exact e.symm
  omega
theorem setCells_other (b : Nat) : ∀ (vs : List Value) (o : Nat) (w : World) (b' : Nat), b' ≠ b → (w.setCells b o vs).heap[b']? = w.heap[b']?
  | [], _, _, _, _ => rfl
  | v :: r, o, w, b', hne => by
    rw [World.setCells, setCells_other b r _ _ b' hne]
    simp [World.setCell, Array.getElem?_modify, Ne.symm hne]
theorem setCells_shape (b : Nat) : ∀ (vs : List Value) (o : Nat) (w : World) (b' : Nat), (w.setCells b o vs).shape? b' = w.shape? b'
  | [], _, _, _ => rfl
  | v :: r, o, w, b' => by
    rw [World.setCells, setCells_shape b r]
    unfold World.shape? World.setCell
    simp only [Array.getElem?_modify]
    by_cases e : b = b'
    · subst e
      rw [if_pos rfl]
      cases hx : w.heap[b]? with
      | none => simp
      | some x => cases x <;> simp
    · rw [if_neg e]
theorem setCells_obj (b : Nat) {ob : Obj} (ho : ∀ c e fr, ob ≠ .cells c e fr) : ∀ (vs : List Value) (o : Nat) (w : World) (b' : Nat), w.heap[b']? = some ob → (w.setCells b o vs).heap[b']? = some ob
  | [], _, _, _, h => h
  | v :: r, o, w, b', h => by
    rw [World.setCells]
    refine setCells_obj b ho r _ _ b' ?_
    simp only [World.setCell, Array.getElem?_modify]
    by_cases e : b = b'
    · subst e
      rw [if_pos rfl, h]
      cases ob <;> first | rfl | exact absurd rfl (ho _ _ _)
    · rw [if_neg e]; exact h
theorem setCells_size (b : Nat) : ∀ (vs : List Value) (o : Nat) (w : World), (w.setCells b o vs).heap.size = w.heap.size
  | [], _, _ => rfl
  | v :: r, o, w => by rw [World.setCells, setCells_size b r, World.size_setCell]
theorem setCells_os (b : Nat) : ∀ (vs : List Value) (o : Nat) (w : World), (w.setCells b o vs).os = w.os ∧ (w.setCells b o vs).tape = w.tape ∧ (w.setCells b o vs).output = w.output
  | [], _, _ => ⟨rfl, rfl, rfl⟩
  | v :: r, o, w => by rw [World.setCells]; exact setCells_os b r (o + 1) _
theorem setCells_below {b o : Nat} {vs : List Value} (hb : ¬ base b) : Blw base w (w.setCells b o vs) :=
  ⟨(setCells_os b vs o w).1, (setCells_os b vs o w).2.1, (setCells_os b vs o w).2.2, by rw [setCells_size]; exact Nat.le_refl _, fun k hk => setCells_other b vs o w k (fun e => hb (e ▸ hk))⟩
theorem setCells_keep {b o : Nat} {vs : List Value} (hb : ¬ I b) : Keep I w (w.setCells b o vs) :=
  ⟨fun b' hb' => setCells_other b vs o w b' (fun e => hb (e ▸ hb')), fun b' e n hs => by rw [setCells_shape]; exact hs,
   fun b' r hr => ⟨r, setCells_obj b (by simp) vs o w b' hr, SameLoop.refl r⟩, fun b' hb' => setCells_obj b (by simp) vs o w b' hb'⟩
theorem setCells_out {b o j : Nat} {vs : List Value} (hj : j < o ∨ o + vs.length ≤ j) : (w.setCells b o vs).cell? ⟨b, j, none⟩ = w.cell? ⟨b, j, none⟩ :=
  World.cell?_setCells_out b vs o w ⟨b, j, none⟩ fun _ _ => hj
theorem setCells_in {b o n : Nat} {e : TypeId} {vs : List Value} (hs : w.shape? b = some (e, n)) (hn : o + vs.length ≤ n) {j : Nat} (hj : j < vs.length) :
    (w.setCells b o vs).cell? ⟨b, o + j, none⟩ = some vs[j] :=
  World.cell?_setCells_in b vs o w (fun i hi => by obtain ⟨u, hu⟩ := cell_lt_shape hs (j := o + i) (by omega); rw [hu]; rfl) j hj
theorem run_storeCells_row {P : Program} {b o n : Nat} {e : TypeId} {vs : List Value} (hs : w.shape? b = some (e, n)) (hn : o + vs.length ≤ n) (hf : Fr w n b) (h1 : ∀ v ∈ vs, v.oneCell' = true) :
    (storeCells ⟨b, o, none⟩ vs).run P w = .ok () (w.setCells b o vs) := by
  have := run_storeCells_cells (P := P) b o vs 0 w (fun j hj => by obtain ⟨u, hu⟩ := cell_lt_shape hs (j := o + 0 + j) (by omega); rw [hu]; rfl) (fun j hj => hf _ (by omega)) h1
  simpa using this
theorem addr_add (b o n : Nat) : (⟨b, o, none⟩ : Addr).add n = ⟨b, o + n, none⟩ := by
  unfold Addr.add; split <;> simp_all
end Go.Proofs.YtcoeigibikbfdaaGreatDoor.Abs

namespace Go.Proofs.YtcoeigibikbfdaaGreatDoor.Abs
open Go Go.RowKit
variable {σ σ' : Sig} {I I' : Blk} {base : Blk} {w w' : World} {h : Heap}
theorem cells_len_one {v : Value} (hv : v.oneCell' = true) : v.cells = #[v] := by cases v <;> simp_all [Value.cells, Value.oneCell']
theorem PRep.cells {p : PV} {u : Value} (hr : PRep I w p u) (ho : p.ok = true) :
    u.cells.size = p.cells.length ∧ (∀ x ∈ u.cells.toList, x.oneCell' = true) ∧ ∀ (j : Nat) (c : PV) (x : Value), p.cells[j]? = some c → u.cells[j]? = some x → PRep I w c x := by
  have one : ∀ {p : PV} {u : Value}, PRep I w p u → p.cells = [p] → u.oneCell' = true →
      u.cells.size = p.cells.length ∧ (∀ x ∈ u.cells.toList, x.oneCell' = true) ∧ ∀ (j : Nat) (c : PV) (x : Value), p.cells[j]? = some c → u.cells[j]? = some x → PRep I w c x := by
    intro p u hr hp hu
    rw [hp, cells_len_one hu]
    refine ⟨rfl, by simpa using hu, fun j c x hc hx => ?_⟩
    cases j with
    | zero => simp at hc hx; subst hc; subst hx; exact hr
    | succ j => simp at hc
  cases hr with
  | lit => exact one (.lit _) rfl ho
  | nil k full => exact one (.nil k full) rfl rfl
  | emp k full a cap hfull => exact one (.emp k full a cap hfull) rfl rfl
  | sl k full xs b o cap vs hcap hfull hb hk' hc hr => exact one (.sl k full xs b o cap vs hcap hfull hb hk' hc hr) rfl rfl
  | ptr root off b o vs hb hc hr => exact one (.ptr root off b o vs hb hc hr) rfl rfl
  | agg cs vs hl h1 hr => exact ⟨by simpa [Value.cells, PV.cells] using hl, by simpa [Value.cells] using h1, fun j c x hc hx => hr j c x hc (by simpa [Value.cells] using hx)⟩
  | tup cs vs hl hr => cases ho
  | iface t p v h => exact one (.iface t p v h) rfl rfl
  | clo f a b va vb hla hlb hra hrb => exact one (.clo f a b va vb hla hlb hra hrb) rfl rfl
theorem Rep.cells {p : AV} {u : Value} (hr : Rep σ I w p u) (ho : p.ok = true) :
    u.cells.size = p.cells.length ∧ (∀ x ∈ u.cells.toList, x.oneCell' = true) ∧ ∀ (j : Nat) (c : AV) (x : Value), p.cells[j]? = some c → u.cells[j]? = some x → Rep σ I w c x := by
  have one : ∀ {p : AV} {u : Value}, Rep σ I w p u → p.cells = [p] → u.oneCell' = true →
      u.cells.size = p.cells.length ∧ (∀ x ∈ u.cells.toList, x.oneCell' = true) ∧ ∀ (j : Nat) (c : AV) (x : Value), p.cells[j]? = some c → u.cells[j]? = some x → Rep σ I w c x := by
    intro p u hr hp hu
    rw [hp, cells_len_one hu]
    refine ⟨rfl, by simpa using hu, fun j c x hc hx => ?_⟩
    cases j with
    | zero => simp at hc hx; subst hc; subst hx; exact hr
    | succ j => simp at hc
  cases hr with
  | pv p v h =>
    obtain ⟨h1, h2, h3⟩ := h.cells ho
    refine ⟨by simpa [AV.cells] using h1, h2, fun j c x hc hx => ?_⟩
    simp only [AV.cells, List.getElem?_map, Option.map_eq_some_iff] at hc
    obtain ⟨c', hc', rfl⟩ := hc
    exact .pv _ _ (h3 j c' x hc' hx)
  | mptr d s g i off b o k h => exact one (.mptr d s g i off b o k h) rfl rfl
  | msl d s g off n full b o k cap ad had h hn hfull hroom => exact one (.msl d s g off n full b o k cap ad had h hn hfull hroom) rfl rfl
  | agg cs vs hl h1 hr => exact ⟨by simpa [Value.cells, AV.cells] using hl, by simpa [Value.cells] using h1, fun j c x hc hx => hr j c x hc (by simpa [Value.cells] using hx)⟩
  | tup cs vs hl hr => cases ho
  | clo f a b va vb hla hlb hra hrb => exact one (.clo f a b va vb hla hlb hra hrb) rfl rfl
  | yld d s g b o k h => exact one (.yld d s g b o k h) rfl rfl
  | ifc t v u h => exact one (.ifc t v u h) rfl rfl
  | btag t => exact one (.btag t) rfl rfl
theorem rep_of_cells {v : AV} (ho : v.ok = true) (us : List Value) (hl : us.length = v.cells.length) (h1 : ∀ x ∈ us, x.oneCell' = true)
    (hr : ∀ (j : Nat) (c : AV) (x : Value), v.cells[j]? = some c → us[j]? = some x → Rep σ I w c x) : ∃ u, Rep σ I w v u ∧ u.cells.toList = us := by
  have one : v.cells = [v] → ∃ u, Rep σ I w v u ∧ u.cells.toList = us := by
    intro hv
    rw [hv] at hl
    match us, hl with
    | [u], _ =>
      refine ⟨u, hr 0 v u (by rw [hv]; rfl) rfl, ?_⟩
      rw [cells_len_one (h1 u (by simp))]
  cases v with
  | pv p =>
    cases p with
    | agg cs =>
      refine ⟨.agg us.toArray, .pv _ _ (.agg cs us (by simpa [AV.cells, PV.cells] using hl) h1 fun j c x hc hx => ?_), rfl⟩
      have := hr j (.pv c) x (by simp [AV.cells, PV.cells, hc]) hx
      cases this with
      | pv _ _ h => exact h
    | _ => exact one rfl
  | agg cs => exact ⟨.agg us.toArray, .agg cs us (by simpa [AV.cells] using hl) h1 hr, rfl⟩
  | tup l => cases ho
  | _ => exact one rfl
theorem list_of_cells {α : Type} {P : Nat → α → Prop} : ∀ (n : Nat), (∀ j, j < n → ∃ u, P j u) → ∃ us : List α, us.length = n ∧ ∀ (j : Nat) (u : α), us[j]? = some u → P j u
  | 0, _ => ⟨[], rfl, fun j u hu => by simp at hu⟩
  | n + 1, hh => by
    obtain ⟨us, hl, hu⟩ := list_of_cells n fun j hj => hh j (by omega)
    obtain ⟨u, hP⟩ := hh n (by omega)
    refine ⟨us ++ [u], by simp [hl], fun j x hx => ?_⟩
    rcases Nat.lt_or_ge j n with hj | hj
    · rw [List.getElem?_append_left (by omega)] at hx; exact hu j x hx
    · rw [List.getElem?_append_right (by omega), hl] at hx
      cases hjn : j - n with
      | zero => rw [hjn] at hx; simp at hx; subst hx; rw [show j = n by omega]; exact hP
      | succ m => rw [hjn] at hx; simp at hx
theorem box_val {g : Nat} {v : AV} {fz : Bool} (hr : RowRep σ I base w ⟨g, .box v fz⟩) :
    ∃ b k e u, σ g = some (b, 0, k) ∧ w.shape? b = some (e, v.cells.length) ∧ v.ok = true ∧ Rep σ I w v u ∧ Fz I base w b v.cells.length fz ∧ k = 1 ∧
      (∀ x ∈ u.cells.toList, x.oneCell' = true) ∧ u.cells.size = v.cells.length ∧ ∀ (j : Nat) (x : Value), u.cells[j]? = some x → w.cell? ⟨b, j, none⟩ = some x := by
  obtain ⟨b, e, hs, hsh, hok, hc, hz⟩ := hr
  have hok := boxOk_ok hok
  obtain ⟨us, hl, hu⟩ := list_of_cells (P := fun j u => w.cell? ⟨b, j, none⟩ = some u ∧ u.oneCell' = true ∧ ∀ p, v.cells[j]? = some p → Rep σ I w p u) v.cells.length fun j hj => by
    obtain ⟨u, h1, h2, h3⟩ := hc j v.cells[j] (List.getElem?_eq_getElem hj)
    exact ⟨u, h1, h2, fun p hp => by rw [List.getElem?_eq_getElem hj] at hp; injection hp with hp; subst hp; exact h3⟩
  obtain ⟨u, hru, hcu⟩ := rep_of_cells (σ := σ) (I := I) (w := w) hok us hl (fun x hx => by
      obtain ⟨j, hj, rfl⟩ := List.mem_iff_getElem.1 hx
      exact (hu j _ (List.getElem?_eq_getElem hj)).2.1) (fun j c x hc hx => (hu j x hx).2.2 c hc)
  refine ⟨b, 1, e, u, hs, hsh, hok, hru, hz, rfl, ?_, ?_, fun j x hx => ?_⟩
  · intro x hx
    rw [hcu] at hx
    obtain ⟨j, hj, rfl⟩ := List.mem_iff_getElem.1 hx
    exact (hu j _ (List.getElem?_eq_getElem hj)).2.1
  · rw [← Array.length_toList, hcu, hl]
  · have : us[j]? = some x := by rw [← hcu]; simpa using hx
    exact (hu j x this).1
theorem HRep.markAt (H : HRep σ I base w h) {d s g : Nat} {bd bd' : Body} {b o k : Nat} (hl : Abs.live h d s g = bd) (hne : bd ≠ .dead) (hs : σ g = some (b, o, k))
    (hb : Solid w b) (hfr : blkOf σ ⟨g, bd⟩ = some b ∨ I b) (hr : RowRep σ (fun x => I x ∨ x = b) base w ⟨g, bd'⟩) (hbd : blkOf σ ⟨g, bd'⟩ = none) :
    HRep σ (fun x => I x ∨ x = b) base w (hput h d s ⟨g, bd'⟩) := by
  refine H.put (fun _ _ h => h) (fun _ h => .inl h) (Keep.refl I w) (fun x hx => hx.elim (H.inW x) (fun e => e ▸ hb)) d s _ hr ?_
  intro d' s' b' hne' hb'
  have hf := blkOf_facts (H.rows d' s') hb'
  refine ⟨rfl, fun hx => ?_, by rw [hbd]; simp⟩
  rcases hx with hx | hx
  · exact hf.2.1 hx
  · subst hx
    rcases hfr with hfr | hfr
    · have hlive := live_row hl hne
      exact hne' (H.apart d s d' s' _ (by rw [hlive]; exact hfr) hb')
    · exact hf.2.1 hfr
def More (I I' : Blk) (base : Blk) : Prop := (∀ b, I b → I' b) ∧ ∀ b, I' b → I b ∨ ¬ base b
theorem More.refl : More I I base := ⟨fun _ h => h, fun _ h => .inl h⟩
theorem More.trans {I'' : Blk} (h : More I I' base) (k : More I' I'' base) : More I I'' base := ⟨fun b hb => k.1 b (h.1 b hb), fun b hb => (k.2 b hb).elim (h.2 b) .inr⟩
theorem row_block {g k : Nat} {e : TypeId} {xs : List PV} {fz : Bool} (hr : RowRep σ I base w ⟨g, .row k e xs fz⟩) :
    ∃ b o n, σ g = some (b, o, k) ∧ b < w.heap.size ∧ (fz = false → ¬ base b) ∧ (blkOf σ ⟨g, .row k e xs fz⟩ = some b ∨ I b) ∧ o + xs.length * k ≤ n ∧ w.shape? b = some (e, n) ∧
      (∀ x ∈ xs, x.cells.length = k ∧ x.ok = true) ∧
      (∀ i x, xs[i]? = some x → ∀ (j : Nat) (p : PV), x.cells[j]? = some p → ∃ u, w.cell? ⟨b, o + i * k + j, none⟩ = some u ∧ u.oneCell' = true ∧ PRep I w p u) ∧ Fz I base w b n fz := by
  obtain ⟨b, o, n, hs, hsh, hn, hx, hc, hz⟩ := hr
  refine ⟨b, o, n, hs, lt_of_shape hsh, ?_, ?_, hn, hsh, hx, hc, hz⟩
  · rintro rfl; exact hz.2.1
  · cases fz with
    | true => exact .inr hz
    | false => exact .inl (by simp [blkOf, hs])
theorem RowRep.freeze {g k : Nat} {e : TypeId} {xs : List PV} {fz : Bool} {b o : Nat} (hr : RowRep σ I base w ⟨g, .row k e xs fz⟩) (hs : σ g = some (b, o, k)) :
    RowRep σ (fun x => I x ∨ x = b) base w ⟨g, .row k e xs true⟩ := by
  obtain ⟨b', o', n, hs', hsh, hn, hx, hc, hz⟩ := hr
  rw [hs] at hs'
  simp only [Option.some.injEq, Prod.mk.injEq] at hs'
  obtain ⟨rfl, rfl, _⟩ := hs'
  exact ⟨b, o, n, hs, hsh, hn, hx, fun i x hi j p hp => by
    obtain ⟨u, h1, h2, h3⟩ := hc i x hi j p hp
    exact ⟨u, h1, h2, h3.mono (fun _ h => .inl h) fun _ _ => rfl⟩, .inr rfl⟩
theorem vals_of {P : Nat → Nat → Prop} {Q : Nat → Nat → Value → Prop} (hh : ∀ i j, P i j → ∃ u, Q i j u) : ∃ vs : Nat → Nat → Value, ∀ i j, P i j → Q i j (vs i j) := by
  classical
  refine ⟨fun i j => if hp : P i j then Classical.choose (hh i j hp) else default, fun i j hp => ?_⟩
  simp only [dif_pos hp]
  exact Classical.choose_spec (hh i j hp)
def Safe (σ : Sig) (I : Blk) (h : Heap) (k : Key) : Prop := ∃ b o m, σ (hget h k.1 k.2).g = some (b, o, m) ∧ I b
def Kind (h : Heap) (k : Key) : Prop := (∃ v fz, (hget h k.1 k.2).b = .box v fz) ∨ ∃ m e xs fz, (hget h k.1 k.2).b = .row m e xs fz
theorem row_vals {k : Nat} {xs : List PV} {b o : Nat} (hI : ∀ b, I b → I' b) (hc : ∀ i x, xs[i]? = some x → ∀ (j : Nat) (p : PV), x.cells[j]? = some p → ∃ u, w.cell? ⟨b, o + i * k + j, none⟩ = some u ∧ u.oneCell' = true ∧ PRep I w p u) :
    ∃ vs : Nat → Nat → Value, ∀ i x, xs[i]? = some x → ∀ (j : Nat) (p : PV), x.cells[j]? = some p → w.cell? ⟨b, o + i * k + j, none⟩ = some (vs i j) ∧ (vs i j).oneCell' = true ∧ PRep I' w p (vs i j) := by
  obtain ⟨vs, hvs⟩ := vals_of (P := fun i j => ∃ x p, xs[i]? = some x ∧ x.cells[j]? = some p)
    (Q := fun i j u => w.cell? ⟨b, o + i * k + j, none⟩ = some u ∧ u.oneCell' = true ∧ ∀ x p, xs[i]? = some x → x.cells[j]? = some p → PRep I' w p u) fun i j ⟨x, p, hi, hj⟩ => by
      obtain ⟨u, h1, h2, h3⟩ := hc i x hi j p hj
      refine ⟨u, h1, h2, fun x' p' hi' hj' => ?_⟩
      rw [hi] at hi'; injection hi' with hi'; subst hi'
      rw [hj] at hj'; injection hj' with hj'; subst hj'
      exact h3.mono hI fun _ _ => rfl
  exact ⟨vs, fun i x hi j p hj => ⟨(hvs i j ⟨x, p, hi, hj⟩).1, (hvs i j ⟨x, p, hi, hj⟩).2.1, (hvs i j ⟨x, p, hi, hj⟩).2.2 x p hi hj⟩⟩
theorem live_g {d s g : Nat} {b : Body} (hl : live h d s g = b) (hne : b ≠ .dead) : (hget h d s).g = g ∧ (hget h d s).b = b := by
  have := live_row hl hne
  rw [this]
  exact ⟨rfl, rfl⟩
theorem pks_sound {f : AV → Option (PV × List Key)}
    (hf : ∀ (v : AV) (p : PV) (ks : List Key) (u : Value), f v = some (p, ks) → Rep σ I w v u → (∀ k ∈ ks, Kind h k) ∧ ∀ I', (∀ b, I b → I' b) → (∀ k ∈ ks, Safe σ I' h k) → PRep I' w p u) :
    ∀ (l : List AV) (ps : List PV) (ks : List Key) (us : List Value), pks f l = some (ps, ks) → us.length = l.length → (∀ (j : Nat) (v : AV) (u : Value), l[j]? = some v → us[j]? = some u → Rep σ I w v u) →
      ps.length = l.length ∧ (∀ k ∈ ks, Kind h k) ∧ ∀ I', (∀ b, I b → I' b) → (∀ k ∈ ks, Safe σ I' h k) → ∀ (j : Nat) (p : PV) (u : Value), ps[j]? = some p → us[j]? = some u → PRep I' w p u
  | [], ps, ks, us, he, hl, hr => by
    simp only [pks, Option.some.injEq, Prod.mk.injEq] at he
    obtain ⟨rfl, rfl⟩ := he
    exact ⟨rfl, by simp, fun I' _ _ j p u hp => by simp at hp⟩
  | v :: l, ps, ks, us, he, hl, hr => by
    match us, hl with
    | u :: us, hl =>
      simp only [pks, Option.bind_eq_some_iff, Option.map_eq_some_iff, Prod.exists] at he
      obtain ⟨p, k1, hp, ps', k2, hps, he⟩ := he
      simp only [Prod.mk.injEq] at he
      obtain ⟨rfl, rfl⟩ := he
      obtain ⟨hk1, hp1⟩ := hf v p k1 u hp (hr 0 v u rfl rfl)
      obtain ⟨hlen, hk2, hp2⟩ := pks_sound hf l ps' k2 us hps (by simpa using hl) (fun j v' u' hv hu => hr (j + 1) v' u' (by simpa using hv) (by simpa using hu))
      refine ⟨by simp [hlen], fun k hk => (List.mem_append.1 hk).elim (hk1 k) (hk2 k), fun I' hI hs j p' u' hp' hu' => ?_⟩
      cases j with
      | zero =>
        simp at hp' hu'
        subst hp'; subst hu'
        exact hp1 I' hI fun k hk => hs k (by simp [hk])
      | succ j => exact hp2 I' hI (fun k hk => hs k (by simp [hk])) j p' u' (by simpa using hp') (by simpa using hu')
theorem pk_ok : ∀ {n : Nat} {v : AV} {p : PV} {ks : List Key}, pk h n v = some (p, ks) → v.ok = true → p.ok = true
  | 0, _, _, _, he, _ => by simp [pk] at he
  | n + 1, v, p, ks, he, ho => by
    cases v with
    | pv q => simp only [pk, Option.some.injEq, Prod.mk.injEq] at he; obtain ⟨rfl, _⟩ := he; exact ho
    | mptr d s g i off =>
      simp only [pk] at he
      split at he
      · split at he
        · simp only [Option.map_eq_some_iff, Prod.exists, Prod.mk.injEq] at he
          obtain ⟨_, _, _, rfl, _⟩ := he; rfl
        · cases he
      · simp only [Option.map_eq_some_iff, Prod.mk.injEq] at he
        obtain ⟨_, _, rfl, _⟩ := he; rfl
      · cases he
    | msl d s g off m full =>
      simp only [pk] at he
      split at he
      · split at he
        · simp only [Option.some.injEq, Prod.mk.injEq] at he; obtain ⟨rfl, _⟩ := he; rfl
        · cases he
      · cases he
    | agg l =>
      simp only [pk, Option.map_eq_some_iff, Prod.exists, Prod.mk.injEq] at he
      obtain ⟨_, _, _, rfl, _⟩ := he; rfl
    | tup l => cases ho
    | clo f a b =>
      simp only [pk, Option.bind_eq_some_iff, Option.map_eq_some_iff, Prod.exists, Prod.mk.injEq] at he
      obtain ⟨_, _, _, _, _, _, rfl, _⟩ := he; rfl
    | yld d s g => simp [pk] at he
    | ifc t v =>
      simp only [pk, Option.map_eq_some_iff, Prod.exists, Prod.mk.injEq] at he
      obtain ⟨_, _, _, rfl, _⟩ := he; rfl
    | btag t => simp [pk] at he
theorem pk_sound (H : HRep σ I base w h) : ∀ (n : Nat) (v : AV) (p : PV) (ks : List Key) (u : Value), pk h n v = some (p, ks) → Rep σ I w v u →
    (∀ k ∈ ks, Kind h k) ∧ ∀ I', (∀ b, I b → I' b) → (∀ k ∈ ks, Safe σ I' h k) → PRep I' w p u
  | 0, v, p, ks, u, he, hr => by simp [pk] at he
  | n + 1, v, p, ks, u, he, hr => by
    have ih := pks_sound (σ := σ) (I := I) (w := w) (h := h) (f := pk h n) (pk_sound H n)
    cases hr with
    | pv p0 v0 hp =>
      simp only [pk, Option.some.injEq, Prod.mk.injEq] at he
      obtain ⟨rfl, rfl⟩ := he
      exact ⟨by simp, fun I' hI _ => hp.mono hI fun _ _ => rfl⟩
    | mptr d s g i off b o k hs =>
      simp only [pk] at he
      split at he
      · rename_i v0 fz hl
        split at he
        · rename_i hi
          subst hi
          simp only [Option.map_eq_some_iff, Prod.exists, Prod.mk.injEq] at he
          obtain ⟨p1, k1, hp1, rfl, rfl⟩ := he
          obtain ⟨b0, k0, e0, u0, hs0, hsh, hok, hru, hz, hf, h1c, hsz, hcell⟩ := box_val (H.live hl (by simp))
          rw [hs] at hs0
          simp only [Option.some.injEq, Prod.mk.injEq] at hs0
          obtain ⟨rfl, rfl, rfl⟩ := hs0
          obtain ⟨hkd, hpr⟩ := pk_sound H n v0 p1 k1 u0 hp1 hru
          obtain ⟨hlg, hlb⟩ := live_g hl (by simp)
          refine ⟨fun k hk => ?_, fun I' hI hsafe => ?_⟩
          · rcases List.mem_cons.1 hk with rfl | hk
            · exact .inl ⟨v0, fz, hlb⟩
            · exact hkd k hk
          · have hprep := hpr I' hI fun k hk => hsafe k (by simp [hk])
            have hpok := pk_ok hp1 hok
            obtain ⟨hps, hp1c, hpc⟩ := hprep.cells hpok
            obtain ⟨b2, o2, m2, hs2, hIb⟩ := hsafe (d, s) (by simp)
            rw [hlg, hs] at hs2
            simp only [Option.some.injEq, Prod.mk.injEq] at hs2
            obtain ⟨rfl, _, _⟩ := hs2
            have hx : ∀ j c, p1.cells[j]? = some c → ∃ x, u0.cells[j]? = some x ∧ w.cell? ⟨b, j, none⟩ = some x ∧ x.oneCell' = true ∧ PRep I' w c x := by
              intro j c hc
              have hj : j < u0.cells.size := by
                have := (List.getElem?_eq_some_iff.1 hc).1
                omega
              exact ⟨u0.cells[j], Array.getElem?_eq_getElem hj, hcell j _ (Array.getElem?_eq_getElem hj), hp1c _ (by simp), hpc j c _ hc (Array.getElem?_eq_getElem hj)⟩
            have := PRep.ptr (I := I') (w := w) p1 off b 0 (fun j => u0.cells.getD j default) hIb (fun j c hc => ?_) (fun j c hc => ?_)
            · simpa using this
            · obtain ⟨x, h1, h2, h3, _⟩ := hx j c hc
              simp only [Nat.zero_add, Array.getD_eq_getD_getElem?, h1, Option.getD_some]
              exact ⟨h2, h3⟩
            · obtain ⟨x, h1, h2, h3, h4⟩ := hx j c hc
              simp only [Array.getD_eq_getD_getElem?, h1, Option.getD_some]
              exact h4
        · cases he
      · rename_i k0 e0 xs fz hl
        simp only [Option.map_eq_some_iff, Prod.mk.injEq] at he
        obtain ⟨x, hx, rfl, rfl⟩ := he
        obtain ⟨b', o', n', hs', _, _, _, _, _, _, hc, _⟩ := row_block (H.live hl (by simp))
        rw [hs] at hs'
        simp only [Option.some.injEq, Prod.mk.injEq] at hs'
        obtain ⟨rfl, rfl, rfl⟩ := hs'
        obtain ⟨hlg, hlb⟩ := live_g hl (by simp)
        refine ⟨fun k hk => ?_, fun I' hI hsafe => ?_⟩
        · rw [List.mem_singleton.1 hk]
          exact .inr ⟨_, _, _, _, hlb⟩
        · obtain ⟨b2, o2, m2, hs2, hIb⟩ := hsafe (d, s) (by simp)
          rw [hlg, hs] at hs2
          simp only [Option.some.injEq, Prod.mk.injEq] at hs2
          obtain ⟨rfl, _, _⟩ := hs2
          obtain ⟨vs, hv⟩ := row_vals hI hc
          exact .ptr x off b (o + i * k) (vs i) hIb (fun j p hp => ⟨(hv i x hx j p hp).1, (hv i x hx j p hp).2.1⟩) (fun j p hp => (hv i x hx j p hp).2.2)
      · cases he
    | msl d s g off m full b o k cap ad had hs hn hfull hroom =>
      simp only [pk] at he
      split at he
      · rename_i k0 e0 xs fz hl
        split at he
        · rename_i hle
          simp only [Option.some.injEq, Prod.mk.injEq] at he
          obtain ⟨rfl, rfl⟩ := he
          obtain ⟨b', o', n', hs', _, _, _, _, _, hx, hc, _⟩ := row_block (H.live hl (by simp))
          rw [hs] at hs'
          simp only [Option.some.injEq, Prod.mk.injEq] at hs'
          obtain ⟨rfl, rfl, rfl⟩ := hs'
          obtain ⟨hlg, hlb⟩ := live_g hl (by simp)
          refine ⟨fun k hk => ?_, fun I' hI hsafe => ?_⟩
          · rw [List.mem_singleton.1 hk]
            exact .inr ⟨_, _, _, _, hlb⟩
          · obtain ⟨b2, o2, m2, hs2, hIb⟩ := hsafe (d, s) (by simp)
            rw [hlg, hs] at hs2
            simp only [Option.some.injEq, Prod.mk.injEq] at hs2
            obtain ⟨rfl, _, _⟩ := hs2
            obtain ⟨vs, hv⟩ := row_vals hI hc
            have hlen : ((xs.drop off).take m).length = m := by simp; omega
            have hget : ∀ i x, ((xs.drop off).take m)[i]? = some x → xs[off + i]? = some x := by
              intro i x hi
              rw [List.getElem?_take] at hi
              split at hi
              · rwa [List.getElem?_drop] at hi
              · cases hi
            have := PRep.sl (I := I') (w := w) k full ((xs.drop off).take m) b (o + off * k) cap (fun i j => vs (off + i) j) (by omega) (by rw [hlen]; exact hfull) hIb
              (fun x hxm => hx x (List.mem_of_mem_drop (List.mem_of_mem_take hxm)))
              (fun i x hi j p hp => by
                have := hv (off + i) x (hget i x hi) j p hp
                rw [show o + off * k + i * k + j = o + (off + i) * k + j by rw [Nat.add_mul]; omega]
                exact ⟨this.1, this.2.1⟩)
              (fun i x hi j p hp => (hv (off + i) x (hget i x hi) j p hp).2.2)
            rw [hlen] at this
            by_cases h0 : cap = 0
            · subst h0
              have hm : m = 0 := by omega
              subst hm
              exact .emp k full _ 0 fun _ => rfl
            · rw [had h0]
              exact this
        · cases he
      · cases he
    | agg cs vs hl h1 hr =>
      simp only [pk, Option.map_eq_some_iff, Prod.exists, Prod.mk.injEq] at he
      obtain ⟨ps, k1, hps, rfl, rfl⟩ := he
      obtain ⟨hlen, hkd, hp⟩ := ih cs ps k1 vs hps hl hr
      exact ⟨hkd, fun I' hI hs => .agg ps vs (by omega) h1 (hp I' hI hs)⟩
    | tup cs vs hl hr =>
      simp only [pk, Option.map_eq_some_iff, Prod.exists, Prod.mk.injEq] at he
      obtain ⟨ps, k1, hps, rfl, rfl⟩ := he
      obtain ⟨hlen, hkd, hp⟩ := ih cs ps k1 vs hps hl hr
      exact ⟨hkd, fun I' hI hs => .tup ps vs (by omega) (hp I' hI hs)⟩
    | clo f a b va vb hla hlb hra hrb =>
      simp only [pk, Option.bind_eq_some_iff, Option.map_eq_some_iff, Prod.exists, Prod.mk.injEq] at he
      obtain ⟨pa, k1, hpa, pb, k2, hpb, rfl, rfl⟩ := he
      obtain ⟨hlen1, hk1, hp1⟩ := ih a pa k1 va hpa hla hra
      obtain ⟨hlen2, hk2, hp2⟩ := ih b pb k2 vb hpb hlb hrb
      exact ⟨fun k hk => (List.mem_append.1 hk).elim (hk1 k) (hk2 k), fun I' hI hs => .clo f pa pb va vb (by omega) (by omega) (hp1 I' hI fun k hk => hs k (by simp [hk])) (hp2 I' hI fun k hk => hs k (by simp [hk]))⟩
    | yld d s g b o k h => simp [pk] at he
    | ifc t v0 u0 hv =>
      simp only [pk, Option.map_eq_some_iff, Prod.exists, Prod.mk.injEq] at he
      obtain ⟨p1, k1, hp1, rfl, rfl⟩ := he
      obtain ⟨hkd, hpr⟩ := pk_sound H n v0 p1 k1 u0 hp1 hv
      exact ⟨hkd, fun I' hI hs => .iface t p1 u0 (hpr I' hI hs)⟩
    | btag t => simp [pk] at he
theorem HRep.mark_ (H : HRep σ I base w h) {k : Key} (hk : Kind h k) : ∃ I', HRep σ I' base w (mark h k) ∧ More I I' base ∧ Safe σ I' h k := by
  obtain ⟨d, s⟩ := k
  have hrow := H.rows d s
  generalize hr : hget h d s = r at hrow
  obtain ⟨g, bd⟩ := r
  have hlive : Abs.live h d s g = bd := by unfold Abs.live; rw [hr]; simp
  have hmark : Abs.mark h (d, s) = hput h d s ⟨g, markB bd⟩ := by unfold Abs.mark; rw [hr]
  rw [hmark]
  unfold Kind at hk
  simp only [hr] at hk
  rcases hk with ⟨v, fz, rfl⟩ | ⟨m, e, xs, fz, rfl⟩
  · obtain ⟨b, e0, hs, hsh, hok, hc, hz⟩ := hrow
    refine ⟨fun x => I x ∨ x = b, H.markAt hlive (by simp) hs (.of_shape hsh) ?_ ⟨b, e0, hs, hsh, hok, fun j p hp => ?_, .inr rfl⟩ rfl, ⟨fun _ h => .inl h, fun x hx => hx.elim .inl fun e => ?_⟩, b, 0, 1, by rw [hr]; exact hs, .inr rfl⟩
    · cases fz with
      | true => exact .inr hz
      | false => exact .inl (by simp [blkOf, hs])
    · obtain ⟨u, h1, h2, h3⟩ := hc j p hp
      exact ⟨u, h1, h2, h3.mono (fun _ _ h => h) (fun _ h => .inl h) (Keep.refl _ _).zero⟩
    · subst e
      cases fz with
      | true => exact .inl hz
      | false => exact .inr hz.2.1
  · have hrow' := hrow
    obtain ⟨b, o, n, hs, hb, hbase, hfr, hn, hsh, hx, hc, hz⟩ := row_block hrow
    refine ⟨fun x => I x ∨ x = b, H.markAt hlive (by simp) hs (.of_shape hsh) hfr (RowRep.freeze hrow' hs) rfl, ⟨fun _ h => .inl h, fun x hx => hx.elim .inl fun e => ?_⟩, b, o, m, by rw [hr]; exact hs, .inr rfl⟩
    subst e
    cases fz with
    | true => exact .inl hz
    | false => exact .inr (hbase rfl)
theorem mark_get (k : Key) (d s : Nat) : (hget (mark h k) d s).g = (hget h d s).g ∧ (hget (mark h k) d s).b = if k = (d, s) then markB (hget h d s).b else (hget h d s).b := by
  unfold mark
  rw [hget_hput]
  by_cases e : k.1 = d ∧ k.2 = s
  · have : k = (d, s) := Prod.ext e.1 e.2
    rw [if_pos e, if_pos this, this]
    exact ⟨rfl, rfl⟩
  · have : k ≠ (d, s) := fun hh => e ⟨by rw [hh], by rw [hh]⟩
    rw [if_neg e, if_neg this]
    exact ⟨rfl, rfl⟩
theorem Kind.mark {k k' : Key} (hk : Kind h k) : Kind (Abs.mark h k') k := by
  have hg := mark_get (h := h) k' k.1 k.2
  unfold Kind
  rw [hg.2]
  rcases hk with ⟨v, fz, hv⟩ | ⟨m, e, xs, fz, hv⟩
  · left
    split <;> rw [hv]
    · exact ⟨v, true, rfl⟩
    · exact ⟨v, fz, rfl⟩
  · right
    split <;> rw [hv]
    · exact ⟨m, e, xs, true, rfl⟩
    · exact ⟨m, e, xs, fz, rfl⟩
theorem Safe.mark {k k' : Key} : Safe σ I (Abs.mark h k') k ↔ Safe σ I h k := by
  unfold Safe
  rw [(mark_get (h := h) k' k.1 k.2).1]
theorem HRep.marks_ : ∀ (ks : List Key) {h : Heap} {I : Blk}, HRep σ I base w h → (∀ k ∈ ks, Kind h k) → ∃ I', HRep σ I' base w (marks ks h) ∧ More I I' base ∧ ∀ k ∈ ks, Safe σ I' h k
  | [], h, I, H, _ => ⟨I, H, More.refl, by simp⟩
  | k :: ks, h, I, H, hk => by
    obtain ⟨I1, H1, m1, hs1⟩ := H.mark_ (hk k (by simp))
    obtain ⟨I2, H2, m2, hs2⟩ := HRep.marks_ ks H1 fun k' hk' => (hk k' (by simp [hk'])).mark
    refine ⟨I2, H2, m1.trans m2, fun k' hk' => ?_⟩
    rcases List.mem_cons.1 hk' with rfl | hk'
    · obtain ⟨b, o, m, h1, h2⟩ := hs1
      exact ⟨b, o, m, h1, m2.1 b h2⟩
    · exact Safe.mark.1 (hs2 k' hk')
theorem frz_sound (n : Nat) (v : AV) (h : Heap) (p : PV) (h' : Heap) (u : Value) (I : Blk) (he : frz n v h = some (p, h')) (hr : Rep σ I w v u) (H : HRep σ I base w h) :
    ∃ I', PRep I' w p u ∧ HRep σ I' base w h' ∧ More I I' base := by
  unfold frz at he
  simp only [Option.map_eq_some_iff, Prod.exists, Prod.mk.injEq] at he
  obtain ⟨p', ks, hp, rfl, rfl⟩ := he
  obtain ⟨hk, hpr⟩ := pk_sound H n v p' ks u hp hr
  obtain ⟨I', H', m, hs⟩ := HRep.marks_ ks H hk
  exact ⟨I', hpr I' m.1 hs, H', m⟩
theorem frzs_sound (n : Nat) (l : List AV) (h : Heap) (ps : List PV) (h' : Heap) (us : List Value) (I : Blk) (he : frzs n l h = some (ps, h')) (hl : us.length = l.length)
    (hr : ∀ (j : Nat) (v : AV) (u : Value), l[j]? = some v → us[j]? = some u → Rep σ I w v u) (H : HRep σ I base w h) :
    ∃ I', ps.length = l.length ∧ (∀ (j : Nat) (p : PV) (u : Value), ps[j]? = some p → us[j]? = some u → PRep I' w p u) ∧ HRep σ I' base w h' ∧ More I I' base := by
  unfold frzs at he
  simp only [Option.map_eq_some_iff, Prod.exists, Prod.mk.injEq] at he
  obtain ⟨ps', ks, hp, rfl, rfl⟩ := he
  obtain ⟨hlen, hk, hpr⟩ := pks_sound (h := h) (pk_sound H n) l ps' ks us hp hl hr
  obtain ⟨I', H', m, hs⟩ := HRep.marks_ ks H hk
  exact ⟨I', hlen, hpr I' m.1 hs, H', m⟩
theorem frz_ok {n : Nat} {v : AV} {h h' : Heap} {p : PV} (he : frz n v h = some (p, h')) (ho : v.ok = true) : p.ok = true := by
  unfold frz at he
  simp only [Option.map_eq_some_iff, Prod.exists, Prod.mk.injEq] at he
  obtain ⟨p', ks, hp, rfl, rfl⟩ := he
  exact pk_ok hp ho
end Go.Proofs.YtcoeigibikbfdaaGreatDoor.Abs

namespace Go.Proofs.YtcoeigibikbfdaaGreatDoor.Abs
open Go Go.RowKit
theorem putL_comm {α : Type} (z : α) : ∀ (l : List α) (i j : Nat) (v u : α), i ≠ j → putL z (putL z l i v) j u = putL z (putL z l j u) i v
  | [], 0, 0, _, _, h => absurd rfl h
  | [], 0, j + 1, v, u, _ => by simp [putL]
  | [], i + 1, 0, v, u, _ => by simp [putL]
  | [], i + 1, j + 1, v, u, h => by simp [putL]; exact putL_comm z [] i j v u (by omega)
  | x :: l, 0, 0, _, _, h => absurd rfl h
  | x :: l, 0, j + 1, v, u, _ => by simp [putL]
  | x :: l, i + 1, 0, v, u, _ => by simp [putL]
  | x :: l, i + 1, j + 1, v, u, h => by simp [putL]; exact putL_comm z l i j v u (by omega)
theorem putL_twice {α : Type} (z : α) : ∀ (l : List α) (i : Nat) (v u : α), putL z (putL z l i v) i u = putL z l i u
  | [], 0, _, _ => rfl
  | [], i + 1, v, u => by simp [putL]; exact putL_twice z [] i v u
  | x :: l, 0, _, _ => rfl
  | x :: l, i + 1, v, u => by simp [putL]; exact putL_twice z l i v u
theorem hput_comm (h : Heap) {d s d' s' : Nat} (r r' : Row) (hne : ¬ (d = d' ∧ s = s')) : hput (hput h d s r) d' s' r' = hput (hput h d' s' r') d s r := by
  unfold hput
  by_cases hd : d = d'
  · subst hd
    have hs : s ≠ s' := fun e => hne ⟨rfl, e⟩
    rw [putL_twice, putL_twice, getD_putL, getD_putL, if_pos rfl, if_pos rfl, putL_comm _ _ _ _ _ _ hs]
  · rw [getD_putL, getD_putL, if_neg hd, if_neg (fun e => hd e.symm), putL_comm _ _ _ _ _ _ hd]
def Reads (h h2 : Heap) : Prop := ∀ d s g, live h d s g ≠ .dead → markB (live h2 d s g) = markB (live h d s g)
theorem Reads.refl (h : Heap) : Reads h h := fun _ _ _ _ => rfl
theorem mark_get' (h : Heap) (k : Key) (d s : Nat) : hget (mark h k) d s = if k.1 = d ∧ k.2 = s then { hget h d s with b := markB (hget h d s).b } else hget h d s := by
  unfold mark
  rw [hget_hput]
  by_cases e : k.1 = d ∧ k.2 = s
  · obtain ⟨rfl, rfl⟩ := e; simp
  · simp [e]
theorem markB_markB (b : Body) : markB (markB b) = markB b := by cases b <;> rfl
theorem markB_dead {b : Body} : markB b = .dead ↔ b = .dead := by cases b <;> simp [markB]
theorem mark_live (h : Heap) (k : Key) (d s g : Nat) : markB (live (mark h k) d s g) = markB (live h d s g) := by
  unfold live
  rw [mark_get']
  by_cases e : k.1 = d ∧ k.2 = s
  · rw [if_pos e]
    by_cases eg : (hget h d s).g = g <;> simp [eg, markB_markB]
  · rw [if_neg e]
theorem marks_live : ∀ (ks : List Key) (h : Heap) (d s g : Nat), markB (live (marks ks h) d s g) = markB (live h d s g)
  | [], _, _, _, _ => rfl
  | k :: ks, h, d, s, g => by
    have := marks_live ks (mark h k) d s g
    rw [mark_live] at this
    exact this
theorem mark_dead (h : Heap) (k : Key) (d s : Nat) : (hget (mark h k) d s).b = .dead ↔ (hget h d s).b = .dead := by
  rw [mark_get']
  by_cases e : k.1 = d ∧ k.2 = s
  · rw [if_pos e]; exact markB_dead
  · rw [if_neg e]
theorem marks_dead : ∀ (ks : List Key) (h : Heap) (d s : Nat), (hget (marks ks h) d s).b = .dead ↔ (hget h d s).b = .dead
  | [], _, _, _ => Iff.rfl
  | k :: ks, h, d, s => (marks_dead ks (mark h k) d s).trans (mark_dead h k d s)
theorem Reads.marks_l (ks : List Key) (h : Heap) : Reads (marks ks h) h := fun d s g _ => (marks_live ks h d s g).symm
theorem Reads.marks_r (ks : List Key) (h : Heap) : Reads h (marks ks h) := fun d s g _ => marks_live ks h d s g
theorem Reads.hput {h : Heap} {d s : Nat} {r : Row} (hd : (hget h d s).b = .dead) : Reads h (hput h d s r) := by
  intro d' s' g hl
  unfold live at *
  rw [hget_hput]
  by_cases e : d = d' ∧ s = s'
  · obtain ⟨rfl, rfl⟩ := e
    exfalso; apply hl
    by_cases eg : (hget h d s).g = g <;> simp [eg, hd]
  · rw [if_neg e]
theorem mark_comm (h : Heap) (k k' : Key) : mark (mark h k) k' = mark (mark h k') k := by
  by_cases e : k.1 = k'.1 ∧ k.2 = k'.2
  · have : k = k' := Prod.ext e.1 e.2
    rw [this]
  · have e' : ¬ (k'.1 = k.1 ∧ k'.2 = k.2) := fun x => e ⟨x.1.symm, x.2.symm⟩
    have h1 : hget (mark h k) k'.1 k'.2 = hget h k'.1 k'.2 := by rw [mark_get', if_neg e]
    have h2 : hget (mark h k') k.1 k.2 = hget h k.1 k.2 := by rw [mark_get', if_neg e']
    conv => lhs; rw [mark, h1]; rw [mark]
    conv => rhs; rw [mark, h2]; rw [mark]
    exact hput_comm h _ _ e
theorem marks_mark : ∀ (ks : List Key) (h : Heap) (k : Key), marks ks (mark h k) = mark (marks ks h) k
  | [], _, _ => rfl
  | k' :: ks, h, k => by
    show marks ks (mark (mark h k) k') = mark (marks ks (mark h k')) k
    rw [mark_comm, marks_mark ks]
theorem marks_comm : ∀ (ks ks' : List Key) (h : Heap), marks ks (marks ks' h) = marks ks' (marks ks h)
  | ks, [], _ => rfl
  | ks, k :: ks', h => by
    show marks ks (marks ks' (mark h k)) = marks ks' (mark (marks ks h) k)
    rw [marks_comm ks ks', marks_mark]
theorem mark_hput {h : Heap} {d s : Nat} {r : Row} {k : Key} (hne : ¬ (d = k.1 ∧ s = k.2)) : mark (hput h d s r) k = hput (mark h k) d s r := by
  unfold mark
  rw [hget_hput, if_neg hne, hput_comm h _ _ hne]
theorem marks_hput {d s : Nat} {r : Row} : ∀ {ks : List Key} {h : Heap}, (∀ k ∈ ks, ¬ (d = k.1 ∧ s = k.2)) → marks ks (hput h d s r) = hput (marks ks h) d s r
  | [], _, _ => rfl
  | k :: ks, h, hk => by
    show marks ks (mark (hput h d s r) k) = hput (marks ks (mark h k)) d s r
    rw [mark_hput (hk k (by simp)), marks_hput fun k' hk' => hk k' (by simp [hk'])]
theorem markB_box {b : Body} {v : AV} {fz : Bool} (h : markB b = markB (.box v fz)) : ∃ fz', b = .box v fz' := by
  cases b <;> simp [markB] at h
  exact ⟨_, by rw [h]⟩
theorem markB_row {b : Body} {k : Nat} {e : TypeId} {xs : List PV} {fz : Bool} (h : markB b = markB (.row k e xs fz)) : ∃ fz', b = .row k e xs fz' := by
  cases b <;> simp [markB] at h
  obtain ⟨rfl, rfl, rfl⟩ := h
  exact ⟨_, rfl⟩
theorem live_ne {h : Heap} {d s g : Nat} {b : Body} (e : live h d s g = b) (hb : b ≠ .dead) : (hget h d s).b ≠ .dead := by
  unfold live at e
  split at e
  · rw [e]; exact hb
  · exact absurd e.symm hb
theorem pks_reads {f f2 : AV → Option (PV × List Key)} {Q : Key → Prop} : ∀ (l : List AV) (r : List PV × List Key), (∀ v ∈ l, ∀ r, f v = some r → f2 v = some r ∧ ∀ k ∈ r.2, Q k) →
    pks f l = some r → pks f2 l = some r ∧ ∀ k ∈ r.2, Q k
  | [], r, _, h => by simp [pks] at h ⊢; subst h; simp
  | v :: l, r, hf, h => by
    simp only [pks, Option.bind_eq_some_iff, Option.map_eq_some_iff] at h
    obtain ⟨⟨p, k1⟩, h1, ⟨ps, k2⟩, h2, rfl⟩ := h
    obtain ⟨g1, q1⟩ := hf v (by simp) _ h1
    obtain ⟨g2, q2⟩ := pks_reads l _ (fun v hv => hf v (by simp [hv])) h2
    refine ⟨by simp [pks, g1, g2], fun k hk => ?_⟩
    simp only [List.mem_append] at hk
    exact hk.elim (q1 k) (q2 k)
theorem pk_reads {h h2 : Heap} (hr : Reads h h2) : ∀ (n : Nat) (v : AV) (r : PV × List Key), pk h n v = some r → pk h2 n v = some r ∧ ∀ k ∈ r.2, (hget h k.1 k.2).b ≠ .dead
  | 0, _, _, e => by simp [pk] at e
  | n + 1, v, r, e => by
    cases v with
    | pv p => simp [pk] at e ⊢; subst e; simp
    | mptr d s g i off =>
      simp only [pk] at e ⊢
      split at e
      · rename_i w fz hl
        have := hr d s g (by rw [hl]; simp)
        rw [hl] at this
        obtain ⟨fz', hl2⟩ := markB_box this
        rw [hl2]
        by_cases hi : i = 0
        · simp only [hi, if_true, Option.map_eq_some_iff] at e ⊢
          obtain ⟨⟨p, ks⟩, h1, rfl⟩ := e
          obtain ⟨g1, q1⟩ := pk_reads hr n w _ h1
          refine ⟨⟨_, g1, rfl⟩, fun k hk => ?_⟩
          simp only [List.mem_cons] at hk
          rcases hk with rfl | hk
          · exact live_ne hl (by simp)
          · exact q1 k hk
        · simp [hi] at e
      · rename_i k e' xs fz hl
        have := hr d s g (by rw [hl]; simp)
        rw [hl] at this
        obtain ⟨fz', hl2⟩ := markB_row this
        rw [hl2]
        simp only [Option.map_eq_some_iff] at e ⊢
        obtain ⟨x, hx, rfl⟩ := e
        refine ⟨⟨x, hx, rfl⟩, fun k hk => ?_⟩
        simp only [List.mem_singleton] at hk
        subst hk
        exact live_ne hl (by simp)
      · cases e
    | msl d s g off m full =>
      simp only [pk] at e ⊢
      split at e
      · rename_i k e' xs fz hl
        have := hr d s g (by rw [hl]; simp)
        rw [hl] at this
        obtain ⟨fz', hl2⟩ := markB_row this
        rw [hl2]
        simp only [] at e ⊢
        split at e
        · rename_i hle
          injection e with e
          subst e
          refine ⟨by simp [hle], fun k hk => ?_⟩
          simp only [List.mem_singleton] at hk
          subst hk
          exact live_ne hl (by simp)
        · cases e
      · cases e
    | agg l =>
      simp only [pk, Option.map_eq_some_iff] at e ⊢
      obtain ⟨⟨ps, ks⟩, h1, rfl⟩ := e
      obtain ⟨g1, q1⟩ := pks_reads l _ (fun v _ r hv => pk_reads hr n v r hv) h1
      exact ⟨⟨_, g1, rfl⟩, q1⟩
    | tup l =>
      simp only [pk, Option.map_eq_some_iff] at e ⊢
      obtain ⟨⟨ps, ks⟩, h1, rfl⟩ := e
      obtain ⟨g1, q1⟩ := pks_reads l _ (fun v _ r hv => pk_reads hr n v r hv) h1
      exact ⟨⟨_, g1, rfl⟩, q1⟩
    | clo f a b =>
      simp only [pk, Option.bind_eq_some_iff, Option.map_eq_some_iff] at e ⊢
      obtain ⟨⟨pa, k1⟩, h1, ⟨pb, k2⟩, h2, rfl⟩ := e
      obtain ⟨g1, q1⟩ := pks_reads a _ (fun v _ r hv => pk_reads hr n v r hv) h1
      obtain ⟨g2, q2⟩ := pks_reads b _ (fun v _ r hv => pk_reads hr n v r hv) h2
      refine ⟨⟨_, g1, _, g2, rfl⟩, fun k hk => ?_⟩
      simp only [List.mem_append] at hk
      exact hk.elim (q1 k) (q2 k)
    | yld d s g => simp [pk] at e
    | ifc t v =>
      simp only [pk, Option.map_eq_some_iff] at e ⊢
      obtain ⟨⟨p, ks⟩, h1, rfl⟩ := e
      obtain ⟨g1, q1⟩ := pk_reads hr n v _ h1
      exact ⟨⟨_, g1, rfl⟩, q1⟩
    | btag t => simp [pk] at e
section
variable {P : Program} {o : Oper} {ρ ρ' : Operand → AV} {d gen : Nat} {h h' : Heap} {v : AV}
def IsPu (F : Heap → Nat → Option (AV × Heap × Nat)) : Prop := ∀ h g v h' g', F h g = some (v, h', g') → h' = h ∧ g' = g ∧ ∀ h2 g2, F h2 g2 = some (v, h2, g2)
def IsFz (F : Heap → Nat → Option (AV × Heap × Nat)) : Prop := ∀ h g v h' g', F h g = some (v, h', g') →
  ∃ ks, (∀ k ∈ ks, (hget h k.1 k.2).b ≠ .dead) ∧ h' = marks ks h ∧ g' = g ∧ ∀ h2 g2, Reads h h2 → F h2 g2 = some (v, marks ks h2, g2)
def IsAl (d slot : Nat) (F : Heap → Nat → Option (AV × Heap × Nat)) : Prop := ∀ h g v h' g', F h g = some (v, h', g') →
  ∃ r, (hget h d slot).b = .dead ∧ h' = hput h d slot r ∧ g' = g ∧ ∀ h2 g2, (hget h2 d slot).b = .dead → F h2 g2 = some (v, hput h2 d slot r, g2)
theorem IsPu.fz {F} (hF : IsPu F) : IsFz F := fun h g v h' g' e => by
  obtain ⟨h1, h2, h3⟩ := hF h g v h' g' e
  exact ⟨[], by simp, h1, h2, fun h2 g2 _ => h3 h2 g2⟩
end
end Go.Proofs.YtcoeigibikbfdaaGreatDoor.Abs

namespace Go.Proofs.YtcoeigibikbfdaaGreatDoor.Abs
open Go Go.RowKit
section
variable {P : Program} {o : Oper} {ρ ρ' : Operand → AV} {d gen : Nat} {h h' : Heap} {v : AV}
theorem aop_congr (hρ : ∀ x ∈ o.op.operands, ρ x = ρ' x) : aop P o ρ d gen h = aop P o ρ' d gen h := by
  obtain ⟨dst, op, type, pos, after, guard⟩ := o
  have pairs : ∀ ps : Array (Nat × Operand), (∀ x ∈ ps.map (·.2), ρ x = ρ' x) →
      (ps.toList.map fun (i, x) => (i, ρ x)) = (ps.toList.map fun (i, x) => (i, ρ' x)) := fun ps hp =>
    List.map_congr_left fun p hm => by
      obtain ⟨i, x⟩ := p
      simp only [hp x (Array.mem_map.2 ⟨(i, x), by simpa using hm, rfl⟩)]
  have pairs2 : ∀ ps : Array (Nat × Operand), (∀ x ∈ ps.map (·.2), ρ x = ρ' x) →
      (ps.toList.map fun q => ρ q.2) = (ps.toList.map fun q => ρ' q.2) := fun ps hp =>
    List.map_congr_left fun p hm => by
      obtain ⟨i, x⟩ := p
      simp only [hp x (Array.mem_map.2 ⟨(i, x), by simpa using hm, rfl⟩)]
  have arr : ∀ xs : Array Operand, (∀ x ∈ xs, ρ x = ρ' x) → xs.toList.map ρ = xs.toList.map ρ' := fun xs hx => List.map_congr_left fun x hm => hx x (by simpa using hm)
  cases op <;> simp only [Op.operands] at hρ <;> simp only [aop]
  case build t ps => rw [pairs ps fun x hx => hρ x (by simpa using hx)]
  case buildSlice t n ps => rw [pairs2 ps fun x hx => hρ x (by simpa using hx)]
  case makeFunc fn first captured =>
    rw [arr first fun x hx => hρ x (by simp [hx]), arr captured fun x hx => hρ x (by simp [hx])]
  case call c =>
    obtain ⟨callee, args, argTypes⟩ := c
    cases callee with
    | builtin b => simp only []; rw [arr args fun x hx => hρ x (by simp [Call.operands, hx])]
    | _ => rfl
  case slice t x lo hi mx => cases lo <;> cases hi <;> cases mx <;> simp_all
  case next it s => cases s <;> simp_all
  all_goals (first | rfl | (simp_all; done))
theorem map_pair {X : Option AV} {h : Heap} : (X.map fun r => (r, h)) = ((X.map fun r => (r, ([] : Heap))).map (·.1)).map fun r => (r, h) := by cases X <;> rfl
theorem map_pair' {α : Type} {X : Option α} {f : α → AV} {h : Heap} : (X.map fun r => (f r, h)) = ((X.map fun r => (f r, ([] : Heap))).map (·.1)).map fun r => (r, h) := by cases X <;> rfl
theorem bind_pair {α : Type} {X : Option α} {f f0 : α → Option (AV × Heap)} {h : Heap} (hf : ∀ a, f a = ((f0 a).map (·.1)).map fun r => (r, h)) :
    X.bind f = ((X.bind f0).map (·.1)).map fun r => (r, h) := by cases X <;> simp [hf]
theorem aop_pu {E : Env} (hc : clsOp E o = .pu) (hP : E.P = P) (h : Heap) : aop P o ρ d gen h = ((aop P o ρ d gen []).map (·.1)).map fun r => (r, h) := by
  obtain ⟨dst, op, type, pos, after, guard⟩ := o
  cases op <;> simp only [clsOp] at hc <;> try (first | (exfalso; revert hc; decide) | skip)
  case move x => rfl
  case assign x => rfl
  case pick c a b => simp only [aop]; split <;> rfl
  case nilCheck x => simp only [aop]; split <;> rfl
  case binOp op t x y ty => exact map_pair
  case typeAssert x xT aT ok => exact map_pair
  case unOp op t x => exact bind_pair fun a => map_pair'
  case makeFunc fn first captured => simp only [aop]; split <;> rfl
  case extract x i => simp only [aop]; split <;> first | exact map_pair | exact map_pair' | rfl
  case fieldAddr st x f =>
    simp only [aop]; split
    · refine bind_pair fun off => ?_
      split <;> rfl
    · rfl
  case index t x ix =>
    simp only [aop]; split
    · split <;> rfl
    · split
      · refine bind_pair fun size => bind_pair fun ag => ?_
        split
        · exact map_pair
        · rfl
      · rfl
    · rfl
  case field t x f =>
    simp only [aop]; split
    · refine bind_pair fun fd => bind_pair fun size => bind_pair fun ag => ?_
      split
      · exact map_pair
      · rfl
    · rfl
  case build t parts =>
    simp only [aop]
    refine bind_pair fun z => ?_
    split
    · split
      · exact bind_pair fun pl => bind_pair fun cs => rfl
      · exact bind_pair fun pl => bind_pair fun cs => rfl
      · rfl
    · rfl
  case convert src dst x =>
    simp only [aop]
    have hs : isSlice P src = false ∧ isSlice P dst = false := by
      subst hP
      cases h1 : isSlice E.P src <;> cases h2 : isSlice E.P dst <;> simp [h1, h2] at hc ⊢
    unfold isSlice at hs
    split
    · rename_i h1 h2 h3; rw [h2] at hs; simp at hs
    · rename_i h1 h2; rw [h1] at hs; simp at hs
    · exact bind_pair fun v => map_pair'
  case call c =>
    obtain ⟨callee, args, argTypes⟩ := c
    cases callee with
    | builtin b =>
      cases b <;> simp only [clsOp] at hc <;> try (first | (exfalso; revert hc; decide) | skip)
      all_goals
        simp only [aop, abuiltin]
        repeat' first | rfl | contradiction | exact bind_pair fun vs => map_pair' | split
    | value f => rfl
    | invoke r m => rfl
theorem reads_box {h2 : Heap} (hr : Reads h h2) {d s g : Nat} {v : AV} {fz : Bool} (hl : live h d s g = .box v fz) : ∃ fz', live h2 d s g = .box v fz' := by
  have := hr d s g (by rw [hl]; simp)
  rw [hl] at this
  exact markB_box this
theorem reads_row {h2 : Heap} (hr : Reads h h2) {d s g k : Nat} {e : TypeId} {xs : List PV} {fz : Bool} (hl : live h d s g = .row k e xs fz) : ∃ fz', live h2 d s g = .row k e xs fz' := by
  have := hr d s g (by rw [hl]; simp)
  rw [hl] at this
  exact markB_row this
theorem map_some {α : Type} {X : Option α} {f : α → AV} {h2 : Heap} (e : (X.map fun r => (f r, h)) = some (v, h')) : h' = h ∧ (X.map fun r => (f r, h2)) = some (v, h2) := by
  cases X <;> simp at e ⊢
  exact ⟨e.2.symm, e.1⟩
theorem bind_some {α : Type} {X : Option α} {f f2 : α → Option (AV × Heap)} {h2 : Heap} (e : X.bind f = some (v, h')) (hf : ∀ a, f a = some (v, h') → h' = h ∧ f2 a = some (v, h2)) :
    h' = h ∧ X.bind f2 = some (v, h2) := by
  cases X with
  | none => simp at e
  | some a => exact hf a e
theorem load_rd {h2 : Heap} {t : TypeId} {a : Operand} (ho : o.op = .load t a) (hr : Reads h h2) (e : aop P o ρ d gen h = some (v, h')) : h' = h ∧ aop P o ρ d gen h2 = some (v, h2) := by
  simp only [aop, ho] at e ⊢
  refine bind_some e fun m e => bind_some e fun ag e => ?_
  split at e
  · rename_i d s g i off hx
    split at e
    · rename_i w fz hl
      obtain ⟨fz', hl2⟩ := reads_box hr hl
      simp only [hl2]
      split at e
      · rename_i hi; simp only [hi, if_true]; exact map_some e
      · cases e
    · rename_i k e' xs fz hl
      obtain ⟨fz', hl2⟩ := reads_row hr hl
      simp only [hl2]
      exact bind_some e fun x e => map_some e
    · cases e
  · exact map_some e
  · cases e
theorem aslice_rd {h2 : Heap} {t : TypeId} {x : AV} {lo hi mx : Option AV} {v : AV} (hr : Reads h h2) (e : aslice P t h x lo hi mx = some v) : aslice P t h2 x lo hi mx = some v := by
  unfold aslice at *
  split at e
  · exact e
  · exact e
  · simp only [bind, Option.bind_eq_some_iff] at e ⊢
    obtain ⟨b, hb, size, hs, e⟩ := e
    refine ⟨b, hb, size, hs, ?_⟩
    split at e
    · rename_i k e'' xs fz hl
      obtain ⟨fz', hl2⟩ := reads_row hr hl
      rw [hl2]
      exact e
    · cases e
  · simp only [bind, Option.bind_eq_some_iff] at e ⊢
    obtain ⟨b, hb, size, hs, e⟩ := e
    refine ⟨b, hb, size, hs, ?_⟩
    split at e
    · rename_i w fz hl
      obtain ⟨fz', hl2⟩ := reads_box hr hl
      rw [hl2]
      exact e
    · cases e
  · cases e
theorem slice_rd {h2 : Heap} {t : TypeId} {x : Operand} {lo hi mx : Option Operand} (ho : o.op = .slice t x lo hi mx) (hr : Reads h h2) (e : aop P o ρ d gen h = some (v, h')) :
    h' = h ∧ aop P o ρ d gen h2 = some (v, h2) := by
  simp only [aop, ho] at e ⊢
  simp only [Option.map_eq_some_iff, Prod.mk.injEq] at e ⊢
  obtain ⟨a, ha, rfl, rfl⟩ := e
  exact ⟨rfl, a, aslice_rd hr ha, rfl, trivial⟩
theorem indexAddr_rd {h2 : Heap} {t : TypeId} {x ix : Operand} (ho : o.op = .indexAddr t x ix) (hr : Reads h h2) (e : aop P o ρ d gen h = some (v, h')) :
    h' = h ∧ aop P o ρ d gen h2 = some (v, h2) := by
  simp only [aop, ho] at e ⊢
  refine bind_some e fun i e => ?_
  split at e
  · refine bind_some e fun size e => ?_
    split at e
    · rename_i hi; rw [if_pos hi]; exact map_some e
    · cases e
  · refine bind_some e fun size e => ?_
    split at e
    · rename_i hl
      obtain ⟨fz', hl2⟩ := reads_row hr hl
      rw [hl2]
      simp only []
      split at e
      · rename_i hi; rw [if_pos hi]; injection e with e; injection e with e1 e2; subst e1 e2; exact ⟨rfl, rfl⟩
      · cases e
    · cases e
  · refine bind_some e fun size e => ?_
    split at e
    · rename_i hi; rw [if_pos hi]; injection e with e; injection e with e1 e2; subst e1 e2; exact ⟨rfl, rfl⟩
    · cases e
  · refine bind_some e fun size e => ?_
    split at e
    · rename_i hi; rw [if_pos hi]; injection e with e; injection e with e1 e2; subst e1 e2; exact ⟨rfl, rfl⟩
    · cases e
  · cases e
theorem frz_reads {h2 : Heap} {n : Nat} {a : AV} {p : PV} (e : frz n a h = some (p, h')) : ∃ ks, (∀ k ∈ ks, (hget h k.1 k.2).b ≠ .dead) ∧ h' = marks ks h ∧ ∀ h2, Reads h h2 → frz n a h2 = some (p, marks ks h2) := by
  unfold frz at e
  simp only [Option.map_eq_some_iff, Prod.mk.injEq] at e
  obtain ⟨⟨p', ks⟩, he, rfl, rfl⟩ := e
  refine ⟨ks, (pk_reads (Reads.refl h) n a _ he).2, rfl, fun h2 hr => ?_⟩
  simp [frz, (pk_reads hr n a _ he).1]
theorem frzs_reads {n : Nat} {l : List AV} {ps : List PV} (e : frzs n l h = some (ps, h')) : ∃ ks, (∀ k ∈ ks, (hget h k.1 k.2).b ≠ .dead) ∧ h' = marks ks h ∧ ∀ h2, Reads h h2 → frzs n l h2 = some (ps, marks ks h2) := by
  unfold frzs at e
  simp only [Option.map_eq_some_iff, Prod.mk.injEq] at e
  obtain ⟨⟨p', ks⟩, he, rfl, rfl⟩ := e
  refine ⟨ks, (pks_reads l _ (fun v _ r hv => pk_reads (Reads.refl h) n v r hv) he).2, rfl, fun h2 hr => ?_⟩
  simp [frzs, (pks_reads l _ (fun v _ r hv => pk_reads hr n v r hv) he).1]
theorem makeInterface_fz {t : TypeId} {x : Operand} (ho : o.op = .makeInterface t x) (e : aop P o ρ d gen h = some (v, h')) :
    ∃ ks, (∀ k ∈ ks, (hget h k.1 k.2).b ≠ .dead) ∧ h' = marks ks h ∧ ∀ h2, Reads h h2 → aop P o ρ d gen h2 = some (v, marks ks h2) := by
  simp only [aop, ho] at e ⊢
  split at e
  · cases e
  · cases e
  · split at e
    · rename_i hpp
      simp only [Option.some.injEq, Prod.mk.injEq] at e
      obtain ⟨rfl, rfl⟩ := e
      exact ⟨[], by simp, rfl, fun h2 _ => by simp [hpp, marks]⟩
    · rename_i hpp
      simp only [Option.map_eq_some_iff, Prod.mk.injEq] at e
      obtain ⟨⟨p, h1⟩, hf, rfl, rfl⟩ := e
      obtain ⟨ks, k1, k2, k3⟩ := frz_reads (h2 := h) hf
      exact ⟨ks, k1, k2, fun h2 hr => by simp [hpp, k3 h2 hr]⟩
theorem aop_al {E : Env} (hc : clsOp E o = .al) (e : aop P o ρ d gen h = some (v, h')) : ∃ s r, o.dst = some s ∧ h' = hput h d s r ∧ ∀ h2, aop P o ρ d gen h2 = some (v, hput h2 d s r) := by
  obtain ⟨dst, op, type, pos, after, guard⟩ := o
  cases op <;> simp only [clsOp] at hc <;> try (first | (exfalso; revert hc; decide) | skip)
  case alloc t =>
    simp only [aop, bind, Option.bind_eq_some_iff] at e ⊢
    obtain ⟨z, hz, s, hs, e⟩ := e
    split at e
    · rename_i hok
      injection e with e; injection e with e1 e2; subst e1 e2
      exact ⟨s, _, hs, rfl, fun h2 => ⟨z, hz, s, hs, by rw [if_pos hok]⟩⟩
    · cases e
  case box t x =>
    simp only [aop, bind, Option.bind_eq_some_iff] at e ⊢
    obtain ⟨s, hs, e⟩ := e
    split at e
    · rename_i hok
      injection e with e; injection e with e1 e2; subst e1 e2
      exact ⟨s, _, hs, rfl, fun h2 => ⟨s, hs, by rw [if_pos hok]⟩⟩
    · cases e
  case convert src dst x => split at hc <;> cases hc
  case call c =>
    obtain ⟨callee, args, argTypes⟩ := c
    exfalso
    cases callee with
    | builtin b => cases b <;> simp at hc
    | value f =>
      cases f <;> simp only [] at hc <;> try (cases hc; done)
      split at hc <;> cases hc
    | invoke r m => simp at hc
end
end Go.Proofs.YtcoeigibikbfdaaGreatDoor.Abs

namespace Go.Proofs.YtcoeigibikbfdaaGreatDoor.Abs
open Go Go.RowKit
theorem evalA_putD {t : List AV} {dst : Option Tmp} {v : AV} {x : Operand} (h : ∀ d, dst = some d → x ≠ .tmp d) : evalA (putD t dst v) x = evalA t x := by
  cases dst with
  | none => rfl
  | some d =>
    cases x with
    | tmp i => simp only [evalA, putD]; rw [getT_putT, if_neg (fun e => h d rfl (by rw [e]))]
    | _ => rfl
theorem putD_comm (t : List AV) {x y : Option Tmp} (v u : AV) (h : ∀ d, x = some d → y ≠ some d) : putD (putD t x v) y u = putD (putD t y u) x v := by
  cases x with
  | none => cases y <;> rfl
  | some d =>
    cases y with
    | none => rfl
    | some e => exact putL_comm _ _ _ _ _ _ (fun q => h d rfl (by rw [q]))
theorem wantedA_putD {all : Array Oper} {o : Oper} {t : List AV} {dst : Option Tmp} {v : AV} (h : ∀ d, dst = some d → d ∉ o.looksAt all) : wantedA all (putD t dst v) o = wantedA all t o := by
  cases dst with
  | none => rfl
  | some d =>
    unfold wantedA
    cases hg : o.guard with
    | none => rfl
    | some gw =>
      obtain ⟨j, want⟩ := gw
      simp only []
      cases ht : (all[j]?).bind (·.dst) with
      | none => rfl
      | some i =>
        have hne : d ≠ i := fun e => h d rfl (by subst e; simp [Oper.looksAt, hg, ht])
        simp only [Option.bind_some, putD]
        rw [getT_putT, if_neg hne]
section
variable {E : Env} {call : CallFn} {ys : Ys} {st : Bool} {d gen gb : Nat} {all : Array Oper}
theorem stepV_congr {o : Oper} {ρ ρ' : Operand → AV} (hρ : ∀ x ∈ o.op.operands, ρ x = ρ' x) (h : Heap) (g : Nat) : stepV E call ys st d gen o ρ h g = stepV E call ys st d gen o ρ' h g := by
  unfold stepV
  split
  · rename_i f args argTypes ho
    rw [ho] at hρ
    have h1 : ρ f = ρ' f := hρ f (by simp [Op.operands, Call.operands])
    have h2 : args.toList.map ρ = args.toList.map ρ' := List.map_congr_left fun x hx => hρ x (by simp [Op.operands, Call.operands]; exact .inr (by simpa using hx))
    rw [h1, h2]
  · rename_i r m args argTypes ho
    rw [ho] at hρ
    have h1 : ρ r = ρ' r := hρ r (by simp [Op.operands, Call.operands])
    have h2 : args.toList.map ρ = args.toList.map ρ' := List.map_congr_left fun x hx => hρ x (by simp [Op.operands, Call.operands]; exact .inr (by simpa using hx))
    rw [h1, h2]
  · rw [aop_congr hρ]
theorem opV_putD {i : Nat} {o : Oper} {t : List AV} {dst : Option Tmp} {v : AV} (h : ∀ d, dst = some d → d ∉ o.looksAt all) : opV E call ys st d gb all i o (putD t dst v) = opV E call ys st d gb all i o t := by
  funext hh g
  unfold opV
  rw [wantedA_putD h, stepV_congr (ρ' := evalA t)]
  intro x hx
  exact evalA_putD fun d hd hxd => h d hd (by
    subst hxd
    exact List.mem_append_left _ (List.mem_filterMap.2 ⟨.tmp d, by simpa using hx, rfl⟩))
def FzCall (E : Env) (call : CallFn) : Prop := ∀ fid args, E.own fid = false → E.inl fid = false → E.rd fid = false → args.any (hasMut frzDepth) = false →
  ∃ r : List PV → Option PV, ∀ ys d slot gen h g, call ys fid args d slot gen h g = (frzs frzDepth args h).bind fun (ps, h1) => (r ps).map fun p => (.pv p, h1, g)
inductive OpCls (E : Env) (d : Nat) (o : Oper) (F : Heap → Nat → Option (AV × Heap × Nat)) : Prop
  | pu (h : IsPu F)
  | fz (hc : clsOp E o = .fz ∨ clsOp E o = .rd) (h : IsFz F)
  | al (slot : Nat) (hc : clsOp E o = .al) (hd : o.dst = some slot) (h : IsAl d slot F)
  | eff (hc : clsOp E o = .eff)
theorem isPu_some {v : AV} : IsPu (fun h g => some (v, h, g)) := fun h g v' h' g' e => by
  simp only [Option.some.injEq, Prod.mk.injEq] at e
  obtain ⟨rfl, rfl, rfl⟩ := e
  exact ⟨rfl, rfl, fun _ _ => rfl⟩
theorem isPu_none : IsPu (fun _ _ => none) := fun h g v' h' g' e => by cases e
theorem isFz_of {F : Heap → Option (AV × Heap)} (hF : ∀ h v h', F h = some (v, h') → ∃ ks, (∀ k ∈ ks, (hget h k.1 k.2).b ≠ .dead) ∧ h' = marks ks h ∧ ∀ h2, Reads h h2 → F h2 = some (v, marks ks h2)) :
    IsFz (fun h g => (F h).map fun (v, h) => (v, h, g)) := fun h g v h' g' e => by
  simp only [Option.map_eq_some_iff, Prod.mk.injEq] at e
  obtain ⟨⟨a, ha⟩, he, rfl, rfl, rfl⟩ := e
  obtain ⟨ks, k1, k2, k3⟩ := hF h a _ he
  exact ⟨ks, k1, k2, rfl, fun h2 g2 hr => by simp [k3 h2 hr]⟩
theorem isFz_rd {F : Heap → Option (AV × Heap)} (hF : ∀ h v h' h2, Reads h h2 → F h = some (v, h') → h' = h ∧ F h2 = some (v, h2)) :
    IsFz (fun h g => (F h).map fun (v, h) => (v, h, g)) := isFz_of fun h v h' e =>
  ⟨[], by simp, (hF h v h' h (Reads.refl h) e).1, fun h2 hr => (hF h v h' h2 hr e).2⟩
theorem stepV_cls (hcall : FzCall E call) (o : Oper) (t : List AV) : OpCls E d o (stepV E call ys true d gen o (evalA t)) := by
  by_cases hcl : ∃ f args ats, o.op = .call { callee := .value f, args := args, argTypes := ats }
  · obtain ⟨f, args, ats, ho⟩ := hcl
    cases hc : clsOp E o with
    | eff => exact .eff hc
    | fz =>
      cases f with
      | func fid =>
        have hc' := hc
        simp only [clsOp, ho] at hc'
        split at hc'
        · cases hc'
        · rename_i hn
          simp only [Bool.or_eq_true, not_or, Bool.not_eq_true] at hn
          have hF : ∀ h g, stepV E call ys true d gen o (evalA t) h g = if (args.toList.map (evalA t)).any (hasMut frzDepth) then none else call ys fid (args.toList.map (evalA t)) d (o.dst.getD 0) gen h g := by
            intro h g
            unfold stepV
            split
            · rename_i f' args' ats' ho'
              rw [ho] at ho'
              injection ho' with ho'
              injection ho' with h1 h2 h3
              injection h1 with h1
              subst h1 h2
              simp [evalA, calleeOf, hc]
            · rename_i hinv
              rw [ho] at hinv
              cases hinv
            · rename_i hno _
              exact absurd ho (hno _ _ _)
          cases hm : (args.toList.map (evalA t)).any (hasMut frzDepth) with
          | true => exact .pu (by have : stepV E call ys true d gen o (evalA t) = fun _ _ => none := by funext h g; rw [hF, hm]; rfl
                                  rw [this]; exact isPu_none)
          | false =>
            obtain ⟨r, hr⟩ := hcall fid _ hn.1.1 hn.1.2.1 hn.1.2.2 hm
            refine .fz (.inl hc) ?_
            have : stepV E call ys true d gen o (evalA t) = fun h g => (((frzs frzDepth (args.toList.map (evalA t)) h).bind fun (ps, h1) => (r ps).map fun p => (AV.pv p, h1))).map fun (v, h) => (v, h, g) := by
              funext h g
              rw [hF, hm, hr]
              cases hz : frzs frzDepth (args.toList.map (evalA t)) h with
              | none => rfl
              | some q => obtain ⟨ps, h1⟩ := q; cases hrp : r ps <;> simp [hrp]
            rw [this]
            refine isFz_of fun h v h' e => ?_
            simp only [Option.bind_eq_some_iff, Option.map_eq_some_iff, Prod.mk.injEq] at e
            obtain ⟨⟨ps, h1⟩, e1, p, e2, rfl, rfl⟩ := e
            obtain ⟨ks, k1, k2, k3⟩ := frzs_reads e1
            exact ⟨ks, k1, k2, fun h2 hr => by simp [k3 h2 hr, e2]⟩
      | _ => simp [clsOp, ho] at hc
    | _ =>
      exfalso
      cases f <;> simp [clsOp, ho] at hc <;> (try split at hc) <;> cases hc
  by_cases hin : ∃ r m args ats, o.op = .call { callee := .invoke r m, args := args, argTypes := ats }
  · obtain ⟨r, m, args, ats, ho⟩ := hin
    exact .eff (by simp [clsOp, ho])
  · have hst : ∀ h g, stepV E call ys true d gen o (evalA t) h g = if (clsOp E o == .al) && !deadK h d o.dst then none else (aop E.P o (evalA t) d gen h).map fun (v, h) => (v, h, g) := by
      intro h g
      unfold stepV
      split
      · rename_i f args ats ho; exact absurd ⟨f, args, ats, ho⟩ hcl
      · rename_i r m args ats ho; exact absurd ⟨r, m, args, ats, ho⟩ hin
      · simp
    cases hc : clsOp E o with
    | eff => exact .eff hc
    | pu =>
      refine .pu fun h g v h' g' e => ?_
      rw [hst, hc] at e
      simp only [Bool.false_and, Bool.false_eq_true, if_false, Option.map_eq_some_iff, Prod.mk.injEq, show ((Cls.pu == Cls.al) = false) from rfl] at e
      obtain ⟨⟨a, ha⟩, he, rfl, rfl, rfl⟩ := e
      rw [aop_pu hc rfl] at he
      cases hx : ((aop E.P o (evalA t) d gen []).map (·.1)) with
      | none => rw [hx] at he; cases he
      | some b =>
        rw [hx] at he
        simp only [Option.map_some, Option.some.injEq, Prod.mk.injEq] at he
        obtain ⟨rfl, rfl⟩ := he
        refine ⟨rfl, rfl, fun h2 g2 => ?_⟩
        rw [hst, hc, aop_pu hc rfl, hx]
        rfl
    | rd =>
      refine .fz (.inr hc) ?_
      have : stepV E call ys true d gen o (evalA t) = fun h g => (aop E.P o (evalA t) d gen h).map fun (v, h) => (v, h, g) := by
        funext h g; rw [hst, hc]; rfl
      rw [this]
      refine isFz_rd fun h v h' h2 hr e => ?_
      cases ho : o.op <;> simp only [clsOp, ho] at hc <;> try (first | (exfalso; revert hc; decide) | skip)
      · exact load_rd ho hr e
      · split at hc <;> cases hc
      · exact slice_rd ho hr e
      · exact indexAddr_rd ho hr e
      · rename_i c
        obtain ⟨callee, args, argTypes⟩ := c
        exfalso
        cases callee with
        | builtin b => cases b <;> simp at hc
        | value f => exact hcl ⟨_, _, _, ho⟩
        | invoke r m => simp at hc
    | fz =>
      refine .fz (.inl hc) ?_
      have : stepV E call ys true d gen o (evalA t) = fun h g => (aop E.P o (evalA t) d gen h).map fun (v, h) => (v, h, g) := by
        funext h g; rw [hst, hc]; rfl
      rw [this]
      refine isFz_of fun h v h' e => ?_
      cases ho : o.op <;> simp only [clsOp, ho] at hc <;> try (first | (exfalso; revert hc; decide) | skip)
      · split at hc <;> cases hc
      · exact makeInterface_fz ho e
      · rename_i c
        obtain ⟨callee, args, argTypes⟩ := c
        exfalso
        cases callee with
        | builtin b => cases b <;> simp at hc
        | value f => exact hcl ⟨_, _, _, ho⟩
        | invoke r m => simp at hc
    | al =>
      cases hd : o.dst with
      | none =>
        refine .pu ?_
        have : stepV E call ys true d gen o (evalA t) = fun _ _ => none := by
          funext h g; rw [hst, hc, hd]; simp [deadK]
        rw [this]; exact isPu_none
      | some slot =>
        refine .al slot hc hd fun h g v h' g' e => ?_
        have hdead : ∀ h, deadK h d (some slot) = true ↔ (hget h d slot).b = .dead := by
          intro h
          unfold deadK
          simp only []
          split <;> simp_all
        rw [hst, hc, hd] at e
        by_cases hk : deadK h d (some slot) = true
        · simp only [hk, Bool.not_true, Bool.and_false, Bool.false_eq_true, if_false, Option.map_eq_some_iff, Prod.mk.injEq] at e
          obtain ⟨⟨a, ha⟩, he, rfl, rfl, rfl⟩ := e
          obtain ⟨s, r, hs, h1, h2⟩ := aop_al hc he
          rw [hd] at hs
          injection hs with hs
          subst hs
          refine ⟨r, (hdead h).1 hk, h1, rfl, fun h3 g3 hk3 => ?_⟩
          rw [hst, hc, hd, (hdead h3).2 hk3, h2]
          rfl
        · simp [hk] at e
theorem opV_cls (hcall : FzCall E call) (i : Nat) (o : Oper) (t : List AV) : OpCls E d o (opV E call ys true d gb all i o t) := by
  unfold opV
  cases wantedA all t o with
  | true => exact stepV_cls hcall o t
  | false => exact .pu isPu_some
theorem swap_core {x y : Oper} {ops : Array Oper} {Fx Fy : Heap → Nat → Option (AV × Heap × Nat)} (hx : OpCls E d x Fx) (hy : OpCls E d y Fy) (hok : swapOk E ops x y = true)
    {h hx' hy' : Heap} {g gx gy : Nat} {vx vy : AV} (ex : Fx h g = some (vx, hx', gx)) (ey : Fy hx' gx = some (vy, hy', gy)) :
    ∃ h' g', Fy h g = some (vy, h', g') ∧ Fx h' g' = some (vx, hy', gy) := by
  have hap : x.apart ops y = true := by
    unfold swapOk at hok
    simp only [Bool.and_eq_true] at hok
    exact hok.1
  have pu_x : IsPu Fx → ∃ h' g', Fy h g = some (vy, h', g') ∧ Fx h' g' = some (vx, hy', gy) := fun hp => by
    obtain ⟨rfl, rfl, k⟩ := hp _ _ _ _ _ ex
    exact ⟨_, _, ey, k _ _⟩
  have pu_y : IsPu Fy → ∃ h' g', Fy h g = some (vy, h', g') ∧ Fx h' g' = some (vx, hy', gy) := fun hp => by
    obtain ⟨rfl, rfl, k⟩ := hp _ _ _ _ _ ey
    exact ⟨_, _, k _ _, ex⟩
  cases hx with
  | pu hp => exact pu_x hp
  | eff hc =>
    cases hy with
    | pu hp => exact pu_y hp
    | fz hc' h' => rcases hc' with hc' | hc' <;> simp [swapOk, hc, hc'] at hok
    | al slot hc' _ _ => simp [swapOk, hc, hc'] at hok
    | eff hc' => simp [swapOk, hc, hc'] at hok
  | fz hc hfx =>
    obtain ⟨kx, x1, rfl, rfl, x3⟩ := hfx _ _ _ _ _ ex
    cases hy with
    | pu hp => exact pu_y hp
    | eff hc' => rcases hc with hc | hc <;> simp [swapOk, hc, hc'] at hok
    | fz hc' hfy =>
      obtain ⟨ky, y1, rfl, rfl, y3⟩ := hfy _ _ _ _ _ ey
      refine ⟨_, _, y3 _ _ (Reads.marks_l kx h), ?_⟩
      rw [x3 _ _ (Reads.marks_r ky h), marks_comm]
    | al slot hc' hd hfy =>
      obtain ⟨r, y1, rfl, rfl, y3⟩ := hfy _ _ _ _ _ ey
      rw [marks_dead] at y1
      refine ⟨_, _, y3 _ _ y1, ?_⟩
      rw [x3 _ _ (Reads.hput y1), marks_hput]
      rintro k hk ⟨rfl, rfl⟩
      exact x1 k hk y1
  | al slot hc hd hfx =>
    obtain ⟨r, x1, rfl, rfl, x3⟩ := hfx _ _ _ _ _ ex
    cases hy with
    | pu hp => exact pu_y hp
    | eff hc' => simp [swapOk, hc, hc'] at hok
    | fz hc' hfy => rcases hc' with hc' | hc' <;> simp [swapOk, hc, hc'] at hok
    | al slot' hc' hd' hfy =>
      obtain ⟨r', y1, rfl, rfl, y3⟩ := hfy _ _ _ _ _ ey
      have hne : slot ≠ slot' := by
        intro e
        subst e
        exact (Oper.apart_spec hap).2.1 _ hd hd'
      rw [hget_hput, if_neg (by simp [hne])] at y1
      refine ⟨_, _, y3 _ _ y1, ?_⟩
      rw [x3 _ _ (by rw [hget_hput, if_neg (fun q => hne q.2.symm)]; exact x1), hput_comm _ _ _ (fun q => hne q.2.symm)]
theorem ostep_swap (hcall : FzCall E call) {i j : Nat} {x y : Oper} {s s1 s2 : St} (hok : swapOk E all x y = true) (ex : ostep E call ys true d gb all j x s = some s1) (ey : ostep E call ys true d gb all i y s1 = some s2) :
    ∃ s1', ostep E call ys true d gb all i y s = some s1' ∧ ostep E call ys true d gb all j x s1' = some s2 := by
  have hap : x.apart all y = true := by
    have := hok
    unfold swapOk at this
    simp only [Bool.and_eq_true] at this
    exact this.1
  obtain ⟨a1, a2, a3⟩ := Oper.apart_spec hap
  unfold ostep at ex ey
  simp only [Option.map_eq_some_iff] at ex
  obtain ⟨⟨vx, hx', gx⟩, ex, rfl⟩ := ex
  simp only [] at ey
  rw [opV_putD a1] at ey
  simp only [Option.map_eq_some_iff] at ey
  obtain ⟨⟨vy, hy', gy⟩, ey, rfl⟩ := ey
  obtain ⟨h', g', e1, e2⟩ := swap_core (opV_cls hcall j x s.t) (opV_cls hcall i y s.t) hok ex ey
  refine ⟨{ t := putD s.t y.dst vy, h := h', g := g' }, by simp [ostep, e1], ?_⟩
  unfold ostep
  simp only []
  rw [opV_putD a3, e2]
  simp only [Option.map_some, putD_comm s.t vx vy a2]
def opL (E : Env) (call : CallFn) (ys : Ys) (st : Bool) (d gb : Nat) (all : Array Oper) (i : Nat) (s : St) : Option St := match all[i]? with
  | some o => ostep E call ys st d gb all i o s
  | none => some s
def opsL (E : Env) (call : CallFn) (ys : Ys) (st : Bool) (d gb : Nat) (all : Array Oper) : List Nat → St → Option St
  | [], s => some s
  | i :: l, s => (opL E call ys st d gb all i s).bind (opsL E call ys st d gb all l)
theorem opsF_eq : ∀ (os : List Oper) (i : Nat) (s : St), (∀ j, all[i + j]? = os[j]?) → opsF E call ys st d gb all os i s = opsL E call ys st d gb all (List.range' i os.length) s
  | [], _, _, _ => rfl
  | o :: os, i, s, h => by
    have h0 : all[i]? = some o := by simpa using h 0
    simp only [opsF, List.length_cons, List.range'_succ, opsL, opL, h0]
    congr 1
    funext s
    exact opsF_eq os (i + 1) s fun j => by have := h (j + 1); rw [show i + (j + 1) = i + 1 + j by omega] at this; simpa using this
theorem opsF_text (s : St) : opsF E call ys st d gb all all.toList 0 s = opsL E call ys st d gb all (List.range all.size) s := by
  rw [opsF_eq _ 0 s (fun j => by simp), List.range_eq_range', Array.length_toList]
def SwapAt (E : Env) (all : Array Oper) (j i : Nat) : Prop := ∃ x y, all[j]? = some x ∧ all[i]? = some y ∧ swapOk E all x y = true
theorem bubble (hcall : FzCall E call) {i : Nat} : ∀ (R1 R2 : List Nat) (s s' : St), (∀ r ∈ R1, SwapAt E all r i) → opsL E call ys true d gb all (R1 ++ i :: R2) s = some s' →
    opsL E call ys true d gb all (i :: (R1 ++ R2)) s = some s'
  | [], _, _, _, _, h => h
  | r :: R1, R2, s, s', hs, h => by
    simp only [List.cons_append, opsL, Option.bind_eq_some_iff] at h ⊢
    obtain ⟨s1, h1, h2⟩ := h
    have := bubble hcall R1 R2 s1 s' (fun r hr => hs r (by simp [hr])) h2
    simp only [opsL, Option.bind_eq_some_iff] at this
    obtain ⟨s2, h3, h4⟩ := this
    obtain ⟨x, y, hx, hy, hok⟩ := hs r (by simp)
    simp only [opL, hx] at h1
    simp only [opL, hy] at h3
    obtain ⟨s1', g1, g2⟩ := ostep_swap hcall hok h1 h3
    exact ⟨s1', by simp only [opL, hy]; exact g1, s2, by simp only [opL, hx]; exact g2, h4⟩
end
end Go.Proofs.YtcoeigibikbfdaaGreatDoor.Abs

namespace Go.Proofs.YtcoeigibikbfdaaGreatDoor.Abs
open Go Go.RowKit
variable {σ σ' : Sig} {I I' : Blk} {base : Blk} {w w' : World} {h : Heap} {P : Program}
def OpOk (σ : Sig) (I : Blk) (base : Blk) (w : World) (gen : Nat) (run : Result Next) (v : AV) (h' : Heap) : Prop :=
  ∃ nx w' u σ' I', run = .ok nx w' ∧ (nx = .value u ∨ (nx = .skip ∧ u = undef)) ∧ Rep σ' I' w' v u ∧ HRep σ' I' base w' h' ∧ Ext base σ I w σ' I' w' ∧ ∀ g, g ≠ gen → σ' g = σ g
theorem More.ext (m : More I I' base) : Ext base σ I w σ I' w := ⟨fun _ _ h => h, m.1, m.2, Keep.refl _ _, Blw.refl _ _⟩
theorem OpOk.same {gen : Nat} {run : Result Next} {v : AV} (u : Value) (H : HRep σ I base w h) (hrun : run = .ok (.value u) w) (hr : Rep σ I w v u) : OpOk σ I base w gen run v h :=
  ⟨_, w, u, σ, I, hrun, .inl rfl, hr, H, Ext.refl _ _ _ _, fun _ _ => rfl⟩
theorem OpOk.frz {gen : Nat} {run : Result Next} {v : AV} {h' : Heap} (u : Value) (m : More I I' base) (H : HRep σ I' base w h') (hrun : run = .ok (.value u) w) (hr : Rep σ I' w v u) : OpOk σ I base w gen run v h' :=
  ⟨_, w, u, σ, I', hrun, .inl rfl, hr, H, m.ext, fun _ _ => rfl⟩
theorem run_value {s : Sem Value} {u : Value} {w w' : World} (hs : s.run P w = .ok u w') : (do let x ← s; pure (Next.value x) : Sem Next).run P w = .ok (.value u) w' := by
  simp [hs]
theorem run_skip {s : Sem Unit} {w w' : World} (hs : s.run P w = .ok () w') : (do s; pure Next.skip : Sem Next).run P w = .ok .skip w' := by
  simp [hs]
theorem run_typeInfo_ok {t : TypeId} {i : TypeInfo} (hi : P.info? t = some i) : (typeInfo t).run P w = .ok i w := by simp [typeInfo, hi]
theorem run_sizeOf_ok {t : TypeId} {n : Nat} (hi : szOf P t = some n) : (sizeOf t).run P w = .ok n w := by
  unfold szOf at hi
  simp only [Option.map_eq_some_iff] at hi
  obtain ⟨i, hi, rfl⟩ := hi
  simp [sizeOf, run_typeInfo_ok hi]
theorem run_bytes_ok {t : TypeId} {n : Nat} (hi : byOf P t = some n) : ∃ i, P.info? t = some i ∧ i.bytes = n := by
  unfold byOf at hi
  simpa only [Option.map_eq_some_iff] using hi
theorem run_zero_ok {t : TypeId} {z : Value} (hi : zeroOf P t = some z) : (zeroValue t).run P w = .ok z w := by
  unfold zeroOf at hi
  simp only [Option.bind_eq_some_iff] at hi
  obtain ⟨i, hi, hz⟩ := hi
  simp [zeroValue, run_typeInfo_ok hi, hz]
theorem run_underlying_ok {t : TypeId} {d : TypeDesc} (hd : P.underlying t = some d) : (underlying t).run P w = .ok d w := by simp [underlying, hd]
theorem run_isAgg_ok {t : TypeId} {ag : Bool} (ha : aggT P t = some ag) : (isAgg t).run P w = .ok ag w := by
  unfold aggT at ha
  split at ha
  · rename_i fs hd; injection ha with ha; subst ha; simp [isAgg, run_underlying_ok hd]
  · rename_i n e hd; injection ha with ha; subst ha; simp [isAgg, run_underlying_ok hd]
  · rename_i d hd1 hd2 hd3
    injection ha with ha
    subst ha
    simp only [isAgg, Sem.run_bind, run_underlying_ok hd3, Result.andThen_ok]
    rfl
  · cases ha
theorem mkAgg_rep {cs : List AV} {vs : List Value} (hl : vs.length = cs.length) (h1 : ∀ v ∈ vs, v.oneCell' = true)
    (hr : ∀ (j : Nat) (p : AV) (v : Value), cs[j]? = some p → vs[j]? = some v → Rep σ I w p v) : Rep σ I w (mkAgg cs) (.agg vs.toArray) := by
  have key : ∀ (cs : List AV) (ps : List PV), allPV cs = some ps → cs = ps.map .pv := by
    intro cs
    induction cs with
    | nil => intro ps hp; simp [allPV] at hp; subst hp; rfl
    | cons c cs ih =>
      intro ps hp
      cases c <;> simp only [allPV, Option.map_eq_some_iff] at hp
      · obtain ⟨qs, hq, rfl⟩ := hp
        rw [ih qs hq]; rfl
      all_goals cases hp
  unfold mkAgg
  cases ha : allPV cs with
  | none => exact .agg cs vs hl h1 hr
  | some ps =>
    have hcs := key cs ps ha
    subst hcs
    refine .pv _ _ (.agg ps vs (by simpa using hl) h1 fun j p v hp hv => ?_)
    have := hr j (.pv p) v (by simp [hp]) hv
    cases this with
    | pv _ _ h => exact h
theorem allPV_map {cs : List AV} {ps : List PV} (hp : allPV cs = some ps) : cs = ps.map .pv := by
  induction cs generalizing ps with
  | nil => simp [allPV] at hp; subst hp; rfl
  | cons c cs ih =>
    cases c <;> simp only [allPV, Option.map_eq_some_iff] at hp
    · obtain ⟨qs, hq, rfl⟩ := hp
      rw [ih hq]; rfl
    all_goals cases hp
theorem get_sub {α : Type} {l : List α} {off m j : Nat} {x : α} (hx : ((l.drop off).take m)[j]? = some x) : j < m ∧ l[off + j]? = some x := by
  rw [List.getElem?_take] at hx
  split at hx
  · rename_i hj; rw [List.getElem?_drop] at hx; exact ⟨hj, hx⟩
  · cases hx
theorem subP_sound {ag : Bool} {m off : Nat} {p p' : PV} {us : List Value} (hs : subP ag m off p = some p') (hl : us.length = p.cells.length) (h1 : ∀ x ∈ us, x.oneCell' = true)
    (hr : ∀ (j : Nat) (c : PV) (x : Value), p.cells[j]? = some c → us[j]? = some x → PRep I w c x) :
    (ag = true → off + m ≤ us.length ∧ PRep I w p' (.agg ((us.drop off).take m).toArray)) ∧ (ag = false → ∃ x, us[off]? = some x ∧ PRep I w p' x) := by
  cases ag with
  | true =>
    refine ⟨fun _ => ?_, fun hh => by cases hh⟩
    simp only [subP, if_true] at hs
    split at hs
    · injection hs with hs
      subst hs
      refine ⟨by omega, .agg _ _ (by simp [hl]) (fun x hx => h1 x (List.mem_of_mem_drop (List.mem_of_mem_take hx))) fun j c x hc hx => ?_⟩
      exact hr (off + j) c x (get_sub hc).2 (get_sub hx).2
    · cases hs
  | false =>
    refine ⟨fun hh => (by cases hh), fun _ => ?_⟩
    simp only [subP, Bool.false_eq_true, if_false] at hs
    have hj := (List.getElem?_eq_some_iff.1 hs).1
    exact ⟨us[off], List.getElem?_eq_getElem (by omega), hr off p' _ hs (List.getElem?_eq_getElem (by omega))⟩
theorem subA_sound {ag : Bool} {m off : Nat} {v v' : AV} {us : List Value} (hs : subA ag m off v = some v') (hl : us.length = v.cells.length) (h1 : ∀ x ∈ us, x.oneCell' = true)
    (hr : ∀ (j : Nat) (c : AV) (x : Value), v.cells[j]? = some c → us[j]? = some x → Rep σ I w c x) :
    (ag = true → off + m ≤ us.length ∧ Rep σ I w v' (.agg ((us.drop off).take m).toArray)) ∧ (ag = false → ∃ x, us[off]? = some x ∧ Rep σ I w v' x) := by
  have other : (if ag then (if off + m ≤ v.cells.length then some (mkAgg ((v.cells.drop off).take m)) else none) else v.cells[off]?) = some v' →
      (ag = true → off + m ≤ us.length ∧ Rep σ I w v' (.agg ((us.drop off).take m).toArray)) ∧ (ag = false → ∃ x, us[off]? = some x ∧ Rep σ I w v' x) := by
    intro hs
    cases ag with
    | true =>
      refine ⟨fun _ => ?_, fun hh => by cases hh⟩
      simp only [if_true] at hs
      split at hs
      · injection hs with hs
        subst hs
        refine ⟨by omega, mkAgg_rep (by simp [hl]) (fun x hx => h1 x (List.mem_of_mem_drop (List.mem_of_mem_take hx))) fun j c x hc hx => ?_⟩
        exact hr (off + j) c x (get_sub hc).2 (get_sub hx).2
      · cases hs
    | false =>
      refine ⟨fun hh => (by cases hh), fun _ => ?_⟩
      simp only [Bool.false_eq_true, if_false] at hs
      have hj := (List.getElem?_eq_some_iff.1 hs).1
      exact ⟨us[off], List.getElem?_eq_getElem (by omega), hr off v' _ hs (List.getElem?_eq_getElem (by omega))⟩
  cases v with
  | pv p =>
    simp only [subA, Option.map_eq_some_iff] at hs
    obtain ⟨p', hp', rfl⟩ := hs
    have := subP_sound (I := I) (w := w) hp' (us := us) (by simpa [AV.cells] using hl) h1 fun j c x hc hx => by
      have := hr j (.pv c) x (by simp [AV.cells, hc]) hx
      cases this with
      | pv _ _ h => exact h
    exact ⟨fun ha => ⟨(this.1 ha).1, .pv _ _ (this.1 ha).2⟩, fun ha => by obtain ⟨x, h1, h2⟩ := this.2 ha; exact ⟨x, h1, .pv _ _ h2⟩⟩
  | mptr => exact other hs
  | msl => exact other hs
  | agg => exact other hs
  | tup => exact other hs
  | clo => exact other hs
  | yld => exact other hs
  | ifc => exact other hs
  | btag => exact other hs
theorem run_loadVar_cells {t : TypeId} {m : Nat} {ag : Bool} {b o : Nat} {us : List Value} (hm : szOf P t = some m) (ha : aggT P t = some ag) (off : Nat)
    (hc : ∀ (j : Nat) (x : Value), us[j]? = some x → w.cell? ⟨b, o + j, none⟩ = some x) :
    (ag = true → off + m ≤ us.length → (loadVar t ⟨b, o + off, none⟩).run P w = .ok (.agg ((us.drop off).take m).toArray) w) ∧
    (ag = false → ∀ x, us[off]? = some x → (loadVar t ⟨b, o + off, none⟩).run P w = .ok x w) := by
  refine ⟨?_, ?_⟩
  · rintro rfl hle
    have hlen : ((us.drop off).take m).length = m := by simp; omega
    have := run_loadCells_list (P := P) w ⟨b, o + off, none⟩ ((us.drop off).take m) fun j x hx => by
      rw [addr_add, Nat.add_assoc]
      exact hc (off + j) x (get_sub hx).2
    rw [hlen] at this
    simp [loadVar, run_isAgg_ok ha, run_sizeOf_ok hm, this]
  · rintro rfl x hx
    simp [loadVar, run_isAgg_ok ha, hc off x hx]
section
variable {ρ : Operand → AV} {ρc : Operand → Value} {d gen : Nat} {o : Oper}
theorem rep_mptr {d s g i off : Nat} {u : Value} (hr : Rep σ I w (.mptr d s g i off) u) : ∃ b o k, σ g = some (b, o, k) ∧ u = .pointer (some ⟨b, o + i * k + off, none⟩) := by
  cases hr with
  | mptr _ _ _ _ _ b o k h => exact ⟨b, o, k, h, rfl⟩
theorem rep_pv {p : PV} {u : Value} (hr : Rep σ I w (.pv p) u) : PRep I w p u := by
  cases hr with
  | pv _ _ h => exact h
theorem prep_lit {v u : Value} (hr : PRep I w (.lit v) u) : u = v := by
  cases hr; rfl
theorem prep_ptr {root : PV} {off : Nat} {u : Value} (hr : PRep I w (.ptr root off) u) : ∃ (b o : Nat) (vs : Nat → Value), u = .pointer (some ⟨b, o + off, none⟩) ∧ I b ∧
    (∀ (j : Nat) (p : PV), root.cells[j]? = some p → w.cell? ⟨b, o + j, none⟩ = some (vs j) ∧ (vs j).oneCell' = true ∧ PRep I w p (vs j)) := by
  cases hr with
  | ptr _ _ b o vs hI hc hr => exact ⟨b, o, vs, rfl, hI, fun j p hp => ⟨(hc j p hp).1, (hc j p hp).2, hr j p hp⟩⟩
theorem vals_list {cs : List PV} {b o : Nat} (hv : ∀ (j : Nat) (p : PV), cs[j]? = some p → ∃ u, w.cell? ⟨b, o + j, none⟩ = some u ∧ u.oneCell' = true ∧ PRep I w p u) :
    ∃ us : List Value, us.length = cs.length ∧ (∀ x ∈ us, x.oneCell' = true) ∧ (∀ (j : Nat) (x : Value), us[j]? = some x → w.cell? ⟨b, o + j, none⟩ = some x) ∧
      ∀ (j : Nat) (c : PV) (x : Value), cs[j]? = some c → us[j]? = some x → PRep I w c x := by
  obtain ⟨us, hl, hu⟩ := list_of_cells (P := fun j u => w.cell? ⟨b, o + j, none⟩ = some u ∧ u.oneCell' = true ∧ ∀ c, cs[j]? = some c → PRep I w c u) cs.length fun j hj => by
    obtain ⟨u, h1, h2, h3⟩ := hv j cs[j] (List.getElem?_eq_getElem hj)
    exact ⟨u, h1, h2, fun c hc => by rw [List.getElem?_eq_getElem hj] at hc; injection hc with hc; subst hc; exact h3⟩
  refine ⟨us, hl, fun x hx => ?_, fun j x hx => (hu j x hx).1, fun j c x hc hx => (hu j x hx).2.2 c hc⟩
  obtain ⟨j, hj, rfl⟩ := List.mem_iff_getElem.1 hx
  exact (hu j _ (List.getElem?_eq_getElem hj)).2.1
theorem subP_load {t : TypeId} {m off b o : Nat} {ag : Bool} {root p' : PV} (hm : szOf P t = some m) (ha : aggT P t = some ag) (hs : subP ag m off root = some p')
    (hv : ∀ (j : Nat) (p : PV), root.cells[j]? = some p → ∃ u, w.cell? ⟨b, o + j, none⟩ = some u ∧ u.oneCell' = true ∧ PRep I w p u) :
    ∃ u, (loadVar t ⟨b, o + off, none⟩).run P w = .ok u w ∧ PRep I w p' u := by
  obtain ⟨us, hl, h1, hc, hr⟩ := vals_list hv
  have hsub := subP_sound (I := I) (w := w) hs hl h1 hr
  have hload := run_loadVar_cells (P := P) hm ha off hc
  cases ag with
  | true => exact ⟨_, hload.1 rfl (hsub.1 rfl).1, (hsub.1 rfl).2⟩
  | false =>
    obtain ⟨x, hx, hp⟩ := hsub.2 rfl
    exact ⟨x, hload.2 rfl x hx, hp⟩
theorem load_sound {t : TypeId} {a : Operand} {v : AV} {h' : Heap} (ho : o.op = .load t a) (hop : aop P o ρ d gen h = some (v, h')) (hρ : ∀ x, Rep σ I w (ρ x) (ρc x)) (H : HRep σ I base w h) :
    OpOk σ I base w gen ((execOp ρc o).run P w) v h' := by
  simp only [aop, ho, Option.bind_eq_bind, Option.bind_eq_some_iff] at hop
  obtain ⟨m, hm, ag, hag, hop⟩ := hop
  have hra := hρ a
  have fin : ∀ {u : Value} {ad : Addr}, ρc a = .pointer (some ad) → (loadVar t ad).run P w = .ok u w → (execOp ρc o).run P w = .ok (.value u) w := by
    intro u ad hp hl
    simp only [execOp, ho]
    exact run_value (by simp [Instr.loadAt, Instr.sureAddr, hp, hl])
  split at hop
  · rename_i d1 s g i off he
    rw [he] at hra
    obtain ⟨b, ob, k, hs, hu⟩ := rep_mptr hra
    split at hop
    · rename_i v0 fz hl
      split at hop
      · rename_i hi
        subst hi
        simp only [Option.map_eq_some_iff, Prod.mk.injEq] at hop
        obtain ⟨v', hv', rfl, rfl⟩ := hop
        obtain ⟨b0, k0, e0, u0, hs0, hsh, hok, hru, hz, hf, h1c, hsz, hcell⟩ := box_val (H.live hl (by simp))
        rw [hs] at hs0
        simp only [Option.some.injEq, Prod.mk.injEq] at hs0
        obtain ⟨rfl, rfl, rfl⟩ := hs0
        have hsub := subA_sound (σ := σ) (I := I) (w := w) hv' (us := u0.cells.toList) (by simpa using hsz) h1c fun j c x hc hx => (hru.cells hok).2.2 j c x hc (by simpa using hx)
        have hload := run_loadVar_cells (P := P) (w := w) (b := b) (o := 0) (us := u0.cells.toList) hm hag off fun j x hx => by simpa using hcell j x (by simpa using hx)
        simp only [Nat.zero_mul, Nat.add_zero, Nat.zero_add] at hu hload
        cases ag with
        | true => exact .same _ H (fin hu (hload.1 rfl (hsub.1 rfl).1)) (hsub.1 rfl).2
        | false =>
          obtain ⟨x, hx, hp⟩ := hsub.2 rfl
          exact .same _ H (fin hu (hload.2 rfl x hx)) hp
      · cases hop
    · rename_i k0 e0 xs fz hl
      simp only [Option.bind_eq_some_iff, Option.map_eq_some_iff, Prod.mk.injEq] at hop
      obtain ⟨x, hx, p', hp', rfl, rfl⟩ := hop
      obtain ⟨b', o', n', hs', _, _, _, _, _, _, hc, _⟩ := row_block (H.live hl (by simp))
      rw [hs] at hs'
      simp only [Option.some.injEq, Prod.mk.injEq] at hs'
      obtain ⟨rfl, rfl, rfl⟩ := hs'
      obtain ⟨u, hrun, hpr⟩ := subP_load (P := P) hm hag hp' (fun j p hp => hc i x hx j p hp)
      exact .same _ H (fin hu hrun) (.pv _ _ hpr)
    · cases hop
  · rename_i root off he
    rw [he] at hra
    simp only [Option.map_eq_some_iff, Prod.mk.injEq] at hop
    obtain ⟨p', hp', rfl, rfl⟩ := hop
    obtain ⟨b, ob, vs, hu, _, hv⟩ := prep_ptr (rep_pv hra)
    obtain ⟨u, hrun, hpr⟩ := subP_load (P := P) hm hag hp' (fun j p hp => ⟨vs j, hv j p hp⟩)
    exact .same _ H (fin hu hrun) (.pv _ _ hpr)
  · cases hop
end
end Go.Proofs.YtcoeigibikbfdaaGreatDoor.Abs

namespace Go.Proofs.YtcoeigibikbfdaaGreatDoor.Abs
open Go Go.RowKit
variable {σ σ' : Sig} {I I' : Blk} {base : Blk} {w w' : World} {h : Heap} {P : Program}
theorem pureRun_run {α : Type} {s : Sem α} {a : α} (hs : pureRun P s = some a) : s.run P w = .ok a w := by
  induction s with
  | pure b => simp only [pureRun, Option.some.injEq] at hs; subst hs; rfl
  | program k ih => simp only [pureRun] at hs; simpa [Sem.run] using ih P hs
  | mark m k ih => simp only [pureRun] at hs; simpa [Sem.run] using ih hs
  | _ => simp [pureRun] at hs
theorem toVal1_rep {p : PV} {v u : Value} (hr : PRep I w p u) (ht : toVal1 p = some v) : u = v := by
  cases hr with
  | lit => simp only [toVal1, Option.some.injEq] at ht; exact ht
  | nil => simp only [toVal1, Option.some.injEq] at ht; exact ht
  | iface t p v h =>
    cases p <;> simp only [toVal1] at ht <;> try cases ht
    cases h; rfl
  | _ => simp [toVal1] at ht
theorem toVals_rep : ∀ {ps : List PV} {vs us : List Value}, toVals ps = some vs → us.length = ps.length → (∀ (j : Nat) (p : PV) (u : Value), ps[j]? = some p → us[j]? = some u → PRep I w p u) → us = vs
  | [], vs, us, ht, hl, _ => by
    simp only [toVals, Option.some.injEq] at ht
    subst ht
    exact List.eq_nil_of_length_eq_zero hl
  | p :: ps, vs, us, ht, hl, hr => by
    match us, hl with
    | u :: us, hl =>
      simp only [toVals, Option.bind_eq_some_iff, Option.map_eq_some_iff] at ht
      obtain ⟨v, hv, vs', hvs, rfl⟩ := ht
      have e1 := toVal1_rep (hr 0 p u rfl rfl) hv
      have e2 : us = vs' := toVals_rep hvs (by simpa using hl) fun j p' u' hp hu => hr (j + 1) p' u' (by simpa using hp) (by simpa using hu)
      rw [e1, e2]
theorem toVal_rep {p : PV} {v u : Value} (ht : toVal p = some v) (hr : PRep I w p u) : u = v := by
  cases p with
  | agg cs =>
    cases hr with
    | agg _ vs hl h1 hr =>
      simp only [toVal, Option.map_eq_some_iff] at ht
      obtain ⟨l, hl', rfl⟩ := ht
      rw [toVals_rep hl' hl hr]
  | _ => exact toVal1_rep hr ht
theorem valA_rep {p : AV} {v u : Value} (ht : valA p = some v) (hr : Rep σ I w p u) : u = v := by
  cases hr with
  | pv p v h => exact toVal_rep ht h
  | _ => cases ht
theorem allVals_rep {l : List AV} {ps : List PV} {vs us : List Value} (hp : allPV l = some ps) (ht : toVals ps = some vs) (hl : us.length = l.length)
    (hr : ∀ (j : Nat) (p : AV) (u : Value), l[j]? = some p → us[j]? = some u → Rep σ I w p u) : us = vs := by
  have := allPV_map hp
  subst this
  exact toVals_rep (I := I) (w := w) ht (by simpa using hl) fun j p u hp' hu => rep_pv (hr j (.pv p) u (by simp [hp']) hu)
section
variable {ρ : Operand → AV} {ρc : Operand → Value} {d gen : Nat} {o : Oper} {v : AV} {h' : Heap}
theorem move_sound {x : Operand} (ho : o.op = .move x ∨ o.op = .assign x) (hop : aop P o ρ d gen h = some (v, h')) (hρ : ∀ x, Rep σ I w (ρ x) (ρc x)) (H : HRep σ I base w h) :
    OpOk σ I base w gen ((execOp ρc o).run P w) v h' := by
  have : v = ρ x ∧ h' = h := by rcases ho with ho | ho <;> simp only [aop, ho, Option.some.injEq, Prod.mk.injEq] at hop <;> exact ⟨hop.1.symm, hop.2.symm⟩
  obtain ⟨rfl, rfl⟩ := this
  exact .same (ρc x) H (by rcases ho with ho | ho <;> simp [execOp, ho]) (hρ x)
theorem pick_sound {c a b : Operand} (ho : o.op = .pick c a b) (hop : aop P o ρ d gen h = some (v, h')) (hρ : ∀ x, Rep σ I w (ρ x) (ρc x)) (H : HRep σ I base w h) :
    OpOk σ I base w gen ((execOp ρc o).run P w) v h' := by
  have hrc := hρ c
  simp only [aop, ho] at hop
  split at hop
  · rename_i t he
    rw [he] at hrc
    have hc := prep_lit (rep_pv hrc)
    simp only [Option.some.injEq, Prod.mk.injEq] at hop
    obtain ⟨rfl, rfl⟩ := hop
    exact .same (if t then ρc a else ρc b) H (by simp [execOp, ho, hc, asBool]) (by cases t <;> simp [hρ])
  · cases hop
theorem nilCheck_sound {x : Operand} (ho : o.op = .nilCheck x) (hop : aop P o ρ d gen h = some (v, h')) (hρ : ∀ x, Rep σ I w (ρ x) (ρc x)) (H : HRep σ I base w h) :
    OpOk σ I base w gen ((execOp ρc o).run P w) v h' := by
  have hr := hρ x
  have hv : ρ x = v ∧ h = h' ∧ (execOp ρc o).run P w = .ok (.value (ρc x)) w := by
    simp only [aop, ho] at hop
    split at hop
    · rename_i d s g i off he
      rw [he] at hr
      obtain ⟨b, ob, k, _, hu⟩ := rep_mptr hr
      simp only [Option.some.injEq, Prod.mk.injEq] at hop
      exact ⟨he.trans hop.1, hop.2, by simp [execOp, ho, hu]⟩
    · rename_i r off he
      rw [he] at hr
      obtain ⟨b, ob, vs, hu, _⟩ := prep_ptr (rep_pv hr)
      simp only [Option.some.injEq, Prod.mk.injEq] at hop
      exact ⟨he.trans hop.1, hop.2, by simp [execOp, ho, hu]⟩
    · rename_i f a b he
      rw [he] at hr
      simp only [Option.some.injEq, Prod.mk.injEq] at hop
      refine ⟨he.trans hop.1, hop.2, ?_⟩
      generalize hu : ρc x = u at hr
      cases hr with
      | pv _ _ hr => cases hr with
        | clo _ _ _ va vb => simp [execOp, ho, hu]
    · rename_i f a b he
      rw [he] at hr
      simp only [Option.some.injEq, Prod.mk.injEq] at hop
      refine ⟨he.trans hop.1, hop.2, ?_⟩
      generalize hu : ρc x = u at hr
      cases hr with
      | clo _ _ _ va vb => simp [execOp, ho, hu]
    · rename_i t p he
      rw [he] at hr
      simp only [Option.some.injEq, Prod.mk.injEq] at hop
      refine ⟨he.trans hop.1, hop.2, ?_⟩
      generalize hu : ρc x = u at hr
      cases hr with
      | pv _ _ hr => cases hr with
        | iface => simp [execOp, ho, hu]
    · cases hop
  obtain ⟨rfl, rfl, hrun⟩ := hv
  exact .same (ρc x) H hrun hr
theorem new_box {e : TypeId} {x : AV} {u : Value} {s : Nat} (H : HRep σ I base w h) (hr : Rep σ I w x u) (hbo : boxOk e x = true) (hg : σ gen = none) (hB : Bnd base w.heap.size) {run : Result Next}
    (hrun : run = .ok (.value (.pointer (some ⟨w.heap.size, 0, none⟩))) (w.alloc (.cells u.cells e))) :
    OpOk σ I base w gen run (.mptr d s gen 0 0) (hput h d s ⟨gen, .box x false⟩) := by
  have hG : Grows w (w.alloc (.cells u.cells e)) (.cells u.cells e) := ⟨rfl, rfl, rfl, rfl⟩
  have hE := Ext.push (x := (w.heap.size, 0, 1)) H hB hg hG
  obtain ⟨h1, h2, h3⟩ := hr.cells (boxOk_ok hbo)
  refine ⟨_, _, _, _, I, hrun, .inl rfl, ?_, H.push hg hG d s ?_, hE, fun g hne => upd_other hne⟩
  · have := Rep.mptr (σ := upd σ gen (w.heap.size, 0, 1)) (I := I) (w := w.alloc (.cells u.cells e)) d s gen 0 0 w.heap.size 0 1 upd_same
    simpa using this
  · refine ⟨w.heap.size, e, upd_same, by rw [hG.shape, h1], hbo, fun j p hp => ?_, ⟨fun hb => ?_, hB.up, fun j hj => hG.frozen j⟩⟩
    · have hj := (List.getElem?_eq_some_iff.1 hp).1
      refine ⟨u.cells[j], ?_, h2 _ (by simp), hE.rep (h3 j p _ hp (Array.getElem?_eq_getElem (by omega)))⟩
      rw [hG.cell]; exact Array.getElem?_eq_getElem (by omega)
    · exact absurd (H.lt _ hb) (by omega)
theorem ofVal1_rep (v : Value) : PRep I w (ofVal1 v) v := by
  unfold ofVal1
  split
  · split
    · rename_i hh; rw [hh.1, hh.2]; exact .nil 0 true
    · exact .lit _
  · rename_i f a b
    split
    · rename_i hh
      have ha : a = #[] := Array.eq_empty_of_size_eq_zero hh.1
      have hb : b = #[] := Array.eq_empty_of_size_eq_zero hh.2
      rw [ha, hb]
      exact .clo _ [] [] [] [] rfl rfl (fun j p v hp => by simp at hp) (fun j p v hp => by simp at hp)
    · exact .lit _
  · exact .lit _
theorem ofVal_rep (v : Value) : PRep I w (ofVal v) v := by
  unfold ofVal
  split
  · rename_i cs
    split
    · rename_i hall
      have := PRep.agg (I := I) (w := w) (cs.toList.map ofVal1) cs.toList (by simp) (fun v hv => List.all_eq_true.1 hall v hv) fun j p v hp hv => by
        simp only [List.getElem?_map, Option.map_eq_some_iff] at hp
        obtain ⟨v', hv', rfl⟩ := hp
        rw [hv] at hv'
        injection hv' with hv'
        subst hv'
        exact ofVal1_rep v
      simpa using this
    · exact .lit _
  · exact ofVal1_rep _
theorem eval_rep {t : List AV} {a : Act} (hT : ∀ i, Rep σ I w (getT t i) (a.tmps.getD i undef)) (x : Operand) : Rep σ I w (evalA t x) (a.eval x) := by
  cases x with
  | tmp i => exact hT i
  | const v => exact .pv _ _ (ofVal_rep v)
  | global g => exact .pv _ _ (.lit _)
  | func f => exact .pv _ _ (.clo _ [] [] [] [] rfl rfl (fun j p v hp => by simp at hp) (fun j p v hp => by simp at hp))
theorem alloc_sound {e : TypeId} (ho : o.op = .alloc e) (hop : aop P o ρ d gen h = some (v, h')) (H : HRep σ I base w h) (hg : σ gen = none) (hB : Bnd base w.heap.size) :
    OpOk σ I base w gen ((execOp ρc o).run P w) v h' := by
  simp only [aop, ho, Option.bind_eq_bind, Option.bind_eq_some_iff] at hop
  obtain ⟨z, hz, s, hs, hop⟩ := hop
  split at hop
  · rename_i hok
    simp only [Option.some.injEq, Prod.mk.injEq] at hop
    obtain ⟨rfl, rfl⟩ := hop
    have htg : Rep σ I w (tagged P e (ofVal z)) z ∧ boxOk e (tagged P e (ofVal z)) = true := by
      have hr0 : Rep σ I w (.pv (ofVal z)) z := .pv _ _ (ofVal_rep z)
      unfold tagged
      split
      · rename_i l _ hz1
        rw [hz1] at hr0
        refine ⟨?_, by simp [boxOk, AV.ok, tagOf, AV.cells, headTag]⟩
        have hp := rep_pv hr0
        generalize z = z0 at hp
        cases hp with
        | agg cs vs hl h1 hr =>
          refine .agg _ vs (by simpa using hl) h1 fun j p v hp hv => ?_
          cases j with
          | zero =>
            simp at hp
            subst hp
            have := prep_lit (hr 0 _ v rfl hv)
            subst this
            exact .btag e
          | succ j =>
            simp only [List.getElem?_cons_succ, List.getElem?_map, Option.map_eq_some_iff] at hp
            obtain ⟨q, hq, rfl⟩ := hp
            exact .pv _ _ (hr (j + 1) q v (by simpa using hq) hv)
      · exact ⟨hr0, boxOk_none hok (tagOf_pv _)⟩
    refine new_box (e := e) H htg.1 htg.2 hg hB ?_
    simp only [execOp, ho]
    exact run_value (by simp [Instr.alloc, run_zero_ok hz, newVar, newRow])
  · cases hop
theorem box_sound {e : TypeId} {x : Operand} (ho : o.op = .box e x) (hop : aop P o ρ d gen h = some (v, h')) (hρ : ∀ x, Rep σ I w (ρ x) (ρc x)) (H : HRep σ I base w h) (hg : σ gen = none) (hB : Bnd base w.heap.size) :
    OpOk σ I base w gen ((execOp ρc o).run P w) v h' := by
  simp only [aop, ho, Option.bind_eq_bind, Option.bind_eq_some_iff] at hop
  obtain ⟨s, hs, hop⟩ := hop
  split at hop
  · rename_i hok
    simp only [Option.some.injEq, Prod.mk.injEq] at hop
    obtain ⟨rfl, rfl⟩ := hop
    refine new_box (e := e) H (hρ x) (boxOk_none hok.1 (Option.isNone_iff_eq_none.1 hok.2)) hg hB ?_
    simp only [execOp, ho]
    exact run_value (by simp [Instr.box, newVar, newRow])
  · cases hop
theorem equalIn_nil {t : TypeId} {dd : TypeDesc} {x y : AV} {a b : Value} (hd : P.underlying t = some dd) (hn : (nilBeside dd x y || unlike dd x y) = true) (hx : Rep σ I w x a) (hy : Rep σ I w y b) :
    (Op.equal t a b).run P w = .ok false w ∧ ∀ op xo yo, (eqGuard op t xo yo a b).run P w = .ok () w ∧ (binOp .eql t a b = (do pure (.bool (← Op.equal t a b)))) ∧ (binOp .neq t a b = (do pure (.bool (!(← Op.equal t a b))))) := by
  obtain ⟨dep, hdep⟩ : ∃ dep, Op.maxDepth = dep + 1 := ⟨9999, rfl⟩
  rcases Bool.or_eq_true_iff.1 hn with hn | hn
  · unfold nilBeside at hn
    split at hn <;> try cases hn
    all_goals cases hx
    all_goals (try (rename_i hp; cases hp))
    all_goals (cases hy; rename_i hp; cases hp)
    all_goals
      refine ⟨?_, fun op xo yo => ⟨?_, rfl, rfl⟩⟩
      · unfold Op.equal
        rw [hdep]
        unfold Op.equalIn
        simp only [Sem.run_bind, run_underlying_ok hd, Result.andThen_ok, Sem.run_pure, Option.isNone]
      · unfold eqGuard; split <;> simp
  · unfold unlike at hn
    split at hn
    · rename_i t1 p t2 q
      cases hx; rename_i hp; cases hp
      cases hy; rename_i hq; cases hq
      have hne := bne_iff_ne.1 hn
      refine ⟨?_, fun op xo yo => ⟨?_, rfl, rfl⟩⟩
      · unfold Op.equal
        rw [hdep]
        unfold Op.equalIn
        simp only [Sem.run_bind, run_underlying_ok hd, Result.andThen_ok]
        rw [if_pos hne]
        rfl
      · unfold eqGuard; split <;> simp
    · cases hn
end
end Go.Proofs.YtcoeigibikbfdaaGreatDoor.Abs

namespace Go.Proofs.YtcoeigibikbfdaaGreatDoor.Abs
open Go Go.RowKit
variable {σ σ' : Sig} {I I' : Blk} {base : Blk} {w w' : World} {h : Heap} {P : Program}
section
variable {ρ : Operand → AV} {ρc : Operand → Value} {d gen : Nat} {o : Oper} {v : AV} {h' : Heap}
theorem eqLeaf_run {t : TypeId} {a b : PV} {r : Bool} {u v : Value} (h : eqLeaf P t a b = some r) (ha : PRep I w a u) (hb : PRep I w b v) (d : Nat) : (Op.equalIn (d + 1) t u v).run P w = .ok r w ∧ aggT P t = some false := by
  unfold eqLeaf at h
  split at h
  · rename_i x y ht
    cases h; cases ha; cases hb
    exact ⟨run_equalIn_string w d t x y ht, by unfold aggT; rw [ht]⟩
  · rename_i k0 k x k' y ht
    split at h
    · rename_i hk
      subst hk
      cases h; cases ha; cases hb
      exact ⟨run_equalIn_int w d t k k0 x y ht, by unfold aggT; rw [ht]⟩
    · cases h
  · rename_i x y ht
    cases h; cases ha; cases hb
    exact ⟨run_equalIn_bool' w d t x y ht, by unfold aggT; rw [ht]⟩
  · cases h
theorem eqCells_run {xs ys : List PV} {us vs : List Value} (lx : us.length = xs.length) (ly : vs.length = ys.length)
    (hx : ∀ (j : Nat) (p : PV) (v : Value), xs[j]? = some p → us[j]? = some v → PRep I w p v) (hy : ∀ (j : Nat) (p : PV) (v : Value), ys[j]? = some p → vs[j]? = some v → PRep I w p v) (d : Nat) :
    ∀ (fs : List Field) (r : Bool), eqCellsF P fs xs ys = some r → (Op.eqFields (d + 1) us.toArray vs.toArray fs).run P w = .ok r w
  | [], r, h => by
    simp only [eqCellsF, Option.some.injEq] at h
    subst h
    simp [Op.eqFields]
  | f :: fs, r, h => by
    unfold eqCellsF at h
    split at h
    · rename_i hn
      simp only [Option.bind_eq_some_iff, Option.map_eq_some_iff] at h
      obtain ⟨a, ha, b, hb, r1, h1, q, hq, rfl⟩ := h
      obtain ⟨la, _⟩ := List.getElem?_eq_some_iff.1 ha
      obtain ⟨lb, _⟩ := List.getElem?_eq_some_iff.1 hb
      have hu : us[f.offset]? = some us[f.offset] := List.getElem?_eq_getElem (by omega)
      have hv : vs[f.offset]? = some vs[f.offset] := List.getElem?_eq_getElem (by omega)
      obtain ⟨h2, hag⟩ := eqLeaf_run h1 (hx _ _ _ ha hu) (hy _ _ _ hb hv) d
      have ih := eqCells_run lx ly hx hy d fs q hq
      have p1 : (part f.type us.toArray f.offset).run P w = .ok us[f.offset] w := by simp [part, run_isAgg_ok hag, hu]
      have p2 : (part f.type vs.toArray f.offset).run P w = .ok vs[f.offset] w := by simp [part, run_isAgg_ok hag, hv]
      simp only [Op.eqFields, if_pos hn, Sem.run_bind, p1, p2, h2, Result.andThen_ok]
      cases r1
      · simp
      · simpa using ih
    · cases h
theorem eqAgg_run {op : BinOp} {t : TypeId} {xo yo : Operand} {x y : AV} {u v : Value} {r : Bool} (h : eqAgg P op t x y = some r) (hx : Rep σ I w x u) (hy : Rep σ I w y v) :
    (do eqGuard op t xo yo u v; binOp op t u v : Sem Value).run P w = .ok (.bool r) w := by
  have key : ∀ (xs ys : List PV) (r : Bool), structEq P t xs ys = some r → ∀ u v, PRep I w (.agg xs) u → PRep I w (.agg ys) v → ∃ us vs : List Value, u = .agg us.toArray ∧ v = .agg vs.toArray ∧ P.eqGuardType P.depth t = false ∧ (Op.equalIn 10000 t u v).run P w = .ok r w := by
    intro xs ys r h u v hx hy
    unfold structEq at h
    split at h
    · rename_i fs ht
      split at h
      · rename_i hc
        cases hx with
        | agg _ us hl _ hr =>
          cases hy with
          | agg _ vs hl2 _ hr2 =>
            have hf : P.fieldsOf t = fs := by unfold Program.fieldsOf; rw [ht]
            refine ⟨us, vs, rfl, rfl, hc.2, ?_⟩
            rw [run_equalIn_agg w 9999 t us.toArray vs.toArray (by rw [hf]; exact ht) hc.1, hf]
            exact eqCells_run hl hl2 hr hr2 9998 fs.toList r h
      · cases h
    · cases h
  unfold eqAgg at h
  split at h
  · rename_i xs ys
    cases hx with
    | pv _ _ hx =>
    cases hy with
    | pv _ _ hy =>
      split at h
      · obtain ⟨us, vs, rfl, rfl, hg, he⟩ := key xs ys r h u v hx hy
        simp only [Sem.run_bind, run_eqGuard_agg w .eql t xo yo us.toArray vs.toArray hg, Result.andThen_ok, run_eql_struct, he]
      · simp only [Option.map_eq_some_iff] at h
        obtain ⟨q, hq, rfl⟩ := h
        obtain ⟨us, vs, rfl, rfl, hg, he⟩ := key xs ys q hq u v hx hy
        simp only [Sem.run_bind, run_eqGuard_agg w .neq t xo yo us.toArray vs.toArray hg, Result.andThen_ok, run_neq_struct, he]
      · cases h
  · cases h
theorem binOp_sound {op : BinOp} {t ty : TypeId} {x y : Operand} (ho : o.op = .binOp op t x y ty) (hop : aop P o ρ d gen h = some (v, h')) (hρ : ∀ x, Rep σ I w (ρ x) (ρc x)) (H : HRep σ I base w h) :
    OpOk σ I base w gen ((execOp ρc o).run P w) v h' := by
  simp only [aop, ho, Option.map_eq_some_iff, Prod.mk.injEq] at hop
  obtain ⟨v', hv, rfl, rfl⟩ := hop
  have hx := hρ x
  have hy := hρ y
  have hex : execOp ρc o = (do let r ← (do eqGuard op t x y (ρc x) (ρc y); binOp op t (ρc x) (ρc y)); pure (Next.value r)) := by simp only [execOp, ho]
  rw [hex]
  unfold abin at hv
  split at hv
  · rename_i r hr
    cases hv
    exact .same (.bool r) H (run_value (eqAgg_run hr hx hy)) (.pv _ _ (.lit _))
  rename_i hno
  clear hno
  split at hv
  · rename_i a b ha hb
    simp only [Option.map_eq_some_iff] at hv
    obtain ⟨r, hr, rfl⟩ := hv
    rw [valA_rep ha hx, valA_rep hb hy]
    exact .same r H (run_value (pureRun_run hr)) (.pv _ _ (.lit r))
  · split at hv
    · rename_i dd hd
      split at hv
      · rename_i hn
        injection hv with hv
        subst hv
        obtain ⟨h1, h2⟩ := equalIn_nil hd hn hx hy
        obtain ⟨h3, h4, _⟩ := h2 .eql x y
        refine .same (.bool false) H (run_value ?_) (.pv _ _ (.lit _))
        rw [h4]
        simp [h3, h1]
      · cases hv
    · rename_i dd hd
      split at hv
      · rename_i hn
        injection hv with hv
        subst hv
        obtain ⟨h1, h2⟩ := equalIn_nil hd hn hx hy
        obtain ⟨h3, _, h4⟩ := h2 .neq x y
        refine .same (.bool true) H (run_value ?_) (.pv _ _ (.lit _))
        rw [h4]
        simp [h3, h1]
      · cases hv
    · cases hv
theorem unOp_sound {op : UnOp} {t : TypeId} {x : Operand} (ho : o.op = .unOp op t x) (hop : aop P o ρ d gen h = some (v, h')) (hρ : ∀ x, Rep σ I w (ρ x) (ρc x)) (H : HRep σ I base w h) :
    OpOk σ I base w gen ((execOp ρc o).run P w) v h' := by
  simp only [aop, ho, Option.bind_eq_some_iff, Option.map_eq_some_iff, Prod.mk.injEq] at hop
  obtain ⟨a, ha, r, hr, rfl, rfl⟩ := hop
  refine .same r H ?_ (.pv _ _ (.lit r))
  simp only [execOp, ho]
  rw [valA_rep ha (hρ x)]
  exact run_value (pureRun_run hr)
theorem makeInterface_sound {t : TypeId} {x : Operand} (ho : o.op = .makeInterface t x) (hop : aop P o ρ d gen h = some (v, h')) (hρ : ∀ x, Rep σ I w (ρ x) (ρc x)) (H : HRep σ I base w h) :
    OpOk σ I base w gen ((execOp ρc o).run P w) v h' := by
  simp only [aop, ho] at hop
  split at hop
  · cases hop
  · cases hop
  · rename_i dd hn hd
    have hrun : (execOp ρc o).run P w = .ok (.value (.iface t (ρc x))) w := by
      simp only [execOp, ho]
      refine run_value ?_
      simp only [Instr.makeInterface, Sem.run_bind, run_underlying_ok hd, Result.andThen_ok]
      first
        | rfl
        | (split
           · rename_i ms; exact absurd hd (hn ms)
           · rfl)
    split at hop
    · simp only [Option.some.injEq, Prod.mk.injEq] at hop
      obtain ⟨rfl, rfl⟩ := hop
      exact .same _ H hrun (.ifc t _ _ (hρ x))
    simp only [Option.map_eq_some_iff, Prod.exists, Prod.mk.injEq] at hop
    obtain ⟨p, h1, hp, rfl, rfl⟩ := hop
    obtain ⟨I', hpr, H', m⟩ := frz_sound _ _ _ _ _ _ _ hp (hρ x) H
    exact .frz _ m H' hrun (.pv _ _ (.iface t p (ρc x) hpr))
theorem pair_rep {p q : PV} {u v : Value} (hp : PRep I w p u) (hq : PRep I w q v) : PRep I w (.tup [p, q]) (.tuple #[u, v]) :=
  .tup [p, q] [u, v] rfl fun j c x hc hx => by
    match j with
    | 0 => simp at hc hx; subst hc; subst hx; exact hp
    | 1 => simp at hc hx; subst hc; subst hx; exact hq
    | j + 2 => simp at hc
theorem missing_of {want : Array (String × TypeId)} {got : Array Method} : (lacks want got = false → Instr.missingMethod want got = none) ∧ (lacks want got = true → ∃ m, Instr.missingMethod want got = some m) := by
  have le : ∀ l : List String, l ≠ [] → ∃ m, Instr.least l = some m := fun l h => by
    cases l with
    | nil => exact absurd rfl h
    | cons x l => exact ⟨_, rfl⟩
  unfold lacks Instr.missingMethod
  refine ⟨fun h => ?_, fun h => ?_⟩
  · have h0 : (want.toList.filter fun (q : String × TypeId) => !got.any fun m => m.name == q.1 && m.sig == q.2) = [] := by
      rw [List.filter_eq_nil_iff]
      intro q hq
      have := List.any_eq_false.1 h q hq
      simpa using this
    simp only [h0]
    rfl
  · have h0 : (want.toList.filter fun (q : String × TypeId) => !got.any fun m => m.name == q.1 && m.sig == q.2) ≠ [] := by
      intro e
      obtain ⟨q, hq, hp⟩ := List.any_eq_true.1 h
      have : q ∈ (want.toList.filter fun (q : String × TypeId) => !got.any fun m => m.name == q.1 && m.sig == q.2) := List.mem_filter.2 ⟨hq, hp⟩
      rw [e] at this
      cases this
    generalize (want.toList.filter fun (q : String × TypeId) => !got.any fun m => m.name == q.1 && m.sig == q.2) = l at h0
    simp only [List.partition_eq_filter_filter]
    cases he : (l.map (·.1)).filter (not ∘ fun (x : String) => x.contains '.') with
    | cons x xs => exact ⟨_, rfl⟩
    | nil =>
      cases hu : (l.map (·.1)).filter (fun (x : String) => x.contains '.') with
      | cons x xs => exact ⟨_, rfl⟩
      | nil =>
        exfalso
        cases l with
        | nil => exact h0 rfl
        | cons y ys =>
          rw [List.filter_eq_nil_iff] at he hu
          have h1 := he y.1 (by simp)
          have h2 := hu y.1 (by simp)
          simp only [Function.comp] at h1
          simp_all
theorem typeAssert_sound {x : Operand} {xT aT : TypeId} {ok : Bool} (ho : o.op = .typeAssert x xT aT ok) (hop : aop P o ρ d gen h = some (v, h')) (hρ : ∀ x, Rep σ I w (ρ x) (ρc x)) (H : HRep σ I base w h) :
    OpOk σ I base w gen ((execOp ρc o).run P w) v h' := by
  simp only [aop, ho, Option.map_eq_some_iff, Prod.mk.injEq] at hop
  obtain ⟨v', hv, rfl, rfl⟩ := hop
  suffices hs : ∃ u, (Instr.typeAssert (ρc x) xT aT ok).run P w = .ok u w ∧ Rep σ I w v' u by
    obtain ⟨u, h1, h2⟩ := hs
    refine .same u H ?_ h2
    simp only [execOp, ho]
    exact run_value h1
  have hr := hρ x
  generalize ρc x = u0 at hr
  have fails : ∀ (a b : Option TypeId) (m : String), (if ok then (zeroOf P aT).map fun z => (AV.pv (.tup [ofVal z, .lit (.bool false)])) else none) = some v' →
      ∃ u, (do if ok then pure (.tuple #[← zeroValue aT, .bool false]) else runtimePanic (.typeAssertion a b aT m) : Sem Value).run P w = .ok u w ∧ Rep σ I w v' u := by
    intro a b m hf
    split at hf
    · rename_i hok
      simp only [Option.map_eq_some_iff] at hf
      obtain ⟨z, hz, rfl⟩ := hf
      exact ⟨_, by simp [hok, run_zero_ok hz], .pv _ _ (pair_rep (ofVal_rep z) (.lit _))⟩
    · cases hf
  have holds : ∀ (p : PV) (u : Value), PRep I w p u → (some (AV.pv (if ok then .tup [p, .lit (.bool true)] else p))) = some v' → ∃ u', (pure (if ok then .tuple #[u, .bool true] else u) : Sem Value).run P w = .ok u' w ∧ Rep σ I w v' u' := by
    intro p u hp hf
    injection hf with hf
    subst hf
    cases ok with
    | true => exact ⟨_, rfl, .pv _ _ (pair_rep hp (.lit _))⟩
    | false => exact ⟨_, rfl, .pv _ _ hp⟩
  unfold assertA at hv
  simp only [] at hv
  split at hv
  · rename_i dd hd he
    rw [he] at hr
    cases hr; rename_i hp; cases hp
    unfold Instr.typeAssert
    simp only [Sem.run_bind, run_underlying_ok hd, Result.andThen_ok]
    split <;> first | exact fails _ _ _ hv | simp_all
  · rename_i want t p hd he
    rw [he] at hr
    cases hr; rename_i hp; cases hp; rename_i u hp
    simp only [Option.bind_eq_some_iff] at hv
    obtain ⟨i, hi, hv⟩ := hv
    unfold Instr.typeAssert
    simp only [Sem.run_bind, run_underlying_ok hd, run_typeInfo_ok hi, Result.andThen_ok]
    split at hv
    · rename_i hm
      have hm := missing_of.1 hm
      simp only [hm]
      exact holds _ _ (.iface t p u hp) hv
    · rename_i hm
      obtain ⟨m, hm⟩ := missing_of.2 hm
      simp only [hm]
      exact fails _ _ _ hv
  · rename_i dd t p hn hd he
    rw [he] at hr
    cases hr; rename_i hp; cases hp; rename_i u hp
    unfold Instr.typeAssert
    simp only [Sem.run_bind, run_underlying_ok hd, Result.andThen_ok]
    by_cases e : t = aT
    · rw [if_pos e] at hv ⊢; exact holds _ _ hp hv
    · rw [if_neg e] at hv ⊢; exact fails _ _ _ hv
  · cases hv
theorem makeFunc_sound {fn : Fn} {first captured : Array Operand} (ho : o.op = .makeFunc fn first captured) (hop : aop P o ρ d gen h = some (v, h')) (hρ : ∀ x, Rep σ I w (ρ x) (ρc x)) (H : HRep σ I base w h) :
    OpOk σ I base w gen ((execOp ρc o).run P w) v h' := by
  have hpw : ∀ (l : Array Operand) (j : Nat) (p : AV) (u : Value), (l.toList.map ρ)[j]? = some p → (l.toList.map ρc)[j]? = some u → Rep σ I w p u := by
    intro l j p u hp hu
    simp only [List.getElem?_map, Option.map_eq_some_iff] at hp hu
    obtain ⟨x, hx, rfl⟩ := hp
    obtain ⟨y, hy, rfl⟩ := hu
    rw [hx] at hy
    injection hy with hy
    subst hy
    exact hρ x
  have hrun : (execOp ρc o).run P w = .ok (.value (.func fn (first.toList.map ρc).toArray (captured.toList.map ρc).toArray)) w := by
    simp only [execOp, ho]
    refine run_value ?_
    simp only [Instr.makeFunc, Sem.run_pure]
    congr 2 <;> (apply Array.ext'; simp)
  simp only [aop, ho] at hop
  split at hop
  · rename_i a b ha hb
    simp only [Option.some.injEq, Prod.mk.injEq] at hop
    obtain ⟨rfl, rfl⟩ := hop
    have ea := allPV_map ha
    have eb := allPV_map hb
    refine .same _ H hrun (.pv _ _ (.clo fn a b _ _ ?_ ?_ ?_ ?_))
    · rw [List.length_map, ← List.length_map (f := ρ), ea, List.length_map]
    · rw [List.length_map, ← List.length_map (f := ρ), eb, List.length_map]
    · exact fun j p u hp hu => rep_pv (hpw first j (.pv p) u (by rw [ea]; simp [hp]) hu)
    · exact fun j p u hp hu => rep_pv (hpw captured j (.pv p) u (by rw [eb]; simp [hp]) hu)
  · simp only [Option.some.injEq, Prod.mk.injEq] at hop
    obtain ⟨rfl, rfl⟩ := hop
    exact .same _ H hrun (.clo fn _ _ _ _ (by simp) (by simp) (hpw first) (hpw captured))
theorem fieldAddr_sound {st : TypeId} {x : Operand} {f : Nat} (ho : o.op = .fieldAddr st x f) (hop : aop P o ρ d gen h = some (v, h')) (hρ : ∀ x, Rep σ I w (ρ x) (ρc x)) (H : HRep σ I base w h) :
    OpOk σ I base w gen ((execOp ρc o).run P w) v h' := by
  simp only [aop, ho] at hop
  split at hop
  · rename_i fields hd
    simp only [Option.bind_eq_some_iff] at hop
    obtain ⟨off, hoff, hop⟩ := hop
    unfold afield at hoff
    simp only [Option.bind_eq_some_iff] at hoff
    obtain ⟨fd, hfd, n, hn, hoff⟩ := hoff
    split at hoff
    · cases hoff
    · rename_i hne
      injection hoff with hoff
      subst hoff
      have fin : ∀ {b ob : Nat}, ρc x = .pointer (some ⟨b, ob, none⟩) → (execOp ρc o).run P w = .ok (.value (.pointer (some ⟨b, ob + fd.offset, none⟩))) w := by
        intro b ob hp
        simp only [execOp, ho]
        refine run_value ?_
        simp [Instr.fieldAt, run_underlying_ok hd, hfd, Instr.sureAddr, hp, fieldPlace, run_sizeOf_ok hn, hne, addr_add]
      have hr := hρ x
      split at hop
      · rename_i d1 s g i oo he
        rw [he] at hr
        obtain ⟨b, ob, k, hs, hu⟩ := rep_mptr hr
        simp only [Option.some.injEq, Prod.mk.injEq] at hop
        obtain ⟨rfl, rfl⟩ := hop
        refine .same _ H (fin hu) ?_
        rw [Nat.add_assoc]
        exact .mptr d1 s g i (oo + fd.offset) b ob k hs
      · rename_i r oo he
        rw [he] at hr
        simp only [Option.some.injEq, Prod.mk.injEq] at hop
        obtain ⟨rfl, rfl⟩ := hop
        have hr' := rep_pv hr
        generalize hu : ρc x = u at hr'
        cases hr' with
        | ptr _ _ b ob vs hI hc hr2 =>
          refine .same _ H (fin hu) ?_
          rw [Nat.add_assoc]
          exact .pv _ _ (.ptr r (oo + fd.offset) b ob vs hI hc hr2)
      · cases hop
  · cases hop
theorem intOf_rep {a : AV} {u : Value} {i : Int} (hi : intOf? a = some i) (hr : Rep σ I w a u) : ∃ k, u = .int k i := by
  unfold intOf? at hi
  split at hi
  · rename_i k n
    injection hi with hi
    subst hi
    exact ⟨k, prep_lit (rep_pv hr)⟩
  · cases hi
theorem indexAddr_sound {t : TypeId} {x ix : Operand} (ho : o.op = .indexAddr t x ix) (hop : aop P o ρ d gen h = some (v, h')) (hρ : ∀ x, Rep σ I w (ρ x) (ρc x)) (H : HRep σ I base w h) :
    OpOk σ I base w gen ((execOp ρc o).run P w) v h' := by
  simp only [aop, ho, Option.bind_eq_some_iff] at hop
  obtain ⟨i, hi, hop⟩ := hop
  obtain ⟨kind, hix⟩ := intOf_rep hi (hρ ix)
  have hr := hρ x
  split at hop
  · rename_i e k nl full xs hd he
    rw [he] at hr
    simp only [Option.bind_eq_some_iff] at hop
    obtain ⟨size, hsz, hop⟩ := hop
    split at hop
    · rename_i hc
      obtain ⟨h0, hnl, hk⟩ := hc
      subst hnl; subst hk
      simp only [Option.map_eq_some_iff, Prod.mk.injEq] at hop
      obtain ⟨y, hy, rfl, rfl⟩ := hop
      have hlt := (List.getElem?_eq_some_iff.1 hy).1
      have hr' := rep_pv hr
      generalize hu : ρc x = u at hr'
      cases hr' with
      | emp => simp at hy
      | sl _ _ _ b ob cap vs hcap hfull hI hk hcl hr2 =>
        have hlt' : i < (xs.length : Int) := by omega
        refine .same (.pointer (some ⟨b, ob + i.toNat * k, none⟩)) H ?_ (.pv _ _ ?_)
        · simp only [execOp, ho]
          refine run_value ?_
          simp [Instr.indexAt, asIntOf, hix, run_underlying_ok hd, hu, h0, hlt', run_sizeOf_ok hsz, addr_add]
        · have := PRep.ptr (I := I) (w := w) y 0 b (ob + i.toNat * k) (vs i.toNat) hI (fun j p hp => hcl _ y hy j p hp) (fun j p hp => hr2 _ y hy j p hp)
          simpa using this
    · cases hop
  · rename_i e d1 s g off n full hd he
    rw [he] at hr
    simp only [Option.bind_eq_some_iff] at hop
    obtain ⟨size, hsz, hop⟩ := hop
    split at hop
    · rename_i k0 e0 xs fz hl
      split at hop
      · rename_i hc
        obtain ⟨h0, hn, hk⟩ := hc
        subst hk
        simp only [Option.some.injEq, Prod.mk.injEq] at hop
        obtain ⟨rfl, rfl⟩ := hop
        obtain ⟨b', o', n', hs', _⟩ := row_block (H.live hl (by simp))
        generalize hu : ρc x = u at hr
        cases hr with
        | msl _ _ _ _ _ _ b ob k cap ad had hs hcap hfull hroom =>
          rw [hs] at hs'
          simp only [Option.some.injEq, Prod.mk.injEq] at hs'
          obtain ⟨rfl, rfl, rfl⟩ := hs'
          have had' := had (by omega)
          subst had'
          refine .same (.pointer (some ⟨b, ob + off * k + i.toNat * k, none⟩)) H ?_ ?_
          · simp only [execOp, ho]
            refine run_value ?_
            simp [Instr.indexAt, asIntOf, hix, run_underlying_ok hd, hu, h0, hn, run_sizeOf_ok hsz, addr_add]
          · have := Rep.mptr (σ := σ) (I := I) (w := w) d1 s g (off + i.toNat) 0 b ob k hs
            rw [Nat.add_zero, Nat.add_mul, ← Nat.add_assoc] at this
            exact this
      · cases hop
    · cases hop
  · rename_i n e d1 s g j oo hd he
    rw [he] at hr
    simp only [Option.bind_eq_some_iff] at hop
    obtain ⟨size, hsz, hop⟩ := hop
    split at hop
    · rename_i hc
      obtain ⟨b, ob, k, hs, hu⟩ := rep_mptr hr
      simp only [Option.some.injEq, Prod.mk.injEq] at hop
      obtain ⟨rfl, rfl⟩ := hop
      refine .same (.pointer (some ⟨b, ob + j * k + oo + i.toNat * size, none⟩)) H ?_ ?_
      · simp only [execOp, ho]
        refine run_value ?_
        simp [Instr.indexAt, asIntOf, hix, run_underlying_ok hd, hu, hc.1, hc.2, run_sizeOf_ok hsz, addr_add, Instr.sureAddr]
      · rw [Nat.add_assoc]
        exact .mptr d1 s g j (oo + i.toNat * size) b ob k hs
    · cases hop
  · rename_i n e r oo hd he
    rw [he] at hr
    simp only [Option.bind_eq_some_iff] at hop
    obtain ⟨size, hsz, hop⟩ := hop
    split at hop
    · rename_i hc
      simp only [Option.some.injEq, Prod.mk.injEq] at hop
      obtain ⟨rfl, rfl⟩ := hop
      have hr' := rep_pv hr
      generalize hu : ρc x = u at hr'
      cases hr' with
      | ptr _ _ b ob vs hI hcl hr2 =>
        refine .same (.pointer (some ⟨b, ob + oo + i.toNat * size, none⟩)) H ?_ ?_
        · simp only [execOp, ho]
          refine run_value ?_
          simp [Instr.indexAt, asIntOf, hix, run_underlying_ok hd, hu, hc.1, hc.2, run_sizeOf_ok hsz, addr_add, Instr.sureAddr]
        · rw [Nat.add_assoc]
          exact .pv _ _ (.ptr r (oo + i.toNat * size) b ob vs hI hcl hr2)
    · cases hop
  · cases hop
theorem run_part {t : TypeId} {m off : Nat} {ag : Bool} {us : List Value} (hm : szOf P t = some m) (ha : aggT P t = some ag) :
    (ag = true → off + m ≤ us.length → (part t us.toArray off).run P w = .ok (.agg ((us.drop off).take m).toArray) w) ∧
    (ag = false → ∀ x, us[off]? = some x → (part t us.toArray off).run P w = .ok x w) := by
  refine ⟨?_, ?_⟩
  · rintro rfl hle
    simp only [part, Sem.run_bind, run_isAgg_ok ha, Result.andThen_ok, if_true, run_sizeOf_ok hm, Sem.run_pure]
    congr 2
    apply Array.ext'
    simp [List.extract_eq_take_drop]
  · rintro rfl x hx
    simp [part, run_isAgg_ok ha, hx]
theorem agg_val {v : AV} {u : Value} (hv : v.isAgg = true) (hr : Rep σ I w v u) : v.ok = true ∧ ∃ us : List Value, u = .agg us.toArray ∧ u.cells.toList = us := by
  cases hr with
  | pv p _ hp =>
    cases hp with
    | agg cs vs hl h1 hr => exact ⟨rfl, vs, rfl, rfl⟩
    | _ => cases hv
  | agg cs vs hl h1 hr => exact ⟨rfl, vs, rfl, rfl⟩
  | _ => cases hv
theorem sub_part {t : TypeId} {m off : Nat} {ag : Bool} {x v' : AV} {u : Value} (hm : szOf P t = some m) (ha : aggT P t = some ag) (hx : x.isAgg = true) (hr : Rep σ I w x u) (hs : subA ag m off x = some v') :
    ∃ us y, u = .agg us ∧ (part t us off).run P w = .ok y w ∧ Rep σ I w v' y := by
  obtain ⟨hok, us, rfl, hus⟩ := agg_val hx hr
  obtain ⟨h1, h2, h3⟩ := hr.cells hok
  have hsub := subA_sound (σ := σ) (I := I) (w := w) hs (us := us) (by simpa [Value.cells] using h1) (by simpa [Value.cells] using h2) fun j c x hc hx => h3 j c x hc (by simpa [Value.cells] using hx)
  have hpart := run_part (P := P) (w := w) (off := off) (us := us) hm ha
  cases ag with
  | true => exact ⟨_, _, rfl, hpart.1 rfl (hsub.1 rfl).1, (hsub.1 rfl).2⟩
  | false =>
    obtain ⟨y, hy, hp⟩ := hsub.2 rfl
    exact ⟨_, y, rfl, hpart.2 rfl y hy, hp⟩
theorem index_sound {t : TypeId} {x ix : Operand} (ho : o.op = .index t x ix) (hop : aop P o ρ d gen h = some (v, h')) (hρ : ∀ x, Rep σ I w (ρ x) (ρc x)) (H : HRep σ I base w h) :
    OpOk σ I base w gen ((execOp ρc o).run P w) v h' := by
  simp only [aop, ho] at hop
  have hr := hρ x
  have hi := hρ ix
  split at hop
  · rename_i s k i hd he hei
    rw [he] at hr
    rw [hei] at hi
    have hu := prep_lit (rep_pv hr)
    have hix := prep_lit (rep_pv hi)
    split at hop
    · rename_i h0
      simp only [Option.some.injEq, Prod.mk.injEq] at hop
      obtain ⟨rfl, rfl⟩ := hop
      refine .same (.int .u8 (s[i.toNat]'h0.2).toNat) H ?_ (.pv _ _ (.lit _))
      simp only [execOp, ho]
      refine run_value ?_
      have : s[i.toNat]? = some (s[i.toNat]'h0.2) := by exact getElem?_pos s i.toNat h0.2
      simp [Instr.index, asIntOf, hix, run_underlying_ok hd, hu, h0.1, this]
    · cases hop
  · rename_i n e x' k i hd hei
    rw [hei] at hi
    have hix := prep_lit (rep_pv hi)
    split at hop
    · rename_i hc
      simp only [Option.bind_eq_some_iff] at hop
      obtain ⟨size, hsz, ag, hag, hop⟩ := hop
      split at hop
      · rename_i hagg
        simp only [Option.map_eq_some_iff, Prod.mk.injEq] at hop
        obtain ⟨v', hv', rfl, rfl⟩ := hop
        obtain ⟨us, y, hu, hpart, hry⟩ := sub_part (P := P) hsz hag hagg hr hv'
        refine .same y H ?_ hry
        simp only [execOp, ho]
        refine run_value ?_
        simp [Instr.index, asIntOf, hix, run_underlying_ok hd, hu, hc.1, hc.2, run_sizeOf_ok hsz, hpart]
      · cases hop
    · cases hop
  · cases hop
theorem field_sound {t : TypeId} {x : Operand} {f : Nat} (ho : o.op = .field t x f) (hop : aop P o ρ d gen h = some (v, h')) (hρ : ∀ x, Rep σ I w (ρ x) (ρc x)) (H : HRep σ I base w h) :
    OpOk σ I base w gen ((execOp ρc o).run P w) v h' := by
  simp only [aop, ho] at hop
  have hr := hρ x
  split at hop
  · rename_i fields hd
    simp only [Option.bind_eq_some_iff] at hop
    obtain ⟨fd, hfd, size, hsz, ag, hag, hop⟩ := hop
    split at hop
    · rename_i hagg
      simp only [Option.map_eq_some_iff, Prod.mk.injEq] at hop
      obtain ⟨v', hv', rfl, rfl⟩ := hop
      obtain ⟨us, y, hu, hpart, hry⟩ := sub_part (P := P) hsz hag hagg hr hv'
      refine .same y H ?_ hry
      simp only [execOp, ho]
      refine run_value ?_
      simp [Instr.field, run_underlying_ok hd, hfd, hu, asAgg, hpart]
    · cases hop
  · cases hop
theorem extract_sound {x : Operand} {i : Nat} (ho : o.op = .extract x i) (hop : aop P o ρ d gen h = some (v, h')) (hρ : ∀ x, Rep σ I w (ρ x) (ρc x)) (H : HRep σ I base w h) :
    OpOk σ I base w gen ((execOp ρc o).run P w) v h' := by
  simp only [aop, ho] at hop
  have hr := hρ x
  split at hop
  · rename_i vs he
    rw [he] at hr
    simp only [Option.map_eq_some_iff, Prod.mk.injEq] at hop
    obtain ⟨p, hp, rfl, rfl⟩ := hop
    have hr' := rep_pv hr
    generalize hu : ρc x = u at hr'
    cases hr' with
    | tup _ us hl hr2 =>
      have hi := (List.getElem?_eq_some_iff.1 hp).1
      have hy : us[i]? = some us[i] := List.getElem?_eq_getElem (by omega)
      refine .same us[i] H ?_ (.pv _ _ (hr2 i p _ hp hy))
      simp only [execOp, ho]
      refine run_value ?_
      simp [Instr.extract, hu, hy]
  · rename_i vs he
    rw [he] at hr
    simp only [Option.map_eq_some_iff, Prod.mk.injEq] at hop
    obtain ⟨p, hp, rfl, rfl⟩ := hop
    generalize hu : ρc x = u at hr
    cases hr with
    | tup _ us hl hr2 =>
      have hi := (List.getElem?_eq_some_iff.1 hp).1
      have hy : us[i]? = some us[i] := List.getElem?_eq_getElem (by omega)
      refine .same us[i] H ?_ (hr2 i p _ hp hy)
      simp only [execOp, ho]
      refine run_value ?_
      simp [Instr.extract, hu, hy]
  · cases hop
end
end Go.Proofs.YtcoeigibikbfdaaGreatDoor.Abs

namespace Go.Proofs.YtcoeigibikbfdaaGreatDoor.Abs
open Go Go.RowKit
variable {σ σ' : Sig} {I I' : Blk} {base : Blk} {w w' : World} {h : Heap} {P : Program}
theorem splice_get {α : Type} {l new : List α} {off : Nat} (hle : off + new.length ≤ l.length) (k : Nat) :
    (splice l off new)[k]? = if off ≤ k ∧ k < off + new.length then new[k - off]? else l[k]? := by
  unfold splice
  have hl1 : (l.take off).length = off := by simp; omega
  rcases Nat.lt_or_ge k off with hk | hk
  · rw [if_neg (by omega), List.append_assoc, List.getElem?_append_left (by omega), List.getElem?_take, if_pos hk]
  · rcases Nat.lt_or_ge k (off + new.length) with hk2 | hk2
    · rw [if_pos ⟨hk, hk2⟩, List.append_assoc, List.getElem?_append_right (by omega), hl1, List.getElem?_append_left (by omega)]
    · rw [if_neg (by omega), List.getElem?_append_right (by simp [hl1]; omega), List.getElem?_drop]
      congr 1
      simp [hl1]
      omega
theorem splice_length {α : Type} {l new : List α} {off : Nat} (hle : off + new.length ≤ l.length) : (splice l off new).length = l.length := by
  unfold splice
  simp
  omega
theorem mkAgg_cells (l : List AV) : (mkAgg l).cells = l := by
  unfold mkAgg
  cases ha : allPV l with
  | none => rfl
  | some ps => rw [allPV_map ha]; rfl
theorem mkAgg_ok (l : List AV) : (mkAgg l).ok = true := by
  unfold mkAgg
  cases ha : allPV l <;> rfl
theorem ok_of_rep {v : AV} {u : Value} (hr : Rep σ I w v u) (hu : u.oneCell' = true) : v.ok = true ∧ v.cells = [v] := by
  cases hr with
  | pv p _ hp =>
    cases hp with
    | lit => exact ⟨hu, rfl⟩
    | agg => cases hu
    | tup => cases hu
    | _ => exact ⟨rfl, rfl⟩
  | agg => cases hu
  | tup => cases hu
  | _ => exact ⟨rfl, rfl⟩
theorem pok_of_rep {v : PV} {u : Value} (hr : PRep I w v u) (hu : u.oneCell' = true) : v.ok = true ∧ v.cells = [v] := by
  cases hr with
  | lit => exact ⟨hu, rfl⟩
  | agg => cases hu
  | tup => cases hu
  | _ => exact ⟨rfl, rfl⟩
theorem run_storeVar {t : TypeId} {m b o n : Nat} {e : TypeId} {u : Value} (hm : szOf P t = some m) (hu : u.cells.size = m) (hs : w.shape? b = some (e, n)) (hn : o + m ≤ n) (hf : Fr w n b)
    (h1 : ∀ x ∈ u.cells.toList, x.oneCell' = true) : (storeVar t ⟨b, o, none⟩ u).run P w = .ok () (w.setCells b o u.cells.toList) := by
  have := run_storeCells_row (P := P) (w := w) (b := b) (o := o) (vs := u.cells.toList) hs (by simpa [hu] using hn) hf h1
  simp only [storeVar, Sem.run_bind, run_sizeOf_ok hm, Result.andThen_ok]
  rw [if_neg (by simp [hu])]
  simpa using this
theorem HRep.store (H : HRep σ I base w h) {d s g : Nat} {bd bd' : Body} {b o k off : Nat} {us : List Value} (hl : Abs.live h d s g = bd) (hne : bd ≠ .dead) (hs : σ g = some (b, o, k))
    (hb : blkOf σ ⟨g, bd⟩ = some b) (hb' : blkOf σ ⟨g, bd'⟩ = some b) (hr : RowRep σ I base (w.setCells b off us) ⟨g, bd'⟩) :
    HRep σ I base (w.setCells b off us) (hput h d s ⟨g, bd'⟩) ∧ Ext base σ I w σ I (w.setCells b off us) := by
  have hrow := live_row hl hne
  have hf := blkOf_facts (H.rows d s) (by rw [hrow]; exact hb)
  have hk : Keep I w (w.setCells b off us) := setCells_keep hf.2.1
  refine ⟨H.put (fun _ _ h => h) (fun _ h => h) hk (hk.inW H.inW) d s _ hr ?_, ⟨fun _ _ h => h, fun _ h => h, fun _ h => .inl h, hk, setCells_below hf.2.2⟩⟩
  intro d' s' b' hne' hb2
  have hf' := blkOf_facts (H.rows d' s') hb2
  have hbb : b' ≠ b := fun e => hne' (H.apart d s d' s' b (by rw [hrow]; exact hb) (e ▸ hb2))
  exact ⟨setCells_other b us off w b' hbb, hf'.2.1, by rw [hb']; simpa using Ne.symm hbb⟩
theorem setA_sound {v v' : AV} {off : Nat} {new : List AV} (hs : setA v off new = some v') (hnew : ∀ (c : AV), c ∈ new → c.ok = true ∧ c.cells = [c]) (hne : v.isAgg = false → new.length ≠ 0) (hv : v.isAgg = false → v.cells = [v]) :
    off + new.length ≤ v.cells.length ∧ v'.cells = splice v.cells off new ∧ v'.ok = true := by
  unfold setA at hs
  split at hs
  · rename_i hle
    have hle := hle.1
    split at hs
    · injection hs with hs
      subst hs
      exact ⟨hle, mkAgg_cells _, mkAgg_ok _⟩
    · rename_i hag
      have hag : v.isAgg = false := by simpa using hag
      have hv := hv hag
      match new, hs with
      | c :: rest, hs =>
        simp only [List.head?_cons, Option.some.injEq] at hs
        subst hs
        rw [hv] at hle
        simp at hle
        have hrest : rest = [] := List.eq_nil_of_length_eq_zero (by omega)
        have hoff : off = 0 := by omega
        subst hrest; subst hoff
        have := hnew c (by simp)
        exact ⟨by rw [hv]; simp, by rw [hv, this.2]; simp [splice], this.1⟩
  · cases hs
theorem setA_tag {v v' : AV} {off : Nat} {new : List AV} (hs : setA v off new = some v') (hnew : ∀ (c : AV), c ∈ new → c.cells = [c]) : tagOf v' = tagOf v ∨ tagOf v' = none := by
  unfold setA at hs
  split at hs
  · rename_i hle
    obtain ⟨hle, ht⟩ := hle
    have nt : ∀ c ∈ new, ∀ t, c ≠ .btag t := fun c hc t e => by
      have := List.any_eq_false.1 ht c hc
      subst e
      exact this rfl
    have one : ∀ (c : AV), (∀ t, c ≠ .btag t) → headTag (some c) = none := fun c hc => by
      cases c <;> first | rfl | exact absurd rfl (hc _)
    split at hs
    · injection hs with hs
      subst hs
      unfold tagOf
      rw [mkAgg_cells]
      cases off with
      | zero =>
        cases new with
        | nil => left; simp [splice]
        | cons c l => right; simp only [splice, List.take_zero, List.nil_append, List.cons_append, List.head?_cons]; exact one c (nt c (by simp))
      | succ k =>
        left
        cases hv : v.cells with
        | nil => rw [hv] at hle; simp at hle
        | cons c l => simp [splice]
    · right
      have hm : v' ∈ new := List.mem_of_mem_head? (by rw [hs]; rfl)
      unfold tagOf
      rw [hnew v' hm]
      exact one v' (nt v' hm)
  · cases hs
theorem box_tag {g b k n : Nat} {e : TypeId} {v : AV} {fz : Bool} (hr : RowRep σ I base w ⟨g, .box v fz⟩) (hs : σ g = some (b, 0, k)) (hsh : w.shape? b = some (e, n)) : boxOk e v = true := by
  obtain ⟨b1, e1, h1, h2, h3, _⟩ := hr
  simp only [] at h1
  rw [hs] at h1
  simp only [Option.some.injEq, Prod.mk.injEq] at h1
  obtain ⟨rfl, _⟩ := h1
  rw [hsh] at h2
  simp only [Option.some.injEq, Prod.mk.injEq] at h2
  rw [h2.1]
  exact h3
theorem setP_sound {v v' : PV} {off : Nat} {new : List PV} (hs : setP v off new = some v') (hnew : ∀ (c : PV), c ∈ new → c.ok = true ∧ c.cells = [c]) (hne : v.isAgg = false → new.length ≠ 0) (hv : v.isAgg = false → v.cells = [v]) :
    off + new.length ≤ v.cells.length ∧ v'.cells = splice v.cells off new ∧ v'.ok = true := by
  unfold setP at hs
  split at hs
  · rename_i hle
    split at hs
    · injection hs with hs
      subst hs
      exact ⟨hle, rfl, rfl⟩
    · rename_i hag
      have hag : v.isAgg = false := by simpa using hag
      have hv := hv hag
      match new, hs with
      | c :: rest, hs =>
        simp only [List.head?_cons, Option.some.injEq] at hs
        subst hs
        rw [hv] at hle
        simp at hle
        have hrest : rest = [] := List.eq_nil_of_length_eq_zero (by omega)
        have hoff : off = 0 := by omega
        subst hrest; subst hoff
        have := hnew c (by simp)
        exact ⟨by rw [hv]; simp, by rw [hv, this.2]; simp [splice], this.1⟩
  · cases hs
theorem noAgg_cells {v : AV} (hv : v.isAgg = false) : v.cells = [v] := by
  cases v with
  | pv p => cases p <;> first | rfl | cases hv
  | agg => cases hv
  | _ => rfl
theorem noAgg_cellsP {v : PV} (hv : v.isAgg = false) : v.cells = [v] := by cases v <;> first | rfl | cases hv
theorem list_mem_get {α : Type} {l : List α} {x : α} (hx : x ∈ l) : ∃ j : Nat, l[j]? = some x := by
  obtain ⟨j, hj, rfl⟩ := List.mem_iff_getElem.1 hx
  exact ⟨j, List.getElem?_eq_getElem hj⟩
section
variable {ρ : Operand → AV} {ρc : Operand → Value} {d gen : Nat} {o : Oper} {v : AV} {h' : Heap}
theorem undef_rep : Rep σ I w undefA undef := .pv _ _ (.lit _)
theorem box_put {d1 s g b off : Nat} {v0 v' : AV} {new : List AV} {vs : List Value} (H : HRep σ I base w h) (hl : live h d1 s g = .box v0 false) (hs : σ g = some (b, 0, 1)) (hlen : vs.length = new.length)
    (hx2 : ∀ x ∈ vs, x.oneCell' = true) (hx3 : ∀ (j : Nat) (p : AV) (u : Value), new[j]? = some p → vs[j]? = some u → Rep σ I w p u) (hne : new.length ≠ 0) (hv' : setA v0 off new = some v') :
    HRep σ I base (w.setCells b off vs) (hput h d1 s ⟨g, .box v' false⟩) ∧ Ext base σ I w σ I (w.setCells b off vs) ∧ ∃ e n, w.shape? b = some (e, n) ∧ off + vs.length ≤ n ∧ Fr w n b := by
  obtain ⟨b0, k0, e0, u0, hs0, hsh, hok0, hru, hz, hf, h1c, hszu, hcell⟩ := box_val (H.live hl (by simp))
  rw [hs] at hs0
  simp only [Option.some.injEq, Prod.mk.injEq] at hs0
  obtain ⟨rfl, _, _⟩ := hs0
  have hnew : ∀ (c : AV), c ∈ new → c.ok = true ∧ c.cells = [c] := by
    intro c hc
    obtain ⟨j, hj⟩ := list_mem_get hc
    have hlt := (List.getElem?_eq_some_iff.1 hj).1
    have hv : vs[j]? = some vs[j] := by simp
    exact ok_of_rep (hx3 j c _ hj hv) (hx2 _ (by simp))
  obtain ⟨hle, hvc, hvok⟩ := setA_sound hv' hnew (fun _ => hne) noAgg_cells
  have hrow : RowRep σ I base (w.setCells b off vs) ⟨g, .box v' false⟩ := by
    have hk : Keep I w (w.setCells b off vs) := setCells_keep hz.1
    refine ⟨b, e0, hs, ?_, boxOk_of (box_tag (H.live hl (by simp)) hs hsh) hvok (setA_tag hv' fun c hc => (hnew c hc).2), fun j p hp => ?_, ⟨hz.1, hz.2.1, fun j hj => ?_⟩⟩
    · rw [setCells_shape, hsh, hvc, splice_length hle]
    · rw [hvc, splice_get hle] at hp
      split at hp
      · rename_i hj
        have hlt := (List.getElem?_eq_some_iff.1 hp).1
        refine ⟨vs[j - off]'(by omega), ?_, hx2 _ (by simp), (hx3 (j - off) p _ hp (by simp)).mono (fun _ _ h => h) (fun _ h => h) hk⟩
        have := setCells_in (w := w) (b := b) (o := off) (vs := vs) hsh (by omega) (j := j - off) (by omega)
        rw [show off + (j - off) = j by omega] at this
        exact this
      · rename_i hj
        have hlt := (List.getElem?_eq_some_iff.1 hp).1
        have hcj := Array.getElem?_eq_getElem (xs := u0.cells) (i := j) (by omega)
        refine ⟨u0.cells[j], ?_, h1c _ (by simp), ((hru.cells hok0).2.2 j p _ hp hcj).mono (fun _ _ h => h) (fun _ h => h) hk⟩
        rw [setCells_out (by omega)]
        exact hcell j _ hcj
    · rw [World.frozen?_setCells]
      exact hz.2.2 j (by rw [hvc, splice_length hle] at hj; exact hj)
  obtain ⟨H', E'⟩ := H.store hl (by simp) hs (by simp [blkOf, hs]) (bd' := .box v' false) (by simp [blkOf, hs]) hrow
  exact ⟨H', E', e0, _, hsh, by omega, hz.2.2⟩
theorem store_sound {t : TypeId} {a x : Operand} (ho : o.op = .store t a x) (hop : aop P o ρ d gen h = some (v, h')) (hρ : ∀ x, Rep σ I w (ρ x) (ρc x)) (H : HRep σ I base w h) :
    OpOk σ I base w gen ((execOp ρc o).run P w) v h' := by
  simp only [aop, ho, Option.bind_eq_bind, Option.bind_eq_some_iff] at hop
  obtain ⟨m, hm, hop⟩ := hop
  split at hop
  case isFalse => cases hop
  rename_i hsz
  obtain ⟨hsz, hm0, hok⟩ := hsz
  obtain ⟨hx1, hx2, hx3⟩ := (hρ x).cells hok
  have hra := hρ a
  have fin : ∀ {ad : Addr} {w' : World}, ρc a = .pointer (some ad) → (storeVar t ad (ρc x)).run P w = .ok () w' → (execOp ρc o).run P w = .ok .skip w' := by
    intro ad w' hp hl
    simp only [execOp, ho]
    exact run_skip (by simp [Instr.storeAt, Instr.sureAddr, hp, hl])
  split at hop
  case h_2 => cases hop
  rename_i d1 s g i off he
  rw [he] at hra
  obtain ⟨b, ob, k, hs, hu⟩ := rep_mptr hra
  split at hop
  · rename_i v0 hl
    split at hop
    case isFalse => cases hop
    rename_i hi
    subst hi
    simp only [Option.map_eq_some_iff, Prod.mk.injEq] at hop
    obtain ⟨v', hv', rfl, rfl⟩ := hop
    obtain ⟨b0, k0, e0, u0, hs0, hsh, hok0, hru, hz, hf, h1c, hszu, hcell⟩ := box_val (H.live hl (by simp))
    rw [hs] at hs0
    simp only [Option.some.injEq, Prod.mk.injEq] at hs0
    obtain ⟨rfl, rfl, rfl⟩ := hs0
    have hnew : ∀ (c : AV), c ∈ (ρ x).cells → c.ok = true ∧ c.cells = [c] := by
      intro c hc
      obtain ⟨j, hj⟩ := list_mem_get hc
      have hlt := (List.getElem?_eq_some_iff.1 hj).1
      exact ok_of_rep (hx3 j c _ hj (Array.getElem?_eq_getElem (by omega))) (hx2 _ (by simp))
    obtain ⟨hle, hvc, hvok⟩ := setA_sound hv' hnew (fun _ => by omega) noAgg_cells
    have hlenN : (ρc x).cells.toList.length = (ρ x).cells.length := by simpa using hx1
    have hrun := run_storeVar (P := P) (u := ρc x) (b := b) (o := 0 + 0 * k + off) hm (by omega) hsh (by omega) hz.2.2 hx2
    simp only [Nat.zero_mul, Nat.add_zero, Nat.zero_add] at hu hrun
    have hrow : RowRep σ I base (w.setCells b off (ρc x).cells.toList) ⟨g, .box v' false⟩ := by
      have hk : Keep I w (w.setCells b off (ρc x).cells.toList) := setCells_keep hz.1
      refine ⟨b, e0, by rw [hs, hf], ?_, boxOk_of (box_tag (H.live hl (by simp)) hs hsh) hvok (setA_tag hv' fun c hc => (hnew c hc).2), fun j p hp => ?_, ⟨hz.1, hz.2.1, fun j hj => ?_⟩⟩
      · rw [setCells_shape, hsh, hvc, splice_length hle]
      · rw [hvc, splice_get hle] at hp
        split at hp
        · rename_i hj
          have hlt := (List.getElem?_eq_some_iff.1 hp).1
          refine ⟨(ρc x).cells.toList[j - off]'(by omega), ?_, hx2 _ (by simp), (hx3 (j - off) p _ hp (by simp)).mono (fun _ _ h => h) (fun _ h => h) hk⟩
          have := setCells_in (w := w) (b := b) (o := off) (vs := (ρc x).cells.toList) hsh (by omega) (j := j - off) (by omega)
          rw [show off + (j - off) = j by omega] at this
          exact this
        · rename_i hj
          have hlt := (List.getElem?_eq_some_iff.1 hp).1
          have hcj := Array.getElem?_eq_getElem (xs := u0.cells) (i := j) (by omega)
          refine ⟨u0.cells[j], ?_, h1c _ (by simp), ((hru.cells hok0).2.2 j p _ hp hcj).mono (fun _ _ h => h) (fun _ h => h) hk⟩
          rw [setCells_out (by omega)]
          exact hcell j _ hcj
      · rw [World.frozen?_setCells]
        exact hz.2.2 j (by rw [hvc, splice_length hle] at hj; exact hj)
    obtain ⟨H', E'⟩ := H.store hl (by simp) hs (by simp [blkOf, hs]) (bd' := .box v' false) (by simp [blkOf, hs]) hrow
    exact ⟨_, _, undef, σ, I, fin hu hrun, .inr ⟨rfl, rfl⟩, undef_rep, H', E', fun _ _ => rfl⟩
  · rename_i k0 e0 xs hl
    simp only [Option.bind_eq_some_iff, Prod.exists] at hop
    obtain ⟨p, h1, hp, hop⟩ := hop
    split at hop
    case h_2 => cases hop
    rename_i k1 e1 xs1 hl1
    simp only [Option.bind_eq_some_iff] at hop
    obtain ⟨y, hy, hop⟩ := hop
    split at hop
    case isFalse => cases hop
    simp only [Option.map_eq_some_iff, Prod.mk.injEq] at hop
    obtain ⟨y', hy', rfl, rfl⟩ := hop
    obtain ⟨I1, hpr, H1, m1⟩ := frz_sound _ _ _ _ _ _ _ hp (hρ x) H
    have hpok := frz_ok hp hok
    obtain ⟨hp1, hp2, hp3⟩ := hpr.cells hpok
    have hr1 := H1.live hl1 (by simp)
    obtain ⟨b', o', n', hs', hb', hbase, _, hn, hsh, hxk, hc, hz⟩ := row_block hr1
    rw [hs] at hs'
    simp only [Option.some.injEq, Prod.mk.injEq] at hs'
    obtain ⟨rfl, rfl, rfl⟩ := hs'
    have hnew : ∀ (c : PV), c ∈ p.cells → c.ok = true ∧ c.cells = [c] := by
      intro c hc
      obtain ⟨j, hj⟩ := list_mem_get hc
      have hlt := (List.getElem?_eq_some_iff.1 hj).1
      exact pok_of_rep (hp3 j c _ hj (Array.getElem?_eq_getElem (by omega))) (hp2 _ (by simp))
    obtain ⟨hle, hvc, hvok⟩ := setP_sound hy' hnew (fun _ => by omega) noAgg_cellsP
    obtain ⟨hyk, hyok⟩ := hxk y (List.mem_of_getElem? hy)
    have hi := (List.getElem?_eq_some_iff.1 hy).1
    have hlenN : (ρc x).cells.toList.length = p.cells.length := by simpa using hp1
    have hmul : (i + 1) * k ≤ xs1.length * k := Nat.mul_le_mul_right k (by omega)
    have hmul' : (i + 1) * k = i * k + k := by rw [Nat.add_mul]; omega
    have hin : ob + i * k + off + (ρc x).cells.toList.length ≤ n' := by omega
    have hrun := run_storeVar (P := P) (u := ρc x) (b := b) (o := ob + i * k + off) hm (by omega) hsh (by omega) hz.2.2 hx2
    have hk : Keep I1 w (w.setCells b (ob + i * k + off) (ρc x).cells.toList) := setCells_keep hz.1
    have hrow : RowRep σ I1 base (w.setCells b (ob + i * k + off) (ρc x).cells.toList) ⟨g, .row k e1 (xs1.set i y') false⟩ := by
      refine ⟨b, ob, n', hs, by rw [setCells_shape]; exact hsh, by simpa using hn, fun z hzm => ?_, fun i' z hz' j q hq => ?_, ⟨hz.1, hz.2.1, fun j hj => by rw [World.frozen?_setCells]; exact hz.2.2 j hj⟩⟩
      · rcases List.mem_or_eq_of_mem_set hzm with hmem | rfl
        · exact hxk z hmem
        · exact ⟨by rw [hvc, splice_length hle, hyk], hvok⟩
      · rw [List.getElem?_set] at hz'
        by_cases hii : i = i'
        · subst hii
          rw [if_pos rfl, if_pos hi] at hz'
          injection hz' with hz'
          subst hz'
          rw [hvc, splice_get hle] at hq
          split at hq
          · rename_i hj
            have hlt := (List.getElem?_eq_some_iff.1 hq).1
            refine ⟨(ρc x).cells.toList[j - off]'(by omega), ?_, hx2 _ (by simp), (hp3 (j - off) q _ hq (by simp)).mono (fun _ h => h) hk.keep⟩
            have := setCells_in (w := w) (b := b) (o := ob + i * k + off) (vs := (ρc x).cells.toList) hsh hin (j := j - off) (by omega)
            rw [show ob + i * k + off + (j - off) = ob + i * k + j by omega] at this
            exact this
          · rename_i hj
            have hlt := (List.getElem?_eq_some_iff.1 hq).1
            obtain ⟨u, hu1, hu2, hu3⟩ := hc i y hy j q hq
            exact ⟨u, by rw [setCells_out (by omega)]; exact hu1, hu2, hu3.mono (fun _ h => h) hk.keep⟩
        · rw [if_neg hii] at hz'
          obtain ⟨u, hu1, hu2, hu3⟩ := hc i' z hz' j q hq
          have hjk : j < k := by rw [← (hxk z (List.mem_of_getElem? hz')).1]; exact (List.getElem?_eq_some_iff.1 hq).1
          refine ⟨u, ?_, hu2, hu3.mono (fun _ h => h) hk.keep⟩
          rw [setCells_out]
          · exact hu1
          · rcases Nat.lt_or_ge i' i with hlt | hge
            · left
              have : (i' + 1) * k ≤ i * k := Nat.mul_le_mul_right k (by omega)
              rw [Nat.add_mul] at this
              omega
            · right
              have : (i + 1) * k ≤ i' * k := Nat.mul_le_mul_right k (by omega)
              omega
    obtain ⟨H', E'⟩ := H1.store hl1 (by simp) hs (by simp [blkOf, hs]) (bd' := .row k e1 (xs1.set i y') false) (by simp [blkOf, hs]) hrow
    exact ⟨_, _, undef, σ, I1, fin hu hrun, .inr ⟨rfl, rfl⟩, undef_rep, H', m1.ext.trans E', fun _ _ => rfl⟩
  · cases hop
end
end Go.Proofs.YtcoeigibikbfdaaGreatDoor.Abs

namespace Go.Proofs.YtcoeigibikbfdaaGreatDoor.Abs
open Go Go.RowKit
variable {σ σ' : Sig} {I I' : Blk} {base : Blk} {w w' : World} {h : Heap} {P : Program}
theorem fill_cells (off : Nat) (v : Value) (cells : Array Value) :
    ((v.cells.zipIdx.foldl (fun cs (x : Value × Nat) => cs.setIfInBounds (off + x.2) x.1) cells)).size = cells.size ∧
    ∀ k, (v.cells.zipIdx.foldl (fun cs (x : Value × Nat) => cs.setIfInBounds (off + x.2) x.1) cells)[k]? =
      if off ≤ k ∧ k < off + v.cells.size ∧ k < cells.size then v.cells[k - off]? else cells[k]? := by
  have := Great.foldl_set off v.cells.toList 0 cells
  rw [← Array.foldl_toList, Array.toList_zipIdx]
  simpa using this
structure PW (σ : Sig) (I : Blk) (w : World) (cs : List AV) (us : Array Value) : Prop where
  len : us.size = cs.length
  one : ∀ x ∈ us.toList, x.oneCell' = true
  rep : ∀ (j : Nat) (c : AV) (x : Value), cs[j]? = some c → us[j]? = some x → Rep σ I w c x
theorem fill_sound {place : Nat → Option (Nat × Nat)} : ∀ (parts : List (Nat × AV)) (pc : List (Nat × Value)) (cs cs' : List AV) (us : Array Value),
    fillA place cs parts = some cs' → PW σ I w cs us → pc.length = parts.length → (∀ (j : Nat) (p : Nat × AV) (q : Nat × Value), parts[j]? = some p → pc[j]? = some q → p.1 = q.1 ∧ Rep σ I w p.2 q.2) →
    ∃ us', Instr.fill place us pc = some us' ∧ PW σ I w cs' us'
  | [], [], cs, cs', us, hf, hp, _, _ => by
    simp only [fillA, Option.some.injEq] at hf
    subst hf
    exact ⟨us, rfl, hp⟩
  | (i, v) :: parts, (i', u) :: pc, cs, cs', us, hf, hp, hl, hr => by
    obtain ⟨hii, hru⟩ := hr 0 (i, v) (i', u) rfl rfl
    have hru : Rep σ I w v u := hru
    have hii : i = i' := hii
    subst hii
    simp only [fillA] at hf
    split at hf
    · cases hf
    · rename_i off size hpl
      split at hf
      · rename_i hc
        obtain ⟨hsz, hle, hok⟩ := hc
        obtain ⟨h1, h2, h3⟩ := Rep.cells hru hok
        have h1 : u.cells.size = v.cells.length := h1
        have hsz : v.cells.length = size := hsz
        obtain ⟨hs1, hs2⟩ := fill_cells off u us
        have hle' : off + v.cells.length ≤ cs.length := by omega
        have hlen := hp.len
        have hp' : PW σ I w (splice cs off v.cells) (u.cells.zipIdx.foldl (fun cs (x : Value × Nat) => cs.setIfInBounds (off + x.2) x.1) us) := by
          refine ⟨by rw [hs1, splice_length hle', hlen], fun x hx => ?_, fun j c x hc hx => ?_⟩
          · obtain ⟨j, hj⟩ := list_mem_get hx
            rw [Array.getElem?_toList, hs2] at hj
            split at hj
            · exact h2 x (List.mem_of_getElem? (i := j - off) (by simpa using hj))
            · exact hp.one x (List.mem_of_getElem? (i := j) (by simpa using hj))
          · rw [hs2] at hx
            rw [splice_get hle'] at hc
            by_cases hj : off ≤ j ∧ j < off + v.cells.length
            · rw [if_pos hj] at hc
              rw [if_pos (by omega)] at hx
              exact h3 _ c x hc hx
            · rw [if_neg hj] at hc
              rw [if_neg (by omega)] at hx
              exact hp.rep j c x hc hx
        obtain ⟨us', hf', hp''⟩ := fill_sound parts pc _ cs' _ hf hp' (by simpa using hl) fun j p q hpj hqj => hr (j + 1) p q (by simpa using hpj) (by simpa using hqj)
        refine ⟨us', ?_, hp''⟩
        simp only [Instr.fill, hpl]
        have e1 : u.cells.size = size := by omega
        have hcond : ¬ ((u.cells.size ≠ size || decide (off + u.cells.size > us.size)) = true) := by
          simp [e1]; omega
        rw [if_neg (by simpa using hcond)]
        exact hf'
      · cases hf
theorem zero_cells {z : Value} {n : Nat} (hn : (ofVal z).cells.length = n) (hok : (ofVal z).ok = true) :
    z.cells.size = n ∧ (∀ x ∈ z.cells.toList, x.oneCell' = true) ∧ ∀ (j : Nat) (c : PV) (x : Value), (ofVal z).cells[j]? = some c → z.cells[j]? = some x → PRep I w c x := by
  obtain ⟨h1, h2, h3⟩ := (ofVal_rep (I := I) (w := w) z).cells hok
  exact ⟨by omega, h2, h3⟩
section
variable {ρ : Operand → AV} {ρc : Operand → Value} {d gen : Nat} {o : Oper} {v : AV} {h' : Heap}
theorem parts_rep (hρ : ∀ x, Rep σ I w (ρ x) (ρc x)) (parts : List (Nat × Operand)) (j : Nat) (p : Nat × AV) (q : Nat × Value)
    (hp : (parts.map fun (i, x) => (i, ρ x))[j]? = some p) (hq : (parts.map fun (i, x) => (i, ρc x))[j]? = some q) : p.1 = q.1 ∧ Rep σ I w p.2 q.2 := by
  simp only [List.getElem?_map, Option.map_eq_some_iff] at hp hq
  obtain ⟨x, hx, rfl⟩ := hp
  obtain ⟨y, hy, rfl⟩ := hq
  rw [hx] at hy
  injection hy with hy
  subst hy
  exact ⟨rfl, hρ x.2⟩
theorem places_eq {fields : Array Field} {pl : List (Nat × Nat)} (hp : places P fields = some pl) :
    fields.toList.mapM (fun f => (P.info? f.type).map fun i => (f.offset, i.size)) = some pl := by
  unfold places at hp
  rw [← hp]
  congr 1
  funext f
  unfold szOf
  cases P.info? f.type <;> rfl
theorem build_sound {t : TypeId} {parts : Array (Nat × Operand)} (ho : o.op = .build t parts) (hop : aop P o ρ d gen h = some (v, h')) (hρ : ∀ x, Rep σ I w (ρ x) (ρc x)) (H : HRep σ I base w h) :
    OpOk σ I base w gen ((execOp ρc o).run P w) v h' := by
  simp only [aop, ho, Option.bind_eq_bind, Option.bind_eq_some_iff] at hop
  obtain ⟨z, hz, hop⟩ := hop
  split at hop
  case isFalse => cases hop
  rename_i hzok
  have hpw : PW σ I w ((ofVal z).cells.map AV.pv) z.cells := by
    obtain ⟨h1, h2, h3⟩ := zero_cells (I := I) (w := w) (z := z) rfl hzok
    refine ⟨by simpa using h1, h2, fun j c x hc hx => ?_⟩
    simp only [List.getElem?_map, Option.map_eq_some_iff] at hc
    obtain ⟨c', hc', rfl⟩ := hc
    exact .pv _ _ (h3 j c' x hc' hx)
  have hz' := hz
  unfold zeroOf at hz'
  simp only [Option.bind_eq_some_iff] at hz'
  obtain ⟨it, hit, hitz⟩ := hz'
  have fin : ∀ {cs' : List AV} {place : Nat → Option (Nat × Nat)}, fillA place ((ofVal z).cells.map AV.pv) (parts.toList.map fun (i, x) => (i, ρ x)) = some cs' →
      (∀ cells, Instr.fill place z.cells (parts.map fun (i, x) => (i, ρc x)).toList = some cells → P.built t (parts.map fun (i, x) => (i, ρc x)).toList = some cells) →
      OpOk σ I base w gen ((execOp ρc o).run P w) (mkAgg cs') h := by
    intro cs' place hf hb
    obtain ⟨us', hf', hp'⟩ := fill_sound (σ := σ) (I := I) (w := w) _ (parts.toList.map fun (i, x) => (i, ρc x)) _ cs' z.cells hf hpw (by simp) fun j p q hp hq => parts_rep hρ parts.toList j p q hp hq
    have hbt := hb us' (by simpa using hf')
    refine .same (.agg us') H ?_ ?_
    · simp only [execOp, ho]
      exact run_value (run_build w t _ us' hbt)
    · have := mkAgg_rep (σ := σ) (I := I) (w := w) (cs := cs') (vs := us'.toList) (by simpa using hp'.len) hp'.one fun j p v hp hv => hp'.rep j p v hp (by simpa using hv)
      simpa using this
  split at hop
  · rename_i fields hd
    simp only [Option.bind_eq_some_iff] at hop
    obtain ⟨pl, hpl, cs', hf, hop⟩ := hop
    simp only [Option.some.injEq, Prod.mk.injEq] at hop
    obtain ⟨rfl, rfl⟩ := hop
    refine fin hf fun cells hc => ?_
    have hm := places_eq hpl
    simp only [Program.built, hit, hd, hitz, hm]
    have e : (fun x : Nat => pl.toArray[x]?) = (fun x : Nat => pl[x]?) := by funext x; simp
    rw [e]
    exact hc
  · rename_i n e hd
    simp only [Option.bind_eq_some_iff] at hop
    obtain ⟨size, hsz, cs', hf, hop⟩ := hop
    simp only [Option.some.injEq, Prod.mk.injEq] at hop
    obtain ⟨rfl, rfl⟩ := hop
    refine fin hf fun cells hc => ?_
    unfold szOf at hsz
    simp only [Option.map_eq_some_iff] at hsz
    obtain ⟨ie, hie, rfl⟩ := hsz
    simp only [Program.built, hit, hd, hitz, hie]
    exact hc
  · cases hop
structure RowArr (I : Blk) (w : World) (k : Nat) (xs : List PV) (arr : Array Value) : Prop where
  size : xs.length * k ≤ arr.size
  elem : ∀ x ∈ xs, x.cells.length = k ∧ x.ok = true
  rep : ∀ i x, xs[i]? = some x → ∀ (j : Nat) (p : PV), x.cells[j]? = some p → ∃ u, arr[i * k + j]? = some u ∧ u.oneCell' = true ∧ PRep I w p u
theorem RowArr.mono {k : Nat} {xs : List PV} {arr : Array Value} (hr : RowArr I w k xs arr) (hI : ∀ b, I b → I' b) (hk : ∀ b, I b → w'.heap[b]? = w.heap[b]?) : RowArr I' w' k xs arr :=
  ⟨hr.size, hr.elem, fun i x hi j p hp => by obtain ⟨u, h1, h2, h3⟩ := hr.rep i x hi j p hp; exact ⟨u, h1, h2, h3.mono hI hk⟩⟩
theorem new_row {e : TypeId} {k n cap s : Nat} {full : Bool} {xs : List PV} {arr : Array Value} {fr : Nat × Nat} (H : HRep σ I base w h) (hra : RowArr I w k xs arr) (hg : σ gen = none) (hB : Bnd base w.heap.size)
    (hG : Grows w w' (.cells arr e fr)) (hfr : ∀ j, j < arr.size → w'.frozen? ⟨w.heap.size, j, none⟩ = false) (hn : n ≤ cap) (hfull : full = true → cap = n) (hcap : cap * k ≤ arr.size)
    {run : Result Next} (hrun : run = .ok (.value (.slice (some ⟨w.heap.size, 0, none⟩) n cap)) w') :
    OpOk σ I base w gen run (.msl d s gen 0 n full) (hput h d s ⟨gen, .row k e xs false⟩) := by
  have hE := Ext.push (x := (w.heap.size, 0, k)) H hB hg hG
  refine ⟨_, _, _, _, I, hrun, .inl rfl, ?_, H.push hg hG d s ?_, hE, fun g hne => upd_other hne⟩
  · exact .msl d s gen 0 n full w.heap.size 0 k cap 0 (fun _ => by simp) upd_same hn hfull ⟨e, arr.size, hG.shape, by simpa using hcap⟩
  · refine ⟨w.heap.size, 0, arr.size, upd_same, hG.shape, by simpa using hra.size, hra.elem, fun i x hi j p hp => ?_, ⟨fun hb => ?_, hB.up, hfr⟩⟩
    · obtain ⟨u, h1, h2, h3⟩ := hra.rep i x hi j p hp
      refine ⟨u, ?_, h2, h3.mono (fun _ h => h) hE.kp.keep⟩
      rw [hG.cell]
      simpa using h1
    · exact absurd (H.lt _ hb) (by omega)
theorem index_mod {i j k : Nat} (hj : j < k) : (i * k + j) % k = j := by
  rw [Nat.add_comm, Nat.add_mul_mod_self_right, Nat.mod_eq_of_lt hj]
theorem index_lt {i j k n : Nat} (hi : i < n) (hj : j < k) : i * k + j < n * k := by
  have : (i + 1) * k ≤ n * k := Nat.mul_le_mul_right k (by omega)
  rw [Nat.add_mul] at this
  omega
theorem zeros_arr {z : Value} {k n m : Nat} (hz : (ofVal z).cells.length = k) (hok : (ofVal z).ok = true) (hk : k ≠ 0) (hm : n ≤ m) :
    RowArr I w k (List.replicate n (ofVal z)) ((Array.range (m * k)).map (z.cells[· % z.cells.size]!)) := by
  obtain ⟨h1, h2, h3⟩ := zero_cells (I := I) (w := w) hz hok
  refine ⟨by simp; exact Nat.mul_le_mul_right k hm, fun x hx => by rw [List.eq_of_mem_replicate hx]; exact ⟨hz, hok⟩, fun i x hi j p hp => ?_⟩
  rw [List.getElem?_replicate] at hi
  split at hi
  · rename_i hin
    injection hi with hi
    subst hi
    have hj : j < k := by rw [← hz]; exact (List.getElem?_eq_some_iff.1 hp).1
    have hlt : i * k + j < m * k := index_lt (by omega) hj
    refine ⟨z.cells[j]'(by omega), ?_, h2 _ (by simp), h3 j p _ hp (Array.getElem?_eq_getElem (by omega))⟩
    simp only [Array.getElem?_map, Array.getElem?_range, hlt, if_true, Option.map_some]
    have hmod : (i * k + j) % z.cells.size = j := by rw [h1]; exact index_mod hj
    rw [hmod, getElem!_pos z.cells j (by omega)]
  · cases hi
theorem makeSlice_sound {t : TypeId} {lo co : Operand} (ho : o.op = .makeSlice t lo co) (hop : aop P o ρ d gen h = some (v, h')) (hρ : ∀ x, Rep σ I w (ρ x) (ρc x)) (H : HRep σ I base w h) (hg : σ gen = none) (hB : Bnd base w.heap.size) :
    OpOk σ I base w gen ((execOp ρc o).run P w) v h' := by
  simp only [aop, ho] at hop
  split at hop
  case h_2 => cases hop
  rename_i e hd
  simp only [Option.bind_eq_bind, Option.bind_eq_some_iff] at hop
  obtain ⟨size, hsz, bytes, hby, z, hz, s, hs, l, hl, c, hc, hop⟩ := hop
  split at hop
  case isFalse => cases hop
  rename_i hcond
  obtain ⟨hl0, hlc, hfit, hne, hzl, hzok⟩ := hcond
  simp only [Option.some.injEq, Prod.mk.injEq] at hop
  obtain ⟨rfl, rfl⟩ := hop
  obtain ⟨k1, hlr⟩ := intOf_rep hl (hρ lo)
  obtain ⟨k2, hcr⟩ := intOf_rep hc (hρ co)
  unfold fitsRow room47 maxInt at hfit
  simp only [Bool.and_eq_true, decide_eq_true_eq] at hfit
  obtain ⟨hf1, hf2⟩ := hfit
  have hwl : IntKind.i64.wrap l = l := IntWalk.i64_in _ (by omega)
  have hwc : IntKind.i64.wrap c = c := IntWalk.i64_in _ (by omega)
  obtain ⟨ie, hie, hbe⟩ := run_bytes_ok hby
  obtain ⟨c', rfl⟩ := Int.eq_ofNat_of_zero_le (show 0 ≤ c by omega)
  have hsmall : (bytes : Int) * c' ≤ 140737488355328 := by
    have : c' * bytes ≤ 140737488355328 := by have := hf1; rwa [Int.toNat_natCast] at this
    have : ((c' * bytes : Nat) : Int) ≤ 140737488355328 := Int.le_trans (Int.ofNat_le.mpr this) (by decide)
    rw [Int.natCast_mul, Int.mul_comm] at this
    exact this
  have hG : Grows w (w.alloc (.cells ((Array.range (c' * size)).map (z.cells[· % z.cells.size]!)) e)) (.cells ((Array.range (c' * size)).map (z.cells[· % z.cells.size]!)) e) := ⟨rfl, rfl, rfl, rfl⟩
  refine new_row (k := size) (n := l.toNat) (cap := c') (full := decide (l = (c' : Int))) H (zeros_arr hzl hzok hne (show l.toNat ≤ c' by omega)) hg hB hG (fun j hj => hG.frozen j) (by omega)
    (by intro hh; simp at hh; omega) (by simp) ?_
  simp only [execOp, ho]
  refine run_value ?_
  by_cases hn0 : c' * size = 0
  · simp [Instr.makeSlice, run_underlying_ok hd, asInt, asIntOf, hlr, hcr, run_typeInfo_ok hie, hbe, hwl, hwc, run_sizeOf_ok hsz, hn0, newRow]
    rw [if_neg (by omega)]
    have hr0 : Array.range 0 = (#[] : Array Nat) := rfl
    simp [hr0]
  · simp [Instr.makeSlice, run_underlying_ok hd, asInt, asIntOf, hlr, hcr, run_typeInfo_ok hie, hbe, hwl, hwc, run_sizeOf_ok hsz, hn0, newRow, run_zero_ok hz]
    intro hbad
    omega
end
end Go.Proofs.YtcoeigibikbfdaaGreatDoor.Abs

namespace Go.Proofs.YtcoeigibikbfdaaGreatDoor.Abs
open Go Go.RowKit
variable {σ σ' : Sig} {I I' : Blk} {base : Blk} {w w' : World} {h : Heap} {P : Program}
theorem bytesPV_get (s : ByteArray) (i : Nat) : (bytesPV s)[i]? = (s.data[i]?).map fun b => PV.lit (.int .u8 b.toNat) := by
  unfold bytesPV
  simp
structure Elems (I : Blk) (w : World) (P : Program) (size : Nat) (u : Value) (ys : List PV) (news : Array Value) : Prop where
  len : ∀ w' : World, (Builtin.lenOf u).run P w' = .ok ys.length w'
  run : (Builtin.firstCells size ys.length u).run P w = .ok news w
  runD : (Builtin.firstCells size ys.length u).run P w.drew = .ok news w.drew
  arr : RowArr I w size ys news
  size_eq : news.size = ys.length * size
  one : ∀ x ∈ news.toList, x.oneCell' = true
theorem cells_arr {b o k : Nat} {xs : List PV} (hk : ∀ x ∈ xs, x.cells.length = k ∧ x.ok = true) (hc : ∀ i x, xs[i]? = some x → ∀ (j : Nat) (p : PV), x.cells[j]? = some p →
      ∃ u, w.cell? ⟨b, o + i * k + j, none⟩ = some u ∧ u.oneCell' = true ∧ PRep I w p u) :
    ∃ arr : Array Value, (loadCells ⟨b, o, none⟩ (xs.length * k)).run P w = .ok arr w ∧ (loadCells ⟨b, o, none⟩ (xs.length * k)).run P w.drew = .ok arr w.drew ∧ RowArr I w k xs arr ∧ arr.size = xs.length * k ∧ ∀ x ∈ arr.toList, x.oneCell' = true := by
  have hcell : ∀ n, n < xs.length * k → ∃ u, w.cell? ⟨b, o + n, none⟩ = some u ∧ u.oneCell' = true ∧ ∀ x p, xs[n / k]? = some x → x.cells[n % k]? = some p → PRep I w p u := by
    intro n hn
    have hk0 : 0 < k := by
      rcases Nat.eq_zero_or_pos k with h0 | h0
      · subst h0; simp at hn
      · exact h0
    have hi : n / k < xs.length := Nat.div_lt_of_lt_mul (by rw [Nat.mul_comm]; exact hn)
    have hj : n % k < k := Nat.mod_lt _ hk0
    have hx := List.getElem?_eq_getElem hi
    have hxk := (hk _ (List.getElem_mem hi)).1
    obtain ⟨u, h1, h2, h3⟩ := hc (n / k) _ hx (n % k) _ (List.getElem?_eq_getElem (by omega))
    have e : o + n / k * k + n % k = o + n := by
      have := Nat.div_add_mod n k
      rw [Nat.mul_comm] at this
      omega
    rw [e] at h1
    refine ⟨u, h1, h2, fun x p hx' hp' => ?_⟩
    rw [hx] at hx'; injection hx' with hx'; subst hx'
    rw [List.getElem?_eq_getElem (by omega)] at hp'; injection hp' with hp'; subst hp'
    exact h3
  obtain ⟨us, hl, hu⟩ := list_of_cells (P := fun n u => w.cell? ⟨b, o + n, none⟩ = some u ∧ u.oneCell' = true ∧ ∀ x p, xs[n / k]? = some x → x.cells[n % k]? = some p → PRep I w p u) (xs.length * k) hcell
  have hrun := run_loadCells_list (P := P) w ⟨b, o, none⟩ us fun j v hv => by rw [addr_add]; exact (hu j v hv).1
  have hrunD := run_loadCells_list (P := P) w.drew ⟨b, o, none⟩ us fun j v hv => by rw [addr_add, World.cell?_drew]; exact (hu j v hv).1
  rw [hl] at hrun hrunD
  refine ⟨us.toArray, hrun, hrunD, ⟨by simp [hl], hk, fun i x hi j p hp => ?_⟩, by simp [hl], fun x hx => ?_⟩
  · have hil := (List.getElem?_eq_some_iff.1 hi).1
    have hjl : j < k := by rw [← (hk x (List.mem_of_getElem? hi)).1]; exact (List.getElem?_eq_some_iff.1 hp).1
    have hlt := index_lt hil hjl
    have hg : us[i * k + j]? = some us[i * k + j] := List.getElem?_eq_getElem (by omega)
    obtain ⟨_, h2, h3⟩ := hu _ _ hg
    refine ⟨us[i * k + j], by simpa using hg, h2, h3 x p ?_ ?_⟩
    · rw [Nat.add_comm, Nat.add_mul_div_right _ _ (by omega), Nat.div_eq_of_lt hjl, Nat.zero_add]; exact hi
    · rw [index_mod hjl]; exact hp
  · obtain ⟨j, hj⟩ := list_mem_get (l := us) (by simpa using hx)
    exact (hu j x hj).2.1
theorem elems_sound {size : Nat} {v : AV} {u : Value} {ys : List PV} (he : elemsOf size h v = some ys) (hr : Rep σ I w v u) (H : HRep σ I base w h) :
    ∃ news, Elems I w P size u ys news := by
  unfold elemsOf at he
  split at he
  · rename_i k nl full xs
    have hr' := rep_pv hr
    cases hr' with
    | nil =>
      simp at he
      subst he
      exact ⟨#[], ⟨fun _ => rfl, by simp [Builtin.firstCells], by simp [Builtin.firstCells], ⟨by simp, by simp, fun i x hi => by simp at hi⟩, by simp, by simp⟩⟩
    | emp k full a cap hfull =>
      simp at he
      obtain ⟨rfl, rfl⟩ := he
      exact ⟨#[], ⟨fun _ => rfl, by simp [Builtin.firstCells, loadCells, loadCellsFrom], by simp [Builtin.firstCells, loadCells, loadCellsFrom], ⟨by simp, by simp, fun i x hi => by simp at hi⟩, by simp, by simp⟩⟩
    | sl k full xs b o cap vs hcap hfull hI hk hc hr2 =>
      simp at he
      obtain ⟨rfl, rfl⟩ := he
      obtain ⟨arr, h1, h1D, h2, h3, h4⟩ := cells_arr (P := P) (I := I) (w := w) (b := b) (o := o) hk fun i x hi j p hp => ⟨vs i j, (hc i x hi j p hp).1, (hc i x hi j p hp).2, hr2 i x hi j p hp⟩
      exact ⟨arr, ⟨fun _ => rfl, by simpa [Builtin.firstCells] using h1, by simpa [Builtin.firstCells] using h1D, h2, h3, h4⟩⟩
  · rename_i s
    split at he
    · rename_i hs
      subst hs
      injection he with he
      subst he
      have hu := prep_lit (rep_pv hr)
      subst hu
      have hlen : (bytesPV s).length = s.size := by simp [bytesPV]
      refine ⟨s.data.map fun b => .int .u8 b.toNat, ⟨fun _ => by rw [hlen]; rfl, ?_, ?_, ⟨by simp [hlen], ?_, ?_⟩, by simp [hlen], ?_⟩⟩
      · rw [hlen]
        simp only [Builtin.firstCells, Sem.run_pure]
        congr 2
        have : (s.extract 0 s.size) = s := by simp
        rw [this]
      · rw [hlen]
        simp only [Builtin.firstCells, Sem.run_pure]
        congr 2
        have : (s.extract 0 s.size) = s := by simp
        rw [this]
      · intro x hx
        simp only [bytesPV, List.mem_map] at hx
        obtain ⟨b, _, rfl⟩ := hx
        exact ⟨rfl, rfl⟩
      · intro i x hi j p hp
        rw [bytesPV_get] at hi
        simp only [Option.map_eq_some_iff] at hi
        obtain ⟨b, hb, rfl⟩ := hi
        cases j with
        | zero =>
          simp [PV.cells] at hp
          subst hp
          exact ⟨.int .u8 b.toNat, by simp [hb], rfl, .lit _⟩
        | succ j => simp [PV.cells] at hp
      · intro x hx
        simp only [Array.toList_map, List.mem_map] at hx
        obtain ⟨b, _, rfl⟩ := hx
        rfl
    · cases he
  · rename_i d s g off n full
    split at he
    · rename_i k e xs fz hl
      split at he
      · rename_i hc0
        obtain ⟨rfl, hle⟩ := hc0
        injection he with he
        subst he
        obtain ⟨b', o', n', hs', _, _, _, hn, hsh, hx, hc, _⟩ := row_block (H.live hl (by simp))
        cases hr with
        | msl _ _ _ _ _ _ b ob k cap ad had hs hcap hfull hroom =>
          rw [hs] at hs'
          simp only [Option.some.injEq, Prod.mk.injEq] at hs'
          obtain ⟨rfl, rfl, rfl⟩ := hs'
          have hlen : ((xs.drop off).take n).length = n := by simp; omega
          by_cases h0 : cap = 0
          · have hn0 : n = 0 := by omega
            subst hn0
            exact ⟨#[], ⟨fun _ => by simp [Builtin.lenOf], by simp [Builtin.firstCells, loadCells, loadCellsFrom], by simp [Builtin.firstCells, loadCells, loadCellsFrom], ⟨by simp, by simp, fun i x hi => by simp at hi⟩, by simp, by simp⟩⟩
          · rw [had h0]
            obtain ⟨arr, h1, h1D, h2, h3, h4⟩ := cells_arr (P := P) (I := I) (w := w) (b := b) (o := ob + off * k) (xs := (xs.drop off).take n) (k := k)
              (fun x hxm => hx x (List.mem_of_mem_drop (List.mem_of_mem_take hxm))) fun i x hi j p hp => by
                have := hc (off + i) x (get_sub hi).2 j p hp
                rw [show ob + off * k + i * k + j = ob + (off + i) * k + j by rw [Nat.add_mul]; omega]
                exact this
            exact ⟨arr, ⟨fun _ => by rw [hlen]; rfl, by simpa [Builtin.firstCells] using h1, by simpa [Builtin.firstCells] using h1D, h2, h3, h4⟩⟩
      · cases he
    · cases he
  · cases he
theorem Elems.src {size : Nat} {u : Value} {ys : List PV} {news : Array Value} {t1 : TypeId} (hE : Elems I w P size u ys news) (ht : appendable P t1 = true) : Src P size t1 u ys.length news.toList w := by
  refine ⟨?_, hE.len, by simpa using hE.run, by simpa using hE.runD, by simpa using hE.size_eq, hE.one⟩
  unfold appendable at ht
  split at ht
  · rename_i e' hh; exact .inl ⟨e', hh⟩
  · rename_i hh; exact .inr hh
  · cases ht
theorem fits_of {n bytes : Nat} (hf : fitsRow n bytes = true) : n * bytes ≤ 140737488355328 ∧ n ≤ 9223372036854775807 := by
  unfold fitsRow room47 maxInt at hf
  simpa only [Bool.and_eq_true, decide_eq_true_eq] using hf
theorem RowArr.append {k : Nat} {xs ys : List PV} {a b : Array Value} (ha : RowArr I w k xs a) (hb : RowArr I w k ys b) (hs : a.size = xs.length * k) (rest : Array Value) : RowArr I w k (xs ++ ys) ((a.toList ++ b.toList).toArray ++ rest) := by
  refine ⟨?_, fun x hx => (List.mem_append.1 hx).elim (ha.elem x) (hb.elem x), fun i x hi j p hp => ?_⟩
  · have := hb.size
    simp [Nat.add_mul]
    omega
  · have hj : ∀ {zs : List PV} {c : Array Value}, RowArr I w k zs c → x ∈ zs → j < k := fun hz hm => by rw [← (hz.elem x hm).1]; exact (List.getElem?_eq_some_iff.1 hp).1
    rcases Nat.lt_or_ge i xs.length with hlt | hge
    · rw [List.getElem?_append_left hlt] at hi
      obtain ⟨u, h1, h2, h3⟩ := ha.rep i x hi j p hp
      have hb1 := (Array.getElem?_eq_some_iff.1 h1).1
      refine ⟨u, ?_, h2, h3⟩
      rw [Array.getElem?_append_left (by simp; omega)]
      simp only [List.getElem?_toArray]
      rw [List.getElem?_append_left (by simpa using hb1)]
      simpa using h1
    · rw [List.getElem?_append_right hge] at hi
      obtain ⟨u, h1, h2, h3⟩ := hb.rep (i - xs.length) x hi j p hp
      have hb1 := (Array.getElem?_eq_some_iff.1 h1).1
      have e : i * k + j = xs.length * k + ((i - xs.length) * k + j) := by
        have : i * k = xs.length * k + (i - xs.length) * k := by rw [← Nat.add_mul]; congr 1; omega
        omega
      refine ⟨u, ?_, h2, h3⟩
      rw [Array.getElem?_append_left (by simp; omega)]
      simp only [List.getElem?_toArray]
      rw [List.getElem?_append_right (by simp; omega)]
      simp only [Array.length_toList, Array.getElem?_toList]
      rw [show i * k + j - a.size = (i - xs.length) * k + j by omega]
      exact h1
end Go.Proofs.YtcoeigibikbfdaaGreatDoor.Abs

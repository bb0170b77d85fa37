/-
  The abstract machine over the model, its soundness, walks of the program's functions and what they compute. Conditions: the values are of their types.
-/
import GoSem.Dispatch
import GoSem.Instr.MapUpdate
import GoSem.Machine.Return
import Derived.Control
import Derived.Orders
import Derived.Laws.Sem
import Derived.CheckFast
import Derived.Laws.Cells
import Derived.Laws.IdiomCopy
import Derived.Laws.Entries
import Derived.Laws.NewFold
import Derived.Below
import Derived.Deep.Draws
import Derived.Laws.StructEq
import Derived.Laws.Tables
import Derived.Great.BuildSlice

set_option linter.all false
set_option linter.unnecessarySimpa false

namespace Go.Proofs.YtdbjadjdljaobaaGreatDoor.Abs
open Go
inductive PV where
 | lit (v:Value)
 | sl (k:Nat) (nl full:Bool) (xs:List PV)
 | ptr (root:PV) (off:Nat)
 | agg (cells:List PV)
 | tup (vs:List PV)
 | iface (t:TypeId) (v:PV)
 | clo (f:Fn) (first captured:List PV)
 deriving Inhabited
inductive AV where
 | pv (p:PV)
 | mptr (d s g i off:Nat)
 | msl (d s g off n:Nat) (full:Bool)
 | agg (cells:List AV)
 | tup (vs:List AV)
 | clo (f:Fn) (first captured:List AV)
 | yld (d s g:Nat)
 | ifc (t:TypeId) (v:AV)
 | btag (t:TypeId)
 | mref (d s g:Nat)
 deriving Inhabited
inductive av where
 | normal
 | exit (id:Nat)
 | goto (l:Nat)
 | ret
 deriving DecidableEq,Inhabited
inductive iA where
 | ready
 | busy
 | done (x:av)
 deriving DecidableEq,Inhabited
structure ME where
 born:Nat
 key:Value
 val:AV
 deriving Inhabited
inductive ba where
 | dead
 | box (v:AV) (fz:Bool)
 | row (k:Nat) (e:TypeId) (xs:List PV) (fz:Bool)
 | iter (s:ByteArray) (pos:Nat)
 | lp (st:iA)
 | map (clock:Nat) (es:List ME)
 | mit (m:Option (Nat×Nat×Nat)) (since:Nat) (seen:List Nat) (last:Nat)
 deriving Inhabited
structure ak where
 g:Nat
 b:ba
 deriving Inhabited
abbrev aa:=List (List ak)
def bh {α:Type} (z:α):List α→Nat→α→List α
 | [],0,v=>[v]
 | [],n+1,v=>z::bh z [] n v
 | _::l,0,v=>v::l
 | x::l,n+1,v=>x::bh z l n v
def ae:ak:=⟨0,.dead⟩
def ac (h:aa) (d s:Nat):ak:=(h.getD d []).getD s ae
def hput (h:aa) (d s:Nat) (r:ak):aa:=bh [] h d (bh ae (h.getD d []) s r)
def live (h:aa) (d s g:Nat):ba:=if (ac h d s).g=g then (ac h d s).b else .dead
structure St where
 t:List AV
 h:aa
 g:Nat
def gt:Value→PV
 | .slice none n c=>if n=0∧c=0 then .sl 0 true true [] else .lit (.slice none n c)
 | .func f a b=>if a.size=0∧b.size=0 then .clo f [] [] else .lit (.func f a b)
 | v=> .lit v
def aA:Value→PV
 | .agg cs=>if cs.toList.all (·.oneCell') then .agg (cs.toList.map gt) else .lit (.agg cs)
 | v=>gt v
def bb:AV:= .pv (.lit undef)
def bz (t:List AV) (i:Nat):AV:=t.getD i bb
def iB (t:List AV) (i:Nat) (v:AV):List AV:=bh bb t i v
def aP (t:List AV):Option Tmp→AV→List AV
 | some i,v=>iB t i v
 | none,_=>t
def aw (t:List AV):Operand→AV
 | .tmp i=>bz t i
 | .const v=> .pv (aA v)
 | .global g=> .pv (.lit (.pointer (some ⟨g,0,none⟩)))
 | .func f=> .pv (.clo (.func f) [] [])
def PV.cells:PV→List PV
 | .agg cs=>cs
 | v=>[v]
def AV.cells:AV→List AV
 | .pv p=>p.cells.map .pv
 | .agg cs=>cs
 | v=>[v]
def PV.isAgg:PV→Bool
 | .agg _=>true
 | _=>false
def AV.isAgg:AV→Bool
 | .pv p=>p.isAgg
 | .agg _=>true
 | _=>false
def PV.ok:PV→Bool
 | .lit v=>v.oneCell'
 | .tup _=>false
 | _=>true
def AV.ok:AV→Bool
 | .pv p=>p.ok
 | .tup _=>false
 | _=>true
def aQ:List AV→Option (List PV)
 | []=>some []
 | .pv p::l=>(aQ l).map (p:: ·)
 | _::_=>none
def cA (l:List AV):AV:=match aQ l with
 | some ps=> .pv (.agg ps)
 | none=> .agg l
def cO (ag:Bool) (m off:Nat) (p:PV):Option PV:=
 if ag then (if off+m≤p.cells.length then some (.agg ((p.cells.drop off).take m)) else none) else p.cells[off]?
def di (ag:Bool) (m off:Nat):AV→Option AV
 | .pv p=>(cO ag m off p).map .pv
 | v=>if ag then (if off+m≤v.cells.length then some (cA ((v.cells.drop off).take m)) else none) else v.cells[off]?
def bN {α:Type} (l:List α) (off:Nat) (new:List α):List α:=l.take off++new++l.drop (off+new.length)
def AV.isTag:AV→Bool
 | .btag _=>true
 | _=>false
def eO:Option AV→Option TypeId
 | some (.btag t)=>some t
 | _=>none
def bC (v:AV):Option TypeId:=eO v.cells.head?
def cq (e:TypeId) (v:AV):Bool:=v.ok&&(match bC v with
 | some t=>t==e
 | none=>true)
def cX (v:AV) (off:Nat) (new:List AV):Option AV:=
 if off+new.length≤v.cells.length∧new.any AV.isTag=false then
  if v.isAgg then some (cA (bN v.cells off new)) else new.head?
 else none
def gu (v:PV) (off:Nat) (new:List PV):Option PV:=
 if off+new.length≤v.cells.length then
  if v.isAgg then some (.agg (bN v.cells off new)) else new.head?
 else none
abbrev aX:=Nat×Nat
def bQ (f:AV→Option (PV×List aX)):List AV→Option (List PV×List aX)
 | []=>some ([],[])
 | v::l=>(f v).bind fun (p,k1)=>(bQ f l).map fun (ps,k2)=>(p::ps,k1++k2)
def pk (h:aa):Nat→AV→Option (PV×List aX)
 | 0,_=>none
 | n+1,v=>match v with
  | .pv p=>some (p,[])
  | .mptr d s g i off=>match live h d s g with
   | .box v _=>if i=0 then (pk h n v).map fun (p,ks)=>(.ptr p off,(d,s)::ks) else none
   | .row _ _ xs _=>(xs[i]?).map fun x=>(.ptr x off,[(d,s)])
   | _=>none
  | .msl d s g off m full=>match live h d s g with
   | .row k _ xs _=>if off+m≤xs.length then some (.sl k false full ((xs.drop off).take m),[(d,s)]) else none
   | _=>none
  | .agg l=>(bQ (pk h n) l).map fun (ps,ks)=>(.agg ps,ks)
  | .tup l=>(bQ (pk h n) l).map fun (ps,ks)=>(.tup ps,ks)
  | .clo f a b=>(bQ (pk h n) a).bind fun (pa,k1)=>(bQ (pk h n) b).map fun (pb,k2)=>(.clo f pa pb,k1++k2)
  | .yld .. =>none
  | .ifc t v=>(pk h n v).map fun (p,ks)=>(.iface t p,ks)
  | .btag _=>none
  | .mref .. =>none
def bF:ba→ba
 | .box v _=> .box v true
 | .row k e xs _=> .row k e xs true
 | b=>b
def mark (h:aa) (k:aX):aa:=hput h k.1 k.2 { (ac h k.1 k.2) with b:=bF (ac h k.1 k.2).b}
def marks (ks:List aX) (h:aa):aa:=ks.foldl mark h
def frz (n:Nat) (v:AV) (h:aa):Option (PV×aa):=(pk h n v).map fun (p,ks)=>(p,marks ks h)
def bi (n:Nat) (l:List AV) (h:aa):Option (List PV×aa):=(bQ (pk h n) l).map fun (ps,ks)=>(ps,marks ks h)
def ao:Nat:=8
def cr {α:Type} (P:Program):Sem α→Option α
 | .pure a=>some a
 | .program k=>cr P (k P)
 | .mark _ k=>cr P k
 | _=>none
def d6:PV→Option Value
 | .lit v=>some v
 | .sl _ true _ _=>some (.slice none 0 0)
 | .iface t (.lit v)=>some (.iface t v)
 | _=>none
def d7:List PV→Option (List Value)
 | []=>some []
 | p::l=>(d6 p).bind fun v=>(d7 l).map (v:: ·)
def iC:PV→Option Value
 | .agg cs=>(d7 cs).map fun l=> .agg l.toArray
 | p=>d6 p
def fD:AV→Option Value
 | .pv p=>iC p
 | _=>none
def aU (v:Value):AV:= .pv (.lit v)
def iD:TypeDesc→AV→AV→Bool
 | .slice _,.msl ..,.pv (.sl _ true _ _)=>true
 | .slice _,.pv (.sl _ false _ _),.pv (.sl _ true _ _)=>true
 | .pointer _,.mptr ..,.pv (.lit (.pointer none))=>true
 | .pointer _,.pv (.ptr ..),.pv (.lit (.pointer none))=>true
 | .interface _,.pv (.iface ..),.pv (.lit .nilIface)=>true
 | .interface _,.ifc ..,.pv (.lit .nilIface)=>true
 | .func ..,.pv (.clo ..),.pv (.lit .nilFunc)=>true
 | .func ..,.clo ..,.pv (.lit .nilFunc)=>true
 | .map ..,.mref ..,.pv (.lit (.map none))=>true
 | _,_,_=>false
def iE:TypeDesc→AV→AV→Bool
 | .interface _,.pv (.iface t _),.pv (.iface t' _)=>t != t'
 | _,_,_=>false
def jY (P:Program) (t:TypeId) (a b:PV):Option Bool:=match P.underlying t,a,b with
 | some .string,.lit (.string x),.lit (.string y)=>some (x.toList==y.toList)
 | some (.int _),.lit (.int k x),.lit (.int k' y)=>if k=k' then some (x==y) else none
 | some .bool,.lit (.bool x),.lit (.bool y)=>some (x==y)
 | _,_,_=>none
def gv (P:Program):List Field→List PV→List PV→Option Bool
 | [],_,_=>some true
 | f::fs,xs,ys=>if f.name≠"_" then (xs[f.offset]?).bind fun a=>(ys[f.offset]?).bind fun b=>(jY P f.type a b).bind fun r=>(gv P fs xs ys).map fun q=>r&&q else none
def iF (P:Program) (t:TypeId) (xs ys:List PV):Option Bool:=match P.underlying t with
 | some (.struct fs)=>if P.stoodInHeld t=false∧P.eqGuardType P.depth t=false then gv P fs.toList xs ys else none
 | _=>none
def jZ (P:Program) (op:BinOp) (t:TypeId) (x y:AV):Option Bool:=match x,y with
 | .pv (.agg xs),.pv (.agg ys)=>(match op with
  | .eql=>iF P t xs ys
  | .neq=>(iF P t xs ys).map (!·)
  | _=>none)
 | _,_=>none
def j0 (P:Program) (op:BinOp) (t:TypeId) (xo yo:Operand) (x y:AV):Option AV:=match jZ P op t x y with
 | some r=>some (aU (.bool r))
 | none=>match fD x,fD y with
 | some a,some b=>(cr P (do eqGuard op t xo yo a b;binOp op t a b)).map aU
 | _,_=>match P.underlying t,op with
  | some d,.eql=>if iD d x y||iE d x y then some (aU (.bool false)) else none
  | some d,.neq=>if iD d x y||iE d x y then some (aU (.bool true)) else none
  | _,_=>none
def aF (P:Program) (t:TypeId):Option Nat:=(P.info? t).map (·.size)
def cY (P:Program) (t:TypeId):Option Nat:=(P.info? t).map (·.bytes)
def b8 (P:Program) (t:TypeId):Option Bool:=match P.underlying t with
 | some (.struct _) | some (.array _ _)=>some true
 | some _=>some false
 | none=>none
def bA (P:Program) (t:TypeId):Option Value:=(P.info? t).bind (·.zero)
def eP (place:Nat→Option (Nat×Nat)):List AV→List (Nat×AV)→Option (List AV)
 | cells,[]=>some cells
 | cells,(i,v)::rest=>match place i with
  | none=>none
  | some (off,size)=>if v.cells.length=size∧off+size≤cells.length∧v.ok=true then eP place (bN cells off v.cells) rest else none
def fE (P:Program) (fields:Array Field):Option (List (Nat×Nat)):=
 fields.toList.mapM fun f=>(aF P f.type).map fun n=>(f.offset,n)
def ar (s:ByteArray):List PV:=s.data.toList.map fun b=> .lit (.int .u8 b.toNat)
def cB:List PV→Option (List UInt8)
 | []=>some []
 | .lit (.int .u8 n)::l=>(cB l).map (UInt8.ofNat n.toNat:: ·)
 | _::_=>none
def ct (size:Nat) (h:aa):AV→Option (List PV)
 | .pv (.sl k nl _ ys)=>if nl=true then (if ys.length=0 then some [] else none) else if k=size then some ys else none
 | .pv (.lit (.string s))=>if size=1 then some (ar s) else none
 | .msl d s g off n _=>match live h d s g with
  | .row k _ xs _=>if k=size∧off+n≤xs.length then some ((xs.drop off).take n) else none
  | .box v _=>if size=1∧off+n≤v.cells.length then (aQ ((v.cells.drop off).take n)).bind fun ps=>if ps.all (fun p=>p.ok&& !p.isAgg) then some ps else none else none
  | _=>none
 | _=>none
def p4:AV→Bool
 | .pv (.sl ..) | .msl .. =>true
 | _=>false
def j1:Nat:=140737488355328
def iG:Nat:=9223372036854775807
def bO (n bytes:Nat):Bool:=decide (n*bytes≤j1)&&decide (n≤iG)
def dL (e size bytes d slot gen:Nat) (h:aa) (tgt:AV) (ys:List PV):Option (AV×aa):=
 match tgt with
 | .pv (.sl k nl full xs)=>
  if ys.isEmpty then some (tgt,h)
  else if nl then (if xs.length=0∧bO ys.length bytes=true then some (.msl d slot gen 0 ys.length false,hput h d slot ⟨gen,.row size e ys false⟩) else none)
  else if full=true∧k=size∧bO (xs.length+ys.length) bytes=true then
   some (.msl d slot gen 0 (xs.length+ys.length) false,hput h d slot ⟨gen,.row size e (xs++ys) false⟩)
  else none
 | .msl d' s' g' off n full=>match live h d' s' g' with
  | .row k e' xs fz=>
   if full then
    if ys.isEmpty then some (tgt,h)
    else if k=size∧off+n≤xs.length∧bO (n+ys.length) bytes=true then
     some (.msl d slot gen 0 (n+ys.length) false,hput h d slot ⟨gen,.row size e ((xs.drop off).take n++ys) false⟩)
    else none
   else if fz=false∧k=size∧e'=e∧off+n=xs.length∧bO (n+ys.length) bytes=true then
    some (.msl d' s' gen 0 (n+ys.length) false,hput h d' s' ⟨gen,.row size e (xs.drop off++ys) false⟩)
   else none
  | _=>none
 | _=>none
def intOf?:AV→Option Int
 | .pv (.lit (.int _ i))=>some i
 | _=>none
def dM (v:Option AV) (dflt top:Nat):Option Nat:=match v with
 | none=>some dflt
 | some a=>(intOf? a).bind fun i=>if 0≤i∧i≤top then some i.toNat else none
def dN (n:Nat) (lo hi mx:Option AV):Option (Nat×Nat×Option Nat):=
 (match mx with
  | none=>some none
  | some _=>(dM mx n n).map some).bind fun m=>
 (dM hi n (m.getD n)).bind fun r=>
 (dM lo 0 r).bind fun l=>
 if (mx.isSome&&hi.isNone)=true then none else some (l,r,m)
def eQ (P:Program) (t:TypeId) (h:aa) (x:AV) (lo hi mx:Option AV):Option AV:=
 match P.underlying t,x with
 | some .string,.pv (.lit (.string s))=>do
  let (l,r,m) ←dN s.size lo hi mx
  if m.isSome then none else some (aU (.string (s.extract l r)))
 | some (.slice e),.pv (.sl k nl full xs)=>do
  let (l,r,m) ←dN xs.length lo hi mx
  let size ←aF P e
  if nl=true∨k=size then
   some (.pv (.sl k nl (match m with | some m=>m==r | none=>full&&r==xs.length) ((xs.drop l).take (r-l))))
  else none
 | some (.slice e),.msl d s g off n full=>do
  let (l,r,m) ←dN n lo hi mx
  let size ←aF P e
  match live h d s g with
  | .row k _ _ _=>if k=size then some (.msl d s g (off+l) (r-l) (match m with | some m=>m==r | none=>full&&r==n)) else none
  | _=>none
 | some (.array n e),.mptr d s g i off=>do
  let (l,r,m) ←dN n lo hi mx
  let size ←aF P e
  match live h d s g with
  | .box v _=>if i=0∧size=1∧off+n≤v.cells.length then some (.msl d s g (off+l) (r-l) (m.getD n==r)) else none
  | _=>none
 | _,_=>none
def mg (fields:Array Field) (P:Program) (f:Nat):Option Nat:=(fields[f]?).bind fun fd=>(aF P fd.type).bind fun n=>if n=0 then none else some fd.offset
def dj (P:Program) (kt:TypeId):Option TypeDesc:=match P.underlying kt with
 | some (.int k)=>some (.int k)
 | some .string=>some .string
 | some .bool=>some .bool
 | _=>none
def dO (kd:TypeDesc) (k:Value):List ME→Nat→Option (Option (Nat×AV))
 | [],_=>some none
 | e::es,i=>match Instr.sameNow kd k e.key with
  | some true=>some (some (i,e.val))
  | some false=>dO kd k es (i+1)
  | none=>none
def mh (h:aa):Nat:=(h.getD 0 []).length
def dP (l:List AV):AV:=match aQ l with
 | some ps=> .pv (.tup ps)
 | none=> .tup l
def cZ (since:Nat) (seen:List Nat) (es:List ME):List ME:=es.filter fun e=> !seen.contains e.born&&decide (e.born<since)
def d8 (since:Nat) (seen:List Nat) (es:List ME):List ME:=es.filter fun e=> !seen.contains e.born&&decide (since≤e.born)
def iH (since:Nat) (seen:List Nat) (last:Nat) (es:List ME):Option (Option ME):=
 if !seen.isEmpty&& !es.isEmpty&&es.all (fun e=>decide (last≤e.born)) then none else
 match cZ since seen es,d8 since seen es with
 | [],[]=>some none
 | [e],[]=>some (some e)
 | _,_=>none
def gz (P:Program) (t:TypeId):Bool:=match P.underlying t with
 | some (.slice _) | some .string=>true
 | _=>false
def d9 (n:Nat):AV:=aU (.int .i64 n)
def eR (P:Program) (e t1:TypeId) (d slot gen:Nat) (h:aa) (x y:AV):Option (AV×aa):=match P.underlying t1,x,y with
 | some (.int _),.pv (.sl _ nl _ xs),.pv (.lit (.int _ n))=>do
  let size ←aF P e
  let bytes ←cY P e
  let z ←bA P e
  if size=0∨z.cells.size≠size then none else
  if nl=true∧xs.length=0∧1≤n∧bO n.toNat bytes=true then some (.msl d slot gen 0 n.toNat false,hput h d slot ⟨gen,.row size e [] false⟩) else none
 | _,_,_=>none
def cg (P:Program) (b:Builtin) (argTypes:Array TypeId) (type:TypeId) (d slot gen:Nat) (h:aa) (args:List AV):Option (AV×aa):=
 match b,args with
 | .len,[x]=>match (argTypes[0]?).bind P.underlying,x with
  | some (.slice _),.pv (.sl _ _ _ xs)=>some (d9 xs.length,h)
  | some (.slice _),.msl _ _ _ _ n _=>some (d9 n,h)
  | some .string,.pv (.lit (.string s))=>some (d9 s.size,h)
  | some (.array n _),_=>some (d9 n,h)
  | _,_=>none
 | .cap,[x]=>match (argTypes[0]?).bind P.underlying,x with
  | some (.slice _),.pv (.sl _ nl true xs)=>if nl=false∨xs.length=0 then some (d9 xs.length,h) else none
  | some (.slice _),.msl _ _ _ _ n true=>some (d9 n,h)
  | _,_=>none
 | .append,[x,y]=>match argTypes.toList with
  | [t0,t1]=>match P.underlying t0,gz P t1 with
   | some (.slice e),true=>do
    let size ←aF P e
    let bytes ←cY P e
    let z ←bA P e
    let ys ←ct size h y
    if size=0∨z.cells.size≠size then none else dL e size bytes d slot gen h x ys
   | some (.slice e),false=>eR P e t1 d slot gen h x y
   | _,_=>none
  | _=>none
 | .clear,[x]=>match (argTypes[0]?).bind P.underlying,x with
  | some (.slice e),.msl d s g off n _=>(bA P e).bind fun z=>match live h d s g with
   | .box v false=>if n≠0∧(aA z).ok=true∧(aA z).isAgg=false then
     (cX v off (List.replicate n (.pv (aA z)))).map fun v'=>(bb,hput h d s ⟨g,.box v' false⟩)
    else if n=0 then some (bb,h) else none
   | .row k e' xs false=>if n=0 then some (bb,h) else
     if (aA z).ok=true∧(aA z).cells.length=k∧k≠0∧off+n≤xs.length then some (bb,hput h d s ⟨g,.row k e' (bN xs off (List.replicate n (aA z))) false⟩) else none
   | _=>none
  | _,_=>none
 | .unsafeSliceData,[x]=>match x with
  | .pv (.sl _ true _ _)=>some (aU (.pointer none),h)
  | .msl d s g off (_+1) _=>some (.mptr d s g off 0,h)
  | _=>none
 | .unsafeString,[p,n]=>match p,n with
  | .pv (.lit (.pointer none)),.pv (.lit (.int .i64 0))=>(argTypes[0]?).map fun _=>(aU (.string ⟨#[]⟩),h)
  | .mptr d s g off 0,.pv (.lit (.int .i64 n))=>match live h d s g with
   | .row 1 e xs false=>match (argTypes[0]?).bind P.underlying with
    | some (.pointer e')=>if 1≤n∧n≤9223372036854775807∧off+n.toNat≤xs.length∧e'=e∧P.cellsOf e=1 then
      (cB ((xs.drop off).take n.toNat)).map fun bs=>(aU (.string ⟨bs.toArray⟩),hput h d s ⟨g,.row 1 e xs true⟩) else none
    | _=>none
   | _=>none
  | _,_=>none
 | .max,_=>((aQ args).bind d7).bind fun vs=>(cr P (Builtin.max_ argTypes type vs.toArray)).map fun v=>(aU v,h)
 | .min,_=>((aQ args).bind d7).bind fun vs=>(cr P (Builtin.min_ argTypes type vs.toArray)).map fun v=>(aU v,h)
 | _,_=>none
def bR (P:Program) (b:Builtin) (argTypes:Array TypeId) (h:aa) (args:List AV):Option (AV×aa):=match b,args with
 | .len,[x]=>match (argTypes[0]?).bind P.underlying,x with
  | some (.map _ _),.pv (.lit (.map none))=>some (d9 0,h)
  | some (.map _ _),.mref d s g=>match live h d s g with
   | .map _ es=>some (d9 es.length,h)
   | _=>none
  | _,_=>none
 | .delete,[m,k]=>match (argTypes[0]?).bind P.underlying,m,k with
  | some (.map kt _),.mref d s g,.pv (.lit key)=>match live h d s g with
   | .map clock es=>(dj P kt).bind fun kd=>match dO kd key es 0 with
    | some (some (i,_))=>some (.pv (.tup []),hput h d s ⟨g,.map clock (es.eraseIdx i)⟩)
    | some none=>some (.pv (.tup []),h)
    | none=>none
   | _=>none
  | _,_,_=>none
 | .clear,[x]=>match (argTypes[0]?).bind P.underlying,x with
  | some (.map _ _),.mref d s g=>match live h d s g with
   | .map clock _=>some (.pv (.tup []),hput h d s ⟨g,.map clock []⟩)
   | _=>none
  | _,_=>none
 | _,_=>none
def iI (P:Program):TypeDesc→Bool
 | .pointer e=>match P.underlying e with
  | some (.pointer _)=>true
  | _=>false
 | _=>false
def iJ (P:Program) (e:TypeId) (p:PV):AV:=match (P.info? e).map TypeInfo.desc,p with
 | some (.named "strings.Builder" _),.agg (.lit (.pointer none)::l)=> .agg (.btag e::l.map .pv)
 | _,_=> .pv p
def fF (want:Array (String×TypeId)) (got:Array Method):Bool:=want.toList.any fun q=> !got.any fun m=>m.name==q.1&&m.sig==q.2
def mi (P:Program) (_x:Operand) (_xT aT:TypeId) (ok:Bool) (v:AV):Option AV:=
 let fails:Option AV:=if ok then (bA P aT).map fun z=> .pv (.tup [aA z,.lit (.bool false)]) else none
 let holds (p:PV):Option AV:=some (.pv (if ok then .tup [p,.lit (.bool true)] else p))
 match P.underlying aT,v with
 | some _,.pv (.lit .nilIface)=>fails
 | some (.interface want),.pv (.iface t p)=>(P.info? t).bind fun i=>match fF want i.methods with
  | false=>holds (.iface t p)
  | true=>fails
 | some _,.pv (.iface t p)=>if t=aT then holds p else fails
 | _,_=>none
def gA (P:Program) (v:AV) (name:String):Option (FuncId×AV):=match v with
 | .pv (.iface t p)=>((P.info? t).bind fun i=>i.methods.find? (·.name==name)).bind fun m=>
  if m.path.isEmpty then match m.func,P.underlying t with
   | some (f,true),some (.pointer _)=>some (f,.pv p)
   | some (_,false),some (.pointer _)=>none
   | some (f,false),some _=>some (f,.pv p)
   | _,_=>none
  else none
 | _=>none
abbrev K2:=Nat×Nat
def bZ:List K2→K2→Option Nat
 | [],_=>none
 | k::ks,x=>if k.1==x.1&&k.2==x.2 then some 0 else (bZ ks x).map (· +1)
def bt (ρ:K2→K2):Nat→AV→AV
 | 0,v=>v
 | n+1,v=>match v with
  | .mptr d s g i off=> .mptr (ρ (d,s)).1 (ρ (d,s)).2 g i off
  | .msl d s g off m full=> .msl (ρ (d,s)).1 (ρ (d,s)).2 g off m full
  | .mref d s g=> .mref (ρ (d,s)).1 (ρ (d,s)).2 g
  | .agg l=> .agg (l.map (bt ρ n))
  | .tup l=> .tup (l.map (bt ρ n))
  | .clo f a b=> .clo f (a.map (bt ρ n)) (b.map (bt ρ n))
  | .ifc t v=> .ifc t (bt ρ n v)
  | v=>v
def j2 (ρ:K2→K2):ba→ba
 | .box v fz=> .box (bt ρ ao v) fz
 | .map c es=> .map c (es.map fun e=> { e with val:=bt ρ ao e.val})
 | b=>b
def dQ (lo:Nat):Nat→AV→List K2
 | 0,_=>[]
 | n+1,v=>match v with
  | .mptr d s .. | .msl d s .. | .mref d s _=>if lo≤d then [(d,s)] else []
  | .agg l | .tup l=>l.flatMap (dQ lo n)
  | .clo _ a b=>a.flatMap (dQ lo n)++b.flatMap (dQ lo n)
  | .ifc _ v=>dQ lo n v
  | _=>[]
def p5 (lo:Nat):ba→List K2
 | .box v _=>dQ lo ao v
 | .map _ es=>es.flatMap fun e=>dQ lo ao e.val
 | _=>[]
def gB (h:aa) (lo:Nat):Nat→List K2→List K2→List K2
 | 0,_,acc=>acc
 | _+1,[],acc=>acc
 | n+1,k::todo,acc=>if (bZ acc k).isSome then gB h lo n todo acc else gB h lo n (todo++p5 lo (ac h k.1 k.2).b) (acc++[k])
def iK (ρ:K2→K2):List K2→Nat→aa→aa
 | [],_,h=>h
 | k::ks,n,h=>iK ρ ks (n+1) (hput (hput h k.1 k.2 ae) 0 n ⟨(ac h k.1 k.2).g,j2 ρ (ac h k.1 k.2).b⟩)
def j3:Nat:=400
def fG (ks:List K2) (h:aa) (v:AV):AV×aa:=
 let ρ:K2→K2:=fun k=>match bZ ks k with
  | some i=>(0,mh h+i)
  | none=>k
 (bt ρ ao v,iK ρ ks (mh h) h)
def p6:ba→Bool
 | .map .. =>true
 | _=>false
def gC (h:aa) (v:AV):Option (AV×aa):=match v with
 | .mptr .. | .mref .. | .msl .. =>some (fG (gB h 1 j3 (dQ 1 ao v) []) h v)
 | v=>(frz ao v h).map fun (p,h1)=>(.pv p,h1)
def ai (P:Program) (o:Oper) (ρ:Operand→AV) (d gen:Nat) (h:aa):Option (AV×aa):=
 match o.op with
 | .move x | .assign x=>some (ρ x,h)
 | .pick c a b=>match ρ c with
  | .pv (.lit (.bool t))=>some (if t then ρ a else ρ b,h)
  | _=>none
 | .alloc e=>do
  let z ←bA P e
  let s ←o.dst
  if (aA z).ok then some (.mptr d s gen 0 0,hput h d s ⟨gen,.box (iJ P e (aA z)) false⟩) else none
 | .box _ x=>do
  let s ←o.dst
  if (ρ x).ok∧(bC (ρ x)).isNone=true then some (.mptr d s gen 0 0,hput h d s ⟨gen,.box (ρ x) false⟩) else none
 | .build t parts=>do
  let z ←bA P t
  let cells:=(aA z).cells.map AV.pv
  if (aA z).ok then match P.underlying t with
  | some (.struct fields)=>do
   let pl ←fE P fields
   let cs ←eP (pl[·]?) cells (parts.toList.map fun (i,x)=>(i,ρ x))
   some (cA cs,h)
  | some (.array _ e)=>do
   let size ←aF P e
   let cs ←eP (fun i=>some (i*size,size)) cells (parts.toList.map fun (i,x)=>(i,ρ x))
   some (cA cs,h)
  | _=>none
  else none
 | .buildSlice t len parts=>match P.underlying t with
  | some (.slice e)=>do
   let size ←aF P e
   if len=0∧parts.size=0 then some (.pv (.sl size false true []),h) else do
   let z ←bA P e
   let s ←o.dst
   if len*size≤16777216∧len*size≠0∧(aA z).cells.length=size∧(aA z).ok=true then do
    let (ps,h1) ←bi ao (parts.toList.map fun q=>ρ q.2) h
    if (ps.all fun p=>p.cells.length==size&&p.ok)&&(parts.toList.all fun q=>decide (q.1<len)) then
     let xs:=((parts.toList.map (·.1)).zip ps).foldl (fun l q=>l.set q.1 q.2) (List.replicate len (aA z))
     some (.msl d s gen 0 len true,hput h1 d s ⟨gen,.row size e xs false⟩)
    else none
   else none
  | _=>none
 | .load t a=>do
  let m ←aF P t
  let ag ←b8 P t
  match ρ a with
  | .mptr d s g i off=>match live h d s g with
   | .box v _=>if i=0 then (di ag m off v).map (·,h) else none
   | .row _ _ xs _=>(xs[i]?).bind fun x=>(cO ag m off x).map fun p=>(.pv p,h)
   | _=>none
  | .pv (.ptr root off)=>(cO ag m off root).map fun p=>(.pv p,h)
  | _=>none
 | .store t a x=>do
  let m ←aF P t
  if (ρ x).cells.length=m∧m≠0∧(ρ x).ok=true then
   match ρ a with
   | .mptr d s g i off=>match live h d s g with
    | .box v false=>if i=0 then (cX v off (ρ x).cells).map fun v'=>(bb,hput h d s ⟨g,.box v' false⟩) else none
    | .row _ _ _ false=>(frz ao (ρ x) h).bind fun (p,h1)=>match live h1 d s g with
     | .row k e xs false=>(xs[i]?).bind fun y=>if off+p.cells.length≤y.cells.length then (gu y off p.cells).map fun y'=>(bb,hput h1 d s ⟨g,.row k e (xs.set i y') false⟩) else none
     | _=>none
    | _=>none
   | _=>none
  else none
 | .nilCheck x=>match ρ x with
  | .mptr d s g i off=>some (.mptr d s g i off,h)
  | .pv (.ptr r off)=>some (.pv (.ptr r off),h)
  | .pv (.clo (.func f) a b)=>some (.pv (.clo (.func f) a b),h)
  | .clo (.func f) a b=>some (.clo (.func f) a b,h)
  | .pv (.iface t p)=>some (.pv (.iface t p),h)
  | _=>none
 | .binOp op t x y _=>(j0 P op t x y (ρ x) (ρ y)).map (·,h)
 | .unOp op _ x=>(fD (ρ x)).bind fun v=>(cr P (Op.unary op v)).map fun r=>(aU r,h)
 | .convert src dst x=>match P.underlying src,P.underlying dst,ρ x with
  | some .string,some (.slice e),.pv (.lit (.string s))=>match P.underlying e,o.dst with
   | some (.int .u8),some sl=>if s.size≤iG then some (.msl d sl gen 0 s.size false,hput h d sl ⟨gen,.row 1 e (ar s) false⟩) else none
   | _,_=>none
  | some (.slice e),some .string,x=>match P.underlying e with
   | some (.int .u8)=>if p4 x then (ct 1 h x).bind fun l=>(cB l).map fun bs=>(aU (.string ⟨bs.toArray⟩),h) else none
   | _=>none
  | _,_,x=>(fD x).bind fun v=>(cr P (convert src dst v)).map fun r=>(aU r,h)
 | .makeInterface t x=>match P.underlying t with
  | some (.interface _) | none=>none
  | some d=>if iI P d then some (.ifc t (ρ x),h) else (frz ao (ρ x) h).map fun (p,h1)=>(.pv (.iface t p),h1)
 | .typeAssert x xT aT ok=>(mi P x xT aT ok (ρ x)).map (·,h)
 | .makeFunc fn first captured=>match aQ (first.toList.map ρ),aQ (captured.toList.map ρ) with
  | some a,some b=>some (.pv (.clo fn a b),h)
  | _,_=>some (.clo fn (first.toList.map ρ) (captured.toList.map ρ),h)
 | .makeSlice t l c=>match P.underlying t with
  | some (.slice e)=>do
   let size ←aF P e
   let bytes ←cY P e
   let z ←bA P e
   let s ←o.dst
   let l ←intOf? (ρ l)
   let c ←intOf? (ρ c)
   if 0≤l∧l≤c∧bO c.toNat bytes=true∧size≠0∧(aA z).cells.length=size∧(aA z).ok=true then
    some (.msl d s gen 0 l.toNat (decide (l=c)),hput h d s ⟨gen,.row size e (List.replicate l.toNat (aA z)) false⟩)
   else none
  | _=>none
 | .slice t x lo hi mx=>(eQ P t h (ρ x) (lo.map ρ) (hi.map ρ) (mx.map ρ)).map (·,h)
 | .fieldAddr st x f=>match P.underlying st with
  | some (.struct fields)=>(mg fields P f).bind fun off=>match ρ x with
   | .mptr d s g i o=>some (.mptr d s g i (o+off),h)
   | .pv (.ptr r o)=>some (.pv (.ptr r (o+off)),h)
   | _=>none
  | _=>none
 | .indexAddr t x ix=>(intOf? (ρ ix)).bind fun i=>match P.underlying t,ρ x with
  | some (.slice e),.pv (.sl k nl _ xs)=>(aF P e).bind fun size=>if 0≤i∧nl=false∧k=size then (xs[i.toNat]?).map fun y=>(.pv (.ptr y 0),h) else none
  | some (.slice e),.msl d s g off n _=>(aF P e).bind fun size=>match live h d s g with
   | .row k _ _ _=>if 0≤i∧i<n∧k=size then some (.mptr d s g (off+i.toNat) 0,h) else none
   | _=>none
  | some (.array n e),.mptr d s g j o=>(aF P e).bind fun size=>if 0≤i∧i<n then some (.mptr d s g j (o+i.toNat*size),h) else none
  | some (.array n e),.pv (.ptr r o)=>(aF P e).bind fun size=>if 0≤i∧i<n then some (.pv (.ptr r (o+i.toNat*size)),h) else none
  | _,_=>none
 | .index t x ix=>match P.underlying t,ρ x,ρ ix with
  | some .string,.pv (.lit (.string s)),.pv (.lit (.int _ i))=>if h0:0≤i∧i.toNat<s.size then some (aU (.int .u8 (s[i.toNat]'h0.2).toNat),h) else none
  | some (.array n e),v,.pv (.lit (.int _ i))=>if 0≤i∧i<n then (aF P e).bind fun size=>(b8 P e).bind fun ag=>if v.isAgg then (di ag size (i.toNat*size) v).map (·,h) else none else none
  | _,_,_=>none
 | .field t x f=>match P.underlying t with
  | some (.struct fields)=>(fields[f]?).bind fun fd=>(aF P fd.type).bind fun size=>(b8 P fd.type).bind fun ag=>if (ρ x).isAgg then (di ag size fd.offset (ρ x)).map (·,h) else none
  | _=>none
 | .extract x i=>match ρ x with
  | .pv (.tup vs)=>(vs[i]?).map fun p=>(.pv p,h)
  | .tup vs=>(vs[i]?).map (·,h)
  | _=>none
 | .range t x=>match P.underlying t,ρ x,o.dst with
  | some .string,.pv (.lit (.string s)),some sl=>some (.mptr d sl gen 0 0,hput h d sl ⟨gen,.iter s 0⟩)
  | some (.map _ _),.pv (.lit (.map none)),some sl=>some (.mptr d sl gen 0 0,hput h d sl ⟨gen,.mit none 0 [] 0⟩)
  | some (.map _ _),.mref d' s' g',some sl=>match live h d' s' g' with
   | .map clock _=>some (.mptr d sl gen 0 0,hput h d sl ⟨gen,.mit (some (d',s',g')) clock [] clock⟩)
   | _=>none
  | _,_,_=>none
 | .makeMap _ none=>o.dst.map fun s=>(.mref d s gen,hput h d s ⟨gen,.map 0 []⟩)
 | .lookup mt m k ok=>match P.underlying mt,ρ m,ρ k with
  | some (.map kt vt),.pv (.lit (.map none)),.pv (.lit _)=>(dj P kt).bind fun _=>(bA P vt).map fun z=>(if ok then .pv (.tup [aA z,.lit (.bool false)]) else .pv (aA z),h)
  | some (.map kt vt),.mref d s g,.pv (.lit key)=>match live h d s g with
   | .map _ es=>(dj P kt).bind fun kd=>match dO kd key es 0 with
    | some (some (_,v))=>some (if ok then dP [v,aU (.bool true)] else v,h)
    | some none=>(bA P vt).map fun z=>(if ok then .pv (.tup [aA z,.lit (.bool false)]) else .pv (aA z),h)
    | none=>none
   | _=>none
  | _,_,_=>none
 | .mapUpdate mt m k x | .insert mt m k x=>match P.underlying mt,ρ m,ρ k with
  | some (.map kt _),.mref d s g,.pv (.lit key)=>(dj P kt).bind fun kd=>(gC h (ρ x)).bind fun (v,h1)=>match live h1 d s g with
   | .map clock es=>match dO kd key es 0 with
    | some (some (i,_))=>some (bb,hput h1 d s ⟨g,.map clock (es.set i ⟨((es[i]?).map (·.born)).getD 0,key,v⟩)⟩)
    | some none=>some (bb,hput h1 d s ⟨g,.map (clock+1) (es++[⟨clock,key,v⟩])⟩)
    | none=>none
   | _=>none
  | _,_,_=>none
 | .entry it=>match ρ it with
  | .mptr d s g 0 0=>match live h d s g with
   | .mit (some (d',s',g')) _ seen last=>match live h d' s' g' with
    | .map clock es=>match seen.getLast? with
     | some stamp=>if clock=last then (es.find? fun e=>e.born==stamp).map fun e=>(dP [.pv (.lit e.key),e.val],h) else none
     | none=>none
    | _=>none
   | _=>none
  | _=>none
 | .next it false=>match ρ it with
  | .mptr d s g 0 0=>match live h d s g with
   | .mit none _ _ _=>some (.pv (.tup [.lit (.bool false)]),h)
   | .mit (some (d',s',g')) since seen last=>match live h d' s' g' with
    | .map clock es=>match iH since seen last es with
     | some none=>some (.pv (.tup [.lit (.bool false)]),h)
     | some (some e)=>some (dP [aU (.bool true),.pv (.lit e.key),e.val],hput h d s ⟨g,.mit (some (d',s',g')) since (seen++[e.born]) clock⟩)
     | none=>none
    | _=>none
   | _=>none
  | _=>none
 | .next it true=>match ρ it with
  | .mptr d s g 0 0=>match live h d s g with
   | .iter b pos=>if pos<b.size then
     some (.pv (.tup [.lit (.bool true),.lit (.int .i64 pos),.lit (.int .i32 (Utf8.decode b pos).1)]),hput h d s ⟨g,.iter b (pos+(Utf8.decode b pos).2)⟩)
    else some (.pv (.tup [.lit (.bool false)]),h)
   | _=>none
  | _=>none
 | .call { callee:= .builtin b,args,argTypes} =>match bR P b argTypes h (args.toList.map ρ) with
  | some r=>some r
  | none=>cg P b argTypes o.type d (o.dst.getD 0) gen h (args.toList.map ρ)
 | _=>none
structure ap where
 P:Program
 intr:FuncId→Option (List PV→Option PV)
 inl:FuncId→Bool
 own:FuncId→Bool
 can:FuncId→Bool
 rd:FuncId→Bool
 asf:FuncId→TypeId→Option TypeId
 asm:TypeId→Bool:=fun _=>false
 bad:Array Oper→Bool
 ckf:FuncId→Option TypeId
 any:FuncId→Bool:=fun _=>false
 ok:FuncId→Bool
 gl:(Nat→Prop)→World→Prop
 glm: ∀(I I':Nat→Prop) (w w':World),gl I w→(∀b,I b→I' b)→(∀b,I b→w'.heap[b]? =w.heap[b]?)→gl I' w'
abbrev gD:=List AV→aa→Nat→Option (Bool×aa×Nat)
abbrev Ys:=List (Nat×gD)
def Ys.get?:Ys→Nat→Option gD
 | [],_=>none
 | (k,x)::l,g=>if k=g then some x else Ys.get? l g
abbrev bu:=Ys→FuncId→List AV→Nat→Nat→Nat→aa→Nat→Option (AV×aa×Nat)
def bc:Nat→AV→Bool
 | 0,_=>true
 | n+1,v=>match v with
  | .pv _ | .msl .. =>false
  | .mptr .. | .yld .. =>true
  | .agg l | .tup l=>l.any (bc n)
  | .clo _ a b=>a.any (bc n)||b.any (bc n)
  | .ifc _ v=>bc n v
  | .btag _=>true
  | .mref .. =>true
def gE:Nat→Nat→AV→Bool
 | 0,_,_=>true
 | n+1,dc,v=>match v with
  | .pv _=>false
  | .msl d .. | .mptr d .. | .yld d .. | .mref d .. =>decide (dc≤d)
  | .agg l | .tup l=>l.any (gE n dc)
  | .clo _ a b=>a.any (gE n dc)||b.any (gE n dc)
  | .ifc _ v=>gE n dc v
  | .btag _=>false
def cP:AV→Option (FuncId×List AV×List AV)
 | .pv (.clo (.func f) a b)=>some (f,a.map .pv,b.map .pv)
 | .clo (.func f) a b=>some (f,a,b)
 | _=>none
inductive j4 where
 | pu | rd | fz | al | eff
 deriving DecidableEq,Inhabited
def p7 (P:Program) (f:FuncId):Bool:=match P.funcs[f]? with
 | some fn=>fn.params.any fun t=>match P.underlying t with
  | some (.pointer _) | some (.func ..)=>true
  | _=>false
 | none=>true
def eS (P:Program) (t:TypeId):Bool:=match P.underlying t with
 | some (.slice _)=>true
 | _=>false
def eT (h:aa) (d:Nat):Option Tmp→Bool
 | some s=>match (ac h d s).b with
  | .dead=>true
  | _=>false
 | none=>false
def aN (E:ap) (o:Oper):j4:=match o.op with
 | .convert src dst _=>if eS E.P src||eS E.P dst then .eff else .pu
 | .typeAssert .. | .move _ | .assign _ | .pick .. | .nilCheck _ | .binOp .. | .unOp .. | .makeFunc .. | .fieldAddr .. | .extract .. | .build .. | .field .. | .index .. => .pu
 | .load .. | .indexAddr .. | .slice .. | .lookup .. => .rd
 | .makeInterface .. => .fz
 | .alloc _ | .box .. | .makeMap .. => .al
 | .call { callee:= .builtin .len,argTypes,..} =>match (argTypes[0]?).bind E.P.underlying with
  | some (.map _ _)=> .rd
  | _=> .pu
 | .call { callee:= .builtin .cap,..} | .call { callee:= .builtin .max,..} | .call { callee:= .builtin .min,..} | .call { callee:= .builtin .unsafeSliceData,..} => .pu
 | .call { callee:= .value (.func f),..} =>if E.own f||(E.inl f||E.rd f)||p7 E.P f then .eff else .fz
 | _=> .eff
def bx (E:ap) (call:bu) (ys:Ys) (st:Bool) (d gen:Nat) (o:Oper) (ρ:Operand→AV) (h:aa) (g:Nat):Option (AV×aa×Nat):=
 match o.op with
 | .call { callee:= .value f,args,..} =>match ρ f with
  | .yld _ _ gl=>(ys.get? gl).bind fun hd=>(hd (args.toList.map ρ) h g).map fun (b,h,g)=>(aU (.bool b),h,g)
  | fv=>(cP fv).bind fun (fid,a,b)=>
   if st&&(aN E o== .fz)&&(a++args.toList.map ρ++b).any (bc ao) then none else
   call ys fid (a++args.toList.map ρ++b) d (o.dst.getD 0) gen h g
 | .call { callee:= .invoke r m,args,..} =>(gA E.P (ρ r) m).bind fun (fid,rv)=>call ys fid ([rv]++args.toList.map ρ) d (o.dst.getD 0) gen h g
 | _=>if st&&(aN E o== .al)&& !eT h d o.dst then none else (ai E.P o ρ d gen h).map fun (v,h)=>(v,h,g)
def bS:AV→Option Bool
 | .pv (.lit (.bool b))=>some b
 | _=>none
def bv (all:Array Oper) (t:List AV) (o:Oper):Bool:=match o.guard with
 | none=>true
 | some (j,want)=>(((all[j]?).bind (·.dst)).bind fun i=>bS (bz t i))==some want
def cu (E:ap) (call:bu) (ys:Ys) (st:Bool) (d gb:Nat) (all:Array Oper) (i:Nat) (o:Oper) (t:List AV) (h:aa) (g:Nat):Option (AV×aa×Nat):=
 if bv all t o then bx E call ys st d (gb+i) o (aw t) h g else some (bb,h,g)
def bw (E:ap) (call:bu) (ys:Ys) (st:Bool) (d gb:Nat) (all:Array Oper) (i:Nat) (o:Oper) (s:St):Option St:=
 (cu E call ys st d gb all i o s.t s.h s.g).map fun (v,h,g)=> { t:=aP s.t o.dst v,h,g}
def ec (E:ap) (call:bu) (ys:Ys) (st:Bool) (d gb:Nat) (all:Array Oper):List Oper→Nat→St→Option St
 | [],_,s=>some s
 | o::os,i,s=>(bw E call ys st d gb all i o s).bind (ec E call ys st d gb all os (i+1))
def dl (body:St→Option (av×St)):Nat→St→Option (av×St)
 | 0,_=>none
 | n+1,s=>match body s with
  | some (.normal,s')=>dl body n s'
  | r=>r
def dm (E:ap) (d:Nat):List Oper→aa→aa
 | [],h=>h
 | o::os,h=>dm E d os (match aN E o,o.dst with
  | .al,some s=>hput h d s ae
  | _,_=>h)
def eU:List Tmp→List AV→List AV→List AV
 | p::ps,v::vs,t=>eU ps vs (iB t p v)
 | _,_,t=>t
def fH (E:ap) (f:FuncId):Bool:=E.ok f&&(E.intr f).isNone&&(match E.P.funcs[f]? with
 | some fn=>fn.body.isSome
 | none=>false)
def iL (assign body:St→Option (av×St)) (ps:Array Tmp) (t:List AV) (d slot gen:Nat):gD:=fun args h g=>
 if args.length=ps.size then match live h d slot gen with
  | .lp .ready=>match assign { t:=eU ps.toList args t,h,g} with
   | some (.normal,s1)=>match live s1.h d slot gen with
    | .lp .ready=>match body { s1 with h:=hput s1.h d slot ⟨gen,.lp .busy⟩} with
     | some (x,s2)=>match live s2.h d slot gen with
      | .lp .busy=>if x= .normal then some (true,hput s2.h d slot ⟨gen,.lp .ready⟩,s2.g) else some (false,hput s2.h d slot ⟨gen,.lp (.done x)⟩,s2.g)
      | _=>none
     | none=>none
    | _=>none
   | _=>none
  | _=>none
 else none
def bX (E:ap) (ops:Array Oper) (x y:Oper):Bool:=Oper.apart ops x y&&(match aN E x,aN E y with
 | .pu,_ | _,.pu=>true
 | .eff,_ | _,.eff=>false
 | .al,.rd | .al,.fz=>false
 | _,_=>true)
def ed (i:Nat) (o:Oper):Bool:=o.after.all fun e=> !Region.binds .any e||decide (e.on<i)
def c2 (i:Nat) (acc:List Nat) (j:Nat):Nat:=if j<i then acc.getD (i-1-j) 0 else 0
def iM (E:ap) (ops:Array Oper) (o:Oper) (v:Nat):List Oper→Nat→Bool
 | [],_=>true
 | x::xs,j=>(v.testBit j||bX E ops x o)&&iM E ops o v xs (j+1)
def iN (E:ap) (ops:Array Oper) (l:List Oper):List Oper→Nat→List Nat→Bool
 | [],_,_=>true
 | o::rest,i,acc=>CheckFast.force (CheckFast.one (c2 i acc) o) fun v=>
  ed i o&&iM E ops o v (l.take i) 0&&iN E ops l rest (i+1) (v::acc)
def j5 (E:ap) (ops:Array Oper):Bool:=iN E ops ops.toList ops.toList 0 []
structure bG where
 r:List K2
 w:List K2
def aM:AV→List K2
 | .mptr d s .. | .msl d s .. | .mref d s _=>[(d,s)]
 | _=>[]
def fI (E:ap) (d:Nat) (o:Oper) (ρ:Operand→AV):Option bG:=match aN E o with
 | .pu=>some ⟨[],[]⟩
 | .al=>o.dst.map fun s=>⟨[(d,s)],[(d,s)]⟩
 | .rd=>match o.op with
  | .load _ a | .indexAddr _ a _ | .lookup _ a _ _=>some ⟨aM (ρ a),[]⟩
  | _=>none
 | .fz=>match o.op with
  | .call { callee:= .value (.func _),args,..} =>if (aQ (args.toList.map ρ)).isSome then some ⟨[],[]⟩ else none
  | _=>none
 | .eff=>match o.op with
  | .store _ a x=>if (aQ [ρ x]).isSome then some ⟨aM (ρ a),aM (ρ a)⟩ else none
  | .mapUpdate _ m _ x | .insert _ m _ x=>if (aQ [ρ x]).isSome then some ⟨aM (ρ m),aM (ρ m)⟩ else none
  | .buildSlice _ _ parts=>if (aQ (parts.toList.map fun q=>ρ q.2)).isSome then some ⟨[],o.dst.toList.map fun s=>(d,s)⟩ else none
  | .call { callee:= .builtin .append,args,..} =>some ⟨(d,o.dst.getD 0)::args.toList.flatMap (fun x=>aM (ρ x)),(d,o.dst.getD 0)::args.toList.flatMap (fun x=>aM (ρ x))⟩
  | _=>none
def dn (E:ap) (d:Nat) (all:Array Oper) (o:Oper) (t:List AV):Option bG:=if bv all t o then fI E d o (aw t) else some ⟨[],[]⟩
def gF (E:ap) (call:bu) (ys:Ys) (d gb:Nat) (all:Array Oper):List Oper→Nat→St→Option (St×List (Option bG))
 | [],_,s=>some (s,[])
 | o::os,i,s=>(bw E call ys true d gb all i o s).bind fun s1=>(gF E call ys d gb all os (i+1) s1).map fun q=>(q.1,dn E d all o s.t::q.2)
def iO (a b:bG):Bool:=a.w.all (fun k=>(bZ b.r k).isNone&&(bZ b.w k).isNone)&&b.w.all (fun k=>(bZ a.r k).isNone)
def iP:Option bG→Option bG→Bool
 | some a,some b=>iO a b
 | _,_=>false
def iQ (E:ap) (ops:Array Oper) (o:Oper) (v:Nat) (fo:Option bG):List Oper→List (Option bG)→Nat→Bool
 | [],_,_=>true
 | x::xs,φ,j=>(v.testBit j||(bX E ops x o||(Oper.apart ops x o&&iP (φ.headD none) fo)))&&iQ E ops o v fo xs φ.tail (j+1)
def iR (E:ap) (ops:Array Oper) (φ:List (Option bG)) (l:List Oper):List Oper→Nat→List Nat→Bool
 | [],_,_=>true
 | o::rest,i,acc=>CheckFast.force (CheckFast.one (c2 i acc) o) fun v=>
  ed i o&&iQ E ops o v (φ.getD i none) (l.take i) φ 0&&iR E ops φ l rest (i+1) (v::acc)
def p8 (E:ap) (ops:Array Oper) (φ:List (Option bG)):Bool:=iR E ops φ ops.toList ops.toList 0 []
def aK (E:ap) (call:bu) (ys:Ys) (d fuel:Nat):Code→St→Option (av×St)
 | .skip,s | .label _,s=>some (.normal,s)
 | .ret,s=>some (.ret,s)
 | .exit id,s=>some (.exit id,s)
 | .goto l,s=>some (.goto l,s)
 | .region _ ops draw,s=>if draw&&E.bad ops then
   (gF E call ys d s.g ops ops.toList 0 { s with h:=dm E d ops.toList s.h,g:=s.g+ops.size}).bind fun (s',φ)=>if p8 E ops φ then some (.normal,s') else none
  else
  (ec E call ys draw d s.g ops ops.toList 0 { s with h:=if draw then dm E d ops.toList s.h else s.h,g:=s.g+ops.size}).map fun s'=>(.normal,s')
 | .seq a b,s=>match aK E call ys d fuel a s with
  | some (.normal,s')=>aK E call ys d fuel b s'
  | r=>r
 | .cond c a b,s=>match bS (aw s.t c) with
  | some true=>aK E call ys d fuel a s
  | some false=>aK E call ys d fuel b s
  | none=>none
 | .block id c,s=>match aK E call ys d fuel c s with
  | some (.exit id',s')=>some (if id'=id then .normal else .exit id',s')
  | r=>r
 | .loop c,s=>dl (aK E call ys d fuel c) fuel s
 | .rangeFunc f ps assign body,s=>
  (cP (aw s.t f)).bind fun (fid,a,b)=>
   if fH E fid then
    (call ((s.g,iL (aK E call ys d fuel assign) (aK E call ys d fuel body) ps s.t d (ps.getD 0 0) s.g)::ys) fid (a++[.yld d (ps.getD 0 0) s.g]++b) d (ps.getD 0 0) (s.g+1)
     (hput s.h d (ps.getD 0 0) ⟨s.g,.lp .ready⟩) (s.g+2)).bind fun (_,h,g)=>
    match live h d (ps.getD 0 0) s.g with
    | .lp .ready=>some (.normal,{ t:=s.t,h:=hput h d (ps.getD 0 0) ae,g})
    | .lp (.done x)=>if x= .normal then none else some (x,{ t:=s.t,h:=hput h d (ps.getD 0 0) ae,g})
    | _=>none
   else none
 | _,_=>none
def fJ (P:Program) (h:aa) (t:List AV):ResultVar→Option AV
 | .tmp i=>some (bz t i)
 | .cell a ty=>do
  let m ←aF P ty
  let ag ←b8 P ty
  match bz t a with
  | .mptr d s g i off=>match live h d s g with
   | .box v _=>if i=0 then di ag m off v else none
   | _=>none
  | _=>none
def j6 (l:List AV):AV:=match aQ l with
 | some ps=> .pv (.tup ps)
 | none=> .tup l
def b3 (P:Program) (fn:Func) (h:aa) (t:List AV):Option AV:=match fn.results.toList with
 | [r]=>fJ P h t r
 | rs=>(rs.mapM (fJ P h t)).map j6
def c3 (n:Nat) (l:List AV):List AV:=l++List.replicate (n-l.length) bb
def c4 (n d:Nat) (h:aa):aa:=bh [] h d (h.getD d []++List.replicate n ae)
def dp (E:ap) (call:bu) (ys:Ys) (fuel:Nat) (fn:Func) (d:Nat) (args:List AV) (h:aa) (g:Nat):Option (AV×aa×Nat):=
 fn.body.bind fun c=>match aK E call ys d fuel c { t:=c3 fn.ntmps args,h:=c4 fn.ntmps d h,g} with
  | some (.normal,s) | some (.ret,s)=>(b3 E.P fn s.h s.t).map fun v=>(v,s.h,s.g)
  | _=>none
def iS (dc:Nat) (hc:aa) (v:AV) (d slot gen:Nat) (h:aa):Option (AV×aa):=
 match v with
 | .msl d' s' g' off n full=>if d'=dc then match live hc d' s' g' with
   | .row k e xs fz=>some (.msl d slot gen off n full,hput h d slot ⟨gen,.row k e xs fz⟩)
   | _=>none
  else none
 | .mptr d' s' g' 0 off=>if d'=dc then match live hc d' s' g' with
   | .box (.pv p) false=>some (.mptr d slot gen 0 off,hput h d slot ⟨gen,.box (.pv p) false⟩)
   | _=>none
  else none
 | _=>none
def aV:Nat→AV→List (K2×Nat)
 | 0,_=>[]
 | n+1,v=>match v with
  | .pv _ | .yld .. =>[]
  | .mptr d s g _ _ | .msl d s g _ _ _ | .mref d s g=>[((d,s),g)]
  | .agg l | .tup l=>l.flatMap (aV n)
  | .clo _ a b=>a.flatMap (aV n)++b.flatMap (aV n)
  | .ifc _ v=>aV n v
  | .btag _=>[]
def b4:ba→List (K2×Nat)
 | .box v _=>aV ao v
 | _=>[]
def j7 (h:aa):Nat→List K2→List K2→List K2
 | 0,_,acc=>acc
 | _+1,[],acc=>acc
 | n+1,k::todo,acc=>if (bZ acc k).isSome then j7 h n todo acc else j7 h n (todo++(b4 (ac h k.1 k.2).b).map (·.1)) (acc++[k])
def ci (f:AV→Option AV):List AV→Option (List AV)
 | []=>some []
 | v::l=>(f v).bind fun w=>(ci f l).map (w:: ·)
def aD (ρ:K2→Option (K2×Nat)):Nat→AV→Option AV
 | 0,_=>none
 | n+1,v=>match v with
  | .pv p=>some (.pv p)
  | .mptr d s _ i off=>(ρ (d,s)).map fun k=> .mptr k.1.1 k.1.2 k.2 i off
  | .msl d s _ off m full=>(ρ (d,s)).map fun k=> .msl k.1.1 k.1.2 k.2 off m full
  | .agg l=>(ci (aD ρ n) l).map .agg
  | .tup l=>(ci (aD ρ n) l).map .tup
  | .clo f a b=>(ci (aD ρ n) a).bind fun a'=>(ci (aD ρ n) b).map fun b'=> .clo f a' b'
  | .yld .. =>none
  | .ifc t v=>(aD ρ n v).map (.ifc t)
  | .btag t=>some (.btag t)
  | .mref .. =>none
def bD (ρ:K2→Option (K2×Nat)):ba→Option ba
 | .box v fz=>(aD ρ ao v).map fun v=> .box v fz
 | .row k e xs fz=>some (.row k e xs fz)
 | .iter s pos=>some (.iter s pos)
 | _=>none
def cC (h:aa) (l:List (K2×Nat)):Bool:=l.all fun q=>q.2==(ac h q.1.1 q.1.2).g
def iT:List K2→Bool
 | []=>true
 | k::ks=>(bZ ks k).isNone&&iT ks
def gG (ρ:K2→Option (K2×Nat)) (h:aa):Nat→List K2→Option (List ak)
 | _,[]=>some []
 | i,k::ks=>(bD ρ (ac h k.1 k.2).b).bind fun b=>(gG ρ h (i+1) ks).map (⟨i,b⟩:: ·)
def iU (ks:List K2) (k:K2):Option (K2×Nat):=(bZ ks k).map fun i=>((0,i),i)
def p9:Nat:=64
def dq (h:aa) (args:List AV):List K2:=j7 h p9 ((args.flatMap (aV ao)).map (·.1)) []
def gH (h:aa) (args:List AV):Option (List K2×List AV×List ak):=
 if iT (dq h args) then (ci (aD (iU (dq h args)) ao) args).bind fun cargs=>(gG (iU (dq h args)) h 0 (dq h args)).map fun rows=>(dq h args,cargs,rows) else none
def fK (h:aa) (ks:List K2) (args:List AV):Bool:=cC h (args.flatMap (aV ao))&&ks.all fun k=>cC h (b4 (ac h k.1 k.2).b)
def mj:ba→Bool
 | .row .. =>true
 | _=>false
def eV (m:Nat) (h1:aa):Option K2:=match (List.range m).find? fun i=>(ac h1 0 i).g != i&&mj (ac h1 0 i).b with
 | some i=>some (0,i)
 | none=>(((List.range m).flatMap fun i=>b4 (ac h1 0 i).b).find? fun q=>q.1.1==1).map (·.1)
def ml (v:AV) (h1:aa):Option K2:=match v with
 | .msl 1 s .. =>if mj (ac h1 1 s).b then some (1,s) else none
 | _=>none
def dR (m:Nat) (v:AV) (h1:aa):Option K2:=match eV m h1 with
 | some e=>some e
 | none=>ml v h1
def dr (ex:Option K2) (j:Nat):Bool:=match ex with
 | some e=>e.1==0&&e.2==j
 | none=>false
def nm (ex:Option K2) (m j:Nat):Nat:=if dr ex j then m else j
def dS (m:Nat) (ex:Option K2) (k:K2):Option (K2×Nat):=if k.1==0&&decide (k.2<m) then some (k,nm ex m k.2) else match ex with
 | some e=>if e.1==k.1&&e.2==k.2 then some ((0,m),m) else none
 | none=>none
def dt (m:Nat) (ex:Option K2) (h1:aa):Nat→Nat→Option (List ak)
 | _,0=>match ex with
  | none=>some []
  | some e=>if e.1==0 then some [] else match (ac h1 e.1 e.2).b with
   | .row k t xs fz=>some [⟨m,.row k t xs fz⟩]
   | _=>none
 | i,n+1=>(bD (dS m ex) (ac h1 0 i).b).bind fun b=>(dt m ex h1 (i+1) n).map (⟨nm ex m i,b⟩:: ·)
def du (ex:Option K2) (h1:aa):Nat→Nat→Bool
 | _,0=>true
 | i,n+1=>((ac h1 0 i).g==i||dr ex i)&&(cC h1 (b4 (ac h1 0 i).b)&&du ex h1 (i+1) n)
def eW (m:Nat) (v:AV) (h1:aa):Option (AV×List ak):=match aD (dS m (dR m v h1)) ao v with
 | some v'=>if cC h1 (aV ao v)&&du (dR m v h1) h1 0 m then (dt m (dR m v h1) h1 0 m).map fun rs=>(v',rs) else none
 | none=>(frz ao v h1).bind fun q=>if du (eV m q.2) q.2 0 m then (dt m (eV m q.2) q.2 0 m).map fun rs=>(.pv q.1,rs) else none
def j8 (ks:List K2) (h:aa) (k:K2):Option (K2×Nat):=(ks[k.2]?).map fun q=>(q,(ac h q.1 q.2).g)
def eX (β:K2→Option (K2×Nat)) (h0:aa):List ak→List K2→aa→Option aa
 | r::rs,k::ks,h=>(bD β r.b).bind fun b=>eX β h0 rs ks (hput h k.1 k.2 ⟨(ac h0 k.1 k.2).g,b⟩)
 | [],[],h=>some h
 | _,_,_=>none
def mn (β:K2→Option (K2×Nat)) (ks:List K2) (h:aa) (v:AV) (rows:List ak):Option (AV×aa):=(aD β ao v).bind fun v'=>(eX β h rows ks h).map fun h'=>(v',h')
def gI (ks:List K2) (h:aa) (v:AV) (rows:List ak):Option (AV×aa):=mn (j8 ks h) ks h v rows
def gJ (d slot gen:Nat) (ks:List K2) (h:aa) (v:AV) (rows:List ak):Option (AV×aa):=
 if rows.length=ks.length then match rows.findIdx? fun r=>r.g==ks.length with
  | none=>gI ks h v rows
  | some i=>(ks[i]?).bind fun k=>gI ks (hput h k.1 k.2 ⟨gen,.dead⟩) v rows
 else if (bZ ks (d,slot)).isNone then gI (ks++[(d,slot)]) (hput h d slot ⟨gen,.dead⟩) v rows else none
def iV (E:ap) (call:bu) (fuel:Nat) (fn:Func) (args:List AV) (rows:List ak):Option (AV×List ak):=
 (dp E call [] fuel fn 1 args [rows,[]] rows.length).bind fun q=>eW rows.length q.1 q.2.1
def gK (rd:Bool) (p:PV) (h h1:aa) (g:Nat):Option (AV×aa×Nat):=if rd then (match p with
 | .lit x=>some (.pv (.lit x),h,g)
 | _=>none) else some (.pv p,h1,g)
def eY (E:ap) (f:FuncId) (args:List AV) (h:aa):Option (AV×aa):=match args with
 | [.pv e,.ifc t2 (.mptr d s g 0 0)]=>(E.asf f t2).bind fun t1=>match live h d s g,e with
  | .box (.pv old) false,.iface t (.ptr r o)=>if t=t1∧old.ok=true∧old.isAgg=false then some (aU (.bool true),hput h d s ⟨g,.box (.pv (.ptr r o)) false⟩) else if E.asm t&& !old.isAgg then some (aU (.bool false),h) else none
  | .box (.pv old) false,.iface t _=>if E.asm t&& !old.isAgg then some (aU (.bool false),h) else none
  | _,.lit .nilIface=>some (aU (.bool false),h)
  | _,_=>none
 | _=>none
def eZ (E:ap) (f:FuncId) (args:List AV) (h:aa):Option (AV×aa):=match args with
 | [.mptr d s g 0 0]=>(E.ckf f).bind fun T=>match live h d s g with
  | .box (.agg (c::l)) false=>match c with
   | .btag t=>if t=T∧l.length=1 then some (.pv (.tup []),hput h d s ⟨g,.box (.agg (.mptr d s g 0 0::l)) false⟩) else none
   | .mptr d' s' g' 0 0=>if d'=d∧s'=s∧g'=g then some (.pv (.tup []),h) else none
   | _=>none
  | _=>none
 | _=>none
def ef (E:ap) (f:FuncId) (args:List AV) (h:aa):Option (AV×aa):=if (E.ckf f).isSome then eZ E f args h else eY E f args h
def e6 {α β:Type} (f:α→Option (List β)):List α→Option (List β)
 | []=>some []
 | x::l=>(f x).bind fun a=>(e6 f l).map (a++ ·)
def j9 (o:Oper) (ρ:Operand→AV) (h:aa):Option (List (AV×aa)):=match o.op with
 | .next it false=>match ρ it with
  | .mptr d s g 0 0=>match live h d s g with
   | .mit none _ _ _=>some [(.pv (.tup [.lit (.bool false)]),h)]
   | .mit (some (d',s',g')) since seen last=>match live h d' s' g' with
    | .map clock es=>if !seen.isEmpty&& !es.isEmpty&&es.all (fun e=>decide (last≤e.born)) then none else
     some ((if (cZ since seen es).isEmpty then [(.pv (.tup [.lit (.bool false)]),h)] else [])++
      (cZ since seen es++d8 since seen es).map fun e=>(dP [aU (.bool true),.pv (.lit e.key),e.val],hput h d s ⟨g,.mit (some (d',s',g')) since (seen++[e.born]) clock⟩))
    | _=>none
   | _=>none
  | _=>none
 | _=>none
def iW (ops:Array Oper):Bool:=match ops[0]? with
 | some o=>o.guard.isNone&&(match o.op with
  | .next _ false=>true
  | _=>false)
 | none=>false
def ka (E:ap) (call:bu) (ys:Ys) (d:Nat) (ops:Array Oper) (s:St):Option (List (av×St)):=
 (ops[0]?).bind fun o=>(j9 o (aw s.t) s.h).bind fun L=>
  e6 (fun q=>(ec E call ys false d s.g ops (ops.toList.drop 1) 1 { t:=aP s.t o.dst q.1,h:=q.2,g:=s.g+ops.size}).map fun s'=>[(.normal,s')]) L
def fL (body:St→Option (List (av×St))):Nat→St→Option (List (av×St))
 | 0,_=>none
 | n+1,s=>(body s).bind (e6 fun q=>if q.1= .normal then fL body n q.2 else some [q])
def gL (id:Nat) (q:av×St):av×St:=match q.1 with
 | .exit id'=>(if id'=id then .normal else .exit id',q.2)
 | x=>(x,q.2)
def cv (E:ap) (call:bu) (ys:Ys) (d fuel:Nat):Code→St→Option (List (av×St))
 | .region id ops draw,s=>if !draw&&iW ops then ka E call ys d ops s else (aK E call ys d fuel (.region id ops draw) s).map ([·])
 | .seq a b,s=>(cv E call ys d fuel a s).bind (e6 fun q=>if q.1= .normal then cv E call ys d fuel b q.2 else some [q])
 | .cond c a b,s=>match bS (aw s.t c) with
  | some true=>cv E call ys d fuel a s
  | some false=>cv E call ys d fuel b s
  | none=>none
 | .block id c,s=>(cv E call ys d fuel c s).map (·.map (gL id))
 | .loop c,s=>fL (cv E call ys d fuel c) fuel s
 | c,s=>(aK E call ys d fuel c s).map ([·])
def iX (P:Program) (fn:Func) (q:av×St):Option (AV×aa×Nat):=match q with
 | (.normal,s) | (.ret,s)=>(b3 P fn s.h s.t).map fun v=>(v,s.h,s.g)
 | _=>none
def mo (E:ap) (call:bu) (ys:Ys) (fuel:Nat) (fn:Func) (d:Nat) (args:List AV) (h:aa) (g:Nat):Option (List (av×St)):=
 fn.body.bind fun c=>cv E call ys d fuel c { t:=c3 fn.ntmps args,h:=c4 fn.ntmps d h,g}
def iY:Value→Value→Bool
 | .string a,.string b=>a.data.toList==b.data.toList
 | .int k a,.int k' b=>decide (k=k')&&a==b
 | .bool a,.bool b=>a==b
 | .nilIface,.nilIface=>true
 | .pointer none,.pointer none=>true
 | .map none,.map none=>true
 | .tuple a,.tuple b=>a.size==0&&b.size==0
 | .slice none a b,.slice none a' b'=>a==a'&&b==b'
 | _,_=>false
def bJ {α:Type} (f:α→α→Bool):List α→List α→Bool
 | [],[]=>true
 | a::l,b::m=>f a b&&bJ f l m
 | _,_=>false
def iZ:Fn→Fn→Bool
 | .func a,.func b=>a==b
 | _,_=>false
def cD:Nat→PV→PV→Bool
 | 0,_,_=>false
 | n+1,a,b=>match a,b with
  | .lit x,.lit y=>iY x y
  | .sl k nl fu xs,.sl k' nl' fu' ys=>k==k'&&nl==nl'&&fu==fu'&&bJ (cD n) xs ys
  | .ptr r o,.ptr r' o'=>o==o'&&cD n r r'
  | .agg l,.agg m=>bJ (cD n) l m
  | .tup l,.tup m=>bJ (cD n) l m
  | .iface t v,.iface t' v'=>t==t'&&cD n v v'
  | .clo f x y,.clo f' x' y'=>iZ f f'&&bJ (cD n) x x'&&bJ (cD n) y y'
  | _,_=>false
def c5:Nat→AV→AV→Bool
 | 0,_,_=>false
 | n+1,a,b=>match a,b with
  | .pv p,.pv q=>cD (n+1) p q
  | .mptr d s g i o,.mptr d' s' g' i' o'=>d==d'&&s==s'&&g==g'&&i==i'&&o==o'
  | .msl d s g o m fu,.msl d' s' g' o' m' fu'=>d==d'&&s==s'&&g==g'&&o==o'&&m==m'&&fu==fu'
  | .agg l,.agg m=>bJ (c5 n) l m
  | .tup l,.tup m=>bJ (c5 n) l m
  | .clo f x y,.clo f' x' y'=>iZ f f'&&bJ (c5 n) x x'&&bJ (c5 n) y y'
  | .yld d s g,.yld d' s' g'=>d==d'&&s==s'&&g==g'
  | .ifc t v,.ifc t' v'=>t==t'&&c5 n v v'
  | .btag t,.btag t'=>t==t'
  | .mref d s g,.mref d' s' g'=>d==d'&&s==s'&&g==g'
  | _,_=>false
def i1:Nat:=16
def kb (a b:ME):Bool:=a.born==b.born&&iY a.key b.key&&c5 i1 a.val b.val
def kc:ba→ba→Bool
 | .dead,.dead=>true
 | .box v fz,.box v' fz'=>fz==fz'&&c5 i1 v v'
 | .row k e xs fz,.row k' e' xs' fz'=>k==k'&&e==e'&&fz==fz'&&bJ (cD i1) xs xs'
 | .iter s p,.iter s' p'=>p==p'&&s.data.toList==s'.data.toList
 | .lp st,.lp st'=>decide (st=st')
 | .map c es,.map c' es'=>c==c'&&bJ kb es es'
 | .mit none a b c,.mit none a' b' c'=>a==a'&&bJ (· == ·) b b'&&c==c'
 | .mit (some (x,y,z)) a b c,.mit (some (x',y',z')) a' b' c'=>x==x'&&y==y'&&z==z'&&a==a'&&bJ (· == ·) b b'&&c==c'
 | _,_=>false
def ke (a b:ak):Bool:=a.g==b.g&&kc a.b b.b
def mp (a b:aa):Bool:=bJ (bJ ke) a b
def gM (h:aa) (d slot gen:Nat) (v:AV) (h1:aa) (g1:Nat):Option (AV×aa×Nat):=
 if gE ao h.length v=false then some (v,h1.take h.length,g1)
 else match iS h.length h1 v d slot gen (h1.take h.length) with
  | some (v',h2)=>some (v',h2,g1)
  | none=>let ks:=gB h1 h.length j3 (dQ h.length ao v) []
   if ks.any (fun k=>p6 (ac h1 k.1 k.2).b) then some ((fG ks h1 v).1,(fG ks h1 v).2.take h.length,g1)
   else if bc ao v then some (v,h1,g1) else (frz ao v h1).map fun (p,h2)=>(.pv p,h2.take h.length,g1)
def i6:List (AV×aa×Nat)→Option (AV×aa×Nat)
 | []=>none
 | q::l=>if l.all (fun r=>c5 i1 r.1 q.1&&mp r.2.1 q.2.1) then some (q.1,q.2.1,l.foldl (fun g r=>max g r.2.2) q.2.2) else none
def mq (E:ap) (call:bu) (ys:Ys) (fuel:Nat) (fn:Func) (args:List AV) (d slot gen:Nat) (h:aa) (g:Nat):Option (AV×aa×Nat):=
 (mo E call ys fuel fn h.length args (h++[[]]) g).bind fun L=>(e6 (fun q=>(iX E.P fn q).bind fun r=>(gM h d slot gen r.1 r.2.1 r.2.2).map ([·])) L).bind i6
def aL (E:ap):Nat→bu
  | 0=>fun _ _ _ _ _ _ _ _=>none
  | n+1=>fun ys f args d slot gen h g=>
    match E.intr f with
    | some fn=>(bi ao args h).bind fun (ps,h1)=>(fn ps).map fun r=>(.pv r,h1,g)
    | none => match E.P.funcs[f]? with
      | none=>none
      | some fn=>
        if E.ok f=false then (ef E f args h).map fun q=>(q.1,q.2,g)
        else if E.inl f||(!E.rd f&&args.any (bc ao)) then
          if E.can f then
            (gH h args).bind fun q=>if fK h q.1 args then (iV E (aL E n) n fn q.2.1 q.2.2).bind fun r=>(gJ d slot gen q.1 h r.1 r.2).map fun z=>(z.1,z.2,g) else none
          else if E.any f then mq E (aL E n) ys n fn args d slot gen h g
          else (dp E (aL E n) ys n fn h.length args (h++[[]]) g).bind fun (v,h1,g1)=>gM h d slot gen v h1 g1
        else (bi ao args h).bind fun (ps,h1)=>
          (dp E (aL E n) [] n fn 0 (ps.map .pv) [[]] 0).bind fun (v,hc,_)=>
            if E.own f then match v with
              | .pv p=>some (.pv p,h1,g)
              | v=>(iS 0 hc v d slot gen h1).map fun (v',h2)=>(v',h2,g)
            else (frz ao v hc).bind fun q=>gK (E.rd f) q.1 h h1 g
def dT (n:Nat) (o:Oper):Bool:=match o.dst with
 | some d=>decide (d<n)
 | none=>true
def bH (E:ap) (n:Nat):Code→Bool
 | .region _ ops draw=>ops.all (dT n)&&(!draw||(E.bad ops||j5 E ops))
 | .seq a b | .cond _ a b=>bH E n a&&bH E n b
 | .block _ c | .loop c=>bH E n c
 | .rangeFunc _ ps a b=>ps.all (fun p=>decide (p<n))&&bH E n a&&bH E n b
 | _=>true
def b9 (E:ap) (fn:Func):Bool:= !(fn.name=="runtime.NumGoroutine")&&(match fn.body with
 | some c=>bH E fn.ntmps c
 | none=>true)
end Go.Proofs.YtdbjadjdljaobaaGreatDoor.Abs
namespace Go.Proofs.YtdbjadjdljaobaaGreatDoor.Abs
open Go Go.RowKit
theorem dv {α:Type} (z:α): ∀(l:List α) (i j:Nat) (v:α),(bh z l i v).getD j z=if i=j then v else l.getD j z
 | [],0,0,v=>by simp [bh]
 | [],0,j+1,v=>by simp [bh]
 | [],i+1,0,v=>by simp [bh]
 | [],i+1,j+1,v=>by simpa [bh] using dv z [] i j v
 | x::l,0,0,v=>by simp [bh]
 | x::l,0,j+1,v=>by simp [bh]
 | x::l,i+1,0,v=>by simp [bh]
 | x::l,i+1,j+1,v=>by simpa [bh] using dv z l i j v
theorem i7 (t:List AV) (i j:Nat) (v:AV):bz (iB t i v) j=if i=j then v else bz t j:=dv bb t i j v
theorem bY (h:aa) (d s d' s':Nat) (r:ak):ac (hput h d s r) d' s'=if d=d'∧s=s' then r else ac h d' s':=by
 unfold ac hput
 rw [dv]
 by_cases hd:d=d'
 ·subst hd
  simp only [if_true,true_and]
  rw [dv]
 ·simp [hd]
abbrev ah:=Nat→Prop
inductive am (I:ah) (w:World):PV→Value→Prop
 | lit (v:Value):am I w (.lit v) v
 | nil (k:Nat) (full:Bool):am I w (.sl k true full []) (.slice none 0 0)
 | emp (k:Nat) (full:Bool) (a:Addr) (cap:Nat) (hfull:full=true→cap=0):am I w (.sl k false full []) (.slice (some a) 0 cap)
 | sl (k:Nat) (full:Bool) (xs:List PV) (b o cap:Nat) (vs:Nat→Nat→Value)
   (hcap:xs.length≤cap) (hfull:full=true→cap=xs.length) (hI:I b) (hk: ∀x∈xs,x.cells.length=k∧x.ok=true)
   (hc: ∀(i:Nat) (x:PV),xs[i]? =some x→ ∀(j:Nat) (p:PV),x.cells[j]? =some p→w.cell? ⟨b,o+i*k+j,none⟩=some (vs i j)∧(vs i j).oneCell'=true)
   (hr: ∀(i:Nat) (x:PV),xs[i]? =some x→ ∀(j:Nat) (p:PV),x.cells[j]? =some p→am I w p (vs i j)):
   am I w (.sl k false full xs) (.slice (some ⟨b,o,none⟩) xs.length cap)
 | ptr (root:PV) (off b o:Nat) (vs:Nat→Value) (hI:I b)
   (hc: ∀(j:Nat) (p:PV),root.cells[j]? =some p→w.cell? ⟨b,o+j,none⟩=some (vs j)∧(vs j).oneCell'=true)
   (hr: ∀(j:Nat) (p:PV),root.cells[j]? =some p→am I w p (vs j)):
   am I w (.ptr root off) (.pointer (some ⟨b,o+off,none⟩))
 | agg (cs:List PV) (vs:List Value) (hl:vs.length=cs.length) (h1: ∀v∈vs,v.oneCell'=true)
   (hr: ∀(j:Nat) (p:PV) (v:Value),cs[j]? =some p→vs[j]? =some v→am I w p v):am I w (.agg cs) (.agg vs.toArray)
 | tup (cs:List PV) (vs:List Value) (hl:vs.length=cs.length)
   (hr: ∀(j:Nat) (p:PV) (v:Value),cs[j]? =some p→vs[j]? =some v→am I w p v):am I w (.tup cs) (.tuple vs.toArray)
 | iface (t:TypeId) (p:PV) (v:Value) (h:am I w p v):am I w (.iface t p) (.iface t v)
 | clo (f:Fn) (a b:List PV) (va vb:List Value) (hla:va.length=a.length) (hlb:vb.length=b.length)
   (hra: ∀(j:Nat) (p:PV) (v:Value),a[j]? =some p→va[j]? =some v→am I w p v) (hrb: ∀(j:Nat) (p:PV) (v:Value),b[j]? =some p→vb[j]? =some v→am I w p v):
   am I w (.clo f a b) (.func f va.toArray vb.toArray)
abbrev aq:=Nat→Option (Nat×Nat×Nat)
inductive ab (σ:aq) (I:ah) (w:World):AV→Value→Prop
 | pv (p:PV) (v:Value) (h:am I w p v):ab σ I w (.pv p) v
 | mptr (d s g i off b o k:Nat) (h:σ g=some (b,o,k)):ab σ I w (.mptr d s g i off) (.pointer (some ⟨b,o+i*k+off,none⟩))
 | msl (d s g off n:Nat) (full:Bool) (b o k cap ad:Nat) (had:cap≠0→ad=o+off*k) (h:σ g=some (b,o,k)) (hn:n≤cap) (hfull:full=true→cap=n)
   (hroom: ∃e m,w.shape? b=some (e,m)∧o+(off+cap)*k≤m):
   ab σ I w (.msl d s g off n full) (.slice (some ⟨b,ad,none⟩) n cap)
 | agg (cs:List AV) (vs:List Value) (hl:vs.length=cs.length) (h1: ∀v∈vs,v.oneCell'=true)
   (hr: ∀(j:Nat) (p:AV) (v:Value),cs[j]? =some p→vs[j]? =some v→ab σ I w p v):ab σ I w (.agg cs) (.agg vs.toArray)
 | tup (cs:List AV) (vs:List Value) (hl:vs.length=cs.length)
   (hr: ∀(j:Nat) (p:AV) (v:Value),cs[j]? =some p→vs[j]? =some v→ab σ I w p v):ab σ I w (.tup cs) (.tuple vs.toArray)
 | clo (f:Fn) (a b:List AV) (va vb:List Value) (hla:va.length=a.length) (hlb:vb.length=b.length)
   (hra: ∀(j:Nat) (p:AV) (v:Value),a[j]? =some p→va[j]? =some v→ab σ I w p v) (hrb: ∀(j:Nat) (p:AV) (v:Value),b[j]? =some p→vb[j]? =some v→ab σ I w p v):
   ab σ I w (.clo f a b) (.func f va.toArray vb.toArray)
 | yld (d s g b o k:Nat) (h:σ g=some (b,o,k)):ab σ I w (.yld d s g) (.func (.yield b) #[] #[])
 | ifc (t:TypeId) (v:AV) (u:Value) (h:ab σ I w v u):ab σ I w (.ifc t v) (.iface t u)
 | btag (t:TypeId):ab σ I w (.btag t) (.pointer none)
 | mref (d s g b o k:Nat) (h:σ g=some (b,o,k)):ab σ I w (.mref d s g) (.map (some b))
def bP (r r':Loop):Prop:=r'.fn=r.fn∧r'.tmps=r.tmps∧r'.params=r.params∧r'.assign=r.assign∧r'.body=r.body∧r'.defers=r.defers
theorem bP.refl (r:Loop):bP r r:=⟨rfl,rfl,rfl,rfl,rfl,rfl⟩
theorem bP.trans {a b c:Loop} (h:bP a b) (k:bP b c):bP a c:=
 ⟨k.1.trans h.1,k.2.1.trans h.2.1,k.2.2.1.trans h.2.2.1,k.2.2.2.1.trans h.2.2.2.1,k.2.2.2.2.1.trans h.2.2.2.2.1,k.2.2.2.2.2.trans h.2.2.2.2.2⟩
structure dw (I:ah) (w w':World):Prop where
 keep: ∀b,I b→w'.heap[b]? =w.heap[b]?
 shape: ∀b e n,w.shape? b=some (e,n)→w'.shape? b=some (e,n)
structure aO (I:ah) (w w':World):Prop where
 keep: ∀b,I b→w'.heap[b]? =w.heap[b]?
 shape: ∀b e n,w.shape? b=some (e,n)→w'.shape? b=some (e,n)
 loop: ∀(b:Nat) (r:Loop),w.heap[b]? =some (Obj.loop r)→ ∃r',w'.heap[b]? =some (Obj.loop r')∧bP r r'
 dfr: ∀(b:Nat),w.heap[b]? =some (Obj.deferred (some []))→w'.heap[b]? =some (Obj.deferred (some []))
theorem fM {w w':World} {b:Nat} (h:w'.heap[b]? =w.heap[b]?) (o:Nat) (s:Option Nat):w'.cell? ⟨b,o,s⟩=w.cell? ⟨b,o,s⟩:=by
 simp [World.cell?,h]
theorem qa {w w':World} {b:Nat} (h:w'.heap[b]? =w.heap[b]?) (o:Nat) (s:Option Nat):w'.frozen? ⟨b,o,s⟩=w.frozen? ⟨b,o,s⟩:=by
 simp [World.frozen?,h]
theorem aO.zero {I:ah} {w w':World} (h:aO I w w'):dw I w w':=⟨h.keep,h.shape⟩
instance {I:ah} {w w':World} :Coe (aO I w w') (dw I w w'):=⟨aO.zero⟩
theorem aO.refl (I:ah) (w:World):aO I w w:=⟨fun _ _=>rfl,fun _ _ _ h=>h,fun _ r h=>⟨r,h,bP.refl r⟩,fun _ h=>h⟩
theorem aO.trans {I I':ah} {a b c:World} (hI: ∀x,I x→I' x) (h:aO I a b) (k:aO I' b c):aO I a c:=
  ⟨fun x hx=>(k.keep x (hI x hx)).trans (h.keep x hx),fun x e n hx=>k.shape x e n (h.shape x e n hx),
   fun x r hx=>let ⟨r1,h1,s1⟩:=h.loop x r hx;let ⟨r2,h2,s2⟩:=k.loop x r1 h1;⟨r2,h2,s1.trans s2⟩,fun x hx=>k.dfr x (h.dfr x hx)⟩
theorem am.mono {I I':ah} {w w':World} (hI: ∀b,I b→I' b) (hk: ∀b,I b→w'.heap[b]? =w.heap[b]?) {p:PV} {v:Value} (h:am I w p v):am I' w' p v:=by
 induction h with
 | lit v=>exact .lit v
 | nil k full=>exact .nil k full
 | emp k full a cap hfull=>exact .emp k full a cap hfull
 | sl k full xs b o cap vs hcap hfull hb hk' hc hr ih=>
  exact .sl k full xs b o cap vs hcap hfull (hI b hb) hk' (fun i x hx j p hp=>by rw [fM (hk b hb)];exact hc i x hx j p hp) ih
 | ptr root off b o vs hb hc hr ih=>
  exact .ptr root off b o vs (hI b hb) (fun j p hp=>by rw [fM (hk b hb)];exact hc j p hp) ih
 | agg cs vs hl h1 hr ih=>exact .agg cs vs hl h1 ih
 | tup cs vs hl hr ih=>exact .tup cs vs hl ih
 | iface t p v h ih=>exact .iface t p v ih
 | clo f a b va vb hla hlb hra hrb iha ihb=>exact .clo f a b va vb hla hlb iha ihb
theorem ab.mono {σ σ':aq} {I I':ah} {w w':World} (hσ: ∀g x,σ g=some x→σ' g=some x) (hI: ∀b,I b→I' b) (hk:dw I w w') {p:AV} {v:Value}
  (h:ab σ I w p v):ab σ' I' w' p v:=by
 induction h with
 | pv p v h=>exact .pv p v (h.mono hI hk.keep)
 | mptr d s g i off b o k h=>exact .mptr d s g i off b o k (hσ _ _ h)
 | msl d s g off n full b o k cap ad had h hn hfull hroom=>
  obtain ⟨e,m,hs,hm⟩:=hroom
  exact .msl d s g off n full b o k cap ad had (hσ _ _ h) hn hfull ⟨e,m,hk.shape _ _ _ hs,hm⟩
 | agg cs vs hl h1 hr ih=>exact .agg cs vs hl h1 ih
 | tup cs vs hl hr ih=>exact .tup cs vs hl ih
 | clo f a b va vb hla hlb hra hrb iha ihb=>exact .clo f a b va vb hla hlb iha ihb
 | yld d s g b o k h=>exact .yld d s g b o k (hσ _ _ h)
 | ifc t v u h ih=>exact .ifc t v u ih
 | btag t=>exact .btag t
 | mref d s g b o k h=>exact .mref d s g b o k (hσ _ _ h)
def av.code:av→Code
 | .normal=> .skip
 | .exit id=> .exit id
 | .goto l=> .goto l
 | .ret=> .ret
def i8:iA→Loop→Prop
 | .ready,r=>r.state= .ready∧r.pending=none
 | .busy,r=>r.state= .busy
 | .done x,r=>r.state= .done∧r.pending=some x.code
def Fz (I:ah) (base:ah) (w:World) (b n:Nat):Bool→Prop
 | true=>I b
 | false=> ¬I b∧ ¬base b∧ ∀j,j<n→w.frozen? ⟨b,j,none⟩=false
inductive aH (σ:aq) (I:ah) (w:World):List ME→List MapEntry→Prop
 | nil:aH σ I w [] []
 | cons (e:ME) (x:MapEntry) (es:List ME) (xs:List MapEntry) (hb:x.born=e.born) (hk:x.key=e.key) (hv:ab σ I w e.val x.val) (h:aH σ I w es xs):aH σ I w (e::es) (x::xs)
theorem aH.mono {σ σ':aq} {I I':ah} {w w':World} (hσ: ∀g x,σ g=some x→σ' g=some x) (hI: ∀b,I b→I' b) (hk:dw I w w') {es:List ME} {xs:List MapEntry} (h:aH σ I w es xs):aH σ' I' w' es xs:=by
 induction h with
 | nil=>exact .nil
 | cons e x es xs hb hk' hv h ih=>exact .cons e x es xs hb hk' (hv.mono hσ hI hk) ih
def be (σ:aq) (I:ah) (base:ah) (w:World) (r:ak):Prop:=match r.b with
 | .dead=>True
 | .box v fz=> ∃b e,σ r.g=some (b,0,1)∧w.shape? b=some (e,v.cells.length)∧cq e v=true∧
   (∀(j:Nat) (p:AV),v.cells[j]? =some p→ ∃u,w.cell? ⟨b,j,none⟩=some u∧u.oneCell'=true∧ab σ I w p u)∧Fz I base w b v.cells.length fz
 | .row k e xs fz=> ∃b o n,σ r.g=some (b,o,k)∧w.shape? b=some (e,n)∧o+xs.length*k≤n∧(∀x∈xs,x.cells.length=k∧x.ok=true)∧
   (∀(i:Nat) (x:PV),xs[i]? =some x→ ∀(j:Nat) (p:PV),x.cells[j]? =some p→ ∃u,w.cell? ⟨b,o+i*k+j,none⟩=some u∧u.oneCell'=true∧am I w p u)∧Fz I base w b n fz
 | .iter s pos=> ∃b k,σ r.g=some (b,0,k)∧w.heap[b]? =some (.stringIter s pos)∧ ¬I b∧ ¬base b
 | .lp st=> ∃b k,σ r.g=some (b,0,k)∧(∃x,w.heap[b]? =some (Obj.loop x)∧i8 st x)∧ ¬I b∧ ¬base b
 | .map clock es=> ∃b k,σ r.g=some (b,0,k)∧(∃a:Array MapEntry,w.heap[b]? =some (Obj.map a clock)∧aH σ I w es a.toList)∧ ¬I b∧ ¬base b
 | .mit m since seen last=> ∃b k,σ r.g=some (b,0,k)∧(∃bm,w.heap[b]? =some (Obj.mapIter bm since seen.toArray last)∧(match m with
   | none=>bm=none
   | some (_,_,g)=> ∃b' o' k',σ g=some (b',o',k')∧bm=some b'))∧ ¬I b∧ ¬base b
theorem ja {e:TypeId} {v:AV} (h:cq e v=true):v.ok=true:=by
 unfold cq at h
 simp only [Bool.and_eq_true] at h
 exact h.1
theorem mr {e:TypeId} {v:AV} (h:v.ok=true) (ht:bC v=none):cq e v=true:=by
 unfold cq
 rw [h,ht];rfl
theorem qb {e t:TypeId} {v:AV} (h:cq e v=true) (ht:bC v=some t):t=e:=by
 unfold cq at h
 rw [ht] at h
 simp only [Bool.and_eq_true,beq_iff_eq] at h
 exact h.2
theorem jb {e:TypeId} {v v':AV} (h:cq e v=true) (h':v'.ok=true) (ht:bC v'=bC v∨bC v'=none):cq e v'=true:=by
 unfold cq at h ⊢
 rw [h']
 rcases ht with ht | ht<;>rw [ht]
 ·simp only [Bool.and_eq_true] at h ⊢
  exact ⟨trivial,h.2⟩
 ·rfl
theorem qc (p:PV):bC (.pv p)=none:=by
 unfold bC
 simp only [AV.cells,List.head?_map]
 cases p.cells.head?<;>rfl
def bn (w:World) (b:Nat):Prop:= ∃o,w.heap[b]? =some o∧o≠Obj.deferred (some [])
theorem bn.lt {w:World} {b:Nat} (h:bn w b):b<w.heap.size:=by
 obtain ⟨o,h,_⟩:=h
 exact (Array.getElem?_eq_some_iff.1 h).1
theorem bn.keep {w w':World} {b:Nat} (h:bn w b) (he:w'.heap[b]? =w.heap[b]?):bn w' b:=by
 obtain ⟨o,h,hn⟩:=h
 exact ⟨o,he.trans h,hn⟩
theorem bn.of_shape {w:World} {b n:Nat} {e:TypeId} (h:w.shape? b=some (e,n)):bn w b:=by
 unfold World.shape? at h
 split at h
 ·rename_i hh
  exact ⟨_,hh,by simp⟩
 ·cases h
def aj (σ:aq) (r:ak):Option Nat:=match r.b with
 | .dead | .box _ true | .row _ _ _ true=>none
 | _=>(σ r.g).map (·.1)
structure af (σ:aq) (I:ah) (base:ah) (w:World) (h:aa):Prop where
 rows: ∀d s,be σ I base w (ac h d s)
 apart: ∀d s d' s' b,aj σ (ac h d s)=some b→aj σ (ac h d' s')=some b→d=d'∧s=s'
 inW: ∀b,I b→bn w b
structure bT (B:ah) (w w':World):Prop where
 os:w'.os=w.os
 tape:w'.tape=w.tape
 output:w'.output=w.output
 size:w.heap.size≤w'.heap.size
 block: ∀k,B k→w'.heap[k]? =w.heap[k]?
theorem bT.refl (B:ah) (w:World):bT B w w:=⟨rfl,rfl,rfl,Nat.le_refl _,fun _ _=>rfl⟩
theorem bT.trans {B:ah} {a b c:World} (h:bT B a b) (k:bT B b c):bT B a c:=
 ⟨k.os.trans h.os,k.tape.trans h.tape,k.output.trans h.output,Nat.le_trans h.size k.size,fun i hi=>(k.block i hi).trans (h.block i hi)⟩
def aW (B:ah) (n:Nat):Prop:= ∀b,B b→b<n
theorem aW.up {B:ah} {n:Nat} (h:aW B n): ¬B n:=fun hb=>Nat.lt_irrefl _ (h n hb)
theorem aW.mono {B:ah} {n m:Nat} (h:aW B n) (hn:n≤m):aW B m:=fun b hb=>Nat.lt_of_lt_of_le (h b hb) hn
def cw (w:World):ah:=fun b=>b<w.heap.size
theorem cw.bnd (w:World):aW (cw w) w.heap.size:=fun _ h=>h
theorem bT.of_below {B:ah} {w w':World} {n:Nat} (h:Below n w w') (hB:aW B n):bT B w w':=⟨h.os,h.tape,h.output,h.size,fun k hk=>h.block k (hB k hk)⟩
theorem bT.below {w w':World} (h:bT (cw w) w w'):Below w.heap.size w w':=⟨h.os,h.tape,h.output,h.size,fun k hk=>h.block k hk⟩
structure aB (base:ah) (σ:aq) (I:ah) (w:World) (σ':aq) (I':ah) (w':World):Prop where
 sig: ∀g x,σ g=some x→σ' g=some x
 blk: ∀b,I b→I' b
 new: ∀b,I' b→I b∨ ¬base b
 kp:aO I w w'
 below:bT base w w'
theorem aB.refl (base:ah) (σ:aq) (I:ah) (w:World):aB base σ I w σ I w:=⟨fun _ _ h=>h,fun _ h=>h,fun _ h=> .inl h,aO.refl I w,bT.refl _ _⟩
theorem aB.trans {base:ah} {σ σ' σ'':aq} {I I' I'':ah} {w w' w'':World} (h:aB base σ I w σ' I' w') (k:aB base σ' I' w' σ'' I'' w''):aB base σ I w σ'' I'' w'':=
 ⟨fun g x hx=>k.sig g x (h.sig g x hx),fun b hb=>k.blk b (h.blk b hb),fun b hb=>(k.new b hb).elim (fun h'=>h.new b h') .inr,h.kp.trans h.blk k.kp,h.below.trans k.below⟩
theorem aB.rep {base:ah} {σ σ':aq} {I I':ah} {w w':World} (h:aB base σ I w σ' I' w') {p:AV} {v:Value} (r:ab σ I w p v):ab σ' I' w' p v:=r.mono h.sig h.blk h.kp
variable {σ σ':aq} {I I':ah} {base:ah} {w w':World} {h:aa}
theorem fN {b:Nat} (e:w'.heap[b]? =w.heap[b]?):w'.shape? b=w.shape? b:=by simp [World.shape?,e]
theorem gN {b:Nat} {x:TypeId×Nat} (e:w.shape? b=some x):b<w.heap.size:=by
 unfold World.shape? at e
 rcases Nat.lt_or_ge b w.heap.size with hlt | hge
 ·exact hlt
 ·rw [Array.getElem?_eq_none hge] at e;cases e
theorem cj {b:Nat} {x:Obj} (e:w.heap[b]? =some x):b<w.heap.size:=by
 rcases Nat.lt_or_ge b w.heap.size with hlt | hge
 ·exact hlt
 ·rw [Array.getElem?_eq_none hge] at e;cases e
theorem kf {b n:Nat} {e:TypeId} (hs:w.shape? b=some (e,n)) {j:Nat} (hj:j<n): ∃u,w.cell? ⟨b,j,none⟩=some u:=by
 unfold World.shape? at hs
 split at hs
 ·rename_i c e' fr hc
  simp only [Option.some.injEq,Prod.mk.injEq] at hs
  obtain ⟨rfl,rfl⟩:=hs
  exact ⟨c[j],by simp [World.cell?,hc,hj]⟩
 ·cases hs
def Fr (w:World) (n:Nat) (b:Nat):Prop:= ∀j,j<n→w.frozen? ⟨b,j,none⟩=false
theorem Fz.mono {b n:Nat} {fz:Bool} (hz:Fz I base w b n fz) (hI: ∀b,I b→I' b) (hh:fz=false→w'.heap[b]? =w.heap[b]? ∧ ¬I' b):Fz I' base w' b n fz:=by
 cases fz with
 | true=>exact hI b hz
 | false=>
  obtain ⟨h1,h2,h3⟩:=hz
  exact ⟨(hh rfl).2,h2,fun j hj=>by rw [qa (hh rfl).1];exact h3 j hj⟩
theorem be.mono {r:ak} (hr:be σ I base w r) (hσ: ∀g x,σ g=some x→σ' g=some x) (hI: ∀b,I b→I' b) (hk:dw I w w')
  (hb: ∀b,aj σ r=some b→w'.heap[b]? =w.heap[b]? ∧ ¬I' b):be σ' I' base w' r:=by
 obtain ⟨g,b⟩:=r
 cases b with
 | dead=>trivial
 | box v fz=>
  obtain ⟨b,e,hs,hsh,hok,hc,hz⟩:=hr
  refine ⟨b,e,hσ _ _ hs,hk.shape _ _ _ hsh,hok,fun j p hp=> ?_,hz.mono hI ?_⟩
  ·obtain ⟨u,hu,h1,hr⟩:=hc j p hp
   refine ⟨u,?_,h1,hr.mono hσ hI hk⟩
   cases fz with
   | true=>rw [fM (hk.keep b hz)];exact hu
   | false=>rw [fM (hb b (by simp [aj,hs])).1];exact hu
  ·rintro rfl
   exact hb b (by simp [aj,hs])
 | row k e xs fz=>
  obtain ⟨b,o,n,hs,hsh,hn,hx,hc,hz⟩:=hr
  refine ⟨b,o,n,hσ _ _ hs,hk.shape _ _ _ hsh,hn,hx,fun i x hi j p hp=> ?_,hz.mono hI ?_⟩
  ·obtain ⟨u,hu,h1,hr⟩:=hc i x hi j p hp
   refine ⟨u,?_,h1,hr.mono hI hk.keep⟩
   cases fz with
   | true=>rw [fM (hk.keep b hz)];exact hu
   | false=>rw [fM (hb b (by simp [aj,hs])).1];exact hu
  ·rintro rfl
   exact hb b (by simp [aj,hs])
 | iter s pos=>
  obtain ⟨b,k,hs,hh,h1,h2⟩:=hr
  have:=hb b (by simp [aj,hs])
  exact ⟨b,k,hσ _ _ hs,this.1.trans hh,this.2,h2⟩
 | lp st=>
  obtain ⟨b,k,hs,⟨x,hh,hx⟩,h1,h2⟩:=hr
  have:=hb b (by simp [aj,hs])
  exact ⟨b,k,hσ _ _ hs,⟨x,this.1.trans hh,hx⟩,this.2,h2⟩
 | map clock es=>
  obtain ⟨b,k,hs,⟨x,hh,hx⟩,h1,h2⟩:=hr
  have:=hb b (by simp [aj,hs])
  exact ⟨b,k,hσ _ _ hs,⟨x,this.1.trans hh,hx.mono hσ hI hk⟩,this.2,h2⟩
 | mit m since seen last=>
  obtain ⟨b,k,hs,⟨x,hh,hx⟩,h1,h2⟩:=hr
  have:=hb b (by simp [aj,hs])
  refine ⟨b,k,hσ _ _ hs,⟨x,this.1.trans hh,?_⟩,this.2,h2⟩
  cases m with
  | none=>exact hx
  | some q=>obtain ⟨b',o',k',h3,h4⟩:=hx;exact ⟨b',o',k',hσ _ _ h3,h4⟩
theorem e7 {r:ak} (hr:be σ I base w r) (hσ: ∀g x,σ g=some x→σ' g=some x):aj σ' r=aj σ r:=by
 obtain ⟨g,b⟩:=r
 cases b with
 | dead=>rfl
 | box v fz=>
  obtain ⟨b,e,hs,_⟩:=hr
  cases fz<;>simp [aj,hs,hσ _ _ hs]
 | row k e xs fz=>
  obtain ⟨b,o,n,hs,_⟩:=hr
  cases fz<;>simp [aj,hs,hσ _ _ hs]
 | iter s pos=>
  obtain ⟨b,k,hs,_⟩:=hr
  simp [aj,hs,hσ _ _ hs]
 | lp st=>
  obtain ⟨b,k,hs,_⟩:=hr
  simp [aj,hs,hσ _ _ hs]
 | map clock es=>
  obtain ⟨b,k,hs,_⟩:=hr
  simp [aj,hs,hσ _ _ hs]
 | mit m since seen last=>
  obtain ⟨b,k,hs,_⟩:=hr
  simp [aj,hs,hσ _ _ hs]
theorem aY {r:ak} (hr:be σ I base w r) {b:Nat} (hb:aj σ r=some b):b<w.heap.size∧ ¬I b∧ ¬base b:=by
 obtain ⟨g,bd⟩:=r
 cases bd with
 | dead=>simp [aj] at hb
 | box v fz=>
  obtain ⟨b',e,hs,hsh,_,hc,hz⟩:=hr
  cases fz with
  | true=>simp [aj] at hb
  | false=>
   simp [aj,hs] at hb
   subst hb
   exact ⟨gN hsh,hz.1,hz.2.1⟩
 | row k e xs fz=>
  obtain ⟨b',o,n,hs,hsh,_,_,hc,hz⟩:=hr
  cases fz with
  | true=>simp [aj] at hb
  | false=>
   simp [aj,hs] at hb
   subst hb
   exact ⟨gN hsh,hz.1,hz.2.1⟩
 | iter s pos=>
  obtain ⟨b',k,hs,hh,h1,h2⟩:=hr
  simp [aj,hs] at hb
  subst hb
  exact ⟨cj hh,h1,h2⟩
 | lp st=>
  obtain ⟨b',k,hs,⟨x,hh,_⟩,h1,h2⟩:=hr
  simp [aj,hs] at hb
  subst hb
  exact ⟨cj hh,h1,h2⟩
 | map clock es=>
  obtain ⟨b',k,hs,⟨x,hh,_⟩,h1,h2⟩:=hr
  simp [aj,hs] at hb
  subst hb
  exact ⟨cj hh,h1,h2⟩
 | mit m since seen last=>
  obtain ⟨b',k,hs,⟨x,hh,_⟩,h1,h2⟩:=hr
  simp [aj,hs] at hb
  subst hb
  exact ⟨cj hh,h1,h2⟩
theorem af.lt (H:af σ I base w h) (b:Nat) (hb:I b):b<w.heap.size:=(H.inW b hb).lt
theorem aO.inW (hk:aO I w w') (hin: ∀b,I b→bn w b): ∀b,I b→bn w' b:=fun b hb=>(hin b hb).keep (hk.keep b hb)
theorem be.dead (g:Nat):be σ I base w ⟨g,.dead⟩:=trivial
theorem af.put (H:af σ I base w h) (hσ: ∀g x,σ g=some x→σ' g=some x) (hI: ∀b,I b→I' b) (hk:dw I w w') (hin: ∀b,I' b→bn w' b)
  (d s:Nat) (r:ak) (hr:be σ' I' base w' r)
  (hb: ∀d' s' b,¬(d=d'∧s=s')→aj σ (ac h d' s')=some b→w'.heap[b]? =w.heap[b]? ∧ ¬I' b∧aj σ' r≠some b):
  af σ' I' base w' (hput h d s r) where
 inW:=hin
 rows d' s':=by
  rw [bY]
  by_cases e:d=d'∧s=s'
  ·rw [if_pos e];exact hr
  ·rw [if_neg e]
   exact (H.rows d' s').mono hσ hI hk fun b hbb=>⟨(hb d' s' b e hbb).1,(hb d' s' b e hbb).2.1⟩
 apart d1 s1 d2 s2 b h1 h2:=by
  rw [bY] at h1 h2
  by_cases e1:d=d1∧s=s1
  ·rw [if_pos e1] at h1
   by_cases e2:d=d2∧s=s2
   ·exact ⟨e1.1.symm.trans e2.1,e1.2.symm.trans e2.2⟩
   ·rw [if_neg e2,e7 (H.rows d2 s2) hσ] at h2
    exact absurd h1 (hb d2 s2 b e2 h2).2.2
  ·rw [if_neg e1,e7 (H.rows d1 s1) hσ] at h1
   by_cases e2:d=d2∧s=s2
   ·rw [if_pos e2] at h2
    exact absurd h2 (hb d1 s1 b e1 h1).2.2
   ·rw [if_neg e2,e7 (H.rows d2 s2) hσ] at h2
    exact H.apart d1 s1 d2 s2 b h1 h2
theorem af.keep (H:af σ I base w h) (hσ: ∀g x,σ g=some x→σ' g=some x) (hI: ∀b,I b→I' b) (hk:dw I w w') (hin: ∀b,I' b→bn w' b)
  (hb: ∀d s b,aj σ (ac h d s)=some b→w'.heap[b]? =w.heap[b]? ∧ ¬I' b):af σ' I' base w' h where
 inW:=hin
 rows d s:=(H.rows d s).mono hσ hI hk (hb d s)
 apart d1 s1 d2 s2 b h1 h2:=by
  rw [e7 (H.rows d1 s1) hσ] at h1
  rw [e7 (H.rows d2 s2) hσ] at h2
  exact H.apart d1 s1 d2 s2 b h1 h2
theorem af.kill (H:af σ I base w h) (d s:Nat):af σ I base w (hput h d s ae):=
 H.put (fun _ _ h=>h) (fun _ h=>h) (aO.refl I w) H.inW d s ae trivial fun d' s' b _ hb=>⟨rfl,(aY (H.rows d' s') hb).2.1,by simp [aj,ae]⟩
theorem cQ {d s g:Nat} {b:ba} (hl:live h d s g=b) (hne:b≠ .dead):ac h d s=⟨g,b⟩:=by
 unfold live at hl
 split at hl
 ·rename_i e
  rw [←e,←hl]
 ·exact absurd hl.symm hne
theorem af.live (H:af σ I base w h) {d s g:Nat} {b:ba} (hl:Abs.live h d s g=b) (hne:b≠ .dead):be σ I base w ⟨g,b⟩:=by
 have:=H.rows d s
 rw [cQ hl hne] at this
 exact this
structure aZ (w w':World) (o:Obj):Prop where
 heap:w'.heap=w.heap.push o
 os:w'.os=w.os
 tape:w'.tape=w.tape
 output:w'.output=w.output
theorem aZ.old {o:Obj} (hg:aZ w w' o) {b:Nat} (hb:b<w.heap.size):w'.heap[b]? =w.heap[b]? :=by
 rw [hg.heap,Array.getElem?_push];split
 ·omega
 ·rfl
theorem aZ.new {o:Obj} (hg:aZ w w' o):w'.heap[w.heap.size]? =some o:=by rw [hg.heap];simp
theorem aZ.shape {c:Array Value} {e:TypeId} {fr:Nat×Nat} (hg:aZ w w' (.cells c e fr)):w'.shape? w.heap.size=some (e,c.size):=by unfold World.shape?;rw [hg.new]
theorem aZ.cell {c:Array Value} {e:TypeId} {fr:Nat×Nat} (hg:aZ w w' (.cells c e fr)) (j:Nat):w'.cell? ⟨w.heap.size,j,none⟩=c[j]? :=by unfold World.cell?;simp only [hg.new];simp
theorem aZ.frozen {c:Array Value} {e:TypeId} (hg:aZ w w' (.cells c e)) (j:Nat):w'.frozen? ⟨w.heap.size,j,none⟩=false:=by unfold World.frozen?;simp only [hg.new];simp
theorem aZ.size {o:Obj} (hg:aZ w w' o):w'.heap.size=w.heap.size+1:=by rw [hg.heap];simp
theorem aZ.below {o:Obj} (hg:aZ w w' o) (hB:aW base w.heap.size):bT base w w':=⟨hg.os,hg.tape,hg.output,by rw [hg.size];omega,fun k hk=>hg.old (hB k hk)⟩
theorem aZ.keep {o:Obj} (hg:aZ w w' o) (hin: ∀b,I b→b<w.heap.size):aO I w w':=
  ⟨fun b hb=>hg.old (hin b hb),fun b e n hs=>by rw [fN (hg.old (gN hs))];exact hs,
   fun b r hr=>⟨r,by rw [hg.old (cj hr)];exact hr,bP.refl r⟩,fun b hb=>by rw [hg.old (cj hb)];exact hb⟩
def bf (σ:aq) (g:Nat) (x:Nat×Nat×Nat):aq:=fun g'=>if g'=g then some x else σ g'
theorem cl {g:Nat} {x:Nat×Nat×Nat} (hg:σ g=none): ∀g' y,σ g'=some y→bf σ g x g'=some y:=fun g' y hy=>by
 unfold bf
 split
 ·rename_i e;subst e;rw [hg] at hy;cases hy
 ·exact hy
theorem bj {g:Nat} {x:Nat×Nat×Nat} :bf σ g x g=some x:=by simp [bf]
theorem cx {g g':Nat} {x:Nat×Nat×Nat} (hne:g'≠g):bf σ g x g'=σ g':=by simp [bf,hne]
theorem aB.push {o:Obj} (H:af σ I base w h) (hB:aW base w.heap.size) {g:Nat} {x:Nat×Nat×Nat} (hg:σ g=none) (hG:aZ w w' o):aB base σ I w (bf σ g x) I w':=
 ⟨cl hg,fun _ h=>h,fun _ h=> .inl h,hG.keep H.lt,hG.below hB⟩
theorem af.push {o:Obj} (H:af σ I base w h) {g k:Nat} {off:Nat} (hg:σ g=none) (hG:aZ w w' o) (d s:Nat) {b:ba}
  (hr:be (bf σ g (w.heap.size,off,k)) I base w' ⟨g,b⟩):af (bf σ g (w.heap.size,off,k)) I base w' (hput h d s ⟨g,b⟩):=by
 refine H.put (cl hg) (fun _ h=>h) (hG.keep H.lt) ((hG.keep H.lt).inW H.inW) d s _ hr ?_
 intro d' s' b' _ hb'
 have hf:=aY (H.rows d' s') hb'
 refine ⟨hG.old hf.1,hf.2.1,fun e=> ?_⟩
 have:b'=w.heap.size:=by
  cases b with
  | dead=>simp [aj] at e
  | box v fz=>cases fz<;>simp [aj,bj] at e;exact e.symm
  | row k e' xs fz=>cases fz<;>simp [aj,bj] at e;exact e.symm
  | iter s pos=>simp [aj,bj] at e;exact e.symm
  | lp st=>simp [aj,bj] at e;exact e.symm
  | map clock es=>simp [aj,bj] at e;exact e.symm
  | mit m since seen last=>simp [aj,bj] at e;exact e.symm
 omega
theorem gO (b:Nat): ∀(vs:List Value) (o:Nat) (w:World) (b':Nat),b'≠b→(w.setCells b o vs).heap[b']? =w.heap[b']?
 | [],_,_,_,_=>rfl
 | v::r,o,w,b',hne=>by
  rw [World.setCells,gO b r _ _ b' hne]
  simp [World.setCell,Array.getElem?_modify,Ne.symm hne]
theorem eh (b:Nat): ∀(vs:List Value) (o:Nat) (w:World) (b':Nat),(w.setCells b o vs).shape? b'=w.shape? b'
 | [],_,_,_=>rfl
 | v::r,o,w,b'=>by
  rw [World.setCells,eh b r]
  unfold World.shape? World.setCell
  simp only [Array.getElem?_modify]
  by_cases e:b=b'
  ·subst e
   rw [if_pos rfl]
   cases hx:w.heap[b]? with
   | none=>simp
   | some x=>cases x<;>simp
  ·rw [if_neg e]
theorem kg (b:Nat) {ob:Obj} (ho: ∀c e fr,ob≠ .cells c e fr): ∀(vs:List Value) (o:Nat) (w:World) (b':Nat),w.heap[b']? =some ob→(w.setCells b o vs).heap[b']? =some ob
 | [],_,_,_,h=>h
 | v::r,o,w,b',h=>by
  rw [World.setCells]
  refine kg b ho r _ _ b' ?_
  simp only [World.setCell,Array.getElem?_modify]
  by_cases e:b=b'
  ·subst e
   rw [if_pos rfl,h]
   cases ob<;>first | rfl | exact absurd rfl (ho _ _ _)
  ·rw [if_neg e];exact h
theorem mu (b:Nat): ∀(vs:List Value) (o:Nat) (w:World),(w.setCells b o vs).heap.size=w.heap.size
 | [],_,_=>rfl
 | v::r,o,w=>by rw [World.setCells,mu b r,World.size_setCell]
theorem jc (b:Nat): ∀(vs:List Value) (o:Nat) (w:World),(w.setCells b o vs).os=w.os∧(w.setCells b o vs).tape=w.tape∧(w.setCells b o vs).output=w.output
 | [],_,_=>⟨rfl,rfl,rfl⟩
 | v::r,o,w=>by rw [World.setCells];exact jc b r (o+1) _
theorem mw {b o:Nat} {vs:List Value} (hb: ¬base b):bT base w (w.setCells b o vs):=
 ⟨(jc b vs o w).1,(jc b vs o w).2.1,(jc b vs o w).2.2,by rw [mu];exact Nat.le_refl _,fun k hk=>gO b vs o w k (fun e=>hb (e▸hk))⟩
theorem fO {b o:Nat} {vs:List Value} (hb: ¬I b):aO I w (w.setCells b o vs):=
  ⟨fun b' hb'=>gO b vs o w b' (fun e=>hb (e▸hb')),fun b' e n hs=>by rw [eh];exact hs,
   fun b' r hr=>⟨r,kg b (by simp) vs o w b' hr,bP.refl r⟩,fun b' hb'=>kg b (by simp) vs o w b' hb'⟩
theorem fP {b o j:Nat} {vs:List Value} (hj:j<o∨o+vs.length≤j):(w.setCells b o vs).cell? ⟨b,j,none⟩=w.cell? ⟨b,j,none⟩:=
 World.cell?_setCells_out b vs o w ⟨b,j,none⟩ fun _ _=>hj
theorem gP {b o n:Nat} {e:TypeId} {vs:List Value} (hs:w.shape? b=some (e,n)) (hn:o+vs.length≤n) {j:Nat} (hj:j<vs.length):
  (w.setCells b o vs).cell? ⟨b,o+j,none⟩=some vs[j]:=
 World.cell?_setCells_in b vs o w (fun i hi=>by obtain ⟨u,hu⟩:=kf hs (j:=o+i) (by omega);rw [hu];rfl) j hj
theorem kh {P:Program} {b o n:Nat} {e:TypeId} {vs:List Value} (hs:w.shape? b=some (e,n)) (hn:o+vs.length≤n) (hf:Fr w n b) (h1: ∀v∈vs,v.oneCell'=true):
  (storeCells ⟨b,o,none⟩ vs).run P w= .ok () (w.setCells b o vs):=by
 have:=run_storeCells_cells (P:=P) b o vs 0 w (fun j hj=>by obtain ⟨u,hu⟩:=kf hs (j:=o+0+j) (by omega);rw [hu];rfl) (fun j hj=>hf _ (by omega)) h1
 simpa using this
theorem c6 (b o n:Nat):(⟨b,o,none⟩:Addr).add n=⟨b,o+n,none⟩:=by
 unfold Addr.add;split<;>simp_all
variable {σ σ':aq} {I I':ah} {base:ah} {w w':World} {h:aa}
theorem kj {v:Value} (hv:v.oneCell'=true):v.cells= #[v]:=by cases v<;>simp_all [Value.cells,Value.oneCell']
theorem am.cells {p:PV} {u:Value} (hr:am I w p u) (ho:p.ok=true):
  u.cells.size=p.cells.length∧(∀x∈u.cells.toList,x.oneCell'=true)∧ ∀(j:Nat) (c:PV) (x:Value),p.cells[j]? =some c→u.cells[j]? =some x→am I w c x:=by
 have one: ∀ {p:PV} {u:Value},am I w p u→p.cells=[p]→u.oneCell'=true→
   u.cells.size=p.cells.length∧(∀x∈u.cells.toList,x.oneCell'=true)∧ ∀(j:Nat) (c:PV) (x:Value),p.cells[j]? =some c→u.cells[j]? =some x→am I w c x:=by
  intro p u hr hp hu
  rw [hp,kj hu]
  refine ⟨rfl,by simpa using hu,fun j c x hc hx=> ?_⟩
  cases j with
  | zero=>simp at hc hx;subst hc;subst hx;exact hr
  | succ j=>simp at hc
 cases hr with
 | lit=>exact one (.lit _) rfl ho
 | nil k full=>exact one (.nil k full) rfl rfl
 | emp k full a cap hfull=>exact one (.emp k full a cap hfull) rfl rfl
 | sl k full xs b o cap vs hcap hfull hb hk' hc hr=>exact one (.sl k full xs b o cap vs hcap hfull hb hk' hc hr) rfl rfl
 | ptr root off b o vs hb hc hr=>exact one (.ptr root off b o vs hb hc hr) rfl rfl
 | agg cs vs hl h1 hr=>exact ⟨by simpa [Value.cells,PV.cells] using hl,by simpa [Value.cells] using h1,fun j c x hc hx=>hr j c x hc (by simpa [Value.cells] using hx)⟩
 | tup cs vs hl hr=>cases ho
 | iface t p v h=>exact one (.iface t p v h) rfl rfl
 | clo f a b va vb hla hlb hra hrb=>exact one (.clo f a b va vb hla hlb hra hrb) rfl rfl
theorem ab.cells {p:AV} {u:Value} (hr:ab σ I w p u) (ho:p.ok=true):
  u.cells.size=p.cells.length∧(∀x∈u.cells.toList,x.oneCell'=true)∧ ∀(j:Nat) (c:AV) (x:Value),p.cells[j]? =some c→u.cells[j]? =some x→ab σ I w c x:=by
 have one: ∀ {p:AV} {u:Value},ab σ I w p u→p.cells=[p]→u.oneCell'=true→
   u.cells.size=p.cells.length∧(∀x∈u.cells.toList,x.oneCell'=true)∧ ∀(j:Nat) (c:AV) (x:Value),p.cells[j]? =some c→u.cells[j]? =some x→ab σ I w c x:=by
  intro p u hr hp hu
  rw [hp,kj hu]
  refine ⟨rfl,by simpa using hu,fun j c x hc hx=> ?_⟩
  cases j with
  | zero=>simp at hc hx;subst hc;subst hx;exact hr
  | succ j=>simp at hc
 cases hr with
 | pv p v h=>
  obtain ⟨h1,h2,h3⟩:=h.cells ho
  refine ⟨by simpa [AV.cells] using h1,h2,fun j c x hc hx=> ?_⟩
  simp only [AV.cells,List.getElem?_map,Option.map_eq_some_iff] at hc
  obtain ⟨c',hc',rfl⟩:=hc
  exact .pv _ _ (h3 j c' x hc' hx)
 | mptr d s g i off b o k h=>exact one (.mptr d s g i off b o k h) rfl rfl
 | msl d s g off n full b o k cap ad had h hn hfull hroom=>exact one (.msl d s g off n full b o k cap ad had h hn hfull hroom) rfl rfl
 | agg cs vs hl h1 hr=>exact ⟨by simpa [Value.cells,AV.cells] using hl,by simpa [Value.cells] using h1,fun j c x hc hx=>hr j c x hc (by simpa [Value.cells] using hx)⟩
 | tup cs vs hl hr=>cases ho
 | clo f a b va vb hla hlb hra hrb=>exact one (.clo f a b va vb hla hlb hra hrb) rfl rfl
 | yld d s g b o k h=>exact one (.yld d s g b o k h) rfl rfl
 | ifc t v u h=>exact one (.ifc t v u h) rfl rfl
 | btag t=>exact one (.btag t) rfl rfl
 | mref d s g b o k h=>exact one (.mref d s g b o k h) rfl rfl
theorem qd {v:AV} (ho:v.ok=true) (us:List Value) (hl:us.length=v.cells.length) (h1: ∀x∈us,x.oneCell'=true)
  (hr: ∀(j:Nat) (c:AV) (x:Value),v.cells[j]? =some c→us[j]? =some x→ab σ I w c x): ∃u,ab σ I w v u∧u.cells.toList=us:=by
 have one:v.cells=[v]→ ∃u,ab σ I w v u∧u.cells.toList=us:=by
  intro hv
  rw [hv] at hl
  match us,hl with
  | [u],_=>
   refine ⟨u,hr 0 v u (by rw [hv];rfl) rfl,?_⟩
   rw [kj (h1 u (by simp))]
 cases v with
 | pv p=>
  cases p with
  | agg cs=>
   refine ⟨.agg us.toArray,.pv _ _ (.agg cs us (by simpa [AV.cells,PV.cells] using hl) h1 fun j c x hc hx=> ?_),rfl⟩
   have:=hr j (.pv c) x (by simp [AV.cells,PV.cells,hc]) hx
   cases this with
   | pv _ _ h=>exact h
  | _=>exact one rfl
 | agg cs=>exact ⟨.agg us.toArray,.agg cs us (by simpa [AV.cells] using hl) h1 hr,rfl⟩
 | tup l=>cases ho
 | _=>exact one rfl
theorem jd {α:Type} {P:Nat→α→Prop} : ∀(n:Nat),(∀j,j<n→ ∃u,P j u)→ ∃us:List α,us.length=n∧ ∀(j:Nat) (u:α),us[j]? =some u→P j u
 | 0,_=>⟨[],rfl,fun j u hu=>by simp at hu⟩
 | n+1,hh=>by
  obtain ⟨us,hl,hu⟩:=jd n fun j hj=>hh j (by omega)
  obtain ⟨u,hP⟩:=hh n (by omega)
  refine ⟨us++[u],by simp [hl],fun j x hx=> ?_⟩
  rcases Nat.lt_or_ge j n with hj | hj
  ·rw [List.getElem?_append_left (by omega)] at hx;exact hu j x hx
  ·rw [List.getElem?_append_right (by omega),hl] at hx
   cases hjn:j-n with
   | zero=>rw [hjn] at hx;simp at hx;subst hx;rw [show j=n by omega];exact hP
   | succ m=>rw [hjn] at hx;simp at hx
theorem dU {g:Nat} {v:AV} {fz:Bool} (hr:be σ I base w ⟨g,.box v fz⟩):
  ∃b k e u,σ g=some (b,0,k)∧w.shape? b=some (e,v.cells.length)∧v.ok=true∧ab σ I w v u∧Fz I base w b v.cells.length fz∧k=1∧
   (∀x∈u.cells.toList,x.oneCell'=true)∧u.cells.size=v.cells.length∧ ∀(j:Nat) (x:Value),u.cells[j]? =some x→w.cell? ⟨b,j,none⟩=some x:=by
 obtain ⟨b,e,hs,hsh,hok,hc,hz⟩:=hr
 have hok:=ja hok
 obtain ⟨us,hl,hu⟩:=jd (P:=fun j u=>w.cell? ⟨b,j,none⟩=some u∧u.oneCell'=true∧ ∀p,v.cells[j]? =some p→ab σ I w p u) v.cells.length fun j hj=>by
  obtain ⟨u,h1,h2,h3⟩:=hc j v.cells[j] (List.getElem?_eq_getElem hj)
  exact ⟨u,h1,h2,fun p hp=>by rw [List.getElem?_eq_getElem hj] at hp;injection hp with hp;subst hp;exact h3⟩
 obtain ⟨u,hru,hcu⟩:=qd (σ:=σ) (I:=I) (w:=w) hok us hl (fun x hx=>by
   obtain ⟨j,hj,rfl⟩:=List.mem_iff_getElem.1 hx
   exact (hu j _ (List.getElem?_eq_getElem hj)).2.1) (fun j c x hc hx=>(hu j x hx).2.2 c hc)
 refine ⟨b,1,e,u,hs,hsh,hok,hru,hz,rfl,?_,?_,fun j x hx=> ?_⟩
 ·intro x hx
  rw [hcu] at hx
  obtain ⟨j,hj,rfl⟩:=List.mem_iff_getElem.1 hx
  exact (hu j _ (List.getElem?_eq_getElem hj)).2.1
 ·rw [←Array.length_toList,hcu,hl]
 ·have:us[j]? =some x:=by rw [←hcu];simpa using hx
  exact (hu j x this).1
theorem af.markAt (H:af σ I base w h) {d s g:Nat} {bd bd':ba} {b o k:Nat} (hl:Abs.live h d s g=bd) (hne:bd≠ .dead) (hs:σ g=some (b,o,k))
  (hb:bn w b) (hfr:aj σ ⟨g,bd⟩=some b∨I b) (hr:be σ (fun x=>I x∨x=b) base w ⟨g,bd'⟩) (hbd:aj σ ⟨g,bd'⟩=none):
  af σ (fun x=>I x∨x=b) base w (hput h d s ⟨g,bd'⟩):=by
 refine H.put (fun _ _ h=>h) (fun _ h=> .inl h) (aO.refl I w) (fun x hx=>hx.elim (H.inW x) (fun e=>e▸hb)) d s _ hr ?_
 intro d' s' b' hne' hb'
 have hf:=aY (H.rows d' s') hb'
 refine ⟨rfl,fun hx=> ?_,by rw [hbd];simp⟩
 rcases hx with hx | hx
 ·exact hf.2.1 hx
 ·subst hx
  rcases hfr with hfr | hfr
  ·have hlive:=cQ hl hne
   exact hne' (H.apart d s d' s' _ (by rw [hlive];exact hfr) hb')
  ·exact hf.2.1 hfr
def bU (I I':ah) (base:ah):Prop:=(∀b,I b→I' b)∧ ∀b,I' b→I b∨ ¬base b
theorem bU.refl:bU I I base:=⟨fun _ h=>h,fun _ h=> .inl h⟩
theorem bU.trans {I'':ah} (h:bU I I' base) (k:bU I' I'' base):bU I I'' base:=⟨fun b hb=>k.1 b (h.1 b hb),fun b hb=>(k.2 b hb).elim (h.2 b) .inr⟩
theorem dV {g k:Nat} {e:TypeId} {xs:List PV} {fz:Bool} (hr:be σ I base w ⟨g,.row k e xs fz⟩):
  ∃b o n,σ g=some (b,o,k)∧b<w.heap.size∧(fz=false→ ¬base b)∧(aj σ ⟨g,.row k e xs fz⟩=some b∨I b)∧o+xs.length*k≤n∧w.shape? b=some (e,n)∧
   (∀x∈xs,x.cells.length=k∧x.ok=true)∧
   (∀i x,xs[i]? =some x→ ∀(j:Nat) (p:PV),x.cells[j]? =some p→ ∃u,w.cell? ⟨b,o+i*k+j,none⟩=some u∧u.oneCell'=true∧am I w p u)∧Fz I base w b n fz:=by
 obtain ⟨b,o,n,hs,hsh,hn,hx,hc,hz⟩:=hr
 refine ⟨b,o,n,hs,gN hsh,?_,?_,hn,hsh,hx,hc,hz⟩
 ·rintro rfl;exact hz.2.1
 ·cases fz with
  | true=>exact .inr hz
  | false=>exact .inl (by simp [aj,hs])
theorem be.freeze {g k:Nat} {e:TypeId} {xs:List PV} {fz:Bool} {b o:Nat} (hr:be σ I base w ⟨g,.row k e xs fz⟩) (hs:σ g=some (b,o,k)):
  be σ (fun x=>I x∨x=b) base w ⟨g,.row k e xs true⟩:=by
 obtain ⟨b',o',n,hs',hsh,hn,hx,hc,hz⟩:=hr
 rw [hs] at hs'
 simp only [Option.some.injEq,Prod.mk.injEq] at hs'
 obtain ⟨rfl,rfl,_⟩:=hs'
 exact ⟨b,o,n,hs,hsh,hn,hx,fun i x hi j p hp=>by
  obtain ⟨u,h1,h2,h3⟩:=hc i x hi j p hp
  exact ⟨u,h1,h2,h3.mono (fun _ h=> .inl h) fun _ _=>rfl⟩,.inr rfl⟩
theorem qe {P:Nat→Nat→Prop} {Q:Nat→Nat→Value→Prop} (hh: ∀i j,P i j→ ∃u,Q i j u): ∃vs:Nat→Nat→Value,∀i j,P i j→Q i j (vs i j):=by
 classical
 refine ⟨fun i j=>if hp:P i j then Classical.choose (hh i j hp) else default,fun i j hp=> ?_⟩
 simp only [dif_pos hp]
 exact Classical.choose_spec (hh i j hp)
def dx (σ:aq) (I:ah) (h:aa) (k:aX):Prop:= ∃b o m,σ (ac h k.1 k.2).g=some (b,o,m)∧I b
def c7 (h:aa) (k:aX):Prop:=(∃v fz,(ac h k.1 k.2).b= .box v fz)∨ ∃m e xs fz,(ac h k.1 k.2).b= .row m e xs fz
theorem my {k:Nat} {xs:List PV} {b o:Nat} (hI: ∀b,I b→I' b) (hc: ∀i x,xs[i]? =some x→ ∀(j:Nat) (p:PV),x.cells[j]? =some p→ ∃u,w.cell? ⟨b,o+i*k+j,none⟩=some u∧u.oneCell'=true∧am I w p u):
  ∃vs:Nat→Nat→Value,∀i x,xs[i]? =some x→ ∀(j:Nat) (p:PV),x.cells[j]? =some p→w.cell? ⟨b,o+i*k+j,none⟩=some (vs i j)∧(vs i j).oneCell'=true∧am I' w p (vs i j):=by
 obtain ⟨vs,hvs⟩:=qe (P:=fun i j=> ∃x p,xs[i]? =some x∧x.cells[j]? =some p)
  (Q:=fun i j u=>w.cell? ⟨b,o+i*k+j,none⟩=some u∧u.oneCell'=true∧ ∀x p,xs[i]? =some x→x.cells[j]? =some p→am I' w p u) fun i j ⟨x,p,hi,hj⟩=>by
   obtain ⟨u,h1,h2,h3⟩:=hc i x hi j p hj
   refine ⟨u,h1,h2,fun x' p' hi' hj'=> ?_⟩
   rw [hi] at hi';injection hi' with hi';subst hi'
   rw [hj] at hj';injection hj' with hj';subst hj'
   exact h3.mono hI fun _ _=>rfl
 exact ⟨vs,fun i x hi j p hj=>⟨(hvs i j ⟨x,p,hi,hj⟩).1,(hvs i j ⟨x,p,hi,hj⟩).2.1,(hvs i j ⟨x,p,hi,hj⟩).2.2 x p hi hj⟩⟩
theorem kl {d s g:Nat} {b:ba} (hl:live h d s g=b) (hne:b≠ .dead):(ac h d s).g=g∧(ac h d s).b=b:=by
 have:=cQ hl hne
 rw [this]
 exact ⟨rfl,rfl⟩
theorem km {f:AV→Option (PV×List aX)}
  (hf: ∀(v:AV) (p:PV) (ks:List aX) (u:Value),f v=some (p,ks)→ab σ I w v u→(∀k∈ks,c7 h k)∧ ∀I',(∀b,I b→I' b)→(∀k∈ks,dx σ I' h k)→am I' w p u):
  ∀(l:List AV) (ps:List PV) (ks:List aX) (us:List Value),bQ f l=some (ps,ks)→us.length=l.length→(∀(j:Nat) (v:AV) (u:Value),l[j]? =some v→us[j]? =some u→ab σ I w v u)→
   ps.length=l.length∧(∀k∈ks,c7 h k)∧ ∀I',(∀b,I b→I' b)→(∀k∈ks,dx σ I' h k)→ ∀(j:Nat) (p:PV) (u:Value),ps[j]? =some p→us[j]? =some u→am I' w p u
 | [],ps,ks,us,he,hl,hr=>by
  simp only [bQ,Option.some.injEq,Prod.mk.injEq] at he
  obtain ⟨rfl,rfl⟩:=he
  exact ⟨rfl,by simp,fun I' _ _ j p u hp=>by simp at hp⟩
 | v::l,ps,ks,us,he,hl,hr=>by
  match us,hl with
  | u::us,hl=>
   simp only [bQ,Option.bind_eq_some_iff,Option.map_eq_some_iff,Prod.exists] at he
   obtain ⟨p,k1,hp,ps',k2,hps,he⟩:=he
   simp only [Prod.mk.injEq] at he
   obtain ⟨rfl,rfl⟩:=he
   obtain ⟨hk1,hp1⟩:=hf v p k1 u hp (hr 0 v u rfl rfl)
   obtain ⟨hlen,hk2,hp2⟩:=km hf l ps' k2 us hps (by simpa using hl) (fun j v' u' hv hu=>hr (j+1) v' u' (by simpa using hv) (by simpa using hu))
   refine ⟨by simp [hlen],fun k hk=>(List.mem_append.1 hk).elim (hk1 k) (hk2 k),fun I' hI hs j p' u' hp' hu'=> ?_⟩
   cases j with
   | zero=>
    simp at hp' hu'
    subst hp';subst hu'
    exact hp1 I' hI fun k hk=>hs k (by simp [hk])
   | succ j=>exact hp2 I' hI (fun k hk=>hs k (by simp [hk])) j p' u' (by simpa using hp') (by simpa using hu')
theorem mz: ∀ {n:Nat} {v:AV} {p:PV} {ks:List aX},pk h n v=some (p,ks)→v.ok=true→p.ok=true
 | 0,_,_,_,he,_=>by simp [pk] at he
 | n+1,v,p,ks,he,ho=>by
  cases v with
  | pv q=>simp only [pk,Option.some.injEq,Prod.mk.injEq] at he;obtain ⟨rfl,_⟩:=he;exact ho
  | mptr d s g i off=>
   simp only [pk] at he
   split at he
   ·split at he
    ·simp only [Option.map_eq_some_iff,Prod.exists,Prod.mk.injEq] at he
     obtain ⟨_,_,_,rfl,_⟩:=he;rfl
    ·cases he
   ·simp only [Option.map_eq_some_iff,Prod.mk.injEq] at he
    obtain ⟨_,_,rfl,_⟩:=he;rfl
   ·cases he
  | msl d s g off m full=>
   simp only [pk] at he
   split at he
   ·split at he
    ·simp only [Option.some.injEq,Prod.mk.injEq] at he;obtain ⟨rfl,_⟩:=he;rfl
    ·cases he
   ·cases he
  | agg l=>
   simp only [pk,Option.map_eq_some_iff,Prod.exists,Prod.mk.injEq] at he
   obtain ⟨_,_,_,rfl,_⟩:=he;rfl
  | tup l=>cases ho
  | clo f a b=>
   simp only [pk,Option.bind_eq_some_iff,Option.map_eq_some_iff,Prod.exists,Prod.mk.injEq] at he
   obtain ⟨_,_,_,_,_,_,rfl,_⟩:=he;rfl
  | yld d s g=>simp [pk] at he
  | ifc t v=>
   simp only [pk,Option.map_eq_some_iff,Prod.exists,Prod.mk.injEq] at he
   obtain ⟨_,_,_,rfl,_⟩:=he;rfl
  | btag t=>simp [pk] at he
  | mref d s g=>simp [pk] at he
theorem gQ (H:af σ I base w h): ∀(n:Nat) (v:AV) (p:PV) (ks:List aX) (u:Value),pk h n v=some (p,ks)→ab σ I w v u→
  (∀k∈ks,c7 h k)∧ ∀I',(∀b,I b→I' b)→(∀k∈ks,dx σ I' h k)→am I' w p u
 | 0,v,p,ks,u,he,hr=>by simp [pk] at he
 | n+1,v,p,ks,u,he,hr=>by
  have ih:=km (σ:=σ) (I:=I) (w:=w) (h:=h) (f:=pk h n) (gQ H n)
  cases hr with
  | pv p0 v0 hp=>
   simp only [pk,Option.some.injEq,Prod.mk.injEq] at he
   obtain ⟨rfl,rfl⟩:=he
   exact ⟨by simp,fun I' hI _=>hp.mono hI fun _ _=>rfl⟩
  | mptr d s g i off b o k hs=>
   simp only [pk] at he
   split at he
   ·rename_i v0 fz hl
    split at he
    ·rename_i hi
     subst hi
     simp only [Option.map_eq_some_iff,Prod.exists,Prod.mk.injEq] at he
     obtain ⟨p1,k1,hp1,rfl,rfl⟩:=he
     obtain ⟨b0,k0,e0,u0,hs0,hsh,hok,hru,hz,hf,h1c,hsz,hcell⟩:=dU (H.live hl (by simp))
     rw [hs] at hs0
     simp only [Option.some.injEq,Prod.mk.injEq] at hs0
     obtain ⟨rfl,rfl,rfl⟩:=hs0
     obtain ⟨hkd,hpr⟩:=gQ H n v0 p1 k1 u0 hp1 hru
     obtain ⟨hlg,hlb⟩:=kl hl (by simp)
     refine ⟨fun k hk=> ?_,fun I' hI hsafe=> ?_⟩
     ·rcases List.mem_cons.1 hk with rfl | hk
      ·exact .inl ⟨v0,fz,hlb⟩
      ·exact hkd k hk
     ·have hprep:=hpr I' hI fun k hk=>hsafe k (by simp [hk])
      have hpok:=mz hp1 hok
      obtain ⟨hps,hp1c,hpc⟩:=hprep.cells hpok
      obtain ⟨b2,o2,m2,hs2,hIb⟩:=hsafe (d,s) (by simp)
      rw [hlg,hs] at hs2
      simp only [Option.some.injEq,Prod.mk.injEq] at hs2
      obtain ⟨rfl,_,_⟩:=hs2
      have hx: ∀j c,p1.cells[j]? =some c→ ∃x,u0.cells[j]? =some x∧w.cell? ⟨b,j,none⟩=some x∧x.oneCell'=true∧am I' w c x:=by
       intro j c hc
       have hj:j<u0.cells.size:=by
        have:=(List.getElem?_eq_some_iff.1 hc).1
        omega
       exact ⟨u0.cells[j],Array.getElem?_eq_getElem hj,hcell j _ (Array.getElem?_eq_getElem hj),hp1c _ (by simp),hpc j c _ hc (Array.getElem?_eq_getElem hj)⟩
      have:=am.ptr (I:=I') (w:=w) p1 off b 0 (fun j=>u0.cells.getD j default) hIb (fun j c hc=> ?_) (fun j c hc=> ?_)
      ·simpa using this
      ·obtain ⟨x,h1,h2,h3,_⟩:=hx j c hc
       simp only [Nat.zero_add,Array.getD_eq_getD_getElem?,h1,Option.getD_some]
       exact ⟨h2,h3⟩
      ·obtain ⟨x,h1,h2,h3,h4⟩:=hx j c hc
       simp only [Array.getD_eq_getD_getElem?,h1,Option.getD_some]
       exact h4
    ·cases he
   ·rename_i k0 e0 xs fz hl
    simp only [Option.map_eq_some_iff,Prod.mk.injEq] at he
    obtain ⟨x,hx,rfl,rfl⟩:=he
    obtain ⟨b',o',n',hs',_,_,_,_,_,_,hc,_⟩:=dV (H.live hl (by simp))
    rw [hs] at hs'
    simp only [Option.some.injEq,Prod.mk.injEq] at hs'
    obtain ⟨rfl,rfl,rfl⟩:=hs'
    obtain ⟨hlg,hlb⟩:=kl hl (by simp)
    refine ⟨fun k hk=> ?_,fun I' hI hsafe=> ?_⟩
    ·rw [List.mem_singleton.1 hk]
     exact .inr ⟨_,_,_,_,hlb⟩
    ·obtain ⟨b2,o2,m2,hs2,hIb⟩:=hsafe (d,s) (by simp)
     rw [hlg,hs] at hs2
     simp only [Option.some.injEq,Prod.mk.injEq] at hs2
     obtain ⟨rfl,_,_⟩:=hs2
     obtain ⟨vs,hv⟩:=my hI hc
     exact .ptr x off b (o+i*k) (vs i) hIb (fun j p hp=>⟨(hv i x hx j p hp).1,(hv i x hx j p hp).2.1⟩) (fun j p hp=>(hv i x hx j p hp).2.2)
   ·cases he
  | msl d s g off m full b o k cap ad had hs hn hfull hroom=>
   simp only [pk] at he
   split at he
   ·rename_i k0 e0 xs fz hl
    split at he
    ·rename_i hle
     simp only [Option.some.injEq,Prod.mk.injEq] at he
     obtain ⟨rfl,rfl⟩:=he
     obtain ⟨b',o',n',hs',_,_,_,_,_,hx,hc,_⟩:=dV (H.live hl (by simp))
     rw [hs] at hs'
     simp only [Option.some.injEq,Prod.mk.injEq] at hs'
     obtain ⟨rfl,rfl,rfl⟩:=hs'
     obtain ⟨hlg,hlb⟩:=kl hl (by simp)
     refine ⟨fun k hk=> ?_,fun I' hI hsafe=> ?_⟩
     ·rw [List.mem_singleton.1 hk]
      exact .inr ⟨_,_,_,_,hlb⟩
     ·obtain ⟨b2,o2,m2,hs2,hIb⟩:=hsafe (d,s) (by simp)
      rw [hlg,hs] at hs2
      simp only [Option.some.injEq,Prod.mk.injEq] at hs2
      obtain ⟨rfl,_,_⟩:=hs2
      obtain ⟨vs,hv⟩:=my hI hc
      have hlen:((xs.drop off).take m).length=m:=by simp;omega
      have ac: ∀i x,((xs.drop off).take m)[i]? =some x→xs[off+i]? =some x:=by
       intro i x hi
       rw [List.getElem?_take] at hi
       split at hi
       ·rwa [List.getElem?_drop] at hi
       ·cases hi
      have:=am.sl (I:=I') (w:=w) k full ((xs.drop off).take m) b (o+off*k) cap (fun i j=>vs (off+i) j) (by omega) (by rw [hlen];exact hfull) hIb
       (fun x hxm=>hx x (List.mem_of_mem_drop (List.mem_of_mem_take hxm)))
       (fun i x hi j p hp=>by
        have:=hv (off+i) x (ac i x hi) j p hp
        rw [show o+off*k+i*k+j=o+(off+i)*k+j by rw [Nat.add_mul];omega]
        exact ⟨this.1,this.2.1⟩)
       (fun i x hi j p hp=>(hv (off+i) x (ac i x hi) j p hp).2.2)
      rw [hlen] at this
      by_cases h0:cap=0
      ·subst h0
       have hm:m=0:=by omega
       subst hm
       exact .emp k full _ 0 fun _=>rfl
      ·rw [had h0]
       exact this
    ·cases he
   ·cases he
  | agg cs vs hl h1 hr=>
   simp only [pk,Option.map_eq_some_iff,Prod.exists,Prod.mk.injEq] at he
   obtain ⟨ps,k1,hps,rfl,rfl⟩:=he
   obtain ⟨hlen,hkd,hp⟩:=ih cs ps k1 vs hps hl hr
   exact ⟨hkd,fun I' hI hs=> .agg ps vs (by omega) h1 (hp I' hI hs)⟩
  | tup cs vs hl hr=>
   simp only [pk,Option.map_eq_some_iff,Prod.exists,Prod.mk.injEq] at he
   obtain ⟨ps,k1,hps,rfl,rfl⟩:=he
   obtain ⟨hlen,hkd,hp⟩:=ih cs ps k1 vs hps hl hr
   exact ⟨hkd,fun I' hI hs=> .tup ps vs (by omega) (hp I' hI hs)⟩
  | clo f a b va vb hla hlb hra hrb=>
   simp only [pk,Option.bind_eq_some_iff,Option.map_eq_some_iff,Prod.exists,Prod.mk.injEq] at he
   obtain ⟨pa,k1,hpa,pb,k2,hpb,rfl,rfl⟩:=he
   obtain ⟨hlen1,hk1,hp1⟩:=ih a pa k1 va hpa hla hra
   obtain ⟨hlen2,hk2,hp2⟩:=ih b pb k2 vb hpb hlb hrb
   exact ⟨fun k hk=>(List.mem_append.1 hk).elim (hk1 k) (hk2 k),fun I' hI hs=> .clo f pa pb va vb (by omega) (by omega) (hp1 I' hI fun k hk=>hs k (by simp [hk])) (hp2 I' hI fun k hk=>hs k (by simp [hk]))⟩
  | yld d s g b o k h=>simp [pk] at he
  | ifc t v0 u0 hv=>
   simp only [pk,Option.map_eq_some_iff,Prod.exists,Prod.mk.injEq] at he
   obtain ⟨p1,k1,hp1,rfl,rfl⟩:=he
   obtain ⟨hkd,hpr⟩:=gQ H n v0 p1 k1 u0 hp1 hv
   exact ⟨hkd,fun I' hI hs=> .iface t p1 u0 (hpr I' hI hs)⟩
  | btag t=>simp [pk] at he
  | mref d s g b o k h=>simp [pk] at he
theorem af.mark_ (H:af σ I base w h) {k:aX} (hk:c7 h k): ∃I',af σ I' base w (mark h k)∧bU I I' base∧dx σ I' h k:=by
 obtain ⟨d,s⟩:=k
 have hrow:=H.rows d s
 generalize hr:ac h d s=r at hrow
 obtain ⟨g,bd⟩:=r
 have hlive:Abs.live h d s g=bd:=by unfold Abs.live;rw [hr];simp
 have hmark:Abs.mark h (d,s)=hput h d s ⟨g,bF bd⟩:=by unfold Abs.mark;rw [hr]
 rw [hmark]
 unfold c7 at hk
 simp only [hr] at hk
 rcases hk with ⟨v,fz,rfl⟩ | ⟨m,e,xs,fz,rfl⟩
 ·obtain ⟨b,e0,hs,hsh,hok,hc,hz⟩:=hrow
  refine ⟨fun x=>I x∨x=b,H.markAt hlive (by simp) hs (.of_shape hsh) ?_ ⟨b,e0,hs,hsh,hok,fun j p hp=> ?_,.inr rfl⟩ rfl,⟨fun _ h=> .inl h,fun x hx=>hx.elim .inl fun e=> ?_⟩,b,0,1,by rw [hr];exact hs,.inr rfl⟩
  ·cases fz with
   | true=>exact .inr hz
   | false=>exact .inl (by simp [aj,hs])
  ·obtain ⟨u,h1,h2,h3⟩:=hc j p hp
   exact ⟨u,h1,h2,h3.mono (fun _ _ h=>h) (fun _ h=> .inl h) (aO.refl _ _).zero⟩
  ·subst e
   cases fz with
   | true=>exact .inl hz
   | false=>exact .inr hz.2.1
 ·have hrow':=hrow
  obtain ⟨b,o,n,hs,hb,hbase,hfr,hn,hsh,hx,hc,hz⟩:=dV hrow
  refine ⟨fun x=>I x∨x=b,H.markAt hlive (by simp) hs (.of_shape hsh) hfr (be.freeze hrow' hs) rfl,⟨fun _ h=> .inl h,fun x hx=>hx.elim .inl fun e=> ?_⟩,b,o,m,by rw [hr];exact hs,.inr rfl⟩
  subst e
  cases fz with
  | true=>exact .inl hz
  | false=>exact .inr (hbase rfl)
theorem mB (k:aX) (d s:Nat):(ac (mark h k) d s).g=(ac h d s).g∧(ac (mark h k) d s).b=if k=(d,s) then bF (ac h d s).b else (ac h d s).b:=by
 unfold mark
 rw [bY]
 by_cases e:k.1=d∧k.2=s
 ·have:k=(d,s):=Prod.ext e.1 e.2
  rw [if_pos e,if_pos this,this]
  exact ⟨rfl,rfl⟩
 ·have:k≠(d,s):=fun hh=>e ⟨by rw [hh],by rw [hh]⟩
  rw [if_neg e,if_neg this]
  exact ⟨rfl,rfl⟩
theorem c7.mark {k k':aX} (hk:c7 h k):c7 (Abs.mark h k') k:=by
 have hg:=mB (h:=h) k' k.1 k.2
 unfold c7
 rw [hg.2]
 rcases hk with ⟨v,fz,hv⟩ | ⟨m,e,xs,fz,hv⟩
 ·left
  split<;>rw [hv]
  ·exact ⟨v,true,rfl⟩
  ·exact ⟨v,fz,rfl⟩
 ·right
  split<;>rw [hv]
  ·exact ⟨m,e,xs,true,rfl⟩
  ·exact ⟨m,e,xs,fz,rfl⟩
theorem dx.mark {k k':aX} :dx σ I (Abs.mark h k') k↔dx σ I h k:=by
 unfold dx
 rw [(mB (h:=h) k' k.1 k.2).1]
theorem af.marks_: ∀(ks:List aX) {h:aa} {I:ah},af σ I base w h→(∀k∈ks,c7 h k)→ ∃I',af σ I' base w (marks ks h)∧bU I I' base∧ ∀k∈ks,dx σ I' h k
 | [],h,I,H,_=>⟨I,H,bU.refl,by simp⟩
 | k::ks,h,I,H,hk=>by
  obtain ⟨I1,H1,m1,hs1⟩:=H.mark_ (hk k (by simp))
  obtain ⟨I2,H2,m2,hs2⟩:=af.marks_ ks H1 fun k' hk'=>(hk k' (by simp [hk'])).mark
  refine ⟨I2,H2,m1.trans m2,fun k' hk'=> ?_⟩
  rcases List.mem_cons.1 hk' with rfl | hk'
  ·obtain ⟨b,o,m,h1,h2⟩:=hs1
   exact ⟨b,o,m,h1,m2.1 b h2⟩
  ·exact dx.mark.1 (hs2 k' hk')
theorem fQ (n:Nat) (v:AV) (h:aa) (p:PV) (h':aa) (u:Value) (I:ah) (he:frz n v h=some (p,h')) (hr:ab σ I w v u) (H:af σ I base w h):
  ∃I',am I' w p u∧af σ I' base w h'∧bU I I' base:=by
 unfold frz at he
 simp only [Option.map_eq_some_iff,Prod.exists,Prod.mk.injEq] at he
 obtain ⟨p',ks,hp,rfl,rfl⟩:=he
 obtain ⟨hk,hpr⟩:=gQ H n v p' ks u hp hr
 obtain ⟨I',H',m,hs⟩:=af.marks_ ks H hk
 exact ⟨I',hpr I' m.1 hs,H',m⟩
theorem je (n:Nat) (l:List AV) (h:aa) (ps:List PV) (h':aa) (us:List Value) (I:ah) (he:bi n l h=some (ps,h')) (hl:us.length=l.length)
  (hr: ∀(j:Nat) (v:AV) (u:Value),l[j]? =some v→us[j]? =some u→ab σ I w v u) (H:af σ I base w h):
  ∃I',ps.length=l.length∧(∀(j:Nat) (p:PV) (u:Value),ps[j]? =some p→us[j]? =some u→am I' w p u)∧af σ I' base w h'∧bU I I' base:=by
 unfold bi at he
 simp only [Option.map_eq_some_iff,Prod.exists,Prod.mk.injEq] at he
 obtain ⟨ps',ks,hp,rfl,rfl⟩:=he
 obtain ⟨hlen,hk,hpr⟩:=km (h:=h) (gQ H n) l ps' ks us hp hl hr
 obtain ⟨I',H',m,hs⟩:=af.marks_ ks H hk
 exact ⟨I',hlen,hpr I' m.1 hs,H',m⟩
theorem qf {n:Nat} {v:AV} {h h':aa} {p:PV} (he:frz n v h=some (p,h')) (ho:v.ok=true):p.ok=true:=by
 unfold frz at he
 simp only [Option.map_eq_some_iff,Prod.exists,Prod.mk.injEq] at he
 obtain ⟨p',ks,hp,rfl,rfl⟩:=he
 exact mz hp ho
theorem gR {α:Type} (z:α): ∀(l:List α) (i j:Nat) (v u:α),i≠j→bh z (bh z l i v) j u=bh z (bh z l j u) i v
 | [],0,0,_,_,h=>absurd rfl h
 | [],0,j+1,v,u,_=>by simp [bh]
 | [],i+1,0,v,u,_=>by simp [bh]
 | [],i+1,j+1,v,u,h=>by simp [bh];exact gR z [] i j v u (by omega)
 | x::l,0,0,_,_,h=>absurd rfl h
 | x::l,0,j+1,v,u,_=>by simp [bh]
 | x::l,i+1,0,v,u,_=>by simp [bh]
 | x::l,i+1,j+1,v,u,h=>by simp [bh];exact gR z l i j v u (by omega)
theorem jg {α:Type} (z:α): ∀(l:List α) (i:Nat) (v u:α),bh z (bh z l i v) i u=bh z l i u
 | [],0,_,_=>rfl
 | [],i+1,v,u=>by simp [bh];exact jg z [] i v u
 | x::l,0,_,_=>rfl
 | x::l,i+1,v,u=>by simp [bh];exact jg z l i v u
theorem jh (h:aa) {d s d' s':Nat} (r r':ak) (hne: ¬(d=d'∧s=s')):hput (hput h d s r) d' s' r'=hput (hput h d' s' r') d s r:=by
 unfold hput
 by_cases hd:d=d'
 ·subst hd
  have hs:s≠s':=fun e=>hne ⟨rfl,e⟩
  rw [jg,jg,dv,dv,if_pos rfl,if_pos rfl,gR _ _ _ _ _ _ hs]
 ·rw [dv,dv,if_neg hd,if_neg (fun e=>hd e.symm),gR _ _ _ _ _ _ hd]
def bo (h h2:aa):Prop:= ∀d s g,live h d s g≠ .dead→bF (live h2 d s g)=bF (live h d s g)
theorem bo.refl (h:aa):bo h h:=fun _ _ _ _=>rfl
theorem jk (h:aa) (k:aX) (d s:Nat):ac (mark h k) d s=if k.1=d∧k.2=s then { ac h d s with b:=bF (ac h d s).b} else ac h d s:=by
 unfold mark
 rw [bY]
 by_cases e:k.1=d∧k.2=s
 ·obtain ⟨rfl,rfl⟩:=e;simp
 ·simp [e]
theorem qg (b:ba):bF (bF b)=bF b:=by cases b<;>rfl
theorem qh {b:ba} :bF b= .dead↔b= .dead:=by cases b<;>simp [bF]
theorem qi (h:aa) (k:aX) (d s g:Nat):bF (live (mark h k) d s g)=bF (live h d s g):=by
 unfold live
 rw [jk]
 by_cases e:k.1=d∧k.2=s
 ·rw [if_pos e]
  by_cases eg:(ac h d s).g=g<;>simp [eg,qg]
 ·rw [if_neg e]
theorem ko: ∀(ks:List aX) (h:aa) (d s g:Nat),bF (live (marks ks h) d s g)=bF (live h d s g)
 | [],_,_,_,_=>rfl
 | k::ks,h,d,s,g=>by
  have:=ko ks (mark h k) d s g
  rw [qi] at this
  exact this
theorem qj (h:aa) (k:aX) (d s:Nat):(ac (mark h k) d s).b= .dead↔(ac h d s).b= .dead:=by
 rw [jk]
 by_cases e:k.1=d∧k.2=s
 ·rw [if_pos e];exact qh
 ·rw [if_neg e]
theorem mC: ∀(ks:List aX) (h:aa) (d s:Nat),(ac (marks ks h) d s).b= .dead↔(ac h d s).b= .dead
 | [],_,_,_=>Iff.rfl
 | k::ks,h,d,s=>(mC ks (mark h k) d s).trans (qj h k d s)
theorem bo.marks_l (ks:List aX) (h:aa):bo (marks ks h) h:=fun d s g _=>(ko ks h d s g).symm
theorem bo.marks_r (ks:List aX) (h:aa):bo h (marks ks h):=fun d s g _=>ko ks h d s g
theorem bo.hput {h:aa} {d s:Nat} {r:ak} (hd:(ac h d s).b= .dead):bo h (hput h d s r):=by
 intro d' s' g hl
 unfold live at*
 rw [bY]
 by_cases e:d=d'∧s=s'
 ·obtain ⟨rfl,rfl⟩:=e
  exfalso;apply hl
  by_cases eg:(ac h d s).g=g<;>simp [eg,hd]
 ·rw [if_neg e]
theorem qk (h:aa) (k k':aX):mark (mark h k) k'=mark (mark h k') k:=by
 by_cases e:k.1=k'.1∧k.2=k'.2
 ·have:k=k':=Prod.ext e.1 e.2
  rw [this]
 ·have e': ¬(k'.1=k.1∧k'.2=k.2):=fun x=>e ⟨x.1.symm,x.2.symm⟩
  have h1:ac (mark h k) k'.1 k'.2=ac h k'.1 k'.2:=by rw [jk,if_neg e]
  have h2:ac (mark h k') k.1 k.2=ac h k.1 k.2:=by rw [jk,if_neg e']
  conv=>lhs;rw [mark,h1];rw [mark]
  conv=>rhs;rw [mark,h2];rw [mark]
  exact jh h _ _ e
theorem mD: ∀(ks:List aX) (h:aa) (k:aX),marks ks (mark h k)=mark (marks ks h) k
 | [],_,_=>rfl
 | k'::ks,h,k=>by
  show marks ks (mark (mark h k) k')=mark (marks ks (mark h k')) k
  rw [qk,mD ks]
theorem mF: ∀(ks ks':List aX) (h:aa),marks ks (marks ks' h)=marks ks' (marks ks h)
 | ks,[],_=>rfl
 | ks,k::ks',h=>by
  show marks ks (marks ks' (mark h k))=marks ks' (mark (marks ks h) k)
  rw [mF ks ks',mD]
theorem ql {h:aa} {d s:Nat} {r:ak} {k:aX} (hne: ¬(d=k.1∧s=k.2)):mark (hput h d s r) k=hput (mark h k) d s r:=by
 unfold mark
 rw [bY,if_neg hne,jh h _ _ hne]
theorem mG {d s:Nat} {r:ak} : ∀ {ks:List aX} {h:aa},(∀k∈ks,¬(d=k.1∧s=k.2))→marks ks (hput h d s r)=hput (marks ks h) d s r
 | [],_,_=>rfl
 | k::ks,h,hk=>by
  show marks ks (mark (hput h d s r) k)=hput (marks ks (mark h k)) d s r
  rw [ql (hk k (by simp)),mG fun k' hk'=>hk k' (by simp [hk'])]
theorem mH {b:ba} {v:AV} {fz:Bool} (h:bF b=bF (.box v fz)): ∃fz',b= .box v fz':=by
 cases b<;>simp [bF] at h
 exact ⟨_,by rw [h]⟩
theorem kq {b:ba} {k:Nat} {e:TypeId} {xs:List PV} {fz:Bool} (h:bF b=bF (.row k e xs fz)): ∃fz',b= .row k e xs fz':=by
 cases b<;>simp [bF] at h
 obtain ⟨rfl,rfl,rfl⟩:=h
 exact ⟨_,rfl⟩
theorem kr {h:aa} {d s g:Nat} {b:ba} (e:live h d s g=b) (hb:b≠ .dead):(ac h d s).b≠ .dead:=by
 unfold live at e
 split at e
 ·rw [e];exact hb
 ·exact absurd e.symm hb
theorem e8 {f f2:AV→Option (PV×List aX)} {Q:aX→Prop} : ∀(l:List AV) (r:List PV×List aX),(∀v∈l,∀r,f v=some r→f2 v=some r∧ ∀k∈r.2,Q k)→
  bQ f l=some r→bQ f2 l=some r∧ ∀k∈r.2,Q k
 | [],r,_,h=>by simp [bQ] at h ⊢; subst h;simp
 | v::l,r,hf,h=>by
  simp only [bQ,Option.bind_eq_some_iff,Option.map_eq_some_iff] at h
  obtain ⟨⟨p,k1⟩,h1,⟨ps,k2⟩,h2,rfl⟩:=h
  obtain ⟨g1,q1⟩:=hf v (by simp) _ h1
  obtain ⟨g2,q2⟩:=e8 l _ (fun v hv=>hf v (by simp [hv])) h2
  refine ⟨by simp [bQ,g1,g2],fun k hk=> ?_⟩
  simp only [List.mem_append] at hk
  exact hk.elim (q1 k) (q2 k)
theorem dy {h h2:aa} (hr:bo h h2): ∀(n:Nat) (v:AV) (r:PV×List aX),pk h n v=some r→pk h2 n v=some r∧ ∀k∈r.2,(ac h k.1 k.2).b≠ .dead
 | 0,_,_,e=>by simp [pk] at e
 | n+1,v,r,e=>by
  cases v with
  | pv p=>simp [pk] at e ⊢; subst e;simp
  | mptr d s g i off=>
   simp only [pk] at e ⊢
   split at e
   ·rename_i w fz hl
    have:=hr d s g (by rw [hl];simp)
    rw [hl] at this
    obtain ⟨fz',hl2⟩:=mH this
    rw [hl2]
    by_cases hi:i=0
    ·simp only [hi,if_true,Option.map_eq_some_iff] at e ⊢
     obtain ⟨⟨p,ks⟩,h1,rfl⟩:=e
     obtain ⟨g1,q1⟩:=dy hr n w _ h1
     refine ⟨⟨_,g1,rfl⟩,fun k hk=> ?_⟩
     simp only [List.mem_cons] at hk
     rcases hk with rfl | hk
     ·exact kr hl (by simp)
     ·exact q1 k hk
    ·simp [hi] at e
   ·rename_i k e' xs fz hl
    have:=hr d s g (by rw [hl];simp)
    rw [hl] at this
    obtain ⟨fz',hl2⟩:=kq this
    rw [hl2]
    simp only [Option.map_eq_some_iff] at e ⊢
    obtain ⟨x,hx,rfl⟩:=e
    refine ⟨⟨x,hx,rfl⟩,fun k hk=> ?_⟩
    simp only [List.mem_singleton] at hk
    subst hk
    exact kr hl (by simp)
   ·cases e
  | msl d s g off m full=>
   simp only [pk] at e ⊢
   split at e
   ·rename_i k e' xs fz hl
    have:=hr d s g (by rw [hl];simp)
    rw [hl] at this
    obtain ⟨fz',hl2⟩:=kq this
    rw [hl2]
    simp only [] at e ⊢
    split at e
    ·rename_i hle
     injection e with e
     subst e
     refine ⟨by simp [hle],fun k hk=> ?_⟩
     simp only [List.mem_singleton] at hk
     subst hk
     exact kr hl (by simp)
    ·cases e
   ·cases e
  | agg l=>
   simp only [pk,Option.map_eq_some_iff] at e ⊢
   obtain ⟨⟨ps,ks⟩,h1,rfl⟩:=e
   obtain ⟨g1,q1⟩:=e8 l _ (fun v _ r hv=>dy hr n v r hv) h1
   exact ⟨⟨_,g1,rfl⟩,q1⟩
  | tup l=>
   simp only [pk,Option.map_eq_some_iff] at e ⊢
   obtain ⟨⟨ps,ks⟩,h1,rfl⟩:=e
   obtain ⟨g1,q1⟩:=e8 l _ (fun v _ r hv=>dy hr n v r hv) h1
   exact ⟨⟨_,g1,rfl⟩,q1⟩
  | clo f a b=>
   simp only [pk,Option.bind_eq_some_iff,Option.map_eq_some_iff] at e ⊢
   obtain ⟨⟨pa,k1⟩,h1,⟨pb,k2⟩,h2,rfl⟩:=e
   obtain ⟨g1,q1⟩:=e8 a _ (fun v _ r hv=>dy hr n v r hv) h1
   obtain ⟨g2,q2⟩:=e8 b _ (fun v _ r hv=>dy hr n v r hv) h2
   refine ⟨⟨_,g1,_,g2,rfl⟩,fun k hk=> ?_⟩
   simp only [List.mem_append] at hk
   exact hk.elim (q1 k) (q2 k)
  | yld d s g=>simp [pk] at e
  | ifc t v=>
   simp only [pk,Option.map_eq_some_iff] at e ⊢
   obtain ⟨⟨p,ks⟩,h1,rfl⟩:=e
   obtain ⟨g1,q1⟩:=dy hr n v _ h1
   exact ⟨⟨_,g1,rfl⟩,q1⟩
  | btag t=>simp [pk] at e
  | mref d s g=>simp [pk] at e
section
variable {P:Program} {o:Oper} {ρ ρ':Operand→AV} {d gen:Nat} {h h':aa} {v:AV}
def dW (F:aa→Nat→Option (AV×aa×Nat)):Prop:= ∀h g v h' g',F h g=some (v,h',g')→h'=h∧g'=g∧ ∀h2 g2,F h2 g2=some (v,h2,g2)
def jl (F:aa→Nat→Option (AV×aa×Nat)):Prop:= ∀h g v h' g',F h g=some (v,h',g')→
 ∃ks,(∀k∈ks,(ac h k.1 k.2).b≠ .dead)∧h'=marks ks h∧g'=g∧ ∀h2 g2,bo h h2→F h2 g2=some (v,marks ks h2,g2)
def ku (d slot:Nat) (F:aa→Nat→Option (AV×aa×Nat)):Prop:= ∀h g v h' g',F h g=some (v,h',g')→
 ∃r,(ac h d slot).b= .dead∧h'=hput h d slot r∧g'=g∧ ∀h2 g2,(ac h2 d slot).b= .dead→F h2 g2=some (v,hput h2 d slot r,g2)
theorem dW.fz {F} (hF:dW F):jl F:=fun h g v h' g' e=>by
 obtain ⟨h1,h2,h3⟩:=hF h g v h' g' e
 exact ⟨[],by simp,h1,h2,fun h2 g2 _=>h3 h2 g2⟩
end
section
variable {P:Program} {o:Oper} {ρ ρ':Operand→AV} {d gen:Nat} {h h':aa} {v:AV}
theorem qm (hρ: ∀x∈o.op.operands,ρ x=ρ' x):ai P o ρ d gen h=ai P o ρ' d gen h:=by
 obtain ⟨dst,op,type,pos,after,guard⟩:=o
 have pairs: ∀ps:Array (Nat×Operand),(∀x∈ps.map (·.2),ρ x=ρ' x)→
   (ps.toList.map fun (i,x)=>(i,ρ x))=(ps.toList.map fun (i,x)=>(i,ρ' x)):=fun ps hp=>
  List.map_congr_left fun p hm=>by
   obtain ⟨i,x⟩:=p
   simp only [hp x (Array.mem_map.2 ⟨(i,x),by simpa using hm,rfl⟩)]
 have pairs2: ∀ps:Array (Nat×Operand),(∀x∈ps.map (·.2),ρ x=ρ' x)→
   (ps.toList.map fun q=>ρ q.2)=(ps.toList.map fun q=>ρ' q.2):=fun ps hp=>
  List.map_congr_left fun p hm=>by
   obtain ⟨i,x⟩:=p
   simp only [hp x (Array.mem_map.2 ⟨(i,x),by simpa using hm,rfl⟩)]
 have arr: ∀xs:Array Operand,(∀x∈xs,ρ x=ρ' x)→xs.toList.map ρ=xs.toList.map ρ':=fun xs hx=>List.map_congr_left fun x hm=>hx x (by simpa using hm)
 cases op<;>simp only [Op.operands] at hρ<;>simp only [ai]
 case build t ps=>rw [pairs ps fun x hx=>hρ x (by simpa using hx)]
 case buildSlice t n ps=>rw [pairs2 ps fun x hx=>hρ x (by simpa using hx)]
 case makeFunc fn first captured=>
  rw [arr first fun x hx=>hρ x (by simp [hx]),arr captured fun x hx=>hρ x (by simp [hx])]
 case call c=>
  obtain ⟨callee,args,argTypes⟩:=c
  cases callee with
  | builtin b=>simp only [];rw [arr args fun x hx=>hρ x (by simp [Call.operands,hx])]
  | _=>rfl
 case slice t x lo hi mx=>cases lo<;>cases hi<;>cases mx<;>simp_all
 case next it s=>cases s<;>simp_all
 case lookup t m k ok=>rw [hρ m (by simp),hρ k (by simp)]
 case mapUpdate t m k x=>rw [hρ m (by simp),hρ k (by simp),hρ x (by simp)]
 case insert t m k x=>rw [hρ m (by simp),hρ k (by simp),hρ x (by simp)]
 case makeMap t r=>cases r<;>rfl
 all_goals (first | rfl | (simp_all;done))
theorem gS {X:Option AV} {h:aa} :(X.map fun r=>(r,h))=((X.map fun r=>(r,([]:aa))).map (·.1)).map fun r=>(r,h):=by cases X<;>rfl
theorem gT {α:Type} {X:Option α} {f:α→AV} {h:aa} :(X.map fun r=>(f r,h))=((X.map fun r=>(f r,([]:aa))).map (·.1)).map fun r=>(r,h):=by cases X<;>rfl
theorem cm {α:Type} {X:Option α} {f f0:α→Option (AV×aa)} {h:aa} (hf: ∀a,f a=((f0 a).map (·.1)).map fun r=>(r,h)):
  X.bind f=((X.bind f0).map (·.1)).map fun r=>(r,h):=by cases X<;>simp [hf]
theorem mJ {E:ap} (hc:aN E o= .pu) (hP:E.P=P) (h:aa):ai P o ρ d gen h=((ai P o ρ d gen []).map (·.1)).map fun r=>(r,h):=by
 obtain ⟨dst,op,type,pos,after,guard⟩:=o
 cases op<;>simp only [aN] at hc<;>try (first | (exfalso;revert hc;decide) | skip)
 case move x=>rfl
 case assign x=>rfl
 case pick c a b=>simp only [ai];split<;>rfl
 case nilCheck x=>simp only [ai];split<;>rfl
 case binOp op t x y ty=>exact gS
 case typeAssert x xT aT ok=>exact gS
 case unOp op t x=>exact cm fun a=>gT
 case makeFunc fn first captured=>simp only [ai];split<;>rfl
 case extract x i=>simp only [ai];split<;>first | exact gS | exact gT | rfl
 case fieldAddr st x f=>
  simp only [ai];split
  ·refine cm fun off=> ?_
   split<;>rfl
  ·rfl
 case index t x ix=>
  simp only [ai];split
  ·split<;>rfl
  ·split
   ·refine cm fun size=>cm fun ag=> ?_
    split
    ·exact gS
    ·rfl
   ·rfl
  ·rfl
 case field t x f=>
  simp only [ai];split
  ·refine cm fun fd=>cm fun size=>cm fun ag=> ?_
   split
   ·exact gS
   ·rfl
  ·rfl
 case build t parts=>
  simp only [ai]
  refine cm fun z=> ?_
  split
  ·split
   ·exact cm fun pl=>cm fun cs=>rfl
   ·exact cm fun pl=>cm fun cs=>rfl
   ·rfl
  ·rfl
 case convert src dst x=>
  simp only [ai]
  have hs:eS P src=false∧eS P dst=false:=by
   subst hP
   cases h1:eS E.P src<;>cases h2:eS E.P dst<;>simp [h1,h2] at hc ⊢
  unfold eS at hs
  split
  ·rename_i h1 h2 h3;rw [h2] at hs;simp at hs
  ·rename_i h1 h2;rw [h1] at hs;simp at hs
  ·exact cm fun v=>gT
 case call c=>
  obtain ⟨callee,args,argTypes⟩:=c
  cases callee with
  | builtin b=>
   cases b<;>simp only [aN] at hc<;>try (first | (exfalso;revert hc;decide) | skip)
   case len=>
    have hm: ∀h:aa,bR P .len argTypes h (args.toList.map ρ)=none:=by
     intro h
     subst hP
     unfold bR
     split
     ·split
      ·rename_i hx _;rw [hx] at hc;cases hc
      ·rename_i hx _;rw [hx] at hc;cases hc
      ·rfl
     all_goals first | rfl | contradiction
    simp only [ai,hm,cg]
    repeat' first | rfl | contradiction | exact cm fun vs=>gT | split
   all_goals
    simp only [ai,cg,bR]
    repeat' first | rfl | contradiction | exact cm fun vs=>gT | split
  | value f=>rfl
  | invoke r m=>rfl
theorem mL {h2:aa} (hr:bo h h2) {d s g:Nat} {v:AV} {fz:Bool} (hl:live h d s g= .box v fz): ∃fz',live h2 d s g= .box v fz':=by
 have:=hr d s g (by rw [hl];simp)
 rw [hl] at this
 exact mH this
theorem kv {h2:aa} (hr:bo h h2) {d s g k:Nat} {e:TypeId} {xs:List PV} {fz:Bool} (hl:live h d s g= .row k e xs fz): ∃fz',live h2 d s g= .row k e xs fz':=by
 have:=hr d s g (by rw [hl];simp)
 rw [hl] at this
 exact kq this
theorem map_some {α:Type} {X:Option α} {f:α→AV} {h2:aa} (e:(X.map fun r=>(f r,h))=some (v,h')):h'=h∧(X.map fun r=>(f r,h2))=some (v,h2):=by
 cases X<;>simp at e ⊢
 exact ⟨e.2.symm,e.1⟩
theorem bind_some {α:Type} {X:Option α} {f f2:α→Option (AV×aa)} {h2:aa} (e:X.bind f=some (v,h')) (hf: ∀a,f a=some (v,h')→h'=h∧f2 a=some (v,h2)):
  h'=h∧X.bind f2=some (v,h2):=by
 cases X with
 | none=>simp at e
 | some a=>exact hf a e
theorem qn {h2:aa} {t:TypeId} {a:Operand} (ho:o.op= .load t a) (hr:bo h h2) (e:ai P o ρ d gen h=some (v,h')):h'=h∧ai P o ρ d gen h2=some (v,h2):=by
 simp only [ai,ho] at e ⊢
 refine bind_some e fun m e=>bind_some e fun ag e=> ?_
 split at e
 ·rename_i d s g i off hx
  split at e
  ·rename_i w fz hl
   obtain ⟨fz',hl2⟩:=mL hr hl
   simp only [hl2]
   split at e
   ·rename_i hi;simp only [hi,if_true];exact map_some e
   ·cases e
  ·rename_i k e' xs fz hl
   obtain ⟨fz',hl2⟩:=kv hr hl
   simp only [hl2]
   exact bind_some e fun x e=>map_some e
  ·cases e
 ·exact map_some e
 ·cases e
theorem qo {h2:aa} {t:TypeId} {x:AV} {lo hi mx:Option AV} {v:AV} (hr:bo h h2) (e:eQ P t h x lo hi mx=some v):eQ P t h2 x lo hi mx=some v:=by
 unfold eQ at*
 split at e
 ·exact e
 ·exact e
 ·simp only [bind,Option.bind_eq_some_iff] at e ⊢
  obtain ⟨b,hb,size,hs,e⟩:=e
  refine ⟨b,hb,size,hs,?_⟩
  split at e
  ·rename_i k e'' xs fz hl
   obtain ⟨fz',hl2⟩:=kv hr hl
   rw [hl2]
   exact e
  ·cases e
 ·simp only [bind,Option.bind_eq_some_iff] at e ⊢
  obtain ⟨b,hb,size,hs,e⟩:=e
  refine ⟨b,hb,size,hs,?_⟩
  split at e
  ·rename_i w fz hl
   obtain ⟨fz',hl2⟩:=mL hr hl
   rw [hl2]
   exact e
  ·cases e
 ·cases e
theorem qp {h2:aa} {t:TypeId} {x:Operand} {lo hi mx:Option Operand} (ho:o.op= .slice t x lo hi mx) (hr:bo h h2) (e:ai P o ρ d gen h=some (v,h')):
  h'=h∧ai P o ρ d gen h2=some (v,h2):=by
 simp only [ai,ho] at e ⊢
 simp only [Option.map_eq_some_iff,Prod.mk.injEq] at e ⊢
 obtain ⟨a,ha,rfl,rfl⟩:=e
 exact ⟨rfl,a,qo hr ha,rfl,trivial⟩
theorem qq {h2:aa} {t:TypeId} {x ix:Operand} (ho:o.op= .indexAddr t x ix) (hr:bo h h2) (e:ai P o ρ d gen h=some (v,h')):
  h'=h∧ai P o ρ d gen h2=some (v,h2):=by
 simp only [ai,ho] at e ⊢
 refine bind_some e fun i e=> ?_
 split at e
 ·refine bind_some e fun size e=> ?_
  split at e
  ·rename_i hi;rw [if_pos hi];exact map_some e
  ·cases e
 ·refine bind_some e fun size e=> ?_
  split at e
  ·rename_i hl
   obtain ⟨fz',hl2⟩:=kv hr hl
   rw [hl2]
   simp only []
   split at e
   ·rename_i hi;rw [if_pos hi];injection e with e;injection e with e1 e2;subst e1 e2;exact ⟨rfl,rfl⟩
   ·cases e
  ·cases e
 ·refine bind_some e fun size e=> ?_
  split at e
  ·rename_i hi;rw [if_pos hi];injection e with e;injection e with e1 e2;subst e1 e2;exact ⟨rfl,rfl⟩
  ·cases e
 ·refine bind_some e fun size e=> ?_
  split at e
  ·rename_i hi;rw [if_pos hi];injection e with e;injection e with e1 e2;subst e1 e2;exact ⟨rfl,rfl⟩
  ·cases e
 ·cases e
theorem mM {h2:aa} (hr:bo h h2) {d s g c:Nat} {es:List ME} (hl:live h d s g= .map c es):live h2 d s g= .map c es:=by
 have:=hr d s g (by rw [hl];simp)
 rw [hl] at this
 revert this
 cases live h2 d s g<;>simp [bF]
theorem qr {h2:aa} {t:TypeId} {m k:Operand} {ok:Bool} (ho:o.op= .lookup t m k ok) (hr:bo h h2) (e:ai P o ρ d gen h=some (v,h')):h'=h∧ai P o ρ d gen h2=some (v,h2):=by
 simp only [ai,ho] at e ⊢
 split at e
 ·refine bind_some e fun kd e=> ?_
  exact map_some e
 ·split at e
  ·rename_i hl
   rw [mM hr hl]
   simp only []
   refine bind_some e fun kd e=> ?_
   split at e
   ·simp only [Option.some.injEq,Prod.mk.injEq] at e ⊢; exact ⟨e.2.symm,e.1,trivial⟩
   ·exact map_some e
   ·cases e
  ·cases e
 ·cases e
theorem qt {h2:aa} {args:Array Operand} {argTypes:Array TypeId} (ho:o.op= .call { callee:= .builtin .len,args,argTypes}) (hr:bo h h2) (e:ai P o ρ d gen h=some (v,h')):h'=h∧ai P o ρ d gen h2=some (v,h2):=by
 simp only [ai,ho] at e ⊢
 generalize args.toList.map ρ=l at e ⊢
 match l,e with
 | [],e=>simp [bR,cg] at e
 | x::y::l,e=>simp [bR,cg] at e
 | [x],e=>
  cases ht:(argTypes[0]?).bind P.underlying with
  | none=>simp [bR,cg,ht] at e
  | some td=>
   by_cases hmap: ∃kt vt,td= .map kt vt
   ·obtain ⟨kt,vt,rfl⟩:=hmap
    have ha: ∀h:aa,cg P .len argTypes o.type d (o.dst.getD 0) gen h [x]=none:=by
     intro h
     simp only [cg,ht]
    simp only [ha] at e ⊢
    have hm: ∀ {r:AV×aa},bR P .len argTypes h [x]=some r→r.2=h∧bR P .len argTypes h2 [x]=some (r.1,h2):=by
     intro r hx
     simp only [bR,ht] at hx ⊢
     split at hx
     ·simp only [Option.some.injEq] at hx
      subst hx
      exact ⟨rfl,rfl⟩
     ·split at hx
      ·rename_i hl
       simp only [Option.some.injEq] at hx
       subst hx
       rw [mM hr hl]
       exact ⟨rfl,rfl⟩
      ·cases hx
     ·cases hx
    split at e
    ·rename_i r hx
     simp only [Option.some.injEq] at e
     subst e
     obtain ⟨k1,k2⟩:=hm hx
     exact ⟨k1,by rw [k2]⟩
    ·cases e
   ·have hn: ∀h:aa,bR P .len argTypes h [x]=none:=by
     intro h
     simp only [bR,ht]
     split
     ·rename_i hx;injection hx with hx;exact absurd ⟨_,_,hx⟩ hmap
     ·rename_i hx;injection hx with hx;exact absurd ⟨_,_,hx⟩ hmap
     ·rfl
    simp only [hn] at e ⊢
    simp only [cg,ht] at e ⊢
    split at e<;>first | (simp only [Option.some.injEq,Prod.mk.injEq] at e ⊢; exact ⟨e.2.symm,e.1,trivial⟩) | cases e
theorem qu {h2:aa} {n:Nat} {a:AV} {p:PV} (e:frz n a h=some (p,h')): ∃ks,(∀k∈ks,(ac h k.1 k.2).b≠ .dead)∧h'=marks ks h∧ ∀h2,bo h h2→frz n a h2=some (p,marks ks h2):=by
 unfold frz at e
 simp only [Option.map_eq_some_iff,Prod.mk.injEq] at e
 obtain ⟨⟨p',ks⟩,he,rfl,rfl⟩:=e
 refine ⟨ks,(dy (bo.refl h) n a _ he).2,rfl,fun h2 hr=> ?_⟩
 simp [frz,(dy hr n a _ he).1]
theorem qv {n:Nat} {l:List AV} {ps:List PV} (e:bi n l h=some (ps,h')): ∃ks,(∀k∈ks,(ac h k.1 k.2).b≠ .dead)∧h'=marks ks h∧ ∀h2,bo h h2→bi n l h2=some (ps,marks ks h2):=by
 unfold bi at e
 simp only [Option.map_eq_some_iff,Prod.mk.injEq] at e
 obtain ⟨⟨p',ks⟩,he,rfl,rfl⟩:=e
 refine ⟨ks,(e8 l _ (fun v _ r hv=>dy (bo.refl h) n v r hv) he).2,rfl,fun h2 hr=> ?_⟩
 simp [bi,(e8 l _ (fun v _ r hv=>dy hr n v r hv) he).1]
theorem qw {t:TypeId} {x:Operand} (ho:o.op= .makeInterface t x) (e:ai P o ρ d gen h=some (v,h')):
  ∃ks,(∀k∈ks,(ac h k.1 k.2).b≠ .dead)∧h'=marks ks h∧ ∀h2,bo h h2→ai P o ρ d gen h2=some (v,marks ks h2):=by
 simp only [ai,ho] at e ⊢
 split at e
 ·cases e
 ·cases e
 ·split at e
  ·rename_i hpp
   simp only [Option.some.injEq,Prod.mk.injEq] at e
   obtain ⟨rfl,rfl⟩:=e
   exact ⟨[],by simp,rfl,fun h2 _=>by simp [hpp,marks]⟩
  ·rename_i hpp
   simp only [Option.map_eq_some_iff,Prod.mk.injEq] at e
   obtain ⟨⟨p,h1⟩,hf,rfl,rfl⟩:=e
   obtain ⟨ks,k1,k2,k3⟩:=qu (h2:=h) hf
   exact ⟨ks,k1,k2,fun h2 hr=>by simp [hpp,k3 h2 hr]⟩
theorem qx {E:ap} (hc:aN E o= .al) (e:ai P o ρ d gen h=some (v,h')): ∃s r,o.dst=some s∧h'=hput h d s r∧ ∀h2,ai P o ρ d gen h2=some (v,hput h2 d s r):=by
 obtain ⟨dst,op,type,pos,after,guard⟩:=o
 cases op<;>simp only [aN] at hc<;>try (first | (exfalso;revert hc;decide) | skip)
 case alloc t=>
  simp only [ai,bind,Option.bind_eq_some_iff] at e ⊢
  obtain ⟨z,hz,s,hs,e⟩:=e
  split at e
  ·rename_i hok
   injection e with e;injection e with e1 e2;subst e1 e2
   exact ⟨s,_,hs,rfl,fun h2=>⟨z,hz,s,hs,by rw [if_pos hok]⟩⟩
  ·cases e
 case box t x=>
  simp only [ai,bind,Option.bind_eq_some_iff] at e ⊢
  obtain ⟨s,hs,e⟩:=e
  split at e
  ·rename_i hok
   injection e with e;injection e with e1 e2;subst e1 e2
   exact ⟨s,_,hs,rfl,fun h2=>⟨s,hs,by rw [if_pos hok]⟩⟩
  ·cases e
 case convert src dst x=>split at hc<;>cases hc
 case makeMap t r=>
  cases r with
  | some r=>simp [ai] at e
  | none=>
   simp only [ai,Option.map_eq_some_iff,Prod.mk.injEq] at e ⊢
   obtain ⟨s,hs,rfl,rfl⟩:=e
   exact ⟨s,_,hs,rfl,fun h2=>⟨s,hs,rfl,rfl⟩⟩
 case call c=>
  obtain ⟨callee,args,argTypes⟩:=c
  exfalso
  cases callee with
  | builtin b=>cases b<;>simp at hc;split at hc<;>cases hc
  | value f=>
   cases f<;>simp only [] at hc<;>try (cases hc;done)
   split at hc<;>cases hc
  | invoke r m=>simp at hc
end
theorem mN {t:List AV} {dst:Option Tmp} {v:AV} {x:Operand} (h: ∀d,dst=some d→x≠ .tmp d):aw (aP t dst v) x=aw t x:=by
 cases dst with
 | none=>rfl
 | some d=>
  cases x with
  | tmp i=>simp only [aw,aP];rw [i7,if_neg (fun e=>h d rfl (by rw [e]))]
  | _=>rfl
theorem mO (t:List AV) {x y:Option Tmp} (v u:AV) (h: ∀d,x=some d→y≠some d):aP (aP t x v) y u=aP (aP t y u) x v:=by
 cases x with
 | none=>cases y<;>rfl
 | some d=>
  cases y with
  | none=>rfl
  | some e=>exact gR _ _ _ _ _ _ (fun q=>h d rfl (by rw [q]))
theorem mP {all:Array Oper} {o:Oper} {t:List AV} {dst:Option Tmp} {v:AV} (h: ∀d,dst=some d→d∉o.looksAt all):bv all (aP t dst v) o=bv all t o:=by
 cases dst with
 | none=>rfl
 | some d=>
  unfold bv
  cases hg:o.guard with
  | none=>rfl
  | some gw=>
   obtain ⟨j,want⟩:=gw
   simp only []
   cases ht:(all[j]?).bind (·.dst) with
   | none=>rfl
   | some i=>
    have hne:d≠i:=fun e=>h d rfl (by subst e;simp [Oper.looksAt,hg,ht])
    simp only [Option.bind_some,aP]
    rw [i7,if_neg hne]
section
variable {E:ap} {call:bu} {ys:Ys} {st:Bool} {d gen gb:Nat} {all:Array Oper}
theorem qy {o:Oper} {ρ ρ':Operand→AV} (hρ: ∀x∈o.op.operands,ρ x=ρ' x) (h:aa) (g:Nat):bx E call ys st d gen o ρ h g=bx E call ys st d gen o ρ' h g:=by
 unfold bx
 split
 ·rename_i f args argTypes ho
  rw [ho] at hρ
  have h1:ρ f=ρ' f:=hρ f (by simp [Op.operands,Call.operands])
  have h2:args.toList.map ρ=args.toList.map ρ':=List.map_congr_left fun x hx=>hρ x (by simp [Op.operands,Call.operands];exact .inr (by simpa using hx))
  rw [h1,h2]
 ·rename_i r m args argTypes ho
  rw [ho] at hρ
  have h1:ρ r=ρ' r:=hρ r (by simp [Op.operands,Call.operands])
  have h2:args.toList.map ρ=args.toList.map ρ':=List.map_congr_left fun x hx=>hρ x (by simp [Op.operands,Call.operands];exact .inr (by simpa using hx))
  rw [h1,h2]
 ·rw [qm hρ]
theorem jm {i:Nat} {o:Oper} {t:List AV} {dst:Option Tmp} {v:AV} (h: ∀d,dst=some d→d∉o.looksAt all):cu E call ys st d gb all i o (aP t dst v)=cu E call ys st d gb all i o t:=by
 funext hh g
 unfold cu
 rw [mP h,qy (ρ':=aw t)]
 intro x hx
 exact mN fun d hd hxd=>h d hd (by
  subst hxd
  exact List.mem_append_left _ (List.mem_filterMap.2 ⟨.tmp d,by simpa using hx,rfl⟩))
def cR (E:ap) (call:bu):Prop:= ∀fid args,E.own fid=false→E.inl fid=false→E.rd fid=false→args.any (bc ao)=false→
 ∃r:List PV→Option PV,∀ys d slot gen h g,call ys fid args d slot gen h g=(bi ao args h).bind fun (ps,h1)=>(r ps).map fun p=>(.pv p,h1,g)
inductive jo (E:ap) (d:Nat) (o:Oper) (F:aa→Nat→Option (AV×aa×Nat)):Prop
 | pu (h:dW F)
 | fz (hc:aN E o= .fz∨aN E o= .rd) (h:jl F)
 | al (slot:Nat) (hc:aN E o= .al) (hd:o.dst=some slot) (h:ku d slot F)
 | eff (hc:aN E o= .eff)
theorem mQ {v:AV} :dW (fun h g=>some (v,h,g)):=fun h g v' h' g' e=>by
 simp only [Option.some.injEq,Prod.mk.injEq] at e
 obtain ⟨rfl,rfl,rfl⟩:=e
 exact ⟨rfl,rfl,fun _ _=>rfl⟩
theorem mR:dW (fun _ _=>none):=fun h g v' h' g' e=>by cases e
theorem kw {F:aa→Option (AV×aa)} (hF: ∀h v h',F h=some (v,h')→ ∃ks,(∀k∈ks,(ac h k.1 k.2).b≠ .dead)∧h'=marks ks h∧ ∀h2,bo h h2→F h2=some (v,marks ks h2)):
  jl (fun h g=>(F h).map fun (v,h)=>(v,h,g)):=fun h g v h' g' e=>by
 simp only [Option.map_eq_some_iff,Prod.mk.injEq] at e
 obtain ⟨⟨a,ha⟩,he,rfl,rfl,rfl⟩:=e
 obtain ⟨ks,k1,k2,k3⟩:=hF h a _ he
 exact ⟨ks,k1,k2,rfl,fun h2 g2 hr=>by simp [k3 h2 hr]⟩
theorem qz {F:aa→Option (AV×aa)} (hF: ∀h v h' h2,bo h h2→F h=some (v,h')→h'=h∧F h2=some (v,h2)):
  jl (fun h g=>(F h).map fun (v,h)=>(v,h,g)):=kw fun h v h' e=>
 ⟨[],by simp,(hF h v h' h (bo.refl h) e).1,fun h2 hr=>(hF h v h' h2 hr e).2⟩
theorem mS (hcall:cR E call) (o:Oper) (t:List AV):jo E d o (bx E call ys true d gen o (aw t)):=by
  by_cases hcl: ∃f args ats,o.op= .call { callee:= .value f,args:=args,argTypes:=ats}
  · obtain ⟨f,args,ats,ho⟩:=hcl
    cases hc:aN E o with
    | eff=>exact .eff hc
    | fz=>
      cases f with
      | func fid=>
        have hc':=hc
        simp only [aN,ho] at hc'
        split at hc'
        · cases hc'
        · rename_i hn
          simp only [Bool.or_eq_true,not_or,Bool.not_eq_true] at hn
          have hF: ∀h g,bx E call ys true d gen o (aw t) h g=if (args.toList.map (aw t)).any (bc ao) then none else call ys fid (args.toList.map (aw t)) d (o.dst.getD 0) gen h g:=by
            intro h g
            unfold bx
            split
            · rename_i f' args' ats' ho'
              rw [ho] at ho'
              injection ho' with ho'
              injection ho' with h1 h2 h3
              injection h1 with h1
              subst h1 h2
              simp [aw,cP,hc]
            · rename_i hinv
              rw [ho] at hinv
              cases hinv
            · rename_i hno _
              exact absurd ho (hno _ _ _)
          cases hm:(args.toList.map (aw t)).any (bc ao) with
          | true => exact .pu (by have:bx E call ys true d gen o (aw t)=fun _ _=>none:=by funext h g;rw [hF,hm];rfl
                                  rw [this];exact mR)
          | false=>
            obtain ⟨r,hr⟩:=hcall fid _ hn.1.1 hn.1.2.1 hn.1.2.2 hm
            refine .fz (.inl hc) ?_
            have:bx E call ys true d gen o (aw t)=fun h g=>(((bi ao (args.toList.map (aw t)) h).bind fun (ps,h1)=>(r ps).map fun p=>(AV.pv p,h1))).map fun (v,h)=>(v,h,g):=by
              funext h g
              rw [hF,hm,hr]
              cases hz:bi ao (args.toList.map (aw t)) h with
              | none=>rfl
              | some q=>obtain ⟨ps,h1⟩:=q;cases hrp:r ps<;>simp [hrp]
            rw [this]
            refine kw fun h v h' e=> ?_
            simp only [Option.bind_eq_some_iff,Option.map_eq_some_iff,Prod.mk.injEq] at e
            obtain ⟨⟨ps,h1⟩,e1,p,e2,rfl,rfl⟩:=e
            obtain ⟨ks,k1,k2,k3⟩:=qv e1
            exact ⟨ks,k1,k2,fun h2 hr=>by simp [k3 h2 hr,e2]⟩
      | _=>simp [aN,ho] at hc
    | _=>
      exfalso
      cases f<;>simp [aN,ho] at hc<;>(try split at hc)<;>cases hc
  by_cases hin: ∃r m args ats,o.op= .call { callee:= .invoke r m,args:=args,argTypes:=ats}
  · obtain ⟨r,m,args,ats,ho⟩:=hin
    exact .eff (by simp [aN,ho])
  · have hst: ∀h g,bx E call ys true d gen o (aw t) h g=if (aN E o== .al)&& !eT h d o.dst then none else (ai E.P o (aw t) d gen h).map fun (v,h)=>(v,h,g):=by
      intro h g
      unfold bx
      split
      · rename_i f args ats ho;exact absurd ⟨f,args,ats,ho⟩ hcl
      · rename_i r m args ats ho;exact absurd ⟨r,m,args,ats,ho⟩ hin
      · simp
    cases hc:aN E o with
    | eff=>exact .eff hc
    | pu=>
      refine .pu fun h g v h' g' e=> ?_
      rw [hst,hc] at e
      simp only [Bool.false_and,Bool.false_eq_true,if_false,Option.map_eq_some_iff,Prod.mk.injEq,show ((j4.pu==j4.al)=false) from rfl] at e
      obtain ⟨⟨a,ha⟩,he,rfl,rfl,rfl⟩:=e
      rw [mJ hc rfl] at he
      cases hx:((ai E.P o (aw t) d gen []).map (·.1)) with
      | none=>rw [hx] at he;cases he
      | some b=>
        rw [hx] at he
        simp only [Option.map_some,Option.some.injEq,Prod.mk.injEq] at he
        obtain ⟨rfl,rfl⟩:=he
        refine ⟨rfl,rfl,fun h2 g2=> ?_⟩
        rw [hst,hc,mJ hc rfl,hx]
        rfl
    | rd=>
      refine .fz (.inr hc) ?_
      have:bx E call ys true d gen o (aw t)=fun h g=>(ai E.P o (aw t) d gen h).map fun (v,h)=>(v,h,g):=by
        funext h g;rw [hst,hc];rfl
      rw [this]
      refine qz fun h v h' h2 hr e=> ?_
      cases ho:o.op<;>simp only [aN,ho] at hc<;>try (first | (exfalso;revert hc;decide) | skip)
      · exact qn ho hr e
      · split at hc<;>cases hc
      · exact qp ho hr e
      · exact qq ho hr e
      · exact qr ho hr e
      · rename_i c
        obtain ⟨callee,args,argTypes⟩:=c
        cases callee with
        | builtin b=>
          cases b<;>simp at hc
          exact qt ho hr e
        | value f=>exact absurd ⟨_,_,_,ho⟩ hcl
        | invoke r m=>simp at hc
    | fz=>
      refine .fz (.inl hc) ?_
      have:bx E call ys true d gen o (aw t)=fun h g=>(ai E.P o (aw t) d gen h).map fun (v,h)=>(v,h,g):=by
        funext h g;rw [hst,hc];rfl
      rw [this]
      refine kw fun h v h' e=> ?_
      cases ho:o.op<;>simp only [aN,ho] at hc<;>try (first | (exfalso;revert hc;decide) | skip)
      · split at hc<;>cases hc
      · exact qw ho e
      · rename_i c
        obtain ⟨callee,args,argTypes⟩:=c
        exfalso
        cases callee with
        | builtin b=>cases b<;>simp at hc;split at hc<;>cases hc
        | value f=>exact hcl ⟨_,_,_,ho⟩
        | invoke r m=>simp at hc
    | al=>
      cases hd:o.dst with
      | none=>
        refine .pu ?_
        have:bx E call ys true d gen o (aw t)=fun _ _=>none:=by
          funext h g;rw [hst,hc,hd];simp [eT]
        rw [this];exact mR
      | some slot=>
        refine .al slot hc hd fun h g v h' g' e=> ?_
        have hdead: ∀h,eT h d (some slot)=true↔(ac h d slot).b= .dead:=by
          intro h
          unfold eT
          simp only []
          split<;>simp_all
        rw [hst,hc,hd] at e
        by_cases hk:eT h d (some slot)=true
        · simp only [hk,Bool.not_true,Bool.and_false,Bool.false_eq_true,if_false,Option.map_eq_some_iff,Prod.mk.injEq] at e
          obtain ⟨⟨a,ha⟩,he,rfl,rfl,rfl⟩:=e
          obtain ⟨s,r,hs,h1,h2⟩:=qx hc he
          rw [hd] at hs
          injection hs with hs
          subst hs
          refine ⟨r,(hdead h).1 hk,h1,rfl,fun h3 g3 hk3=> ?_⟩
          rw [hst,hc,hd,(hdead h3).2 hk3,h2]
          rfl
        · simp [hk] at e
theorem mT (hcall:cR E call) (i:Nat) (o:Oper) (t:List AV):jo E d o (cu E call ys true d gb all i o t):=by
 unfold cu
 cases bv all t o with
 | true=>exact mS hcall o t
 | false=>exact .pu mQ
theorem qA {x y:Oper} {ops:Array Oper} {Fx Fy:aa→Nat→Option (AV×aa×Nat)} (hx:jo E d x Fx) (hy:jo E d y Fy) (hok:bX E ops x y=true)
  {h hx' hy':aa} {g gx gy:Nat} {vx vy:AV} (ex:Fx h g=some (vx,hx',gx)) (ey:Fy hx' gx=some (vy,hy',gy)):
  ∃h' g',Fy h g=some (vy,h',g')∧Fx h' g'=some (vx,hy',gy):=by
 have hap:x.apart ops y=true:=by
  unfold bX at hok
  simp only [Bool.and_eq_true] at hok
  exact hok.1
 have pu_x:dW Fx→ ∃h' g',Fy h g=some (vy,h',g')∧Fx h' g'=some (vx,hy',gy):=fun hp=>by
  obtain ⟨rfl,rfl,k⟩:=hp _ _ _ _ _ ex
  exact ⟨_,_,ey,k _ _⟩
 have pu_y:dW Fy→ ∃h' g',Fy h g=some (vy,h',g')∧Fx h' g'=some (vx,hy',gy):=fun hp=>by
  obtain ⟨rfl,rfl,k⟩:=hp _ _ _ _ _ ey
  exact ⟨_,_,k _ _,ex⟩
 cases hx with
 | pu hp=>exact pu_x hp
 | eff hc=>
  cases hy with
  | pu hp=>exact pu_y hp
  | fz hc' h'=>rcases hc' with hc' | hc'<;>simp [bX,hc,hc'] at hok
  | al slot hc' _ _=>simp [bX,hc,hc'] at hok
  | eff hc'=>simp [bX,hc,hc'] at hok
 | fz hc hfx=>
  obtain ⟨kx,x1,rfl,rfl,x3⟩:=hfx _ _ _ _ _ ex
  cases hy with
  | pu hp=>exact pu_y hp
  | eff hc'=>rcases hc with hc | hc<;>simp [bX,hc,hc'] at hok
  | fz hc' hfy=>
   obtain ⟨ky,y1,rfl,rfl,y3⟩:=hfy _ _ _ _ _ ey
   refine ⟨_,_,y3 _ _ (bo.marks_l kx h),?_⟩
   rw [x3 _ _ (bo.marks_r ky h),mF]
  | al slot hc' hd hfy=>
   obtain ⟨r,y1,rfl,rfl,y3⟩:=hfy _ _ _ _ _ ey
   rw [mC] at y1
   refine ⟨_,_,y3 _ _ y1,?_⟩
   rw [x3 _ _ (bo.hput y1),mG]
   rintro k hk ⟨rfl,rfl⟩
   exact x1 k hk y1
 | al slot hc hd hfx=>
  obtain ⟨r,x1,rfl,rfl,x3⟩:=hfx _ _ _ _ _ ex
  cases hy with
  | pu hp=>exact pu_y hp
  | eff hc'=>simp [bX,hc,hc'] at hok
  | fz hc' hfy=>rcases hc' with hc' | hc'<;>simp [bX,hc,hc'] at hok
  | al slot' hc' hd' hfy=>
   obtain ⟨r',y1,rfl,rfl,y3⟩:=hfy _ _ _ _ _ ey
   have hne:slot≠slot':=by
    intro e
    subst e
    exact (Oper.apart_spec hap).2.1 _ hd hd'
   rw [bY,if_neg (by simp [hne])] at y1
   refine ⟨_,_,y3 _ _ y1,?_⟩
   rw [x3 _ _ (by rw [bY,if_neg (fun q=>hne q.2.symm)];exact x1),jh _ _ _ (fun q=>hne q.2.symm)]
theorem mU (hcall:cR E call) {i j:Nat} {x y:Oper} {s s1 s2:St} (hok:bX E all x y=true) (ex:bw E call ys true d gb all j x s=some s1) (ey:bw E call ys true d gb all i y s1=some s2):
  ∃s1',bw E call ys true d gb all i y s=some s1'∧bw E call ys true d gb all j x s1'=some s2:=by
 have hap:x.apart all y=true:=by
  have:=hok
  unfold bX at this
  simp only [Bool.and_eq_true] at this
  exact this.1
 obtain ⟨a1,a2,a3⟩:=Oper.apart_spec hap
 unfold bw at ex ey
 simp only [Option.map_eq_some_iff] at ex
 obtain ⟨⟨vx,hx',gx⟩,ex,rfl⟩:=ex
 simp only [] at ey
 rw [jm a1] at ey
 simp only [Option.map_eq_some_iff] at ey
 obtain ⟨⟨vy,hy',gy⟩,ey,rfl⟩:=ey
 obtain ⟨h',g',e1,e2⟩:=qA (mT hcall j x s.t) (mT hcall i y s.t) hok ex ey
 refine ⟨{ t:=aP s.t y.dst vy,h:=h',g:=g'},by simp [bw,e1],?_⟩
 unfold bw
 simp only []
 rw [jm a3,e2]
 simp only [Option.map_some,mO s.t vx vy a2]
def cE (E:ap) (call:bu) (ys:Ys) (st:Bool) (d gb:Nat) (all:Array Oper) (i:Nat) (s:St):Option St:=match all[i]? with
 | some o=>bw E call ys st d gb all i o s
 | none=>some s
def dz (E:ap) (call:bu) (ys:Ys) (st:Bool) (d gb:Nat) (all:Array Oper):List Nat→St→Option St
 | [],s=>some s
 | i::l,s=>(cE E call ys st d gb all i s).bind (dz E call ys st d gb all l)
theorem kz: ∀(os:List Oper) (i:Nat) (s:St),(∀j,all[i+j]? =os[j]?)→ec E call ys st d gb all os i s=dz E call ys st d gb all (List.range' i os.length) s
 | [],_,_,_=>rfl
 | o::os,i,s,h=>by
  have h0:all[i]? =some o:=by simpa using h 0
  simp only [ec,List.length_cons,List.range'_succ,dz,cE,h0]
  congr 1
  funext s
  exact kz os (i+1) s fun j=>by have:=h (j+1);rw [show i+(j+1)=i+1+j by omega] at this;simpa using this
theorem qB (s:St):ec E call ys st d gb all all.toList 0 s=dz E call ys st d gb all (List.range all.size) s:=by
 rw [kz _ 0 s (fun j=>by simp),List.range_eq_range',Array.length_toList]
def jp (E:ap) (all:Array Oper) (j i:Nat):Prop:= ∃x y,all[j]? =some x∧all[i]? =some y∧bX E all x y=true
end
variable {σ σ':aq} {I I':ah} {base:ah} {w w':World} {h:aa} {P:Program}
def aJ (σ:aq) (I:ah) (base:ah) (w:World) (gen:Nat) (run:Result Next) (v:AV) (h':aa):Prop:=
 ∃nx w' u σ' I',run= .ok nx w'∧(nx= .value u∨(nx= .skip∧u=undef))∧ab σ' I' w' v u∧af σ' I' base w' h'∧aB base σ I w σ' I' w'∧ ∀g,g≠gen→σ' g=σ g
theorem bU.ext (m:bU I I' base):aB base σ I w σ I' w:=⟨fun _ _ h=>h,m.1,m.2,aO.refl _ _,bT.refl _ _⟩
theorem aJ.same {gen:Nat} {run:Result Next} {v:AV} (u:Value) (H:af σ I base w h) (hrun:run= .ok (.value u) w) (hr:ab σ I w v u):aJ σ I base w gen run v h:=
 ⟨_,w,u,σ,I,hrun,.inl rfl,hr,H,aB.refl _ _ _ _,fun _ _=>rfl⟩
theorem aJ.frz {gen:Nat} {run:Result Next} {v:AV} {h':aa} (u:Value) (m:bU I I' base) (H:af σ I' base w h') (hrun:run= .ok (.value u) w) (hr:ab σ I' w v u):aJ σ I base w gen run v h':=
 ⟨_,w,u,σ,I',hrun,.inl rfl,hr,H,m.ext,fun _ _=>rfl⟩
theorem ay {s:Sem Value} {u:Value} {w w':World} (hs:s.run P w= .ok u w'):(do let x ←s;pure (Next.value x):Sem Next).run P w= .ok (.value u) w':=by
 simp [hs]
theorem kA {s:Sem Unit} {w w':World} (hs:s.run P w= .ok () w'):(do s;pure Next.skip:Sem Next).run P w= .ok .skip w':=by
 simp [hs]
theorem e9 {t:TypeId} {i:TypeInfo} (hi:P.info? t=some i):(typeInfo t).run P w= .ok i w:=by simp [typeInfo,hi]
theorem cn {t:TypeId} {n:Nat} (hi:aF P t=some n):(sizeOf t).run P w= .ok n w:=by
 unfold aF at hi
 simp only [Option.map_eq_some_iff] at hi
 obtain ⟨i,hi,rfl⟩:=hi
 simp [sizeOf,e9 hi]
theorem qC {t:TypeId} {n:Nat} (hi:cY P t=some n): ∃i,P.info? t=some i∧i.bytes=n:=by
 unfold cY at hi
 simpa only [Option.map_eq_some_iff] using hi
theorem ei {t:TypeId} {z:Value} (hi:bA P t=some z):(zeroValue t).run P w= .ok z w:=by
 unfold bA at hi
 simp only [Option.bind_eq_some_iff] at hi
 obtain ⟨i,hi,hz⟩:=hi
 simp [zeroValue,e9 hi,hz]
theorem aC {t:TypeId} {d:TypeDesc} (hd:P.underlying t=some d):(underlying t).run P w= .ok d w:=by simp [underlying,hd]
theorem fR {t:TypeId} {ag:Bool} (ha:b8 P t=some ag):(isAgg t).run P w= .ok ag w:=by
 unfold b8 at ha
 split at ha
 ·rename_i fs hd;injection ha with ha;subst ha;simp [isAgg,aC hd]
 ·rename_i n e hd;injection ha with ha;subst ha;simp [isAgg,aC hd]
 ·rename_i d hd1 hd2 hd3
  injection ha with ha
  subst ha
  simp only [isAgg,Sem.run_bind,aC hd3,Result.andThen_ok]
  rfl
 ·cases ha
theorem mV {cs:List AV} {vs:List Value} (hl:vs.length=cs.length) (h1: ∀v∈vs,v.oneCell'=true)
  (hr: ∀(j:Nat) (p:AV) (v:Value),cs[j]? =some p→vs[j]? =some v→ab σ I w p v):ab σ I w (cA cs) (.agg vs.toArray):=by
 have key: ∀(cs:List AV) (ps:List PV),aQ cs=some ps→cs=ps.map .pv:=by
  intro cs
  induction cs with
  | nil=>intro ps hp;simp [aQ] at hp;subst hp;rfl
  | cons c cs ih=>
   intro ps hp
   cases c<;>simp only [aQ,Option.map_eq_some_iff] at hp
   ·obtain ⟨qs,hq,rfl⟩:=hp
    rw [ih qs hq];rfl
   all_goals cases hp
 unfold cA
 cases ha:aQ cs with
 | none=>exact .agg cs vs hl h1 hr
 | some ps=>
  have hcs:=key cs ps ha
  subst hcs
  refine .pv _ _ (.agg ps vs (by simpa using hl) h1 fun j p v hp hv=> ?_)
  have:=hr j (.pv p) v (by simp [hp]) hv
  cases this with
  | pv _ _ h=>exact h
theorem dX {cs:List AV} {ps:List PV} (hp:aQ cs=some ps):cs=ps.map .pv:=by
 induction cs generalizing ps with
 | nil=>simp [aQ] at hp;subst hp;rfl
 | cons c cs ih=>
  cases c<;>simp only [aQ,Option.map_eq_some_iff] at hp
  ·obtain ⟨qs,hq,rfl⟩:=hp
   rw [ih hq];rfl
  all_goals cases hp
theorem dY {α:Type} {l:List α} {off m j:Nat} {x:α} (hx:((l.drop off).take m)[j]? =some x):j<m∧l[off+j]? =some x:=by
 rw [List.getElem?_take] at hx
 split at hx
 ·rename_i hj;rw [List.getElem?_drop] at hx;exact ⟨hj,hx⟩
 ·cases hx
theorem mW {ag:Bool} {m off:Nat} {p p':PV} {us:List Value} (hs:cO ag m off p=some p') (hl:us.length=p.cells.length) (h1: ∀x∈us,x.oneCell'=true)
  (hr: ∀(j:Nat) (c:PV) (x:Value),p.cells[j]? =some c→us[j]? =some x→am I w c x):
  (ag=true→off+m≤us.length∧am I w p' (.agg ((us.drop off).take m).toArray))∧(ag=false→ ∃x,us[off]? =some x∧am I w p' x):=by
 cases ag with
 | true=>
  refine ⟨fun _=> ?_,fun hh=>by cases hh⟩
  simp only [cO,if_true] at hs
  split at hs
  ·injection hs with hs
   subst hs
   refine ⟨by omega,.agg _ _ (by simp [hl]) (fun x hx=>h1 x (List.mem_of_mem_drop (List.mem_of_mem_take hx))) fun j c x hc hx=> ?_⟩
   exact hr (off+j) c x (dY hc).2 (dY hx).2
  ·cases hs
 | false=>
  refine ⟨fun hh=>(by cases hh),fun _=> ?_⟩
  simp only [cO,Bool.false_eq_true,if_false] at hs
  have hj:=(List.getElem?_eq_some_iff.1 hs).1
  exact ⟨us[off],List.getElem?_eq_getElem (by omega),hr off p' _ hs (List.getElem?_eq_getElem (by omega))⟩
theorem kB {ag:Bool} {m off:Nat} {v v':AV} {us:List Value} (hs:di ag m off v=some v') (hl:us.length=v.cells.length) (h1: ∀x∈us,x.oneCell'=true)
  (hr: ∀(j:Nat) (c:AV) (x:Value),v.cells[j]? =some c→us[j]? =some x→ab σ I w c x):
  (ag=true→off+m≤us.length∧ab σ I w v' (.agg ((us.drop off).take m).toArray))∧(ag=false→ ∃x,us[off]? =some x∧ab σ I w v' x):=by
 have other:(if ag then (if off+m≤v.cells.length then some (cA ((v.cells.drop off).take m)) else none) else v.cells[off]?)=some v'→
   (ag=true→off+m≤us.length∧ab σ I w v' (.agg ((us.drop off).take m).toArray))∧(ag=false→ ∃x,us[off]? =some x∧ab σ I w v' x):=by
  intro hs
  cases ag with
  | true=>
   refine ⟨fun _=> ?_,fun hh=>by cases hh⟩
   simp only [if_true] at hs
   split at hs
   ·injection hs with hs
    subst hs
    refine ⟨by omega,mV (by simp [hl]) (fun x hx=>h1 x (List.mem_of_mem_drop (List.mem_of_mem_take hx))) fun j c x hc hx=> ?_⟩
    exact hr (off+j) c x (dY hc).2 (dY hx).2
   ·cases hs
  | false=>
   refine ⟨fun hh=>(by cases hh),fun _=> ?_⟩
   simp only [Bool.false_eq_true,if_false] at hs
   have hj:=(List.getElem?_eq_some_iff.1 hs).1
   exact ⟨us[off],List.getElem?_eq_getElem (by omega),hr off v' _ hs (List.getElem?_eq_getElem (by omega))⟩
 cases v with
 | pv p=>
  simp only [di,Option.map_eq_some_iff] at hs
  obtain ⟨p',hp',rfl⟩:=hs
  have:=mW (I:=I) (w:=w) hp' (us:=us) (by simpa [AV.cells] using hl) h1 fun j c x hc hx=>by
   have:=hr j (.pv c) x (by simp [AV.cells,hc]) hx
   cases this with
   | pv _ _ h=>exact h
  exact ⟨fun ha=>⟨(this.1 ha).1,.pv _ _ (this.1 ha).2⟩,fun ha=>by obtain ⟨x,h1,h2⟩:=this.2 ha;exact ⟨x,h1,.pv _ _ h2⟩⟩
 | mptr=>exact other hs
 | msl=>exact other hs
 | agg=>exact other hs
 | tup=>exact other hs
 | clo=>exact other hs
 | yld=>exact other hs
 | ifc=>exact other hs
 | btag=>exact other hs
 | mref=>exact other hs
theorem kC {t:TypeId} {m:Nat} {ag:Bool} {b o:Nat} {us:List Value} (hm:aF P t=some m) (ha:b8 P t=some ag) (off:Nat)
  (hc: ∀(j:Nat) (x:Value),us[j]? =some x→w.cell? ⟨b,o+j,none⟩=some x):
  (ag=true→off+m≤us.length→(loadVar t ⟨b,o+off,none⟩).run P w= .ok (.agg ((us.drop off).take m).toArray) w)∧
  (ag=false→ ∀x,us[off]? =some x→(loadVar t ⟨b,o+off,none⟩).run P w= .ok x w):=by
 refine ⟨?_,?_⟩
 ·rintro rfl hle
  have hlen:((us.drop off).take m).length=m:=by simp;omega
  have:=run_loadCells_list (P:=P) w ⟨b,o+off,none⟩ ((us.drop off).take m) fun j x hx=>by
   rw [c6,Nat.add_assoc]
   exact hc (off+j) x (dY hx).2
  rw [hlen] at this
  simp [loadVar,fR ha,cn hm,this]
 ·rintro rfl x hx
  simp [loadVar,fR ha,hc off x hx]
section
variable {ρ:Operand→AV} {ρc:Operand→Value} {d gen:Nat} {o:Oper}
theorem cp {d s g i off:Nat} {u:Value} (hr:ab σ I w (.mptr d s g i off) u): ∃b o k,σ g=some (b,o,k)∧u= .pointer (some ⟨b,o+i*k+off,none⟩):=by
 cases hr with
 | mptr _ _ _ _ _ b o k h=>exact ⟨b,o,k,h,rfl⟩
theorem aG {p:PV} {u:Value} (hr:ab σ I w (.pv p) u):am I w p u:=by
 cases hr with
 | pv _ _ h=>exact h
theorem bl {v u:Value} (hr:am I w (.lit v) u):u=v:=by
 cases hr;rfl
theorem jq {root:PV} {off:Nat} {u:Value} (hr:am I w (.ptr root off) u): ∃(b o:Nat) (vs:Nat→Value),u= .pointer (some ⟨b,o+off,none⟩)∧I b∧
  (∀(j:Nat) (p:PV),root.cells[j]? =some p→w.cell? ⟨b,o+j,none⟩=some (vs j)∧(vs j).oneCell'=true∧am I w p (vs j)):=by
 cases hr with
 | ptr _ _ b o vs hI hc hr=>exact ⟨b,o,vs,rfl,hI,fun j p hp=>⟨(hc j p hp).1,(hc j p hp).2,hr j p hp⟩⟩
theorem qD {cs:List PV} {b o:Nat} (hv: ∀(j:Nat) (p:PV),cs[j]? =some p→ ∃u,w.cell? ⟨b,o+j,none⟩=some u∧u.oneCell'=true∧am I w p u):
  ∃us:List Value,us.length=cs.length∧(∀x∈us,x.oneCell'=true)∧(∀(j:Nat) (x:Value),us[j]? =some x→w.cell? ⟨b,o+j,none⟩=some x)∧
   ∀(j:Nat) (c:PV) (x:Value),cs[j]? =some c→us[j]? =some x→am I w c x:=by
 obtain ⟨us,hl,hu⟩:=jd (P:=fun j u=>w.cell? ⟨b,o+j,none⟩=some u∧u.oneCell'=true∧ ∀c,cs[j]? =some c→am I w c u) cs.length fun j hj=>by
  obtain ⟨u,h1,h2,h3⟩:=hv j cs[j] (List.getElem?_eq_getElem hj)
  exact ⟨u,h1,h2,fun c hc=>by rw [List.getElem?_eq_getElem hj] at hc;injection hc with hc;subst hc;exact h3⟩
 refine ⟨us,hl,fun x hx=> ?_,fun j x hx=>(hu j x hx).1,fun j c x hc hx=>(hu j x hx).2.2 c hc⟩
 obtain ⟨j,hj,rfl⟩:=List.mem_iff_getElem.1 hx
 exact (hu j _ (List.getElem?_eq_getElem hj)).2.1
theorem mX {t:TypeId} {m off b o:Nat} {ag:Bool} {root p':PV} (hm:aF P t=some m) (ha:b8 P t=some ag) (hs:cO ag m off root=some p')
  (hv: ∀(j:Nat) (p:PV),root.cells[j]? =some p→ ∃u,w.cell? ⟨b,o+j,none⟩=some u∧u.oneCell'=true∧am I w p u):
  ∃u,(loadVar t ⟨b,o+off,none⟩).run P w= .ok u w∧am I w p' u:=by
 obtain ⟨us,hl,h1,hc,hr⟩:=qD hv
 have hsub:=mW (I:=I) (w:=w) hs hl h1 hr
 have hload:=kC (P:=P) hm ha off hc
 cases ag with
 | true=>exact ⟨_,hload.1 rfl (hsub.1 rfl).1,(hsub.1 rfl).2⟩
 | false=>
  obtain ⟨x,hx,hp⟩:=hsub.2 rfl
  exact ⟨x,hload.2 rfl x hx,hp⟩
theorem qE {t:TypeId} {a:Operand} {v:AV} {h':aa} (ho:o.op= .load t a) (hop:ai P o ρ d gen h=some (v,h')) (hρ: ∀x,ab σ I w (ρ x) (ρc x)) (H:af σ I base w h):
  aJ σ I base w gen ((execOp ρc o).run P w) v h':=by
 simp only [ai,ho,Option.bind_eq_bind,Option.bind_eq_some_iff] at hop
 obtain ⟨m,hm,ag,hag,hop⟩:=hop
 have hra:=hρ a
 have fin: ∀ {u:Value} {ad:Addr},ρc a= .pointer (some ad)→(loadVar t ad).run P w= .ok u w→(execOp ρc o).run P w= .ok (.value u) w:=by
  intro u ad hp hl
  simp only [execOp,ho]
  exact ay (by simp [Instr.loadAt,Instr.sureAddr,hp,hl])
 split at hop
 ·rename_i d1 s g i off he
  rw [he] at hra
  obtain ⟨b,ob,k,hs,hu⟩:=cp hra
  split at hop
  ·rename_i v0 fz hl
   split at hop
   ·rename_i hi
    subst hi
    simp only [Option.map_eq_some_iff,Prod.mk.injEq] at hop
    obtain ⟨v',hv',rfl,rfl⟩:=hop
    obtain ⟨b0,k0,e0,u0,hs0,hsh,hok,hru,hz,hf,h1c,hsz,hcell⟩:=dU (H.live hl (by simp))
    rw [hs] at hs0
    simp only [Option.some.injEq,Prod.mk.injEq] at hs0
    obtain ⟨rfl,rfl,rfl⟩:=hs0
    have hsub:=kB (σ:=σ) (I:=I) (w:=w) hv' (us:=u0.cells.toList) (by simpa using hsz) h1c fun j c x hc hx=>(hru.cells hok).2.2 j c x hc (by simpa using hx)
    have hload:=kC (P:=P) (w:=w) (b:=b) (o:=0) (us:=u0.cells.toList) hm hag off fun j x hx=>by simpa using hcell j x (by simpa using hx)
    simp only [Nat.zero_mul,Nat.add_zero,Nat.zero_add] at hu hload
    cases ag with
    | true=>exact .same _ H (fin hu (hload.1 rfl (hsub.1 rfl).1)) (hsub.1 rfl).2
    | false=>
     obtain ⟨x,hx,hp⟩:=hsub.2 rfl
     exact .same _ H (fin hu (hload.2 rfl x hx)) hp
   ·cases hop
  ·rename_i k0 e0 xs fz hl
   simp only [Option.bind_eq_some_iff,Option.map_eq_some_iff,Prod.mk.injEq] at hop
   obtain ⟨x,hx,p',hp',rfl,rfl⟩:=hop
   obtain ⟨b',o',n',hs',_,_,_,_,_,_,hc,_⟩:=dV (H.live hl (by simp))
   rw [hs] at hs'
   simp only [Option.some.injEq,Prod.mk.injEq] at hs'
   obtain ⟨rfl,rfl,rfl⟩:=hs'
   obtain ⟨u,hrun,hpr⟩:=mX (P:=P) hm hag hp' (fun j p hp=>hc i x hx j p hp)
   exact .same _ H (fin hu hrun) (.pv _ _ hpr)
  ·cases hop
 ·rename_i root off he
  rw [he] at hra
  simp only [Option.map_eq_some_iff,Prod.mk.injEq] at hop
  obtain ⟨p',hp',rfl,rfl⟩:=hop
  obtain ⟨b,ob,vs,hu,_,hv⟩:=jq (aG hra)
  obtain ⟨u,hrun,hpr⟩:=mX (P:=P) hm hag hp' (fun j p hp=>⟨vs j,hv j p hp⟩)
  exact .same _ H (fin hu hrun) (.pv _ _ hpr)
 ·cases hop
end
variable {σ σ':aq} {I I':ah} {base:ah} {w w':World} {h:aa} {P:Program}
theorem gU {α:Type} {s:Sem α} {a:α} (hs:cr P s=some a):s.run P w= .ok a w:=by
 induction s with
 | pure b=>simp only [cr,Option.some.injEq] at hs;subst hs;rfl
 | program k ih=>simp only [cr] at hs;simpa [Sem.run] using ih P hs
 | mark m k ih=>simp only [cr] at hs;simpa [Sem.run] using ih hs
 | _=>simp [cr] at hs
theorem mY {p:PV} {v u:Value} (hr:am I w p u) (ht:d6 p=some v):u=v:=by
 cases hr with
 | lit=>simp only [d6,Option.some.injEq] at ht;exact ht
 | nil=>simp only [d6,Option.some.injEq] at ht;exact ht
 | iface t p v h=>
  cases p<;>simp only [d6] at ht<;>try cases ht
  cases h;rfl
 | _=>simp [d6] at ht
theorem kD: ∀ {ps:List PV} {vs us:List Value},d7 ps=some vs→us.length=ps.length→(∀(j:Nat) (p:PV) (u:Value),ps[j]? =some p→us[j]? =some u→am I w p u)→us=vs
 | [],vs,us,ht,hl,_=>by
  simp only [d7,Option.some.injEq] at ht
  subst ht
  exact List.eq_nil_of_length_eq_zero hl
 | p::ps,vs,us,ht,hl,hr=>by
  match us,hl with
  | u::us,hl=>
   simp only [d7,Option.bind_eq_some_iff,Option.map_eq_some_iff] at ht
   obtain ⟨v,hv,vs',hvs,rfl⟩:=ht
   have e1:=mY (hr 0 p u rfl rfl) hv
   have e2:us=vs':=kD hvs (by simpa using hl) fun j p' u' hp hu=>hr (j+1) p' u' (by simpa using hp) (by simpa using hu)
   rw [e1,e2]
theorem qF {p:PV} {v u:Value} (ht:iC p=some v) (hr:am I w p u):u=v:=by
 cases p with
 | agg cs=>
  cases hr with
  | agg _ vs hl h1 hr=>
   simp only [iC,Option.map_eq_some_iff] at ht
   obtain ⟨l,hl',rfl⟩:=ht
   rw [kD hl' hl hr]
 | _=>exact mY hr ht
theorem jt {p:AV} {v u:Value} (ht:fD p=some v) (hr:ab σ I w p u):u=v:=by
 cases hr with
 | pv p v h=>exact qF ht h
 | _=>cases ht
theorem mZ {l:List AV} {ps:List PV} {vs us:List Value} (hp:aQ l=some ps) (ht:d7 ps=some vs) (hl:us.length=l.length)
  (hr: ∀(j:Nat) (p:AV) (u:Value),l[j]? =some p→us[j]? =some u→ab σ I w p u):us=vs:=by
 have:=dX hp
 subst this
 exact kD (I:=I) (w:=w) ht (by simpa using hl) fun j p u hp' hu=>aG (hr j (.pv p) u (by simp [hp']) hu)
section
variable {ρ:Operand→AV} {ρc:Operand→Value} {d gen:Nat} {o:Oper} {v:AV} {h':aa}
theorem m5 {x:Operand} (ho:o.op= .move x∨o.op= .assign x) (hop:ai P o ρ d gen h=some (v,h')) (hρ: ∀x,ab σ I w (ρ x) (ρc x)) (H:af σ I base w h):
  aJ σ I base w gen ((execOp ρc o).run P w) v h':=by
 have:v=ρ x∧h'=h:=by rcases ho with ho | ho<;>simp only [ai,ho,Option.some.injEq,Prod.mk.injEq] at hop<;>exact ⟨hop.1.symm,hop.2.symm⟩
 obtain ⟨rfl,rfl⟩:=this
 exact .same (ρc x) H (by rcases ho with ho | ho<;>simp [execOp,ho]) (hρ x)
theorem qG {c a b:Operand} (ho:o.op= .pick c a b) (hop:ai P o ρ d gen h=some (v,h')) (hρ: ∀x,ab σ I w (ρ x) (ρc x)) (H:af σ I base w h):
  aJ σ I base w gen ((execOp ρc o).run P w) v h':=by
 have hrc:=hρ c
 simp only [ai,ho] at hop
 split at hop
 ·rename_i t he
  rw [he] at hrc
  have hc:=bl (aG hrc)
  simp only [Option.some.injEq,Prod.mk.injEq] at hop
  obtain ⟨rfl,rfl⟩:=hop
  exact .same (if t then ρc a else ρc b) H (by simp [execOp,ho,hc,asBool]) (by cases t<;>simp [hρ])
 ·cases hop
theorem qH {x:Operand} (ho:o.op= .nilCheck x) (hop:ai P o ρ d gen h=some (v,h')) (hρ: ∀x,ab σ I w (ρ x) (ρc x)) (H:af σ I base w h):
  aJ σ I base w gen ((execOp ρc o).run P w) v h':=by
 have hr:=hρ x
 have hv:ρ x=v∧h=h'∧(execOp ρc o).run P w= .ok (.value (ρc x)) w:=by
  simp only [ai,ho] at hop
  split at hop
  ·rename_i d s g i off he
   rw [he] at hr
   obtain ⟨b,ob,k,_,hu⟩:=cp hr
   simp only [Option.some.injEq,Prod.mk.injEq] at hop
   exact ⟨he.trans hop.1,hop.2,by simp [execOp,ho,hu]⟩
  ·rename_i r off he
   rw [he] at hr
   obtain ⟨b,ob,vs,hu,_⟩:=jq (aG hr)
   simp only [Option.some.injEq,Prod.mk.injEq] at hop
   exact ⟨he.trans hop.1,hop.2,by simp [execOp,ho,hu]⟩
  ·rename_i f a b he
   rw [he] at hr
   simp only [Option.some.injEq,Prod.mk.injEq] at hop
   refine ⟨he.trans hop.1,hop.2,?_⟩
   generalize hu:ρc x=u at hr
   cases hr with
   | pv _ _ hr=>cases hr with
    | clo _ _ _ va vb=>simp [execOp,ho,hu]
  ·rename_i f a b he
   rw [he] at hr
   simp only [Option.some.injEq,Prod.mk.injEq] at hop
   refine ⟨he.trans hop.1,hop.2,?_⟩
   generalize hu:ρc x=u at hr
   cases hr with
   | clo _ _ _ va vb=>simp [execOp,ho,hu]
  ·rename_i t p he
   rw [he] at hr
   simp only [Option.some.injEq,Prod.mk.injEq] at hop
   refine ⟨he.trans hop.1,hop.2,?_⟩
   generalize hu:ρc x=u at hr
   cases hr with
   | pv _ _ hr=>cases hr with
    | iface=>simp [execOp,ho,hu]
  ·cases hop
 obtain ⟨rfl,rfl,hrun⟩:=hv
 exact .same (ρc x) H hrun hr
theorem m6 {e:TypeId} {x:AV} {u:Value} {s:Nat} (H:af σ I base w h) (hr:ab σ I w x u) (hbo:cq e x=true) (hg:σ gen=none) (hB:aW base w.heap.size) {run:Result Next}
  (hrun:run= .ok (.value (.pointer (some ⟨w.heap.size,0,none⟩))) (w.alloc (.cells u.cells e))):
  aJ σ I base w gen run (.mptr d s gen 0 0) (hput h d s ⟨gen,.box x false⟩):=by
 have hG:aZ w (w.alloc (.cells u.cells e)) (.cells u.cells e):=⟨rfl,rfl,rfl,rfl⟩
 have hE:=aB.push (x:=(w.heap.size,0,1)) H hB hg hG
 obtain ⟨h1,h2,h3⟩:=hr.cells (ja hbo)
 refine ⟨_,_,_,_,I,hrun,.inl rfl,?_,H.push hg hG d s ?_,hE,fun g hne=>cx hne⟩
 ·have:=ab.mptr (σ:=bf σ gen (w.heap.size,0,1)) (I:=I) (w:=w.alloc (.cells u.cells e)) d s gen 0 0 w.heap.size 0 1 bj
  simpa using this
 ·refine ⟨w.heap.size,e,bj,by rw [hG.shape,h1],hbo,fun j p hp=> ?_,⟨fun hb=> ?_,hB.up,fun j hj=>hG.frozen j⟩⟩
  ·have hj:=(List.getElem?_eq_some_iff.1 hp).1
   refine ⟨u.cells[j],?_,h2 _ (by simp),hE.rep (h3 j p _ hp (Array.getElem?_eq_getElem (by omega)))⟩
   rw [hG.cell];exact Array.getElem?_eq_getElem (by omega)
  ·exact absurd (H.lt _ hb) (by omega)
theorem m7 (v:Value):am I w (gt v) v:=by
 unfold gt
 split
 ·split
  ·rename_i hh;rw [hh.1,hh.2];exact .nil 0 true
  ·exact .lit _
 ·rename_i f a b
  split
  ·rename_i hh
   have ha:a= #[]:=Array.eq_empty_of_size_eq_zero hh.1
   have hb:b= #[]:=Array.eq_empty_of_size_eq_zero hh.2
   rw [ha,hb]
   exact .clo _ [] [] [] [] rfl rfl (fun j p v hp=>by simp at hp) (fun j p v hp=>by simp at hp)
  ·exact .lit _
 ·exact .lit _
theorem ej (v:Value):am I w (aA v) v:=by
 unfold aA
 split
 ·rename_i cs
  split
  ·rename_i hall
   have:=am.agg (I:=I) (w:=w) (cs.toList.map gt) cs.toList (by simp) (fun v hv=>List.all_eq_true.1 hall v hv) fun j p v hp hv=>by
    simp only [List.getElem?_map,Option.map_eq_some_iff] at hp
    obtain ⟨v',hv',rfl⟩:=hp
    rw [hv] at hv'
    injection hv' with hv'
    subst hv'
    exact m7 v
   simpa using this
  ·exact .lit _
 ·exact m7 _
theorem gV {t:List AV} {a:Act} (hT: ∀i,ab σ I w (bz t i) (a.tmps.getD i undef)) (x:Operand):ab σ I w (aw t x) (a.eval x):=by
 cases x with
 | tmp i=>exact hT i
 | const v=>exact .pv _ _ (ej v)
 | global g=>exact .pv _ _ (.lit _)
 | func f=>exact .pv _ _ (.clo _ [] [] [] [] rfl rfl (fun j p v hp=>by simp at hp) (fun j p v hp=>by simp at hp))
theorem qI {e:TypeId} (ho:o.op= .alloc e) (hop:ai P o ρ d gen h=some (v,h')) (H:af σ I base w h) (hg:σ gen=none) (hB:aW base w.heap.size):
  aJ σ I base w gen ((execOp ρc o).run P w) v h':=by
 simp only [ai,ho,Option.bind_eq_bind,Option.bind_eq_some_iff] at hop
 obtain ⟨z,hz,s,hs,hop⟩:=hop
 split at hop
 ·rename_i hok
  simp only [Option.some.injEq,Prod.mk.injEq] at hop
  obtain ⟨rfl,rfl⟩:=hop
  have htg:ab σ I w (iJ P e (aA z)) z∧cq e (iJ P e (aA z))=true:=by
   have hr0:ab σ I w (.pv (aA z)) z:= .pv _ _ (ej z)
   unfold iJ
   split
   ·rename_i l _ hz1
    rw [hz1] at hr0
    refine ⟨?_,by simp [cq,AV.ok,bC,AV.cells,eO]⟩
    have hp:=aG hr0
    generalize z=z0 at hp
    cases hp with
    | agg cs vs hl h1 hr=>
     refine .agg _ vs (by simpa using hl) h1 fun j p v hp hv=> ?_
     cases j with
     | zero=>
      simp at hp
      subst hp
      have:=bl (hr 0 _ v rfl hv)
      subst this
      exact .btag e
     | succ j=>
      simp only [List.getElem?_cons_succ,List.getElem?_map,Option.map_eq_some_iff] at hp
      obtain ⟨q,hq,rfl⟩:=hp
      exact .pv _ _ (hr (j+1) q v (by simpa using hq) hv)
   ·exact ⟨hr0,mr hok (qc _)⟩
  refine m6 (e:=e) H htg.1 htg.2 hg hB ?_
  simp only [execOp,ho]
  exact ay (by simp [Instr.alloc,ei hz,newVar,newRow])
 ·cases hop
theorem qJ {e:TypeId} {x:Operand} (ho:o.op= .box e x) (hop:ai P o ρ d gen h=some (v,h')) (hρ: ∀x,ab σ I w (ρ x) (ρc x)) (H:af σ I base w h) (hg:σ gen=none) (hB:aW base w.heap.size):
  aJ σ I base w gen ((execOp ρc o).run P w) v h':=by
 simp only [ai,ho,Option.bind_eq_bind,Option.bind_eq_some_iff] at hop
 obtain ⟨s,hs,hop⟩:=hop
 split at hop
 ·rename_i hok
  simp only [Option.some.injEq,Prod.mk.injEq] at hop
  obtain ⟨rfl,rfl⟩:=hop
  refine m6 (e:=e) H (hρ x) (mr hok.1 (Option.isNone_iff_eq_none.1 hok.2)) hg hB ?_
  simp only [execOp,ho]
  exact ay (by simp [Instr.box,newVar,newRow])
 ·cases hop
theorem m8 {t:TypeId} {dd:TypeDesc} {x y:AV} {a b:Value} (hd:P.underlying t=some dd) (hn:(iD dd x y||iE dd x y)=true) (hx:ab σ I w x a) (hy:ab σ I w y b):
  (Op.equal t a b).run P w= .ok false w∧ ∀op xo yo,(eqGuard op t xo yo a b).run P w= .ok () w∧(binOp .eql t a b=(do pure (.bool (←Op.equal t a b))))∧(binOp .neq t a b=(do pure (.bool (!(←Op.equal t a b))))):=by
 obtain ⟨dep,hdep⟩: ∃dep,Op.maxDepth=dep+1:=⟨9999,rfl⟩
 rcases Bool.or_eq_true_iff.1 hn with hn | hn
 ·unfold iD at hn
  split at hn<;>try cases hn
  all_goals cases hx
  all_goals (try (rename_i hp;cases hp))
  all_goals (cases hy;rename_i hp;cases hp)
  all_goals
   refine ⟨?_,fun op xo yo=>⟨?_,rfl,rfl⟩⟩
   ·unfold Op.equal
    rw [hdep]
    unfold Op.equalIn
    simp only [Sem.run_bind,aC hd,Result.andThen_ok,Sem.run_pure,Option.isNone]
   ·unfold eqGuard;split<;>simp
 ·unfold iE at hn
  split at hn
  ·rename_i t1 p t2 q
   cases hx;rename_i hp;cases hp
   cases hy;rename_i hq;cases hq
   have hne:=bne_iff_ne.1 hn
   refine ⟨?_,fun op xo yo=>⟨?_,rfl,rfl⟩⟩
   ·unfold Op.equal
    rw [hdep]
    unfold Op.equalIn
    simp only [Sem.run_bind,aC hd,Result.andThen_ok]
    rw [if_pos hne]
    rfl
   ·unfold eqGuard;split<;>simp
  ·cases hn
end
variable {σ σ':aq} {I I':ah} {base:ah} {w w':World} {h:aa} {P:Program}
section
variable {ρ:Operand→AV} {ρc:Operand→Value} {d gen:Nat} {o:Oper} {v:AV} {h':aa}
theorem qK {t:TypeId} {a b:PV} {r:Bool} {u v:Value} (h:jY P t a b=some r) (ha:am I w a u) (hb:am I w b v) (d:Nat):(Op.equalIn (d+1) t u v).run P w= .ok r w∧b8 P t=some false:=by
 unfold jY at h
 split at h
 ·rename_i x y ht
  cases h;cases ha;cases hb
  exact ⟨run_equalIn_string w d t x y ht,by unfold b8;rw [ht]⟩
 ·rename_i k0 k x k' y ht
  split at h
  ·rename_i hk
   subst hk
   cases h;cases ha;cases hb
   exact ⟨run_equalIn_int w d t k k0 x y ht,by unfold b8;rw [ht]⟩
  ·cases h
 ·rename_i x y ht
  cases h;cases ha;cases hb
  exact ⟨run_equalIn_bool' w d t x y ht,by unfold b8;rw [ht]⟩
 ·cases h
theorem m9 {xs ys:List PV} {us vs:List Value} (lx:us.length=xs.length) (ly:vs.length=ys.length)
  (hx: ∀(j:Nat) (p:PV) (v:Value),xs[j]? =some p→us[j]? =some v→am I w p v) (hy: ∀(j:Nat) (p:PV) (v:Value),ys[j]? =some p→vs[j]? =some v→am I w p v) (d:Nat):
  ∀(fs:List Field) (r:Bool),gv P fs xs ys=some r→(Op.eqFields (d+1) us.toArray vs.toArray fs).run P w= .ok r w
 | [],r,h=>by
  simp only [gv,Option.some.injEq] at h
  subst h
  simp [Op.eqFields]
 | f::fs,r,h=>by
  unfold gv at h
  split at h
  ·rename_i hn
   simp only [Option.bind_eq_some_iff,Option.map_eq_some_iff] at h
   obtain ⟨a,ha,b,hb,r1,h1,q,hq,rfl⟩:=h
   obtain ⟨la,_⟩:=List.getElem?_eq_some_iff.1 ha
   obtain ⟨lb,_⟩:=List.getElem?_eq_some_iff.1 hb
   have hu:us[f.offset]? =some us[f.offset]:=List.getElem?_eq_getElem (by omega)
   have hv:vs[f.offset]? =some vs[f.offset]:=List.getElem?_eq_getElem (by omega)
   obtain ⟨h2,hag⟩:=qK h1 (hx _ _ _ ha hu) (hy _ _ _ hb hv) d
   have ih:=m9 lx ly hx hy d fs q hq
   have p1:(part f.type us.toArray f.offset).run P w= .ok us[f.offset] w:=by simp [part,fR hag,hu]
   have p2:(part f.type vs.toArray f.offset).run P w= .ok vs[f.offset] w:=by simp [part,fR hag,hv]
   simp only [Op.eqFields,if_pos hn,Sem.run_bind,p1,p2,h2,Result.andThen_ok]
   cases r1
   ·simp
   ·simpa using ih
  ·cases h
theorem qL {op:BinOp} {t:TypeId} {xo yo:Operand} {x y:AV} {u v:Value} {r:Bool} (h:jZ P op t x y=some r) (hx:ab σ I w x u) (hy:ab σ I w y v):
  (do eqGuard op t xo yo u v;binOp op t u v:Sem Value).run P w= .ok (.bool r) w:=by
 have key: ∀(xs ys:List PV) (r:Bool),iF P t xs ys=some r→ ∀u v,am I w (.agg xs) u→am I w (.agg ys) v→ ∃us vs:List Value,u= .agg us.toArray∧v= .agg vs.toArray∧P.eqGuardType P.depth t=false∧(Op.equalIn 10000 t u v).run P w= .ok r w:=by
  intro xs ys r h u v hx hy
  unfold iF at h
  split at h
  ·rename_i fs ht
   split at h
   ·rename_i hc
    cases hx with
    | agg _ us hl _ hr=>
     cases hy with
     | agg _ vs hl2 _ hr2=>
      have hf:P.fieldsOf t=fs:=by unfold Program.fieldsOf;rw [ht]
      refine ⟨us,vs,rfl,rfl,hc.2,?_⟩
      rw [run_equalIn_agg w 9999 t us.toArray vs.toArray (by rw [hf];exact ht) hc.1,hf]
      exact m9 hl hl2 hr hr2 9998 fs.toList r h
   ·cases h
  ·cases h
 unfold jZ at h
 split at h
 ·rename_i xs ys
  cases hx with
  | pv _ _ hx=>
  cases hy with
  | pv _ _ hy=>
   split at h
   ·obtain ⟨us,vs,rfl,rfl,hg,he⟩:=key xs ys r h u v hx hy
    simp only [Sem.run_bind,run_eqGuard_agg w .eql t xo yo us.toArray vs.toArray hg,Result.andThen_ok,run_eql_struct,he]
   ·simp only [Option.map_eq_some_iff] at h
    obtain ⟨q,hq,rfl⟩:=h
    obtain ⟨us,vs,rfl,rfl,hg,he⟩:=key xs ys q hq u v hx hy
    simp only [Sem.run_bind,run_eqGuard_agg w .neq t xo yo us.toArray vs.toArray hg,Result.andThen_ok,run_neq_struct,he]
   ·cases h
 ·cases h
theorem qM {op:BinOp} {t ty:TypeId} {x y:Operand} (ho:o.op= .binOp op t x y ty) (hop:ai P o ρ d gen h=some (v,h')) (hρ: ∀x,ab σ I w (ρ x) (ρc x)) (H:af σ I base w h):
  aJ σ I base w gen ((execOp ρc o).run P w) v h':=by
 simp only [ai,ho,Option.map_eq_some_iff,Prod.mk.injEq] at hop
 obtain ⟨v',hv,rfl,rfl⟩:=hop
 have hx:=hρ x
 have hy:=hρ y
 have hex:execOp ρc o=(do let r ←(do eqGuard op t x y (ρc x) (ρc y);binOp op t (ρc x) (ρc y));pure (Next.value r)):=by simp only [execOp,ho]
 rw [hex]
 unfold j0 at hv
 split at hv
 ·rename_i r hr
  cases hv
  exact .same (.bool r) H (ay (qL hr hx hy)) (.pv _ _ (.lit _))
 rename_i hno
 clear hno
 split at hv
 ·rename_i a b ha hb
  simp only [Option.map_eq_some_iff] at hv
  obtain ⟨r,hr,rfl⟩:=hv
  rw [jt ha hx,jt hb hy]
  exact .same r H (ay (gU hr)) (.pv _ _ (.lit r))
 ·split at hv
  ·rename_i dd hd
   split at hv
   ·rename_i hn
    injection hv with hv
    subst hv
    obtain ⟨h1,h2⟩:=m8 hd hn hx hy
    obtain ⟨h3,h4,_⟩:=h2 .eql x y
    refine .same (.bool false) H (ay ?_) (.pv _ _ (.lit _))
    rw [h4]
    simp [h3,h1]
   ·cases hv
  ·rename_i dd hd
   split at hv
   ·rename_i hn
    injection hv with hv
    subst hv
    obtain ⟨h1,h2⟩:=m8 hd hn hx hy
    obtain ⟨h3,_,h4⟩:=h2 .neq x y
    refine .same (.bool true) H (ay ?_) (.pv _ _ (.lit _))
    rw [h4]
    simp [h3,h1]
   ·cases hv
  ·cases hv
theorem qN {op:UnOp} {t:TypeId} {x:Operand} (ho:o.op= .unOp op t x) (hop:ai P o ρ d gen h=some (v,h')) (hρ: ∀x,ab σ I w (ρ x) (ρc x)) (H:af σ I base w h):
  aJ σ I base w gen ((execOp ρc o).run P w) v h':=by
 simp only [ai,ho,Option.bind_eq_some_iff,Option.map_eq_some_iff,Prod.mk.injEq] at hop
 obtain ⟨a,ha,r,hr,rfl,rfl⟩:=hop
 refine .same r H ?_ (.pv _ _ (.lit r))
 simp only [execOp,ho]
 rw [jt ha (hρ x)]
 exact ay (gU hr)
theorem qO {t:TypeId} {x:Operand} (ho:o.op= .makeInterface t x) (hop:ai P o ρ d gen h=some (v,h')) (hρ: ∀x,ab σ I w (ρ x) (ρc x)) (H:af σ I base w h):
    aJ σ I base w gen ((execOp ρc o).run P w) v h':=by
  simp only [ai,ho] at hop
  split at hop
  · cases hop
  · cases hop
  · rename_i dd hn hd
    have hrun:(execOp ρc o).run P w= .ok (.value (.iface t (ρc x))) w:=by
      simp only [execOp,ho]
      refine ay ?_
      simp only [Instr.makeInterface,Sem.run_bind,aC hd,Result.andThen_ok]
      first
        | rfl
        | (split
           · rename_i ms;exact absurd hd (hn ms)
           · rfl)
    split at hop
    · simp only [Option.some.injEq,Prod.mk.injEq] at hop
      obtain ⟨rfl,rfl⟩:=hop
      exact .same _ H hrun (.ifc t _ _ (hρ x))
    simp only [Option.map_eq_some_iff,Prod.exists,Prod.mk.injEq] at hop
    obtain ⟨p,h1,hp,rfl,rfl⟩:=hop
    obtain ⟨I',hpr,H',m⟩:=fQ _ _ _ _ _ _ _ hp (hρ x) H
    exact .frz _ m H' hrun (.pv _ _ (.iface t p (ρc x) hpr))
theorem na {p q:PV} {u v:Value} (hp:am I w p u) (hq:am I w q v):am I w (.tup [p,q]) (.tuple #[u,v]):=
 .tup [p,q] [u,v] rfl fun j c x hc hx=>by
  match j with
  | 0=>simp at hc hx;subst hc;subst hx;exact hp
  | 1=>simp at hc hx;subst hc;subst hx;exact hq
  | j+2=>simp at hc
theorem kE {want:Array (String×TypeId)} {got:Array Method} :(fF want got=false→Instr.missingMethod want got=none)∧(fF want got=true→ ∃m,Instr.missingMethod want got=some m):=by
 have le: ∀l:List String,l≠[]→ ∃m,Instr.least l=some m:=fun l h=>by
  cases l with
  | nil=>exact absurd rfl h
  | cons x l=>exact ⟨_,rfl⟩
 unfold fF Instr.missingMethod
 refine ⟨fun h=> ?_,fun h=> ?_⟩
 ·have h0:(want.toList.filter fun (q:String×TypeId)=> !got.any fun m=>m.name==q.1&&m.sig==q.2)=[]:=by
   rw [List.filter_eq_nil_iff]
   intro q hq
   have:=List.any_eq_false.1 h q hq
   simpa using this
  simp only [h0]
  rfl
 ·have h0:(want.toList.filter fun (q:String×TypeId)=> !got.any fun m=>m.name==q.1&&m.sig==q.2)≠[]:=by
   intro e
   obtain ⟨q,hq,hp⟩:=List.any_eq_true.1 h
   have:q∈(want.toList.filter fun (q:String×TypeId)=> !got.any fun m=>m.name==q.1&&m.sig==q.2):=List.mem_filter.2 ⟨hq,hp⟩
   rw [e] at this
   cases this
  generalize (want.toList.filter fun (q:String×TypeId)=> !got.any fun m=>m.name==q.1&&m.sig==q.2)=l at h0
  simp only [List.partition_eq_filter_filter]
  cases he:(l.map (·.1)).filter (not∘fun (x:String)=>x.contains '.') with
  | cons x xs=>exact ⟨_,rfl⟩
  | nil=>
   cases hu:(l.map (·.1)).filter (fun (x:String)=>x.contains '.') with
   | cons x xs=>exact ⟨_,rfl⟩
   | nil=>
    exfalso
    cases l with
    | nil=>exact h0 rfl
    | cons y ys=>
     rw [List.filter_eq_nil_iff] at he hu
     have h1:=he y.1 (by simp)
     have h2:=hu y.1 (by simp)
     simp only [Function.comp] at h1
     simp_all
theorem qP {x:Operand} {xT aT:TypeId} {ok:Bool} (ho:o.op= .typeAssert x xT aT ok) (hop:ai P o ρ d gen h=some (v,h')) (hρ: ∀x,ab σ I w (ρ x) (ρc x)) (H:af σ I base w h):
  aJ σ I base w gen ((execOp ρc o).run P w) v h':=by
 simp only [ai,ho,Option.map_eq_some_iff,Prod.mk.injEq] at hop
 obtain ⟨v',hv,rfl,rfl⟩:=hop
 suffices hs: ∃u,(Instr.typeAssert (ρc x) xT aT ok).run P w= .ok u w∧ab σ I w v' u by
  obtain ⟨u,h1,h2⟩:=hs
  refine .same u H ?_ h2
  simp only [execOp,ho]
  exact ay h1
 have hr:=hρ x
 generalize ρc x=u0 at hr
 have fails: ∀(a b:Option TypeId) (m:String),(if ok then (bA P aT).map fun z=>(AV.pv (.tup [aA z,.lit (.bool false)])) else none)=some v'→
   ∃u,(do if ok then pure (.tuple #[←zeroValue aT,.bool false]) else runtimePanic (.typeAssertion a b aT m):Sem Value).run P w= .ok u w∧ab σ I w v' u:=by
  intro a b m hf
  split at hf
  ·rename_i hok
   simp only [Option.map_eq_some_iff] at hf
   obtain ⟨z,hz,rfl⟩:=hf
   exact ⟨_,by simp [hok,ei hz],.pv _ _ (na (ej z) (.lit _))⟩
  ·cases hf
 have holds: ∀(p:PV) (u:Value),am I w p u→(some (AV.pv (if ok then .tup [p,.lit (.bool true)] else p)))=some v'→ ∃u',(pure (if ok then .tuple #[u,.bool true] else u):Sem Value).run P w= .ok u' w∧ab σ I w v' u':=by
  intro p u hp hf
  injection hf with hf
  subst hf
  cases ok with
  | true=>exact ⟨_,rfl,.pv _ _ (na hp (.lit _))⟩
  | false=>exact ⟨_,rfl,.pv _ _ hp⟩
 unfold mi at hv
 simp only [] at hv
 split at hv
 ·rename_i dd hd he
  rw [he] at hr
  cases hr;rename_i hp;cases hp
  unfold Instr.typeAssert
  simp only [Sem.run_bind,aC hd,Result.andThen_ok]
  split<;>first | exact fails _ _ _ hv | simp_all
 ·rename_i want t p hd he
  rw [he] at hr
  cases hr;rename_i hp;cases hp;rename_i u hp
  simp only [Option.bind_eq_some_iff] at hv
  obtain ⟨i,hi,hv⟩:=hv
  unfold Instr.typeAssert
  simp only [Sem.run_bind,aC hd,e9 hi,Result.andThen_ok]
  split at hv
  ·rename_i hm
   have hm:=kE.1 hm
   simp only [hm]
   exact holds _ _ (.iface t p u hp) hv
  ·rename_i hm
   obtain ⟨m,hm⟩:=kE.2 hm
   simp only [hm]
   exact fails _ _ _ hv
 ·rename_i dd t p hn hd he
  rw [he] at hr
  cases hr;rename_i hp;cases hp;rename_i u hp
  unfold Instr.typeAssert
  simp only [Sem.run_bind,aC hd,Result.andThen_ok]
  by_cases e:t=aT
  ·rw [if_pos e] at hv ⊢; exact holds _ _ hp hv
  ·rw [if_neg e] at hv ⊢; exact fails _ _ _ hv
 ·cases hv
theorem qQ {fn:Fn} {first captured:Array Operand} (ho:o.op= .makeFunc fn first captured) (hop:ai P o ρ d gen h=some (v,h')) (hρ: ∀x,ab σ I w (ρ x) (ρc x)) (H:af σ I base w h):
  aJ σ I base w gen ((execOp ρc o).run P w) v h':=by
 have hpw: ∀(l:Array Operand) (j:Nat) (p:AV) (u:Value),(l.toList.map ρ)[j]? =some p→(l.toList.map ρc)[j]? =some u→ab σ I w p u:=by
  intro l j p u hp hu
  simp only [List.getElem?_map,Option.map_eq_some_iff] at hp hu
  obtain ⟨x,hx,rfl⟩:=hp
  obtain ⟨y,hy,rfl⟩:=hu
  rw [hx] at hy
  injection hy with hy
  subst hy
  exact hρ x
 have hrun:(execOp ρc o).run P w= .ok (.value (.func fn (first.toList.map ρc).toArray (captured.toList.map ρc).toArray)) w:=by
  simp only [execOp,ho]
  refine ay ?_
  simp only [Instr.makeFunc,Sem.run_pure]
  congr 2<;>(apply Array.ext';simp)
 simp only [ai,ho] at hop
 split at hop
 ·rename_i a b ha hb
  simp only [Option.some.injEq,Prod.mk.injEq] at hop
  obtain ⟨rfl,rfl⟩:=hop
  have ea:=dX ha
  have eb:=dX hb
  refine .same _ H hrun (.pv _ _ (.clo fn a b _ _ ?_ ?_ ?_ ?_))
  ·rw [List.length_map,←List.length_map (f:=ρ),ea,List.length_map]
  ·rw [List.length_map,←List.length_map (f:=ρ),eb,List.length_map]
  ·exact fun j p u hp hu=>aG (hpw first j (.pv p) u (by rw [ea];simp [hp]) hu)
  ·exact fun j p u hp hu=>aG (hpw captured j (.pv p) u (by rw [eb];simp [hp]) hu)
 ·simp only [Option.some.injEq,Prod.mk.injEq] at hop
  obtain ⟨rfl,rfl⟩:=hop
  exact .same _ H hrun (.clo fn _ _ _ _ (by simp) (by simp) (hpw first) (hpw captured))
theorem qR {st:TypeId} {x:Operand} {f:Nat} (ho:o.op= .fieldAddr st x f) (hop:ai P o ρ d gen h=some (v,h')) (hρ: ∀x,ab σ I w (ρ x) (ρc x)) (H:af σ I base w h):
  aJ σ I base w gen ((execOp ρc o).run P w) v h':=by
 simp only [ai,ho] at hop
 split at hop
 ·rename_i fields hd
  simp only [Option.bind_eq_some_iff] at hop
  obtain ⟨off,hoff,hop⟩:=hop
  unfold mg at hoff
  simp only [Option.bind_eq_some_iff] at hoff
  obtain ⟨fd,hfd,n,hn,hoff⟩:=hoff
  split at hoff
  ·cases hoff
  ·rename_i hne
   injection hoff with hoff
   subst hoff
   have fin: ∀ {b ob:Nat},ρc x= .pointer (some ⟨b,ob,none⟩)→(execOp ρc o).run P w= .ok (.value (.pointer (some ⟨b,ob+fd.offset,none⟩))) w:=by
    intro b ob hp
    simp only [execOp,ho]
    refine ay ?_
    simp [Instr.fieldAt,aC hd,hfd,Instr.sureAddr,hp,fieldPlace,cn hn,hne,c6]
   have hr:=hρ x
   split at hop
   ·rename_i d1 s g i oo he
    rw [he] at hr
    obtain ⟨b,ob,k,hs,hu⟩:=cp hr
    simp only [Option.some.injEq,Prod.mk.injEq] at hop
    obtain ⟨rfl,rfl⟩:=hop
    refine .same _ H (fin hu) ?_
    rw [Nat.add_assoc]
    exact .mptr d1 s g i (oo+fd.offset) b ob k hs
   ·rename_i r oo he
    rw [he] at hr
    simp only [Option.some.injEq,Prod.mk.injEq] at hop
    obtain ⟨rfl,rfl⟩:=hop
    have hr':=aG hr
    generalize hu:ρc x=u at hr'
    cases hr' with
    | ptr _ _ b ob vs hI hc hr2=>
     refine .same _ H (fin hu) ?_
     rw [Nat.add_assoc]
     exact .pv _ _ (.ptr r (oo+fd.offset) b ob vs hI hc hr2)
   ·cases hop
 ·cases hop
theorem ju {a:AV} {u:Value} {i:Int} (hi:intOf? a=some i) (hr:ab σ I w a u): ∃k,u= .int k i:=by
 unfold intOf? at hi
 split at hi
 ·rename_i k n
  injection hi with hi
  subst hi
  exact ⟨k,bl (aG hr)⟩
 ·cases hi
theorem qS {t:TypeId} {x ix:Operand} (ho:o.op= .indexAddr t x ix) (hop:ai P o ρ d gen h=some (v,h')) (hρ: ∀x,ab σ I w (ρ x) (ρc x)) (H:af σ I base w h):
  aJ σ I base w gen ((execOp ρc o).run P w) v h':=by
 simp only [ai,ho,Option.bind_eq_some_iff] at hop
 obtain ⟨i,hi,hop⟩:=hop
 obtain ⟨kind,hix⟩:=ju hi (hρ ix)
 have hr:=hρ x
 split at hop
 ·rename_i e k nl full xs hd he
  rw [he] at hr
  simp only [Option.bind_eq_some_iff] at hop
  obtain ⟨size,hsz,hop⟩:=hop
  split at hop
  ·rename_i hc
   obtain ⟨h0,hnl,hk⟩:=hc
   subst hnl;subst hk
   simp only [Option.map_eq_some_iff,Prod.mk.injEq] at hop
   obtain ⟨y,hy,rfl,rfl⟩:=hop
   have hlt:=(List.getElem?_eq_some_iff.1 hy).1
   have hr':=aG hr
   generalize hu:ρc x=u at hr'
   cases hr' with
   | emp=>simp at hy
   | sl _ _ _ b ob cap vs hcap hfull hI hk hcl hr2=>
    have hlt':i<(xs.length:Int):=by omega
    refine .same (.pointer (some ⟨b,ob+i.toNat*k,none⟩)) H ?_ (.pv _ _ ?_)
    ·simp only [execOp,ho]
     refine ay ?_
     simp [Instr.indexAt,asIntOf,hix,aC hd,hu,h0,hlt',cn hsz,c6]
    ·have:=am.ptr (I:=I) (w:=w) y 0 b (ob+i.toNat*k) (vs i.toNat) hI (fun j p hp=>hcl _ y hy j p hp) (fun j p hp=>hr2 _ y hy j p hp)
     simpa using this
  ·cases hop
 ·rename_i e d1 s g off n full hd he
  rw [he] at hr
  simp only [Option.bind_eq_some_iff] at hop
  obtain ⟨size,hsz,hop⟩:=hop
  split at hop
  ·rename_i k0 e0 xs fz hl
   split at hop
   ·rename_i hc
    obtain ⟨h0,hn,hk⟩:=hc
    subst hk
    simp only [Option.some.injEq,Prod.mk.injEq] at hop
    obtain ⟨rfl,rfl⟩:=hop
    obtain ⟨b',o',n',hs',_⟩:=dV (H.live hl (by simp))
    generalize hu:ρc x=u at hr
    cases hr with
    | msl _ _ _ _ _ _ b ob k cap ad had hs hcap hfull hroom=>
     rw [hs] at hs'
     simp only [Option.some.injEq,Prod.mk.injEq] at hs'
     obtain ⟨rfl,rfl,rfl⟩:=hs'
     have had':=had (by omega)
     subst had'
     refine .same (.pointer (some ⟨b,ob+off*k+i.toNat*k,none⟩)) H ?_ ?_
     ·simp only [execOp,ho]
      refine ay ?_
      simp [Instr.indexAt,asIntOf,hix,aC hd,hu,h0,hn,cn hsz,c6]
     ·have:=ab.mptr (σ:=σ) (I:=I) (w:=w) d1 s g (off+i.toNat) 0 b ob k hs
      rw [Nat.add_zero,Nat.add_mul,←Nat.add_assoc] at this
      exact this
   ·cases hop
  ·cases hop
 ·rename_i n e d1 s g j oo hd he
  rw [he] at hr
  simp only [Option.bind_eq_some_iff] at hop
  obtain ⟨size,hsz,hop⟩:=hop
  split at hop
  ·rename_i hc
   obtain ⟨b,ob,k,hs,hu⟩:=cp hr
   simp only [Option.some.injEq,Prod.mk.injEq] at hop
   obtain ⟨rfl,rfl⟩:=hop
   refine .same (.pointer (some ⟨b,ob+j*k+oo+i.toNat*size,none⟩)) H ?_ ?_
   ·simp only [execOp,ho]
    refine ay ?_
    simp [Instr.indexAt,asIntOf,hix,aC hd,hu,hc.1,hc.2,cn hsz,c6,Instr.sureAddr]
   ·rw [Nat.add_assoc]
    exact .mptr d1 s g j (oo+i.toNat*size) b ob k hs
  ·cases hop
 ·rename_i n e r oo hd he
  rw [he] at hr
  simp only [Option.bind_eq_some_iff] at hop
  obtain ⟨size,hsz,hop⟩:=hop
  split at hop
  ·rename_i hc
   simp only [Option.some.injEq,Prod.mk.injEq] at hop
   obtain ⟨rfl,rfl⟩:=hop
   have hr':=aG hr
   generalize hu:ρc x=u at hr'
   cases hr' with
   | ptr _ _ b ob vs hI hcl hr2=>
    refine .same (.pointer (some ⟨b,ob+oo+i.toNat*size,none⟩)) H ?_ ?_
    ·simp only [execOp,ho]
     refine ay ?_
     simp [Instr.indexAt,asIntOf,hix,aC hd,hu,hc.1,hc.2,cn hsz,c6,Instr.sureAddr]
    ·rw [Nat.add_assoc]
     exact .pv _ _ (.ptr r (oo+i.toNat*size) b ob vs hI hcl hr2)
  ·cases hop
 ·cases hop
theorem qT {t:TypeId} {m off:Nat} {ag:Bool} {us:List Value} (hm:aF P t=some m) (ha:b8 P t=some ag):
  (ag=true→off+m≤us.length→(part t us.toArray off).run P w= .ok (.agg ((us.drop off).take m).toArray) w)∧
  (ag=false→ ∀x,us[off]? =some x→(part t us.toArray off).run P w= .ok x w):=by
 refine ⟨?_,?_⟩
 ·rintro rfl hle
  simp only [part,Sem.run_bind,fR ha,Result.andThen_ok,if_true,cn hm,Sem.run_pure]
  congr 2
  apply Array.ext'
  simp [List.extract_eq_take_drop]
 ·rintro rfl x hx
  simp [part,fR ha,hx]
theorem qU {v:AV} {u:Value} (hv:v.isAgg=true) (hr:ab σ I w v u):v.ok=true∧ ∃us:List Value,u= .agg us.toArray∧u.cells.toList=us:=by
 cases hr with
 | pv p _ hp=>
  cases hp with
  | agg cs vs hl h1 hr=>exact ⟨rfl,vs,rfl,rfl⟩
  | _=>cases hv
 | agg cs vs hl h1 hr=>exact ⟨rfl,vs,rfl,rfl⟩
 | _=>cases hv
theorem nb {t:TypeId} {m off:Nat} {ag:Bool} {x v':AV} {u:Value} (hm:aF P t=some m) (ha:b8 P t=some ag) (hx:x.isAgg=true) (hr:ab σ I w x u) (hs:di ag m off x=some v'):
  ∃us y,u= .agg us∧(part t us off).run P w= .ok y w∧ab σ I w v' y:=by
 obtain ⟨hok,us,rfl,hus⟩:=qU hx hr
 obtain ⟨h1,h2,h3⟩:=hr.cells hok
 have hsub:=kB (σ:=σ) (I:=I) (w:=w) hs (us:=us) (by simpa [Value.cells] using h1) (by simpa [Value.cells] using h2) fun j c x hc hx=>h3 j c x hc (by simpa [Value.cells] using hx)
 have hpart:=qT (P:=P) (w:=w) (off:=off) (us:=us) hm ha
 cases ag with
 | true=>exact ⟨_,_,rfl,hpart.1 rfl (hsub.1 rfl).1,(hsub.1 rfl).2⟩
 | false=>
  obtain ⟨y,hy,hp⟩:=hsub.2 rfl
  exact ⟨_,y,rfl,hpart.2 rfl y hy,hp⟩
theorem qV {t:TypeId} {x ix:Operand} (ho:o.op= .index t x ix) (hop:ai P o ρ d gen h=some (v,h')) (hρ: ∀x,ab σ I w (ρ x) (ρc x)) (H:af σ I base w h):
  aJ σ I base w gen ((execOp ρc o).run P w) v h':=by
 simp only [ai,ho] at hop
 have hr:=hρ x
 have hi:=hρ ix
 split at hop
 ·rename_i s k i hd he hei
  rw [he] at hr
  rw [hei] at hi
  have hu:=bl (aG hr)
  have hix:=bl (aG hi)
  split at hop
  ·rename_i h0
   simp only [Option.some.injEq,Prod.mk.injEq] at hop
   obtain ⟨rfl,rfl⟩:=hop
   refine .same (.int .u8 (s[i.toNat]'h0.2).toNat) H ?_ (.pv _ _ (.lit _))
   simp only [execOp,ho]
   refine ay ?_
   have:s[i.toNat]? =some (s[i.toNat]'h0.2):=by exact getElem?_pos s i.toNat h0.2
   simp [Instr.index,asIntOf,hix,aC hd,hu,h0.1,this]
  ·cases hop
 ·rename_i n e x' k i hd hei
  rw [hei] at hi
  have hix:=bl (aG hi)
  split at hop
  ·rename_i hc
   simp only [Option.bind_eq_some_iff] at hop
   obtain ⟨size,hsz,ag,hag,hop⟩:=hop
   split at hop
   ·rename_i hagg
    simp only [Option.map_eq_some_iff,Prod.mk.injEq] at hop
    obtain ⟨v',hv',rfl,rfl⟩:=hop
    obtain ⟨us,y,hu,hpart,hry⟩:=nb (P:=P) hsz hag hagg hr hv'
    refine .same y H ?_ hry
    simp only [execOp,ho]
    refine ay ?_
    simp [Instr.index,asIntOf,hix,aC hd,hu,hc.1,hc.2,cn hsz,hpart]
   ·cases hop
  ·cases hop
 ·cases hop
theorem qW {t:TypeId} {x:Operand} {f:Nat} (ho:o.op= .field t x f) (hop:ai P o ρ d gen h=some (v,h')) (hρ: ∀x,ab σ I w (ρ x) (ρc x)) (H:af σ I base w h):
  aJ σ I base w gen ((execOp ρc o).run P w) v h':=by
 simp only [ai,ho] at hop
 have hr:=hρ x
 split at hop
 ·rename_i fields hd
  simp only [Option.bind_eq_some_iff] at hop
  obtain ⟨fd,hfd,size,hsz,ag,hag,hop⟩:=hop
  split at hop
  ·rename_i hagg
   simp only [Option.map_eq_some_iff,Prod.mk.injEq] at hop
   obtain ⟨v',hv',rfl,rfl⟩:=hop
   obtain ⟨us,y,hu,hpart,hry⟩:=nb (P:=P) hsz hag hagg hr hv'
   refine .same y H ?_ hry
   simp only [execOp,ho]
   refine ay ?_
   simp [Instr.field,aC hd,hfd,hu,asAgg,hpart]
  ·cases hop
 ·cases hop
theorem qX {x:Operand} {i:Nat} (ho:o.op= .extract x i) (hop:ai P o ρ d gen h=some (v,h')) (hρ: ∀x,ab σ I w (ρ x) (ρc x)) (H:af σ I base w h):
  aJ σ I base w gen ((execOp ρc o).run P w) v h':=by
 simp only [ai,ho] at hop
 have hr:=hρ x
 split at hop
 ·rename_i vs he
  rw [he] at hr
  simp only [Option.map_eq_some_iff,Prod.mk.injEq] at hop
  obtain ⟨p,hp,rfl,rfl⟩:=hop
  have hr':=aG hr
  generalize hu:ρc x=u at hr'
  cases hr' with
  | tup _ us hl hr2=>
   have hi:=(List.getElem?_eq_some_iff.1 hp).1
   have hy:us[i]? =some us[i]:=List.getElem?_eq_getElem (by omega)
   refine .same us[i] H ?_ (.pv _ _ (hr2 i p _ hp hy))
   simp only [execOp,ho]
   refine ay ?_
   simp [Instr.extract,hu,hy]
 ·rename_i vs he
  rw [he] at hr
  simp only [Option.map_eq_some_iff,Prod.mk.injEq] at hop
  obtain ⟨p,hp,rfl,rfl⟩:=hop
  generalize hu:ρc x=u at hr
  cases hr with
  | tup _ us hl hr2=>
   have hi:=(List.getElem?_eq_some_iff.1 hp).1
   have hy:us[i]? =some us[i]:=List.getElem?_eq_getElem (by omega)
   refine .same us[i] H ?_ (hr2 i p _ hp hy)
   simp only [execOp,ho]
   refine ay ?_
   simp [Instr.extract,hu,hy]
 ·cases hop
end
variable {σ σ':aq} {I I':ah} {base:ah} {w w':World} {h:aa} {P:Program}
theorem fc {α:Type} {l new:List α} {off:Nat} (hle:off+new.length≤l.length) (k:Nat):
  (bN l off new)[k]? =if off≤k∧k<off+new.length then new[k-off]? else l[k]? :=by
 unfold bN
 have hl1:(l.take off).length=off:=by simp;omega
 rcases Nat.lt_or_ge k off with hk | hk
 ·rw [if_neg (by omega),List.append_assoc,List.getElem?_append_left (by omega),List.getElem?_take,if_pos hk]
 ·rcases Nat.lt_or_ge k (off+new.length) with hk2 | hk2
  ·rw [if_pos ⟨hk,hk2⟩,List.append_assoc,List.getElem?_append_right (by omega),hl1,List.getElem?_append_left (by omega)]
  ·rw [if_neg (by omega),List.getElem?_append_right (by simp [hl1];omega),List.getElem?_drop]
   congr 1
   simp [hl1]
   omega
theorem fe {α:Type} {l new:List α} {off:Nat} (hle:off+new.length≤l.length):(bN l off new).length=l.length:=by
 unfold bN
 simp
 omega
theorem nc (l:List AV):(cA l).cells=l:=by
 unfold cA
 cases ha:aQ l with
 | none=>rfl
 | some ps=>rw [dX ha];rfl
theorem qY (l:List AV):(cA l).ok=true:=by
 unfold cA
 cases ha:aQ l<;>rfl
theorem nf {v:AV} {u:Value} (hr:ab σ I w v u) (hu:u.oneCell'=true):v.ok=true∧v.cells=[v]:=by
 cases hr with
 | pv p _ hp=>
  cases hp with
  | lit=>exact ⟨hu,rfl⟩
  | agg=>cases hu
  | tup=>cases hu
  | _=>exact ⟨rfl,rfl⟩
 | agg=>cases hu
 | tup=>cases hu
 | _=>exact ⟨rfl,rfl⟩
theorem qZ {v:PV} {u:Value} (hr:am I w v u) (hu:u.oneCell'=true):v.ok=true∧v.cells=[v]:=by
 cases hr with
 | lit=>exact ⟨hu,rfl⟩
 | agg=>cases hu
 | tup=>cases hu
 | _=>exact ⟨rfl,rfl⟩
theorem ng {t:TypeId} {m b o n:Nat} {e:TypeId} {u:Value} (hm:aF P t=some m) (hu:u.cells.size=m) (hs:w.shape? b=some (e,n)) (hn:o+m≤n) (hf:Fr w n b)
  (h1: ∀x∈u.cells.toList,x.oneCell'=true):(storeVar t ⟨b,o,none⟩ u).run P w= .ok () (w.setCells b o u.cells.toList):=by
 have:=kh (P:=P) (w:=w) (b:=b) (o:=o) (vs:=u.cells.toList) hs (by simpa [hu] using hn) hf h1
 simp only [storeVar,Sem.run_bind,cn hm,Result.andThen_ok]
 rw [if_neg (by simp [hu])]
 simpa using this
theorem af.store (H:af σ I base w h) {d s g:Nat} {bd bd':ba} {b o k off:Nat} {us:List Value} (hl:Abs.live h d s g=bd) (hne:bd≠ .dead) (hs:σ g=some (b,o,k))
  (hb:aj σ ⟨g,bd⟩=some b) (hb':aj σ ⟨g,bd'⟩=some b) (hr:be σ I base (w.setCells b off us) ⟨g,bd'⟩):
  af σ I base (w.setCells b off us) (hput h d s ⟨g,bd'⟩)∧aB base σ I w σ I (w.setCells b off us):=by
 have hrow:=cQ hl hne
 have hf:=aY (H.rows d s) (by rw [hrow];exact hb)
 have hk:aO I w (w.setCells b off us):=fO hf.2.1
 refine ⟨H.put (fun _ _ h=>h) (fun _ h=>h) hk (hk.inW H.inW) d s _ hr ?_,⟨fun _ _ h=>h,fun _ h=>h,fun _ h=> .inl h,hk,mw hf.2.2⟩⟩
 intro d' s' b' hne' hb2
 have hf':=aY (H.rows d' s') hb2
 have hbb:b'≠b:=fun e=>hne' (H.apart d s d' s' b (by rw [hrow];exact hb) (e▸hb2))
 exact ⟨gO b us off w b' hbb,hf'.2.1,by rw [hb'];simpa using Ne.symm hbb⟩
theorem nh {v v':AV} {off:Nat} {new:List AV} (hs:cX v off new=some v') (hnew: ∀(c:AV),c∈new→c.ok=true∧c.cells=[c]) (hne:v.isAgg=false→new.length≠0) (hv:v.isAgg=false→v.cells=[v]):
  off+new.length≤v.cells.length∧v'.cells=bN v.cells off new∧v'.ok=true:=by
 unfold cX at hs
 split at hs
 ·rename_i hle
  have hle:=hle.1
  split at hs
  ·injection hs with hs
   subst hs
   exact ⟨hle,nc _,qY _⟩
  ·rename_i hag
   have hag:v.isAgg=false:=by simpa using hag
   have hv:=hv hag
   match new,hs with
   | c::rest,hs=>
    simp only [List.head?_cons,Option.some.injEq] at hs
    subst hs
    rw [hv] at hle
    simp at hle
    have hrest:rest=[]:=List.eq_nil_of_length_eq_zero (by omega)
    have hoff:off=0:=by omega
    subst hrest;subst hoff
    have:=hnew c (by simp)
    exact ⟨by rw [hv];simp,by rw [hv,this.2];simp [bN],this.1⟩
 ·cases hs
theorem ni {v v':AV} {off:Nat} {new:List AV} (hs:cX v off new=some v') (hnew: ∀(c:AV),c∈new→c.cells=[c]):bC v'=bC v∨bC v'=none:=by
 unfold cX at hs
 split at hs
 ·rename_i hle
  obtain ⟨hle,ht⟩:=hle
  have nt: ∀c∈new,∀t,c≠ .btag t:=fun c hc t e=>by
   have:=List.any_eq_false.1 ht c hc
   subst e
   exact this rfl
  have one: ∀(c:AV),(∀t,c≠ .btag t)→eO (some c)=none:=fun c hc=>by
   cases c<;>first | rfl | exact absurd rfl (hc _)
  split at hs
  ·injection hs with hs
   subst hs
   unfold bC
   rw [nc]
   cases off with
   | zero=>
    cases new with
    | nil=>left;simp [bN]
    | cons c l=>right;simp only [bN,List.take_zero,List.nil_append,List.cons_append,List.head?_cons];exact one c (nt c (by simp))
   | succ k=>
    left
    cases hv:v.cells with
    | nil=>rw [hv] at hle;simp at hle
    | cons c l=>simp [bN]
  ·right
   have hm:v'∈new:=List.mem_of_mem_head? (by rw [hs];rfl)
   unfold bC
   rw [hnew v' hm]
   exact one v' (nt v' hm)
 ·cases hs
theorem kF {g b k n:Nat} {e:TypeId} {v:AV} {fz:Bool} (hr:be σ I base w ⟨g,.box v fz⟩) (hs:σ g=some (b,0,k)) (hsh:w.shape? b=some (e,n)):cq e v=true:=by
 obtain ⟨b1,e1,h1,h2,h3,_⟩:=hr
 simp only [] at h1
 rw [hs] at h1
 simp only [Option.some.injEq,Prod.mk.injEq] at h1
 obtain ⟨rfl,_⟩:=h1
 rw [hsh] at h2
 simp only [Option.some.injEq,Prod.mk.injEq] at h2
 rw [h2.1]
 exact h3
theorem q0 {v v':PV} {off:Nat} {new:List PV} (hs:gu v off new=some v') (hnew: ∀(c:PV),c∈new→c.ok=true∧c.cells=[c]) (hne:v.isAgg=false→new.length≠0) (hv:v.isAgg=false→v.cells=[v]):
  off+new.length≤v.cells.length∧v'.cells=bN v.cells off new∧v'.ok=true:=by
 unfold gu at hs
 split at hs
 ·rename_i hle
  split at hs
  ·injection hs with hs
   subst hs
   exact ⟨hle,rfl,rfl⟩
  ·rename_i hag
   have hag:v.isAgg=false:=by simpa using hag
   have hv:=hv hag
   match new,hs with
   | c::rest,hs=>
    simp only [List.head?_cons,Option.some.injEq] at hs
    subst hs
    rw [hv] at hle
    simp at hle
    have hrest:rest=[]:=List.eq_nil_of_length_eq_zero (by omega)
    have hoff:off=0:=by omega
    subst hrest;subst hoff
    have:=hnew c (by simp)
    exact ⟨by rw [hv];simp,by rw [hv,this.2];simp [bN],this.1⟩
 ·cases hs
theorem nj {v:AV} (hv:v.isAgg=false):v.cells=[v]:=by
 cases v with
 | pv p=>cases p<;>first | rfl | cases hv
 | agg=>cases hv
 | _=>rfl
theorem kG {v:PV} (hv:v.isAgg=false):v.cells=[v]:=by cases v<;>first | rfl | cases hv
theorem gW {α:Type} {l:List α} {x:α} (hx:x∈l): ∃j:Nat,l[j]? =some x:=by
 obtain ⟨j,hj,rfl⟩:=List.mem_iff_getElem.1 hx
 exact ⟨j,List.getElem?_eq_getElem hj⟩
section
variable {ρ:Operand→AV} {ρc:Operand→Value} {d gen:Nat} {o:Oper} {v:AV} {h':aa}
theorem fS:ab σ I w bb undef:= .pv _ _ (.lit _)
theorem kH {d1 s g b off:Nat} {v0 v':AV} {new:List AV} {vs:List Value} (H:af σ I base w h) (hl:live h d1 s g= .box v0 false) (hs:σ g=some (b,0,1)) (hlen:vs.length=new.length)
  (hx2: ∀x∈vs,x.oneCell'=true) (hx3: ∀(j:Nat) (p:AV) (u:Value),new[j]? =some p→vs[j]? =some u→ab σ I w p u) (hne:new.length≠0) (hv':cX v0 off new=some v'):
  af σ I base (w.setCells b off vs) (hput h d1 s ⟨g,.box v' false⟩)∧aB base σ I w σ I (w.setCells b off vs)∧ ∃e n,w.shape? b=some (e,n)∧off+vs.length≤n∧Fr w n b:=by
 obtain ⟨b0,k0,e0,u0,hs0,hsh,hok0,hru,hz,hf,h1c,hszu,hcell⟩:=dU (H.live hl (by simp))
 rw [hs] at hs0
 simp only [Option.some.injEq,Prod.mk.injEq] at hs0
 obtain ⟨rfl,_,_⟩:=hs0
 have hnew: ∀(c:AV),c∈new→c.ok=true∧c.cells=[c]:=by
  intro c hc
  obtain ⟨j,hj⟩:=gW hc
  have hlt:=(List.getElem?_eq_some_iff.1 hj).1
  have hv:vs[j]? =some vs[j]:=by simp
  exact nf (hx3 j c _ hj hv) (hx2 _ (by simp))
 obtain ⟨hle,hvc,hvok⟩:=nh hv' hnew (fun _=>hne) nj
 have hrow:be σ I base (w.setCells b off vs) ⟨g,.box v' false⟩:=by
  have hk:aO I w (w.setCells b off vs):=fO hz.1
  refine ⟨b,e0,hs,?_,jb (kF (H.live hl (by simp)) hs hsh) hvok (ni hv' fun c hc=>(hnew c hc).2),fun j p hp=> ?_,⟨hz.1,hz.2.1,fun j hj=> ?_⟩⟩
  ·rw [eh,hsh,hvc,fe hle]
  ·rw [hvc,fc hle] at hp
   split at hp
   ·rename_i hj
    have hlt:=(List.getElem?_eq_some_iff.1 hp).1
    refine ⟨vs[j-off]'(by omega),?_,hx2 _ (by simp),(hx3 (j-off) p _ hp (by simp)).mono (fun _ _ h=>h) (fun _ h=>h) hk⟩
    have:=gP (w:=w) (b:=b) (o:=off) (vs:=vs) hsh (by omega) (j:=j-off) (by omega)
    rw [show off+(j-off)=j by omega] at this
    exact this
   ·rename_i hj
    have hlt:=(List.getElem?_eq_some_iff.1 hp).1
    have hcj:=Array.getElem?_eq_getElem (xs:=u0.cells) (i:=j) (by omega)
    refine ⟨u0.cells[j],?_,h1c _ (by simp),((hru.cells hok0).2.2 j p _ hp hcj).mono (fun _ _ h=>h) (fun _ h=>h) hk⟩
    rw [fP (by omega)]
    exact hcell j _ hcj
  ·rw [World.frozen?_setCells]
   exact hz.2.2 j (by rw [hvc,fe hle] at hj;exact hj)
 obtain ⟨H',E'⟩:=H.store hl (by simp) hs (by simp [aj,hs]) (bd':= .box v' false) (by simp [aj,hs]) hrow
 exact ⟨H',E',e0,_,hsh,by omega,hz.2.2⟩
theorem q6 {t:TypeId} {a x:Operand} (ho:o.op= .store t a x) (hop:ai P o ρ d gen h=some (v,h')) (hρ: ∀x,ab σ I w (ρ x) (ρc x)) (H:af σ I base w h):
  aJ σ I base w gen ((execOp ρc o).run P w) v h':=by
 simp only [ai,ho,Option.bind_eq_bind,Option.bind_eq_some_iff] at hop
 obtain ⟨m,hm,hop⟩:=hop
 split at hop
 case isFalse=>cases hop
 rename_i hsz
 obtain ⟨hsz,hm0,hok⟩:=hsz
 obtain ⟨hx1,hx2,hx3⟩:=(hρ x).cells hok
 have hra:=hρ a
 have fin: ∀ {ad:Addr} {w':World},ρc a= .pointer (some ad)→(storeVar t ad (ρc x)).run P w= .ok () w'→(execOp ρc o).run P w= .ok .skip w':=by
  intro ad w' hp hl
  simp only [execOp,ho]
  exact kA (by simp [Instr.storeAt,Instr.sureAddr,hp,hl])
 split at hop
 case h_2=>cases hop
 rename_i d1 s g i off he
 rw [he] at hra
 obtain ⟨b,ob,k,hs,hu⟩:=cp hra
 split at hop
 ·rename_i v0 hl
  split at hop
  case isFalse=>cases hop
  rename_i hi
  subst hi
  simp only [Option.map_eq_some_iff,Prod.mk.injEq] at hop
  obtain ⟨v',hv',rfl,rfl⟩:=hop
  obtain ⟨b0,k0,e0,u0,hs0,hsh,hok0,hru,hz,hf,h1c,hszu,hcell⟩:=dU (H.live hl (by simp))
  rw [hs] at hs0
  simp only [Option.some.injEq,Prod.mk.injEq] at hs0
  obtain ⟨rfl,rfl,rfl⟩:=hs0
  have hnew: ∀(c:AV),c∈(ρ x).cells→c.ok=true∧c.cells=[c]:=by
   intro c hc
   obtain ⟨j,hj⟩:=gW hc
   have hlt:=(List.getElem?_eq_some_iff.1 hj).1
   exact nf (hx3 j c _ hj (Array.getElem?_eq_getElem (by omega))) (hx2 _ (by simp))
  obtain ⟨hle,hvc,hvok⟩:=nh hv' hnew (fun _=>by omega) nj
  have hlenN:(ρc x).cells.toList.length=(ρ x).cells.length:=by simpa using hx1
  have hrun:=ng (P:=P) (u:=ρc x) (b:=b) (o:=0+0*k+off) hm (by omega) hsh (by omega) hz.2.2 hx2
  simp only [Nat.zero_mul,Nat.add_zero,Nat.zero_add] at hu hrun
  have hrow:be σ I base (w.setCells b off (ρc x).cells.toList) ⟨g,.box v' false⟩:=by
   have hk:aO I w (w.setCells b off (ρc x).cells.toList):=fO hz.1
   refine ⟨b,e0,by rw [hs,hf],?_,jb (kF (H.live hl (by simp)) hs hsh) hvok (ni hv' fun c hc=>(hnew c hc).2),fun j p hp=> ?_,⟨hz.1,hz.2.1,fun j hj=> ?_⟩⟩
   ·rw [eh,hsh,hvc,fe hle]
   ·rw [hvc,fc hle] at hp
    split at hp
    ·rename_i hj
     have hlt:=(List.getElem?_eq_some_iff.1 hp).1
     refine ⟨(ρc x).cells.toList[j-off]'(by omega),?_,hx2 _ (by simp),(hx3 (j-off) p _ hp (by simp)).mono (fun _ _ h=>h) (fun _ h=>h) hk⟩
     have:=gP (w:=w) (b:=b) (o:=off) (vs:=(ρc x).cells.toList) hsh (by omega) (j:=j-off) (by omega)
     rw [show off+(j-off)=j by omega] at this
     exact this
    ·rename_i hj
     have hlt:=(List.getElem?_eq_some_iff.1 hp).1
     have hcj:=Array.getElem?_eq_getElem (xs:=u0.cells) (i:=j) (by omega)
     refine ⟨u0.cells[j],?_,h1c _ (by simp),((hru.cells hok0).2.2 j p _ hp hcj).mono (fun _ _ h=>h) (fun _ h=>h) hk⟩
     rw [fP (by omega)]
     exact hcell j _ hcj
   ·rw [World.frozen?_setCells]
    exact hz.2.2 j (by rw [hvc,fe hle] at hj;exact hj)
  obtain ⟨H',E'⟩:=H.store hl (by simp) hs (by simp [aj,hs]) (bd':= .box v' false) (by simp [aj,hs]) hrow
  exact ⟨_,_,undef,σ,I,fin hu hrun,.inr ⟨rfl,rfl⟩,fS,H',E',fun _ _=>rfl⟩
 ·rename_i k0 e0 xs hl
  simp only [Option.bind_eq_some_iff,Prod.exists] at hop
  obtain ⟨p,h1,hp,hop⟩:=hop
  split at hop
  case h_2=>cases hop
  rename_i k1 e1 xs1 hl1
  simp only [Option.bind_eq_some_iff] at hop
  obtain ⟨y,hy,hop⟩:=hop
  split at hop
  case isFalse=>cases hop
  simp only [Option.map_eq_some_iff,Prod.mk.injEq] at hop
  obtain ⟨y',hy',rfl,rfl⟩:=hop
  obtain ⟨I1,hpr,H1,m1⟩:=fQ _ _ _ _ _ _ _ hp (hρ x) H
  have hpok:=qf hp hok
  obtain ⟨hp1,hp2,hp3⟩:=hpr.cells hpok
  have hr1:=H1.live hl1 (by simp)
  obtain ⟨b',o',n',hs',hb',hbase,_,hn,hsh,hxk,hc,hz⟩:=dV hr1
  rw [hs] at hs'
  simp only [Option.some.injEq,Prod.mk.injEq] at hs'
  obtain ⟨rfl,rfl,rfl⟩:=hs'
  have hnew: ∀(c:PV),c∈p.cells→c.ok=true∧c.cells=[c]:=by
   intro c hc
   obtain ⟨j,hj⟩:=gW hc
   have hlt:=(List.getElem?_eq_some_iff.1 hj).1
   exact qZ (hp3 j c _ hj (Array.getElem?_eq_getElem (by omega))) (hp2 _ (by simp))
  obtain ⟨hle,hvc,hvok⟩:=q0 hy' hnew (fun _=>by omega) kG
  obtain ⟨hyk,hyok⟩:=hxk y (List.mem_of_getElem? hy)
  have hi:=(List.getElem?_eq_some_iff.1 hy).1
  have hlenN:(ρc x).cells.toList.length=p.cells.length:=by simpa using hp1
  have hmul:(i+1)*k≤xs1.length*k:=Nat.mul_le_mul_right k (by omega)
  have hmul':(i+1)*k=i*k+k:=by rw [Nat.add_mul];omega
  have hin:ob+i*k+off+(ρc x).cells.toList.length≤n':=by omega
  have hrun:=ng (P:=P) (u:=ρc x) (b:=b) (o:=ob+i*k+off) hm (by omega) hsh (by omega) hz.2.2 hx2
  have hk:aO I1 w (w.setCells b (ob+i*k+off) (ρc x).cells.toList):=fO hz.1
  have hrow:be σ I1 base (w.setCells b (ob+i*k+off) (ρc x).cells.toList) ⟨g,.row k e1 (xs1.set i y') false⟩:=by
   refine ⟨b,ob,n',hs,by rw [eh];exact hsh,by simpa using hn,fun z hzm=> ?_,fun i' z hz' j q hq=> ?_,⟨hz.1,hz.2.1,fun j hj=>by rw [World.frozen?_setCells];exact hz.2.2 j hj⟩⟩
   ·rcases List.mem_or_eq_of_mem_set hzm with hmem | rfl
    ·exact hxk z hmem
    ·exact ⟨by rw [hvc,fe hle,hyk],hvok⟩
   ·rw [List.getElem?_set] at hz'
    by_cases hii:i=i'
    ·subst hii
     rw [if_pos rfl,if_pos hi] at hz'
     injection hz' with hz'
     subst hz'
     rw [hvc,fc hle] at hq
     split at hq
     ·rename_i hj
      have hlt:=(List.getElem?_eq_some_iff.1 hq).1
      refine ⟨(ρc x).cells.toList[j-off]'(by omega),?_,hx2 _ (by simp),(hp3 (j-off) q _ hq (by simp)).mono (fun _ h=>h) hk.keep⟩
      have:=gP (w:=w) (b:=b) (o:=ob+i*k+off) (vs:=(ρc x).cells.toList) hsh hin (j:=j-off) (by omega)
      rw [show ob+i*k+off+(j-off)=ob+i*k+j by omega] at this
      exact this
     ·rename_i hj
      have hlt:=(List.getElem?_eq_some_iff.1 hq).1
      obtain ⟨u,hu1,hu2,hu3⟩:=hc i y hy j q hq
      exact ⟨u,by rw [fP (by omega)];exact hu1,hu2,hu3.mono (fun _ h=>h) hk.keep⟩
    ·rw [if_neg hii] at hz'
     obtain ⟨u,hu1,hu2,hu3⟩:=hc i' z hz' j q hq
     have hjk:j<k:=by rw [←(hxk z (List.mem_of_getElem? hz')).1];exact (List.getElem?_eq_some_iff.1 hq).1
     refine ⟨u,?_,hu2,hu3.mono (fun _ h=>h) hk.keep⟩
     rw [fP]
     ·exact hu1
     ·rcases Nat.lt_or_ge i' i with hlt | hge
      ·left
       have:(i'+1)*k≤i*k:=Nat.mul_le_mul_right k (by omega)
       rw [Nat.add_mul] at this
       omega
      ·right
       have:(i+1)*k≤i'*k:=Nat.mul_le_mul_right k (by omega)
       omega
  obtain ⟨H',E'⟩:=H1.store hl1 (by simp) hs (by simp [aj,hs]) (bd':= .row k e1 (xs1.set i y') false) (by simp [aj,hs]) hrow
  exact ⟨_,_,undef,σ,I1,fin hu hrun,.inr ⟨rfl,rfl⟩,fS,H',m1.ext.trans E',fun _ _=>rfl⟩
 ·cases hop
end
end Go.Proofs.YtdbjadjdljaobaaGreatDoor.Abs

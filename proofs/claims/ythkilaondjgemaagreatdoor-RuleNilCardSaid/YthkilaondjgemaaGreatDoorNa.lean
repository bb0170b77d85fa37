/-
  The abstract machine over the model, its soundness, walks of the program's functions and what they compute. Conditions: the values are of their types.
-/
import GoSem.Dispatch
import GoSem.Instr.MapUpdate
import GoSem.Machine.Return
import Derived.Control
import Derived.Orders
import Derived.Laws.Sem
import Derived.CheckFast
import Derived.Laws.Cells
import Derived.Laws.IdiomCopy
import Derived.Laws.Entries
import Derived.Laws.NewFold
import Derived.Below
import Derived.Deep.Draws
import Derived.Laws.StructEq
import Derived.Laws.Tables
import Derived.Great.BuildSlice
import Derived.Laws.BytesString
import Derived.IntWalk

set_option linter.all false
set_option linter.unnecessarySimpa false

namespace Go.Proofs.YthkilaondjgemaaGreatDoor.Abs
open Go
inductive PV where
 | lit (v:Value)
 | sl (k:Nat) (nl full:Bool) (xs:List PV)
 | ptr (root:PV) (off:Nat)
 | agg (cells:List PV)
 | tup (vs:List PV)
 | iface (t:TypeId) (v:PV)
 | clo (f:Fn) (first captured:List PV)
 deriving Inhabited
inductive AV where
 | pv (p:PV)
 | mptr (d s g i off:Nat)
 | msl (d s g off n:Nat) (full:Bool)
 | agg (cells:List AV)
 | tup (vs:List AV)
 | clo (f:Fn) (first captured:List AV)
 | yld (d s g:Nat)
 | ifc (t:TypeId) (v:AV)
 | btag (t:TypeId)
 | mref (d s g:Nat)
 deriving Inhabited
inductive aZ where
 | normal
 | exit (id:Nat)
 | goto (l:Nat)
 | ret
 deriving DecidableEq,Inhabited
inductive fw where
 | ready
 | busy
 | done (x:aZ)
 deriving DecidableEq,Inhabited
structure ME where
 born:Nat
 key:Value
 val:AV
 deriving Inhabited
inductive aW where
 | dead
 | box (v:AV) (fz:Bool)
 | row (k:Nat) (e:TypeId) (xs:List PV) (fz:Bool)
 | iter (s:ByteArray) (pos:Nat)
 | lp (st:fw)
 | map (clock:Nat) (es:List ME)
 | mit (m:Option (Nat×Nat×Nat)) (since:Nat) (seen:List Nat) (last:Nat)
 deriving Inhabited
structure am where
 g:Nat
 b:aW
 deriving Inhabited
abbrev aa:=List (List am)
def aR {α:Type} (z:α):List α→Nat→α→List α
 | [],0,v=>[v]
 | [],n+1,v=>z::aR z [] n v
 | _::l,0,v=>v::l
 | x::l,n+1,v=>x::aR z l n v
def aC:am:=⟨0,.dead⟩
def ac (h:aa) (d s:Nat):am:=(h.getD d []).getD s aC
def hput (h:aa) (d s:Nat) (r:am):aa:=aR [] h d (aR aC (h.getD d []) s r)
def live (h:aa) (d s g:Nat):aW:=if (ac h d s).g=g then (ac h d s).b else .dead
structure St where
 t:List AV
 h:aa
 g:Nat
def eC:Value→PV
 | .slice none n c=>if n=0∧c=0 then .sl 0 true true [] else .lit (.slice none n c)
 | .func f a b=>if a.size=0∧b.size=0 then .clo f [] [] else .lit (.func f a b)
 | v=> .lit v
def av:Value→PV
 | .agg cs=>if cs.toList.all (·.oneCell') then .agg (cs.toList.map eC) else .lit (.agg cs)
 | v=>eC v
def a6:AV:= .pv (.lit undef)
def a7 (t:List AV) (i:Nat):AV:=t.getD i a6
def fA (t:List AV) (i:Nat) (v:AV):List AV:=aR a6 t i v
def bw (t:List AV):Option Tmp→AV→List AV
 | some i,v=>fA t i v
 | none,_=>t
def aB (t:List AV):Operand→AV
 | .tmp i=>a7 t i
 | .const v=> .pv (av v)
 | .global g=> .pv (.lit (.pointer (some ⟨g,0,none⟩)))
 | .func f=> .pv (.clo (.func f) [] [])
def PV.cells:PV→List PV
 | .agg cs=>cs
 | v=>[v]
def AV.cells:AV→List AV
 | .pv p=>p.cells.map .pv
 | .agg cs=>cs
 | v=>[v]
def PV.isAgg:PV→Bool
 | .agg _=>true
 | _=>false
def AV.isAgg:AV→Bool
 | .pv p=>p.isAgg
 | .agg _=>true
 | _=>false
def PV.ok:PV→Bool
 | .lit v=>v.oneCell'
 | .tup _=>false
 | _=>true
def AV.ok:AV→Bool
 | .pv p=>p.ok
 | .tup _=>false
 | _=>true
def aF:List AV→Option (List PV)
 | []=>some []
 | .pv p::l=>(aF l).map (p:: ·)
 | _::_=>none
def bY (l:List AV):AV:=match aF l with
 | some ps=> .pv (.agg ps)
 | none=> .agg l
def dp (ag:Bool) (m off:Nat) (p:PV):Option PV:=
 if ag then (if off+m≤p.cells.length then some (.agg ((p.cells.drop off).take m)) else none) else p.cells[off]?
def cU (ag:Bool) (m off:Nat):AV→Option AV
 | .pv p=>(dp ag m off p).map .pv
 | v=>if ag then (if off+m≤v.cells.length then some (bY ((v.cells.drop off).take m)) else none) else v.cells[off]?
def bq {α:Type} (l:List α) (off:Nat) (new:List α):List α:=l.take off++new++l.drop (off+new.length)
def AV.isTag:AV→Bool
 | .btag _=>true
 | _=>false
def dq:Option AV→Option TypeId
 | some (.btag t)=>some t
 | _=>none
def a8 (v:AV):Option TypeId:=dq v.cells.head?
def bS (e:TypeId) (v:AV):Bool:=v.ok&&(match a8 v with
 | some t=>t==e
 | none=>true)
def cF (v:AV) (off:Nat) (new:List AV):Option AV:=
 if off+new.length≤v.cells.length∧new.any AV.isTag=false then
  if v.isAgg then some (bY (bq v.cells off new)) else new.head?
 else none
def gJ (v:PV) (off:Nat) (new:List PV):Option PV:=
 if off+new.length≤v.cells.length then
  if v.isAgg then some (.agg (bq v.cells off new)) else new.head?
 else none
abbrev aH:=Nat×Nat
def bF (f:AV→Option (PV×List aH)):List AV→Option (List PV×List aH)
 | []=>some ([],[])
 | v::l=>(f v).bind fun (p,k1)=>(bF f l).map fun (ps,k2)=>(p::ps,k1++k2)
def pk (h:aa):Nat→AV→Option (PV×List aH)
 | 0,_=>none
 | n+1,v=>match v with
  | .pv p=>some (p,[])
  | .mptr d s g i off=>match live h d s g with
   | .box v _=>if i=0 then (pk h n v).map fun (p,ks)=>(.ptr p off,(d,s)::ks) else none
   | .row _ _ xs _=>(xs[i]?).map fun x=>(.ptr x off,[(d,s)])
   | _=>none
  | .msl d s g off m full=>match live h d s g with
   | .row k _ xs _=>if off+m≤xs.length then some (.sl k false full ((xs.drop off).take m),[(d,s)]) else none
   | _=>none
  | .agg l=>(bF (pk h n) l).map fun (ps,ks)=>(.agg ps,ks)
  | .tup l=>(bF (pk h n) l).map fun (ps,ks)=>(.tup ps,ks)
  | .clo f a b=>(bF (pk h n) a).bind fun (pa,k1)=>(bF (pk h n) b).map fun (pb,k2)=>(.clo f pa pb,k1++k2)
  | .yld .. =>none
  | .ifc t v=>(pk h n v).map fun (p,ks)=>(.iface t p,ks)
  | .btag _=>none
  | .mref .. =>none
def bf:aW→aW
 | .box v _=> .box v true
 | .row k e xs _=> .row k e xs true
 | b=>b
def mark (h:aa) (k:aH):aa:=hput h k.1 k.2 { (ac h k.1 k.2) with b:=bf (ac h k.1 k.2).b}
def marks (ks:List aH) (h:aa):aa:=ks.foldl mark h
def frz (n:Nat) (v:AV) (h:aa):Option (PV×aa):=(pk h n v).map fun (p,ks)=>(p,marks ks h)
def bn (n:Nat) (l:List AV) (h:aa):Option (List PV×aa):=(bF (pk h n) l).map fun (ps,ks)=>(ps,marks ks h)
def an:Nat:=8
def b7 {α:Type} (P:Program):Sem α→Option α
 | .pure a=>some a
 | .program k=>b7 P (k P)
 | .mark _ k=>b7 P k
 | _=>none
def dr:PV→Option Value
 | .lit v=>some v
 | .sl _ true _ _=>some (.slice none 0 0)
 | .iface t (.lit v)=>some (.iface t v)
 | _=>none
def cV:List PV→Option (List Value)
 | []=>some []
 | p::l=>(dr p).bind fun v=>(cV l).map (v:: ·)
def gK:PV→Option Value
 | .agg cs=>(cV cs).map fun l=> .agg l.toArray
 | p=>dr p
def eD:AV→Option Value
 | .pv p=>gK p
 | _=>none
def ba (v:Value):AV:= .pv (.lit v)
def fB:TypeDesc→AV→AV→Bool
 | .slice _,.msl ..,.pv (.sl _ true _ _)=>true
 | .slice _,.pv (.sl _ false _ _),.pv (.sl _ true _ _)=>true
 | .pointer _,.mptr ..,.pv (.lit (.pointer none))=>true
 | .pointer _,.pv (.ptr ..),.pv (.lit (.pointer none))=>true
 | .interface _,.pv (.iface ..),.pv (.lit .nilIface)=>true
 | .interface _,.ifc ..,.pv (.lit .nilIface)=>true
 | .func ..,.pv (.clo ..),.pv (.lit .nilFunc)=>true
 | .func ..,.clo ..,.pv (.lit .nilFunc)=>true
 | .map ..,.mref ..,.pv (.lit (.map none))=>true
 | _,_,_=>false
def fC:TypeDesc→AV→AV→Bool
 | .interface _,.pv (.iface t _),.pv (.iface t' _)=>t != t'
 | _,_,_=>false
def gL (P:Program) (t:TypeId) (a b:PV):Option Bool:=match P.underlying t,a,b with
 | some .string,.lit (.string x),.lit (.string y)=>some (x.toList==y.toList)
 | some (.int _),.lit (.int k x),.lit (.int k' y)=>if k=k' then some (x==y) else none
 | some .bool,.lit (.bool x),.lit (.bool y)=>some (x==y)
 | _,_,_=>none
def eE (P:Program):List Field→List PV→List PV→Option Bool
 | [],_,_=>some true
 | f::fs,xs,ys=>if f.name≠"_" then (xs[f.offset]?).bind fun a=>(ys[f.offset]?).bind fun b=>(gL P f.type a b).bind fun r=>(eE P fs xs ys).map fun q=>r&&q else none
def fD (P:Program) (t:TypeId) (xs ys:List PV):Option Bool:=match P.underlying t with
 | some (.struct fs)=>if P.stoodInHeld t=false∧P.eqGuardType P.depth t=false then eE P fs.toList xs ys else none
 | _=>none
def gM (P:Program) (op:BinOp) (t:TypeId) (x y:AV):Option Bool:=match x,y with
 | .pv (.agg xs),.pv (.agg ys)=>(match op with
  | .eql=>fD P t xs ys
  | .neq=>(fD P t xs ys).map (!·)
  | _=>none)
 | _,_=>none
def jy (P:Program) (op:BinOp) (t:TypeId) (xo yo:Operand) (x y:AV):Option AV:=match gM P op t x y with
 | some r=>some (ba (.bool r))
 | none=>match eD x,eD y with
 | some a,some b=>(b7 P (do eqGuard op t xo yo a b;binOp op t a b)).map ba
 | _,_=>match P.underlying t,op with
  | some d,.eql=>if fB d x y||fC d x y then some (ba (.bool false)) else none
  | some d,.neq=>if fB d x y||fC d x y then some (ba (.bool true)) else none
  | _,_=>none
def aK (P:Program) (t:TypeId):Option Nat:=(P.info? t).map (·.size)
def cW (P:Program) (t:TypeId):Option Nat:=(P.info? t).map (·.bytes)
def bK (P:Program) (t:TypeId):Option Bool:=match P.underlying t with
 | some (.struct _) | some (.array _ _)=>some true
 | some _=>some false
 | none=>none
def bo (P:Program) (t:TypeId):Option Value:=(P.info? t).bind (·.zero)
def dt (place:Nat→Option (Nat×Nat)):List AV→List (Nat×AV)→Option (List AV)
 | cells,[]=>some cells
 | cells,(i,v)::rest=>match place i with
  | none=>none
  | some (off,size)=>if v.cells.length=size∧off+size≤cells.length∧v.ok=true then dt place (bq cells off v.cells) rest else none
def dS (P:Program) (fields:Array Field):Option (List (Nat×Nat)):=
 fields.toList.mapM fun f=>(aK P f.type).map fun n=>(f.offset,n)
def cG (s:ByteArray):List PV:=s.data.toList.map fun b=> .lit (.int .u8 b.toNat)
def du:List PV→Option (List UInt8)
 | []=>some []
 | .lit (.int .u8 n)::l=>(du l).map (UInt8.ofNat n.toNat:: ·)
 | _::_=>none
def b9 (size:Nat) (h:aa):AV→Option (List PV)
 | .pv (.sl k nl _ ys)=>if nl=true then (if ys.length=0 then some [] else none) else if k=size then some ys else none
 | .pv (.lit (.string s))=>if size=1 then some (cG s) else none
 | .msl d s g off n _=>match live h d s g with
  | .row k _ xs _=>if k=size∧off+n≤xs.length then some ((xs.drop off).take n) else none
  | .box v _=>if size=1∧off+n≤v.cells.length then (aF ((v.cells.drop off).take n)).bind fun ps=>if ps.all (fun p=>p.ok&& !p.isAgg) then some ps else none else none
  | _=>none
 | _=>none
def l6:AV→Bool
 | .pv (.sl ..) | .msl .. =>true
 | _=>false
def gN:Nat:=140737488355328
def fE:Nat:=9223372036854775807
def cp (n bytes:Nat):Bool:=decide (n*bytes≤gN)&&decide (n≤fE)
def dT (e size bytes d slot gen:Nat) (h:aa) (tgt:AV) (ys:List PV):Option (AV×aa):=
 match tgt with
 | .pv (.sl k nl full xs)=>
  if ys.isEmpty then some (tgt,h)
  else if nl then (if xs.length=0∧cp ys.length bytes=true then some (.msl d slot gen 0 ys.length false,hput h d slot ⟨gen,.row size e ys false⟩) else none)
  else if full=true∧k=size∧cp (xs.length+ys.length) bytes=true then
   some (.msl d slot gen 0 (xs.length+ys.length) false,hput h d slot ⟨gen,.row size e (xs++ys) false⟩)
  else none
 | .msl d' s' g' off n full=>match live h d' s' g' with
  | .row k e' xs fz=>
   if full then
    if ys.isEmpty then some (tgt,h)
    else if k=size∧off+n≤xs.length∧cp (n+ys.length) bytes=true then
     some (.msl d slot gen 0 (n+ys.length) false,hput h d slot ⟨gen,.row size e ((xs.drop off).take n++ys) false⟩)
    else none
   else if fz=false∧k=size∧e'=e∧off+n=xs.length∧cp (n+ys.length) bytes=true then
    some (.msl d' s' gen 0 (n+ys.length) false,hput h d' s' ⟨gen,.row size e (xs.drop off++ys) false⟩)
   else none
  | _=>none
 | _=>none
def intOf?:AV→Option Int
 | .pv (.lit (.int _ i))=>some i
 | _=>none
def dv (v:Option AV) (dflt top:Nat):Option Nat:=match v with
 | none=>some dflt
 | some a=>(intOf? a).bind fun i=>if 0≤i∧i≤top then some i.toNat else none
def dU (n:Nat) (lo hi mx:Option AV):Option (Nat×Nat×Option Nat):=
 (match mx with
  | none=>some none
  | some _=>(dv mx n n).map some).bind fun m=>
 (dv hi n (m.getD n)).bind fun r=>
 (dv lo 0 r).bind fun l=>
 if (mx.isSome&&hi.isNone)=true then none else some (l,r,m)
def eF (P:Program) (t:TypeId) (h:aa) (x:AV) (lo hi mx:Option AV):Option AV:=
 match P.underlying t,x with
 | some .string,.pv (.lit (.string s))=>do
  let (l,r,m) ←dU s.size lo hi mx
  if m.isSome then none else some (ba (.string (s.extract l r)))
 | some (.slice e),.pv (.sl k nl full xs)=>do
  let (l,r,m) ←dU xs.length lo hi mx
  let size ←aK P e
  if nl=true∨k=size then
   some (.pv (.sl k nl (match m with | some m=>m==r | none=>full&&r==xs.length) ((xs.drop l).take (r-l))))
  else none
 | some (.slice e),.msl d s g off n full=>do
  let (l,r,m) ←dU n lo hi mx
  let size ←aK P e
  match live h d s g with
  | .row k _ _ _=>if k=size then some (.msl d s g (off+l) (r-l) (match m with | some m=>m==r | none=>full&&r==n)) else none
  | _=>none
 | some (.array n e),.mptr d s g i off=>do
  let (l,r,m) ←dU n lo hi mx
  let size ←aK P e
  match live h d s g with
  | .box v _=>if i=0∧size=1∧off+n≤v.cells.length then some (.msl d s g (off+l) (r-l) (m.getD n==r)) else none
  | _=>none
 | _,_=>none
def jz (fields:Array Field) (P:Program) (f:Nat):Option Nat:=(fields[f]?).bind fun fd=>(aK P fd.type).bind fun n=>if n=0 then none else some fd.offset
def cq (P:Program) (kt:TypeId):Option TypeDesc:=match P.underlying kt with
 | some (.int k)=>some (.int k)
 | some .string=>some .string
 | some .bool=>some .bool
 | _=>none
def cH (kd:TypeDesc) (k:Value):List ME→Nat→Option (Option (Nat×AV))
 | [],_=>some none
 | e::es,i=>match Instr.sameNow kd k e.key with
  | some true=>some (some (i,e.val))
  | some false=>cH kd k es (i+1)
  | none=>none
def jA (h:aa):Nat:=(h.getD 0 []).length
def dw (l:List AV):AV:=match aF l with
 | some ps=> .pv (.tup ps)
 | none=> .tup l
def eG (since:Nat) (seen:List Nat) (es:List ME):List ME:=es.filter fun e=> !seen.contains e.born&&decide (e.born<since)
def fF (since:Nat) (seen:List Nat) (es:List ME):List ME:=es.filter fun e=> !seen.contains e.born&&decide (since≤e.born)
def fG (since:Nat) (seen:List Nat) (last:Nat) (es:List ME):Option (Option ME):=
 if !seen.isEmpty&& !es.isEmpty&&es.all (fun e=>decide (last≤e.born)) then none else
 match eG since seen es,fF since seen es with
 | [],[]=>some none
 | [e],[]=>some (some e)
 | _,_=>none
def fH (P:Program) (t:TypeId):Bool:=match P.underlying t with
 | some (.slice _) | some .string=>true
 | _=>false
def cX (n:Nat):AV:=ba (.int .i64 n)
def eH (P:Program) (e t1:TypeId) (d slot gen:Nat) (h:aa) (x y:AV):Option (AV×aa):=match P.underlying t1,x,y with
 | some (.int _),.pv (.sl _ nl _ xs),.pv (.lit (.int _ n))=>do
  let size ←aK P e
  let bytes ←cW P e
  let z ←bo P e
  if size=0∨z.cells.size≠size then none else
  if nl=true∧xs.length=0∧1≤n∧cp n.toNat bytes=true then some (.msl d slot gen 0 n.toNat false,hput h d slot ⟨gen,.row size e [] false⟩) else none
 | _,_,_=>none
def cb (P:Program) (b:Builtin) (argTypes:Array TypeId) (type:TypeId) (d slot gen:Nat) (h:aa) (args:List AV):Option (AV×aa):=
 match b,args with
 | .len,[x]=>match (argTypes[0]?).bind P.underlying,x with
  | some (.slice _),.pv (.sl _ _ _ xs)=>some (cX xs.length,h)
  | some (.slice _),.msl _ _ _ _ n _=>some (cX n,h)
  | some .string,.pv (.lit (.string s))=>some (cX s.size,h)
  | some (.array n _),_=>some (cX n,h)
  | _,_=>none
 | .cap,[x]=>match (argTypes[0]?).bind P.underlying,x with
  | some (.slice _),.pv (.sl _ nl true xs)=>if nl=false∨xs.length=0 then some (cX xs.length,h) else none
  | some (.slice _),.msl _ _ _ _ n true=>some (cX n,h)
  | _,_=>none
 | .append,[x,y]=>match argTypes.toList with
  | [t0,t1]=>match P.underlying t0,fH P t1 with
   | some (.slice e),true=>do
    let size ←aK P e
    let bytes ←cW P e
    let z ←bo P e
    let ys ←b9 size h y
    if size=0∨z.cells.size≠size then none else dT e size bytes d slot gen h x ys
   | some (.slice e),false=>eH P e t1 d slot gen h x y
   | _,_=>none
  | _=>none
 | .clear,[x]=>match (argTypes[0]?).bind P.underlying,x with
  | some (.slice e),.msl d s g off n _=>(bo P e).bind fun z=>match live h d s g with
   | .box v false=>if n≠0∧(av z).ok=true∧(av z).isAgg=false then
     (cF v off (List.replicate n (.pv (av z)))).map fun v'=>(a6,hput h d s ⟨g,.box v' false⟩)
    else if n=0 then some (a6,h) else none
   | .row k e' xs false=>if n=0 then some (a6,h) else
     if (av z).ok=true∧(av z).cells.length=k∧k≠0∧off+n≤xs.length then some (a6,hput h d s ⟨g,.row k e' (bq xs off (List.replicate n (av z))) false⟩) else none
   | _=>none
  | _,_=>none
 | .unsafeSliceData,[x]=>match x with
  | .pv (.sl _ true _ _)=>some (ba (.pointer none),h)
  | .msl d s g off (_+1) _=>some (.mptr d s g off 0,h)
  | _=>none
 | .unsafeString,[p,n]=>match p,n with
  | .pv (.lit (.pointer none)),.pv (.lit (.int .i64 0))=>(argTypes[0]?).map fun _=>(ba (.string ⟨#[]⟩),h)
  | .mptr d s g off 0,.pv (.lit (.int .i64 n))=>match live h d s g with
   | .row 1 e xs false=>match (argTypes[0]?).bind P.underlying with
    | some (.pointer e')=>if 1≤n∧n≤9223372036854775807∧off+n.toNat≤xs.length∧e'=e∧P.cellsOf e=1 then
      (du ((xs.drop off).take n.toNat)).map fun bs=>(ba (.string ⟨bs.toArray⟩),hput h d s ⟨g,.row 1 e xs true⟩) else none
    | _=>none
   | _=>none
  | _,_=>none
 | .max,_=>((aF args).bind cV).bind fun vs=>(b7 P (Builtin.max_ argTypes type vs.toArray)).map fun v=>(ba v,h)
 | .min,_=>((aF args).bind cV).bind fun vs=>(b7 P (Builtin.min_ argTypes type vs.toArray)).map fun v=>(ba v,h)
 | _,_=>none
def bG (P:Program) (b:Builtin) (argTypes:Array TypeId) (h:aa) (args:List AV):Option (AV×aa):=match b,args with
 | .len,[x]=>match (argTypes[0]?).bind P.underlying,x with
  | some (.map _ _),.pv (.lit (.map none))=>some (cX 0,h)
  | some (.map _ _),.mref d s g=>match live h d s g with
   | .map _ es=>some (cX es.length,h)
   | _=>none
  | _,_=>none
 | .delete,[m,k]=>match (argTypes[0]?).bind P.underlying,m,k with
  | some (.map kt _),.mref d s g,.pv (.lit key)=>match live h d s g with
   | .map clock es=>(cq P kt).bind fun kd=>match cH kd key es 0 with
    | some (some (i,_))=>some (.pv (.tup []),hput h d s ⟨g,.map clock (es.eraseIdx i)⟩)
    | some none=>some (.pv (.tup []),h)
    | none=>none
   | _=>none
  | _,_,_=>none
 | .clear,[x]=>match (argTypes[0]?).bind P.underlying,x with
  | some (.map _ _),.mref d s g=>match live h d s g with
   | .map clock _=>some (.pv (.tup []),hput h d s ⟨g,.map clock []⟩)
   | _=>none
  | _,_=>none
 | _,_=>none
def l7 (P:Program):TypeDesc→Bool
 | .pointer e=>match P.underlying e with
  | some (.pointer _)=>true
  | _=>false
 | _=>false
def fI (P:Program) (e:TypeId) (p:PV):AV:=match (P.info? e).map TypeInfo.desc,p with
 | some (.named "strings.Builder" _),.agg (.lit (.pointer none)::l)=> .agg (.btag e::l.map .pv)
 | _,_=> .pv p
def dV (want:Array (String×TypeId)) (got:Array Method):Bool:=want.toList.any fun q=> !got.any fun m=>m.name==q.1&&m.sig==q.2
def jB (P:Program) (_x:Operand) (_xT aT:TypeId) (ok:Bool) (v:AV):Option AV:=
 let fails:Option AV:=if ok then (bo P aT).map fun z=> .pv (.tup [av z,.lit (.bool false)]) else none
 let holds (p:PV):Option AV:=some (.pv (if ok then .tup [p,.lit (.bool true)] else p))
 match P.underlying aT,v with
 | some _,.pv (.lit .nilIface)=>fails
 | some (.interface want),.pv (.iface t p)=>(P.info? t).bind fun i=>match dV want i.methods with
  | false=>holds (.iface t p)
  | true=>fails
 | some _,.pv (.iface t p)=>if t=aT then holds p else fails
 | _,_=>none
def gO (P:Program) (v:AV) (name:String):Option (FuncId×AV):=match v with
 | .pv (.iface t p)=>((P.info? t).bind fun i=>i.methods.find? (·.name==name)).bind fun m=>
  if m.path.isEmpty then match m.func,P.underlying t with
   | some (f,true),some (.pointer _)=>some (f,.pv p)
   | some (_,false),some (.pointer _)=>none
   | some (f,false),some _=>some (f,.pv p)
   | _,_=>none
  else none
 | _=>none
abbrev K2:=Nat×Nat
def bC:List K2→K2→Option Nat
 | [],_=>none
 | k::ks,x=>if k.1==x.1&&k.2==x.2 then some 0 else (bC ks x).map (· +1)
def aX (ρ:K2→K2):Nat→AV→AV
 | 0,v=>v
 | n+1,v=>match v with
  | .mptr d s g i off=> .mptr (ρ (d,s)).1 (ρ (d,s)).2 g i off
  | .msl d s g off m full=> .msl (ρ (d,s)).1 (ρ (d,s)).2 g off m full
  | .mref d s g=> .mref (ρ (d,s)).1 (ρ (d,s)).2 g
  | .agg l=> .agg (l.map (aX ρ n))
  | .tup l=> .tup (l.map (aX ρ n))
  | .clo f a b=> .clo f (a.map (aX ρ n)) (b.map (aX ρ n))
  | .ifc t v=> .ifc t (aX ρ n v)
  | v=>v
def gP (ρ:K2→K2):aW→aW
 | .box v fz=> .box (aX ρ an v) fz
 | .map c es=> .map c (es.map fun e=> { e with val:=aX ρ an e.val})
 | b=>b
def cI (lo:Nat):Nat→AV→List K2
 | 0,_=>[]
 | n+1,v=>match v with
  | .mptr d s .. | .msl d s .. | .mref d s _=>if lo≤d then [(d,s)] else []
  | .agg l | .tup l=>l.flatMap (cI lo n)
  | .clo _ a b=>a.flatMap (cI lo n)++b.flatMap (cI lo n)
  | .ifc _ v=>cI lo n v
  | _=>[]
def l8 (lo:Nat):aW→List K2
 | .box v _=>cI lo an v
 | .map _ es=>es.flatMap fun e=>cI lo an e.val
 | _=>[]
def eI (h:aa) (lo:Nat):Nat→List K2→List K2→List K2
 | 0,_,acc=>acc
 | _+1,[],acc=>acc
 | n+1,k::todo,acc=>if (bC acc k).isSome then eI h lo n todo acc else eI h lo n (todo++l8 lo (ac h k.1 k.2).b) (acc++[k])
def fJ (ρ:K2→K2):List K2→Nat→aa→aa
 | [],_,h=>h
 | k::ks,n,h=>fJ ρ ks (n+1) (hput (hput h k.1 k.2 aC) 0 n ⟨(ac h k.1 k.2).g,gP ρ (ac h k.1 k.2).b⟩)
def gQ:Nat:=400
def dW (ks:List K2) (h:aa) (v:AV):AV×aa:=
 let ρ:K2→K2:=fun k=>match bC ks k with
  | some i=>(0,jA h+i)
  | none=>k
 (aX ρ an v,fJ ρ ks (jA h) h)
def l9:aW→Bool
 | .map .. =>true
 | _=>false
def eJ (h:aa) (v:AV):Option (AV×aa):=match v with
 | .mptr .. | .mref .. | .msl .. =>some (dW (eI h 1 gQ (cI 1 an v) []) h v)
 | v=>(frz an v h).map fun (p,h1)=>(.pv p,h1)
def ah (P:Program) (o:Oper) (ρ:Operand→AV) (d gen:Nat) (h:aa):Option (AV×aa):=
 match o.op with
 | .move x | .assign x=>some (ρ x,h)
 | .pick c a b=>match ρ c with
  | .pv (.lit (.bool t))=>some (if t then ρ a else ρ b,h)
  | _=>none
 | .alloc e=>do
  let z ←bo P e
  let s ←o.dst
  if (av z).ok then some (.mptr d s gen 0 0,hput h d s ⟨gen,.box (fI P e (av z)) false⟩) else none
 | .box _ x=>do
  let s ←o.dst
  if (ρ x).ok∧(a8 (ρ x)).isNone=true then some (.mptr d s gen 0 0,hput h d s ⟨gen,.box (ρ x) false⟩) else none
 | .build t parts=>do
  let z ←bo P t
  let cells:=(av z).cells.map AV.pv
  if (av z).ok then match P.underlying t with
  | some (.struct fields)=>do
   let pl ←dS P fields
   let cs ←dt (pl[·]?) cells (parts.toList.map fun (i,x)=>(i,ρ x))
   some (bY cs,h)
  | some (.array _ e)=>do
   let size ←aK P e
   let cs ←dt (fun i=>some (i*size,size)) cells (parts.toList.map fun (i,x)=>(i,ρ x))
   some (bY cs,h)
  | _=>none
  else none
 | .buildSlice t len parts=>match P.underlying t with
  | some (.slice e)=>do
   let size ←aK P e
   if len=0∧parts.size=0 then some (.pv (.sl size false true []),h) else do
   let z ←bo P e
   let s ←o.dst
   if len*size≤16777216∧len*size≠0∧(av z).cells.length=size∧(av z).ok=true then do
    let (ps,h1) ←bn an (parts.toList.map fun q=>ρ q.2) h
    if (ps.all fun p=>p.cells.length==size&&p.ok)&&(parts.toList.all fun q=>decide (q.1<len)) then
     let xs:=((parts.toList.map (·.1)).zip ps).foldl (fun l q=>l.set q.1 q.2) (List.replicate len (av z))
     some (.msl d s gen 0 len true,hput h1 d s ⟨gen,.row size e xs false⟩)
    else none
   else none
  | _=>none
 | .load t a=>do
  let m ←aK P t
  let ag ←bK P t
  match ρ a with
  | .mptr d s g i off=>match live h d s g with
   | .box v _=>if i=0 then (cU ag m off v).map (·,h) else none
   | .row _ _ xs _=>(xs[i]?).bind fun x=>(dp ag m off x).map fun p=>(.pv p,h)
   | _=>none
  | .pv (.ptr root off)=>(dp ag m off root).map fun p=>(.pv p,h)
  | _=>none
 | .store t a x=>do
  let m ←aK P t
  if (ρ x).cells.length=m∧m≠0∧(ρ x).ok=true then
   match ρ a with
   | .mptr d s g i off=>match live h d s g with
    | .box v false=>if i=0 then (cF v off (ρ x).cells).map fun v'=>(a6,hput h d s ⟨g,.box v' false⟩) else none
    | .row _ _ _ false=>(frz an (ρ x) h).bind fun (p,h1)=>match live h1 d s g with
     | .row k e xs false=>(xs[i]?).bind fun y=>if off+p.cells.length≤y.cells.length then (gJ y off p.cells).map fun y'=>(a6,hput h1 d s ⟨g,.row k e (xs.set i y') false⟩) else none
     | _=>none
    | _=>none
   | _=>none
  else none
 | .nilCheck x=>match ρ x with
  | .mptr d s g i off=>some (.mptr d s g i off,h)
  | .pv (.ptr r off)=>some (.pv (.ptr r off),h)
  | .pv (.clo (.func f) a b)=>some (.pv (.clo (.func f) a b),h)
  | .clo (.func f) a b=>some (.clo (.func f) a b,h)
  | .pv (.iface t p)=>some (.pv (.iface t p),h)
  | _=>none
 | .binOp op t x y _=>(jy P op t x y (ρ x) (ρ y)).map (·,h)
 | .unOp op _ x=>(eD (ρ x)).bind fun v=>(b7 P (Op.unary op v)).map fun r=>(ba r,h)
 | .convert src dst x=>match P.underlying src,P.underlying dst,ρ x with
  | some .string,some (.slice e),.pv (.lit (.string s))=>match P.underlying e,o.dst with
   | some (.int .u8),some sl=>if s.size≤fE then some (.msl d sl gen 0 s.size false,hput h d sl ⟨gen,.row 1 e (cG s) false⟩) else none
   | _,_=>none
  | some (.slice e),some .string,x=>match P.underlying e with
   | some (.int .u8)=>if l6 x then (b9 1 h x).bind fun l=>(du l).map fun bs=>(ba (.string ⟨bs.toArray⟩),h) else none
   | _=>none
  | _,_,x=>(eD x).bind fun v=>(b7 P (convert src dst v)).map fun r=>(ba r,h)
 | .makeInterface t x=>match P.underlying t with
  | some (.interface _) | none=>none
  | some d=>if l7 P d then some (.ifc t (ρ x),h) else (frz an (ρ x) h).map fun (p,h1)=>(.pv (.iface t p),h1)
 | .typeAssert x xT aT ok=>(jB P x xT aT ok (ρ x)).map (·,h)
 | .makeFunc fn first captured=>match aF (first.toList.map ρ),aF (captured.toList.map ρ) with
  | some a,some b=>some (.pv (.clo fn a b),h)
  | _,_=>some (.clo fn (first.toList.map ρ) (captured.toList.map ρ),h)
 | .makeSlice t l c=>match P.underlying t with
  | some (.slice e)=>do
   let size ←aK P e
   let bytes ←cW P e
   let z ←bo P e
   let s ←o.dst
   let l ←intOf? (ρ l)
   let c ←intOf? (ρ c)
   if 0≤l∧l≤c∧cp c.toNat bytes=true∧size≠0∧(av z).cells.length=size∧(av z).ok=true then
    some (.msl d s gen 0 l.toNat (decide (l=c)),hput h d s ⟨gen,.row size e (List.replicate l.toNat (av z)) false⟩)
   else none
  | _=>none
 | .slice t x lo hi mx=>(eF P t h (ρ x) (lo.map ρ) (hi.map ρ) (mx.map ρ)).map (·,h)
 | .fieldAddr st x f=>match P.underlying st with
  | some (.struct fields)=>(jz fields P f).bind fun off=>match ρ x with
   | .mptr d s g i o=>some (.mptr d s g i (o+off),h)
   | .pv (.ptr r o)=>some (.pv (.ptr r (o+off)),h)
   | _=>none
  | _=>none
 | .indexAddr t x ix=>(intOf? (ρ ix)).bind fun i=>match P.underlying t,ρ x with
  | some (.slice e),.pv (.sl k nl _ xs)=>(aK P e).bind fun size=>if 0≤i∧nl=false∧k=size then (xs[i.toNat]?).map fun y=>(.pv (.ptr y 0),h) else none
  | some (.slice e),.msl d s g off n _=>(aK P e).bind fun size=>match live h d s g with
   | .row k _ _ _=>if 0≤i∧i<n∧k=size then some (.mptr d s g (off+i.toNat) 0,h) else none
   | _=>none
  | some (.array n e),.mptr d s g j o=>(aK P e).bind fun size=>if 0≤i∧i<n then some (.mptr d s g j (o+i.toNat*size),h) else none
  | some (.array n e),.pv (.ptr r o)=>(aK P e).bind fun size=>if 0≤i∧i<n then some (.pv (.ptr r (o+i.toNat*size)),h) else none
  | _,_=>none
 | .index t x ix=>match P.underlying t,ρ x,ρ ix with
  | some .string,.pv (.lit (.string s)),.pv (.lit (.int _ i))=>if h0:0≤i∧i.toNat<s.size then some (ba (.int .u8 (s[i.toNat]'h0.2).toNat),h) else none
  | some (.array n e),v,.pv (.lit (.int _ i))=>if 0≤i∧i<n then (aK P e).bind fun size=>(bK P e).bind fun ag=>if v.isAgg then (cU ag size (i.toNat*size) v).map (·,h) else none else none
  | _,_,_=>none
 | .field t x f=>match P.underlying t with
  | some (.struct fields)=>(fields[f]?).bind fun fd=>(aK P fd.type).bind fun size=>(bK P fd.type).bind fun ag=>if (ρ x).isAgg then (cU ag size fd.offset (ρ x)).map (·,h) else none
  | _=>none
 | .extract x i=>match ρ x with
  | .pv (.tup vs)=>(vs[i]?).map fun p=>(.pv p,h)
  | .tup vs=>(vs[i]?).map (·,h)
  | _=>none
 | .range t x=>match P.underlying t,ρ x,o.dst with
  | some .string,.pv (.lit (.string s)),some sl=>some (.mptr d sl gen 0 0,hput h d sl ⟨gen,.iter s 0⟩)
  | some (.map _ _),.pv (.lit (.map none)),some sl=>some (.mptr d sl gen 0 0,hput h d sl ⟨gen,.mit none 0 [] 0⟩)
  | some (.map _ _),.mref d' s' g',some sl=>match live h d' s' g' with
   | .map clock _=>some (.mptr d sl gen 0 0,hput h d sl ⟨gen,.mit (some (d',s',g')) clock [] clock⟩)
   | _=>none
  | _,_,_=>none
 | .makeMap _ none=>o.dst.map fun s=>(.mref d s gen,hput h d s ⟨gen,.map 0 []⟩)
 | .lookup mt m k ok=>match P.underlying mt,ρ m,ρ k with
  | some (.map kt vt),.pv (.lit (.map none)),.pv (.lit _)=>(cq P kt).bind fun _=>(bo P vt).map fun z=>(if ok then .pv (.tup [av z,.lit (.bool false)]) else .pv (av z),h)
  | some (.map kt vt),.mref d s g,.pv (.lit key)=>match live h d s g with
   | .map _ es=>(cq P kt).bind fun kd=>match cH kd key es 0 with
    | some (some (_,v))=>some (if ok then dw [v,ba (.bool true)] else v,h)
    | some none=>(bo P vt).map fun z=>(if ok then .pv (.tup [av z,.lit (.bool false)]) else .pv (av z),h)
    | none=>none
   | _=>none
  | _,_,_=>none
 | .mapUpdate mt m k x | .insert mt m k x=>match P.underlying mt,ρ m,ρ k with
  | some (.map kt _),.mref d s g,.pv (.lit key)=>(cq P kt).bind fun kd=>(eJ h (ρ x)).bind fun (v,h1)=>match live h1 d s g with
   | .map clock es=>match cH kd key es 0 with
    | some (some (i,_))=>some (a6,hput h1 d s ⟨g,.map clock (es.set i ⟨((es[i]?).map (·.born)).getD 0,key,v⟩)⟩)
    | some none=>some (a6,hput h1 d s ⟨g,.map (clock+1) (es++[⟨clock,key,v⟩])⟩)
    | none=>none
   | _=>none
  | _,_,_=>none
 | .entry it=>match ρ it with
  | .mptr d s g 0 0=>match live h d s g with
   | .mit (some (d',s',g')) _ seen last=>match live h d' s' g' with
    | .map clock es=>match seen.getLast? with
     | some stamp=>if clock=last then (es.find? fun e=>e.born==stamp).map fun e=>(dw [.pv (.lit e.key),e.val],h) else none
     | none=>none
    | _=>none
   | _=>none
  | _=>none
 | .next it false=>match ρ it with
  | .mptr d s g 0 0=>match live h d s g with
   | .mit none _ _ _=>some (.pv (.tup [.lit (.bool false)]),h)
   | .mit (some (d',s',g')) since seen last=>match live h d' s' g' with
    | .map clock es=>match fG since seen last es with
     | some none=>some (.pv (.tup [.lit (.bool false)]),h)
     | some (some e)=>some (dw [ba (.bool true),.pv (.lit e.key),e.val],hput h d s ⟨g,.mit (some (d',s',g')) since (seen++[e.born]) clock⟩)
     | none=>none
    | _=>none
   | _=>none
  | _=>none
 | .next it true=>match ρ it with
  | .mptr d s g 0 0=>match live h d s g with
   | .iter b pos=>if pos<b.size then
     some (.pv (.tup [.lit (.bool true),.lit (.int .i64 pos),.lit (.int .i32 (Utf8.decode b pos).1)]),hput h d s ⟨g,.iter b (pos+(Utf8.decode b pos).2)⟩)
    else some (.pv (.tup [.lit (.bool false)]),h)
   | _=>none
  | _=>none
 | .call { callee:= .builtin b,args,argTypes} =>match bG P b argTypes h (args.toList.map ρ) with
  | some r=>some r
  | none=>cb P b argTypes o.type d (o.dst.getD 0) gen h (args.toList.map ρ)
 | _=>none
structure ao where
 P:Program
 intr:FuncId→Option (List PV→Option PV)
 inl:FuncId→Bool
 own:FuncId→Bool
 can:FuncId→Bool
 rd:FuncId→Bool
 asf:FuncId→TypeId→Option TypeId
 asm:TypeId→Bool:=fun _=>false
 bad:Array Oper→Bool
 ckf:FuncId→Option TypeId
 ok:FuncId→Bool
 gl:(Nat→Prop)→World→Prop
 glm: ∀(I I':Nat→Prop) (w w':World),gl I w→(∀b,I b→I' b)→(∀b,I b→w'.heap[b]? =w.heap[b]?)→gl I' w'
abbrev eK:=List AV→aa→Nat→Option (Bool×aa×Nat)
abbrev Ys:=List (Nat×eK)
def Ys.get?:Ys→Nat→Option eK
 | [],_=>none
 | (k,x)::l,g=>if k=g then some x else Ys.get? l g
abbrev bi:=Ys→FuncId→List AV→Nat→Nat→Nat→aa→Nat→Option (AV×aa×Nat)
def bT:Nat→AV→Bool
 | 0,_=>true
 | n+1,v=>match v with
  | .pv _ | .msl .. =>false
  | .mptr .. | .yld .. =>true
  | .agg l | .tup l=>l.any (bT n)
  | .clo _ a b=>a.any (bT n)||b.any (bT n)
  | .ifc _ v=>bT n v
  | .btag _=>true
  | .mref .. =>true
def eL:Nat→Nat→AV→Bool
 | 0,_,_=>true
 | n+1,dc,v=>match v with
  | .pv _=>false
  | .msl d .. | .mptr d .. | .yld d .. | .mref d .. =>decide (dc≤d)
  | .agg l | .tup l=>l.any (eL n dc)
  | .clo _ a b=>a.any (eL n dc)||b.any (eL n dc)
  | .ifc _ v=>eL n dc v
  | .btag _=>false
def cJ:AV→Option (FuncId×List AV×List AV)
 | .pv (.clo (.func f) a b)=>some (f,a.map .pv,b.map .pv)
 | .clo (.func f) a b=>some (f,a,b)
 | _=>none
inductive gR where
 | pu | rd | fz | al | eff
 deriving DecidableEq,Inhabited
def ma (P:Program) (f:FuncId):Bool:=match P.funcs[f]? with
 | some fn=>fn.params.any fun t=>match P.underlying t with
  | some (.pointer _) | some (.func ..)=>true
  | _=>false
 | none=>true
def dx (P:Program) (t:TypeId):Bool:=match P.underlying t with
 | some (.slice _)=>true
 | _=>false
def dX (h:aa) (d:Nat):Option Tmp→Bool
 | some s=>match (ac h d s).b with
  | .dead=>true
  | _=>false
 | none=>false
def aY (E:ao) (o:Oper):gR:=match o.op with
 | .convert src dst _=>if dx E.P src||dx E.P dst then .eff else .pu
 | .typeAssert .. | .move _ | .assign _ | .pick .. | .nilCheck _ | .binOp .. | .unOp .. | .makeFunc .. | .fieldAddr .. | .extract .. | .build .. | .field .. | .index .. => .pu
 | .load .. | .indexAddr .. | .slice .. | .lookup .. => .rd
 | .makeInterface .. => .fz
 | .alloc _ | .box .. | .makeMap .. => .al
 | .call { callee:= .builtin .len,argTypes,..} =>match (argTypes[0]?).bind E.P.underlying with
  | some (.map _ _)=> .rd
  | _=> .pu
 | .call { callee:= .builtin .cap,..} | .call { callee:= .builtin .max,..} | .call { callee:= .builtin .min,..} | .call { callee:= .builtin .unsafeSliceData,..} => .pu
 | .call { callee:= .value (.func f),..} =>if E.own f||(E.inl f||E.rd f)||ma E.P f then .eff else .fz
 | _=> .eff
def bj (E:ao) (call:bi) (ys:Ys) (st:Bool) (d gen:Nat) (o:Oper) (ρ:Operand→AV) (h:aa) (g:Nat):Option (AV×aa×Nat):=
 match o.op with
 | .call { callee:= .value f,args,..} =>match ρ f with
  | .yld _ _ gl=>(ys.get? gl).bind fun hd=>(hd (args.toList.map ρ) h g).map fun (b,h,g)=>(ba (.bool b),h,g)
  | fv=>(cJ fv).bind fun (fid,a,b)=>
   if st&&(aY E o== .fz)&&(a++args.toList.map ρ++b).any (bT an) then none else
   call ys fid (a++args.toList.map ρ++b) d (o.dst.getD 0) gen h g
 | .call { callee:= .invoke r m,args,..} =>(gO E.P (ρ r) m).bind fun (fid,rv)=>call ys fid ([rv]++args.toList.map ρ) d (o.dst.getD 0) gen h g
 | _=>if st&&(aY E o== .al)&& !dX h d o.dst then none else (ah E.P o ρ d gen h).map fun (v,h)=>(v,h,g)
def cr:AV→Option Bool
 | .pv (.lit (.bool b))=>some b
 | _=>none
def cc (all:Array Oper) (t:List AV) (o:Oper):Bool:=match o.guard with
 | none=>true
 | some (j,want)=>(((all[j]?).bind (·.dst)).bind fun i=>cr (a7 t i))==some want
def cK (E:ao) (call:bi) (ys:Ys) (st:Bool) (d gb:Nat) (all:Array Oper) (i:Nat) (o:Oper) (t:List AV) (h:aa) (g:Nat):Option (AV×aa×Nat):=
 if cc all t o then bj E call ys st d (gb+i) o (aB t) h g else some (a6,h,g)
def bp (E:ao) (call:bi) (ys:Ys) (st:Bool) (d gb:Nat) (all:Array Oper) (i:Nat) (o:Oper) (s:St):Option St:=
 (cK E call ys st d gb all i o s.t s.h s.g).map fun (v,h,g)=> { t:=bw s.t o.dst v,h,g}
def eM (E:ao) (call:bi) (ys:Ys) (st:Bool) (d gb:Nat) (all:Array Oper):List Oper→Nat→St→Option St
 | [],_,s=>some s
 | o::os,i,s=>(bp E call ys st d gb all i o s).bind (eM E call ys st d gb all os (i+1))
def dy (body:St→Option (aZ×St)):Nat→St→Option (aZ×St)
 | 0,_=>none
 | n+1,s=>match body s with
  | some (.normal,s')=>dy body n s'
  | r=>r
def dz (E:ao) (d:Nat):List Oper→aa→aa
 | [],h=>h
 | o::os,h=>dz E d os (match aY E o,o.dst with
  | .al,some s=>hput h d s aC
  | _,_=>h)
def dA:List Tmp→List AV→List AV→List AV
 | p::ps,v::vs,t=>dA ps vs (fA t p v)
 | _,_,t=>t
def eN (E:ao) (f:FuncId):Bool:=E.ok f&&(E.intr f).isNone&&(match E.P.funcs[f]? with
 | some fn=>fn.body.isSome
 | none=>false)
def fK (assign body:St→Option (aZ×St)) (ps:Array Tmp) (t:List AV) (d slot gen:Nat):eK:=fun args h g=>
 if args.length=ps.size then match live h d slot gen with
  | .lp .ready=>match assign { t:=dA ps.toList args t,h,g} with
   | some (.normal,s1)=>match live s1.h d slot gen with
    | .lp .ready=>match body { s1 with h:=hput s1.h d slot ⟨gen,.lp .busy⟩} with
     | some (x,s2)=>match live s2.h d slot gen with
      | .lp .busy=>if x= .normal then some (true,hput s2.h d slot ⟨gen,.lp .ready⟩,s2.g) else some (false,hput s2.h d slot ⟨gen,.lp (.done x)⟩,s2.g)
      | _=>none
     | none=>none
    | _=>none
   | _=>none
  | _=>none
 else none
def bx (E:ao) (ops:Array Oper) (x y:Oper):Bool:=Oper.apart ops x y&&(match aY E x,aY E y with
 | .pu,_ | _,.pu=>true
 | .eff,_ | _,.eff=>false
 | .al,.rd | .al,.fz=>false
 | _,_=>true)
def cY (i:Nat) (o:Oper):Bool:=o.after.all fun e=> !Region.binds .any e||decide (e.on<i)
def cd (i:Nat) (acc:List Nat) (j:Nat):Nat:=if j<i then acc.getD (i-1-j) 0 else 0
def fL (E:ao) (ops:Array Oper) (o:Oper) (v:Nat):List Oper→Nat→Bool
 | [],_=>true
 | x::xs,j=>(v.testBit j||bx E ops x o)&&fL E ops o v xs (j+1)
def fM (E:ao) (ops:Array Oper) (l:List Oper):List Oper→Nat→List Nat→Bool
 | [],_,_=>true
 | o::rest,i,acc=>CheckFast.force (CheckFast.one (cd i acc) o) fun v=>
  cY i o&&fL E ops o v (l.take i) 0&&fM E ops l rest (i+1) (v::acc)
def gS (E:ao) (ops:Array Oper):Bool:=fM E ops ops.toList ops.toList 0 []
structure bg where
 r:List K2
 w:List K2
def aA:AV→List K2
 | .mptr d s .. | .msl d s .. | .mref d s _=>[(d,s)]
 | _=>[]
def dY (E:ao) (d:Nat) (o:Oper) (ρ:Operand→AV):Option bg:=match aY E o with
 | .pu=>some ⟨[],[]⟩
 | .al=>o.dst.map fun s=>⟨[(d,s)],[(d,s)]⟩
 | .rd=>match o.op with
  | .load _ a | .indexAddr _ a _ | .lookup _ a _ _=>some ⟨aA (ρ a),[]⟩
  | _=>none
 | .fz=>match o.op with
  | .call { callee:= .value (.func _),args,..} =>if (aF (args.toList.map ρ)).isSome then some ⟨[],[]⟩ else none
  | _=>none
 | .eff=>match o.op with
  | .store _ a x=>if (aF [ρ x]).isSome then some ⟨aA (ρ a),aA (ρ a)⟩ else none
  | .mapUpdate _ m _ x | .insert _ m _ x=>if (aF [ρ x]).isSome then some ⟨aA (ρ m),aA (ρ m)⟩ else none
  | .buildSlice _ _ parts=>if (aF (parts.toList.map fun q=>ρ q.2)).isSome then some ⟨[],o.dst.toList.map fun s=>(d,s)⟩ else none
  | .call { callee:= .builtin .append,args,..} =>some ⟨(d,o.dst.getD 0)::args.toList.flatMap (fun x=>aA (ρ x)),(d,o.dst.getD 0)::args.toList.flatMap (fun x=>aA (ρ x))⟩
  | _=>none
def ct (E:ao) (d:Nat) (all:Array Oper) (o:Oper) (t:List AV):Option bg:=if cc all t o then dY E d o (aB t) else some ⟨[],[]⟩
def eO (E:ao) (call:bi) (ys:Ys) (d gb:Nat) (all:Array Oper):List Oper→Nat→St→Option (St×List (Option bg))
 | [],_,s=>some (s,[])
 | o::os,i,s=>(bp E call ys true d gb all i o s).bind fun s1=>(eO E call ys d gb all os (i+1) s1).map fun q=>(q.1,ct E d all o s.t::q.2)
def fN (a b:bg):Bool:=a.w.all (fun k=>(bC b.r k).isNone&&(bC b.w k).isNone)&&b.w.all (fun k=>(bC a.r k).isNone)
def fO:Option bg→Option bg→Bool
 | some a,some b=>fN a b
 | _,_=>false
def fP (E:ao) (ops:Array Oper) (o:Oper) (v:Nat) (fo:Option bg):List Oper→List (Option bg)→Nat→Bool
 | [],_,_=>true
 | x::xs,φ,j=>(v.testBit j||(bx E ops x o||(Oper.apart ops x o&&fO (φ.headD none) fo)))&&fP E ops o v fo xs φ.tail (j+1)
def fQ (E:ao) (ops:Array Oper) (φ:List (Option bg)) (l:List Oper):List Oper→Nat→List Nat→Bool
 | [],_,_=>true
 | o::rest,i,acc=>CheckFast.force (CheckFast.one (cd i acc) o) fun v=>
  cY i o&&fP E ops o v (φ.getD i none) (l.take i) φ 0&&fQ E ops φ l rest (i+1) (v::acc)
def mb (E:ao) (ops:Array Oper) (φ:List (Option bg)):Bool:=fQ E ops φ ops.toList ops.toList 0 []
def aS (E:ao) (call:bi) (ys:Ys) (d fuel:Nat):Code→St→Option (aZ×St)
 | .skip,s | .label _,s=>some (.normal,s)
 | .ret,s=>some (.ret,s)
 | .exit id,s=>some (.exit id,s)
 | .goto l,s=>some (.goto l,s)
 | .region _ ops draw,s=>if draw&&E.bad ops then
   (eO E call ys d s.g ops ops.toList 0 { s with h:=dz E d ops.toList s.h,g:=s.g+ops.size}).bind fun (s',φ)=>if mb E ops φ then some (.normal,s') else none
  else
  (eM E call ys draw d s.g ops ops.toList 0 { s with h:=if draw then dz E d ops.toList s.h else s.h,g:=s.g+ops.size}).map fun s'=>(.normal,s')
 | .seq a b,s=>match aS E call ys d fuel a s with
  | some (.normal,s')=>aS E call ys d fuel b s'
  | r=>r
 | .cond c a b,s=>match cr (aB s.t c) with
  | some true=>aS E call ys d fuel a s
  | some false=>aS E call ys d fuel b s
  | none=>none
 | .block id c,s=>match aS E call ys d fuel c s with
  | some (.exit id',s')=>some (if id'=id then .normal else .exit id',s')
  | r=>r
 | .loop c,s=>dy (aS E call ys d fuel c) fuel s
 | .rangeFunc f ps assign body,s=>
  (cJ (aB s.t f)).bind fun (fid,a,b)=>
   if eN E fid then
    (call ((s.g,fK (aS E call ys d fuel assign) (aS E call ys d fuel body) ps s.t d (ps.getD 0 0) s.g)::ys) fid (a++[.yld d (ps.getD 0 0) s.g]++b) d (ps.getD 0 0) (s.g+1)
     (hput s.h d (ps.getD 0 0) ⟨s.g,.lp .ready⟩) (s.g+2)).bind fun (_,h,g)=>
    match live h d (ps.getD 0 0) s.g with
    | .lp .ready=>some (.normal,{ t:=s.t,h:=hput h d (ps.getD 0 0) aC,g})
    | .lp (.done x)=>if x= .normal then none else some (x,{ t:=s.t,h:=hput h d (ps.getD 0 0) aC,g})
    | _=>none
   else none
 | _,_=>none
def dZ (P:Program) (h:aa) (t:List AV):ResultVar→Option AV
 | .tmp i=>some (a7 t i)
 | .cell a ty=>do
  let m ←aK P ty
  let ag ←bK P ty
  match a7 t a with
  | .mptr d s g i off=>match live h d s g with
   | .box v _=>if i=0 then cU ag m off v else none
   | _=>none
  | _=>none
def gT (l:List AV):AV:=match aF l with
 | some ps=> .pv (.tup ps)
 | none=> .tup l
def fR (P:Program) (fn:Func) (h:aa) (t:List AV):Option AV:=match fn.results.toList with
 | [r]=>dZ P h t r
 | rs=>(rs.mapM (dZ P h t)).map gT
def eP (n:Nat) (l:List AV):List AV:=l++List.replicate (n-l.length) a6
def eQ (n d:Nat) (h:aa):aa:=aR [] h d (h.getD d []++List.replicate n aC)
def dB (E:ao) (call:bi) (ys:Ys) (fuel:Nat) (fn:Func) (d:Nat) (args:List AV) (h:aa) (g:Nat):Option (AV×aa×Nat):=
 fn.body.bind fun c=>match aS E call ys d fuel c { t:=eP fn.ntmps args,h:=eQ fn.ntmps d h,g} with
  | some (.normal,s) | some (.ret,s)=>(fR E.P fn s.h s.t).map fun v=>(v,s.h,s.g)
  | _=>none
def fS (dc:Nat) (hc:aa) (v:AV) (d slot gen:Nat) (h:aa):Option (AV×aa):=
 match v with
 | .msl d' s' g' off n full=>if d'=dc then match live hc d' s' g' with
   | .row k e xs fz=>some (.msl d slot gen off n full,hput h d slot ⟨gen,.row k e xs fz⟩)
   | _=>none
  else none
 | .mptr d' s' g' 0 off=>if d'=dc then match live hc d' s' g' with
   | .box (.pv p) false=>some (.mptr d slot gen 0 off,hput h d slot ⟨gen,.box (.pv p) false⟩)
   | _=>none
  else none
 | _=>none
def aI:Nat→AV→List (K2×Nat)
 | 0,_=>[]
 | n+1,v=>match v with
  | .pv _ | .yld .. =>[]
  | .mptr d s g _ _ | .msl d s g _ _ _ | .mref d s g=>[((d,s),g)]
  | .agg l | .tup l=>l.flatMap (aI n)
  | .clo _ a b=>a.flatMap (aI n)++b.flatMap (aI n)
  | .ifc _ v=>aI n v
  | .btag _=>[]
def bL:aW→List (K2×Nat)
 | .box v _=>aI an v
 | _=>[]
def gU (h:aa):Nat→List K2→List K2→List K2
 | 0,_,acc=>acc
 | _+1,[],acc=>acc
 | n+1,k::todo,acc=>if (bC acc k).isSome then gU h n todo acc else gU h n (todo++(bL (ac h k.1 k.2).b).map (·.1)) (acc++[k])
def bM (f:AV→Option AV):List AV→Option (List AV)
 | []=>some []
 | v::l=>(f v).bind fun w=>(bM f l).map (w:: ·)
def au (ρ:K2→Option (K2×Nat)):Nat→AV→Option AV
 | 0,_=>none
 | n+1,v=>match v with
  | .pv p=>some (.pv p)
  | .mptr d s _ i off=>(ρ (d,s)).map fun k=> .mptr k.1.1 k.1.2 k.2 i off
  | .msl d s _ off m full=>(ρ (d,s)).map fun k=> .msl k.1.1 k.1.2 k.2 off m full
  | .agg l=>(bM (au ρ n) l).map .agg
  | .tup l=>(bM (au ρ n) l).map .tup
  | .clo f a b=>(bM (au ρ n) a).bind fun a'=>(bM (au ρ n) b).map fun b'=> .clo f a' b'
  | .yld .. =>none
  | .ifc t v=>(au ρ n v).map (.ifc t)
  | .btag t=>some (.btag t)
  | .mref .. =>none
def bb (ρ:K2→Option (K2×Nat)):aW→Option aW
 | .box v fz=>(au ρ an v).map fun v=> .box v fz
 | .row k e xs fz=>some (.row k e xs fz)
 | .iter s pos=>some (.iter s pos)
 | _=>none
def cZ (h:aa) (l:List (K2×Nat)):Bool:=l.all fun q=>q.2==(ac h q.1.1 q.1.2).g
def fT:List K2→Bool
 | []=>true
 | k::ks=>(bC ks k).isNone&&fT ks
def eR (ρ:K2→Option (K2×Nat)) (h:aa):Nat→List K2→Option (List am)
 | _,[]=>some []
 | i,k::ks=>(bb ρ (ac h k.1 k.2).b).bind fun b=>(eR ρ h (i+1) ks).map (⟨i,b⟩:: ·)
def fU (ks:List K2) (k:K2):Option (K2×Nat):=(bC ks k).map fun i=>((0,i),i)
def mc:Nat:=64
def cu (h:aa) (args:List AV):List K2:=gU h mc ((args.flatMap (aI an)).map (·.1)) []
def gV (h:aa) (args:List AV):Option (List K2×List AV×List am):=
 if fT (cu h args) then (bM (au (fU (cu h args)) an) args).bind fun cargs=>(eR (fU (cu h args)) h 0 (cu h args)).map fun rows=>(cu h args,cargs,rows) else none
def gW (h:aa) (ks:List K2) (args:List AV):Bool:=cZ h (args.flatMap (aI an))&&ks.all fun k=>cZ h (bL (ac h k.1 k.2).b)
def md:aW→Bool
 | .row .. =>true
 | _=>false
def c2 (m:Nat) (h1:aa):Option K2:=match (List.range m).find? fun i=>(ac h1 0 i).g != i&&md (ac h1 0 i).b with
 | some i=>some (0,i)
 | none=>(((List.range m).flatMap fun i=>bL (ac h1 0 i).b).find? fun q=>q.1.1==1).map (·.1)
def cL (ex:Option K2) (j:Nat):Bool:=match ex with
 | some e=>e.1==0&&e.2==j
 | none=>false
def nm (ex:Option K2) (m j:Nat):Nat:=if cL ex j then m else j
def c3 (m:Nat) (ex:Option K2) (k:K2):Option (K2×Nat):=if k.1==0&&decide (k.2<m) then some (k,nm ex m k.2) else match ex with
 | some e=>if e.1==k.1&&e.2==k.2 then some ((0,m),m) else none
 | none=>none
def c4 (m:Nat) (ex:Option K2) (h1:aa):Nat→Nat→Option (List am)
 | _,0=>match ex with
  | none=>some []
  | some e=>if e.1==0 then some [] else match (ac h1 e.1 e.2).b with
   | .row k t xs fz=>some [⟨m,.row k t xs fz⟩]
   | _=>none
 | i,n+1=>(bb (c3 m ex) (ac h1 0 i).b).bind fun b=>(c4 m ex h1 (i+1) n).map (⟨nm ex m i,b⟩:: ·)
def dC (ex:Option K2) (h1:aa):Nat→Nat→Bool
 | _,0=>true
 | i,n+1=>((ac h1 0 i).g==i||cL ex i)&&(cZ h1 (bL (ac h1 0 i).b)&&dC ex h1 (i+1) n)
def gX (m:Nat) (v:AV) (h1:aa):Option (AV×List am):=match au (c3 m (c2 m h1)) an v with
 | some v'=>if cZ h1 (aI an v)&&dC (c2 m h1) h1 0 m then (c4 m (c2 m h1) h1 0 m).map fun rs=>(v',rs) else none
 | none=>(frz an v h1).bind fun q=>if dC (c2 m q.2) q.2 0 m then (c4 m (c2 m q.2) q.2 0 m).map fun rs=>(.pv q.1,rs) else none
def gY (ks:List K2) (h:aa) (k:K2):Option (K2×Nat):=(ks[k.2]?).map fun q=>(q,(ac h q.1 q.2).g)
def dD (β:K2→Option (K2×Nat)) (h0:aa):List am→List K2→aa→Option aa
 | r::rs,k::ks,h=>(bb β r.b).bind fun b=>dD β h0 rs ks (hput h k.1 k.2 ⟨(ac h0 k.1 k.2).g,b⟩)
 | [],[],h=>some h
 | _,_,_=>none
def jC (β:K2→Option (K2×Nat)) (ks:List K2) (h:aa) (v:AV) (rows:List am):Option (AV×aa):=(au β an v).bind fun v'=>(dD β h rows ks h).map fun h'=>(v',h')
def eS (ks:List K2) (h:aa) (v:AV) (rows:List am):Option (AV×aa):=jC (gY ks h) ks h v rows
def gZ (d slot gen:Nat) (ks:List K2) (h:aa) (v:AV) (rows:List am):Option (AV×aa):=
 if rows.length=ks.length then match rows.findIdx? fun r=>r.g==ks.length with
  | none=>eS ks h v rows
  | some i=>(ks[i]?).bind fun k=>eS ks (hput h k.1 k.2 ⟨gen,.dead⟩) v rows
 else if (bC ks (d,slot)).isNone then eS (ks++[(d,slot)]) (hput h d slot ⟨gen,.dead⟩) v rows else none
def jD (E:ao) (call:bi) (fuel:Nat) (fn:Func) (args:List AV) (rows:List am):Option (AV×List am):=
 (dB E call [] fuel fn 1 args [rows,[]] rows.length).bind fun q=>gX rows.length q.1 q.2.1
def g8 (rd:Bool) (p:PV) (h h1:aa) (g:Nat):Option (AV×aa×Nat):=if rd then (match p with
 | .lit x=>some (.pv (.lit x),h,g)
 | _=>none) else some (.pv p,h1,g)
def fV (E:ao) (f:FuncId) (args:List AV) (h:aa):Option (AV×aa):=match args with
 | [.pv e,.ifc t2 (.mptr d s g 0 0)]=>(E.asf f t2).bind fun t1=>match live h d s g,e with
  | .box (.pv old) false,.iface t (.ptr r o)=>if t=t1∧old.ok=true∧old.isAgg=false then some (ba (.bool true),hput h d s ⟨g,.box (.pv (.ptr r o)) false⟩) else if E.asm t&& !old.isAgg then some (ba (.bool false),h) else none
  | .box (.pv old) false,.iface t _=>if E.asm t&& !old.isAgg then some (ba (.bool false),h) else none
  | _,.lit .nilIface=>some (ba (.bool false),h)
  | _,_=>none
 | _=>none
def fW (E:ao) (f:FuncId) (args:List AV) (h:aa):Option (AV×aa):=match args with
 | [.mptr d s g 0 0]=>(E.ckf f).bind fun T=>match live h d s g with
  | .box (.agg (c::l)) false=>match c with
   | .btag t=>if t=T∧l.length=1 then some (.pv (.tup []),hput h d s ⟨g,.box (.agg (.mptr d s g 0 0::l)) false⟩) else none
   | .mptr d' s' g' 0 0=>if d'=d∧s'=s∧g'=g then some (.pv (.tup []),h) else none
   | _=>none
  | _=>none
 | _=>none
def eT (E:ao) (f:FuncId) (args:List AV) (h:aa):Option (AV×aa):=if (E.ckf f).isSome then fW E f args h else fV E f args h
def bc (E:ao):Nat→bi
  | 0=>fun _ _ _ _ _ _ _ _=>none
  | n+1=>fun ys f args d slot gen h g=>
    match E.intr f with
    | some fn=>(bn an args h).bind fun (ps,h1)=>(fn ps).map fun r=>(.pv r,h1,g)
    | none => match E.P.funcs[f]? with
      | none=>none
      | some fn=>
        if E.ok f=false then (eT E f args h).map fun q=>(q.1,q.2,g)
        else if E.inl f||(!E.rd f&&args.any (bT an)) then
          if E.can f then
            (gV h args).bind fun q=>if gW h q.1 args then (jD E (bc E n) n fn q.2.1 q.2.2).bind fun r=>(gZ d slot gen q.1 h r.1 r.2).map fun z=>(z.1,z.2,g) else none
          else (dB E (bc E n) ys n fn h.length args (h++[[]]) g).bind fun (v,h1,g1)=>
            if eL an h.length v=false then some (v,h1.take h.length,g1)
            else match fS h.length h1 v d slot gen (h1.take h.length) with
              | some (v',h2)=>some (v',h2,g1)
              | none=>let ks:=eI h1 h.length gQ (cI h.length an v) []
                if ks.any (fun k=>l9 (ac h1 k.1 k.2).b) then some ((dW ks h1 v).1,(dW ks h1 v).2.take h.length,g1)
                else if bT an v then some (v,h1,g1) else (frz an v h1).map fun (p,h2)=>(.pv p,h2.take h.length,g1)
        else (bn an args h).bind fun (ps,h1)=>
          (dB E (bc E n) [] n fn 0 (ps.map .pv) [[]] 0).bind fun (v,hc,_)=>
            if E.own f then match v with
              | .pv p=>some (.pv p,h1,g)
              | v=>(fS 0 hc v d slot gen h1).map fun (v',h2)=>(v',h2,g)
            else (frz an v hc).bind fun q=>g8 (E.rd f) q.1 h h1 g
def dE (n:Nat) (o:Oper):Bool:=match o.dst with
 | some d=>decide (d<n)
 | none=>true
def bU (E:ao) (n:Nat):Code→Bool
 | .region _ ops draw=>ops.all (dE n)&&(!draw||(E.bad ops||gS E ops))
 | .seq a b | .cond _ a b=>bU E n a&&bU E n b
 | .block _ c | .loop c=>bU E n c
 | .rangeFunc _ ps a b=>ps.all (fun p=>decide (p<n))&&bU E n a&&bU E n b
 | _=>true
def cv (E:ao) (fn:Func):Bool:= !(fn.name=="runtime.NumGoroutine")&&(match fn.body with
 | some c=>bU E fn.ntmps c
 | none=>true)
end Go.Proofs.YthkilaondjgemaaGreatDoor.Abs
namespace Go.Proofs.YthkilaondjgemaaGreatDoor.Abs
open Go Go.RowKit
theorem cw {α:Type} (z:α): ∀(l:List α) (i j:Nat) (v:α),(aR z l i v).getD j z=if i=j then v else l.getD j z
 | [],0,0,v=>by simp [aR]
 | [],0,j+1,v=>by simp [aR]
 | [],i+1,0,v=>by simp [aR]
 | [],i+1,j+1,v=>by simpa [aR] using cw z [] i j v
 | x::l,0,0,v=>by simp [aR]
 | x::l,0,j+1,v=>by simp [aR]
 | x::l,i+1,0,v=>by simp [aR]
 | x::l,i+1,j+1,v=>by simpa [aR] using cw z l i j v
theorem fX (t:List AV) (i j:Nat) (v:AV):a7 (fA t i v) j=if i=j then v else a7 t j:=cw a6 t i j v
theorem bz (h:aa) (d s d' s':Nat) (r:am):ac (hput h d s r) d' s'=if d=d'∧s=s' then r else ac h d' s':=by
 unfold ac hput
 rw [cw]
 by_cases hd:d=d'
 ·subst hd
  simp only [if_true,true_and]
  rw [cw]
 ·simp [hd]
abbrev af:=Nat→Prop
inductive aj (I:af) (w:World):PV→Value→Prop
 | lit (v:Value):aj I w (.lit v) v
 | nil (k:Nat) (full:Bool):aj I w (.sl k true full []) (.slice none 0 0)
 | emp (k:Nat) (full:Bool) (a:Addr) (cap:Nat) (hfull:full=true→cap=0):aj I w (.sl k false full []) (.slice (some a) 0 cap)
 | sl (k:Nat) (full:Bool) (xs:List PV) (b o cap:Nat) (vs:Nat→Nat→Value)
   (hcap:xs.length≤cap) (hfull:full=true→cap=xs.length) (hI:I b) (hk: ∀x∈xs,x.cells.length=k∧x.ok=true)
   (hc: ∀(i:Nat) (x:PV),xs[i]? =some x→ ∀(j:Nat) (p:PV),x.cells[j]? =some p→w.cell? ⟨b,o+i*k+j,none⟩=some (vs i j)∧(vs i j).oneCell'=true)
   (hr: ∀(i:Nat) (x:PV),xs[i]? =some x→ ∀(j:Nat) (p:PV),x.cells[j]? =some p→aj I w p (vs i j)):
   aj I w (.sl k false full xs) (.slice (some ⟨b,o,none⟩) xs.length cap)
 | ptr (root:PV) (off b o:Nat) (vs:Nat→Value) (hI:I b)
   (hc: ∀(j:Nat) (p:PV),root.cells[j]? =some p→w.cell? ⟨b,o+j,none⟩=some (vs j)∧(vs j).oneCell'=true)
   (hr: ∀(j:Nat) (p:PV),root.cells[j]? =some p→aj I w p (vs j)):
   aj I w (.ptr root off) (.pointer (some ⟨b,o+off,none⟩))
 | agg (cs:List PV) (vs:List Value) (hl:vs.length=cs.length) (h1: ∀v∈vs,v.oneCell'=true)
   (hr: ∀(j:Nat) (p:PV) (v:Value),cs[j]? =some p→vs[j]? =some v→aj I w p v):aj I w (.agg cs) (.agg vs.toArray)
 | tup (cs:List PV) (vs:List Value) (hl:vs.length=cs.length)
   (hr: ∀(j:Nat) (p:PV) (v:Value),cs[j]? =some p→vs[j]? =some v→aj I w p v):aj I w (.tup cs) (.tuple vs.toArray)
 | iface (t:TypeId) (p:PV) (v:Value) (h:aj I w p v):aj I w (.iface t p) (.iface t v)
 | clo (f:Fn) (a b:List PV) (va vb:List Value) (hla:va.length=a.length) (hlb:vb.length=b.length)
   (hra: ∀(j:Nat) (p:PV) (v:Value),a[j]? =some p→va[j]? =some v→aj I w p v) (hrb: ∀(j:Nat) (p:PV) (v:Value),b[j]? =some p→vb[j]? =some v→aj I w p v):
   aj I w (.clo f a b) (.func f va.toArray vb.toArray)
abbrev ak:=Nat→Option (Nat×Nat×Nat)
inductive ab (σ:ak) (I:af) (w:World):AV→Value→Prop
 | pv (p:PV) (v:Value) (h:aj I w p v):ab σ I w (.pv p) v
 | mptr (d s g i off b o k:Nat) (h:σ g=some (b,o,k)):ab σ I w (.mptr d s g i off) (.pointer (some ⟨b,o+i*k+off,none⟩))
 | msl (d s g off n:Nat) (full:Bool) (b o k cap ad:Nat) (had:cap≠0→ad=o+off*k) (h:σ g=some (b,o,k)) (hn:n≤cap) (hfull:full=true→cap=n)
   (hroom: ∃e m,w.shape? b=some (e,m)∧o+(off+cap)*k≤m):
   ab σ I w (.msl d s g off n full) (.slice (some ⟨b,ad,none⟩) n cap)
 | agg (cs:List AV) (vs:List Value) (hl:vs.length=cs.length) (h1: ∀v∈vs,v.oneCell'=true)
   (hr: ∀(j:Nat) (p:AV) (v:Value),cs[j]? =some p→vs[j]? =some v→ab σ I w p v):ab σ I w (.agg cs) (.agg vs.toArray)
 | tup (cs:List AV) (vs:List Value) (hl:vs.length=cs.length)
   (hr: ∀(j:Nat) (p:AV) (v:Value),cs[j]? =some p→vs[j]? =some v→ab σ I w p v):ab σ I w (.tup cs) (.tuple vs.toArray)
 | clo (f:Fn) (a b:List AV) (va vb:List Value) (hla:va.length=a.length) (hlb:vb.length=b.length)
   (hra: ∀(j:Nat) (p:AV) (v:Value),a[j]? =some p→va[j]? =some v→ab σ I w p v) (hrb: ∀(j:Nat) (p:AV) (v:Value),b[j]? =some p→vb[j]? =some v→ab σ I w p v):
   ab σ I w (.clo f a b) (.func f va.toArray vb.toArray)
 | yld (d s g b o k:Nat) (h:σ g=some (b,o,k)):ab σ I w (.yld d s g) (.func (.yield b) #[] #[])
 | ifc (t:TypeId) (v:AV) (u:Value) (h:ab σ I w v u):ab σ I w (.ifc t v) (.iface t u)
 | btag (t:TypeId):ab σ I w (.btag t) (.pointer none)
 | mref (d s g b o k:Nat) (h:σ g=some (b,o,k)):ab σ I w (.mref d s g) (.map (some b))
def bt (r r':Loop):Prop:=r'.fn=r.fn∧r'.tmps=r.tmps∧r'.params=r.params∧r'.assign=r.assign∧r'.body=r.body∧r'.defers=r.defers
theorem bt.refl (r:Loop):bt r r:=⟨rfl,rfl,rfl,rfl,rfl,rfl⟩
theorem bt.trans {a b c:Loop} (h:bt a b) (k:bt b c):bt a c:=
 ⟨k.1.trans h.1,k.2.1.trans h.2.1,k.2.2.1.trans h.2.2.1,k.2.2.2.1.trans h.2.2.2.1,k.2.2.2.2.1.trans h.2.2.2.2.1,k.2.2.2.2.2.trans h.2.2.2.2.2⟩
structure cx (I:af) (w w':World):Prop where
 keep: ∀b,I b→w'.heap[b]? =w.heap[b]?
 shape: ∀b e n,w.shape? b=some (e,n)→w'.shape? b=some (e,n)
structure aD (I:af) (w w':World):Prop where
 keep: ∀b,I b→w'.heap[b]? =w.heap[b]?
 shape: ∀b e n,w.shape? b=some (e,n)→w'.shape? b=some (e,n)
 loop: ∀(b:Nat) (r:Loop),w.heap[b]? =some (Obj.loop r)→ ∃r',w'.heap[b]? =some (Obj.loop r')∧bt r r'
 dfr: ∀(b:Nat),w.heap[b]? =some (Obj.deferred (some []))→w'.heap[b]? =some (Obj.deferred (some []))
theorem d4 {w w':World} {b:Nat} (h:w'.heap[b]? =w.heap[b]?) (o:Nat) (s:Option Nat):w'.cell? ⟨b,o,s⟩=w.cell? ⟨b,o,s⟩:=by
 simp [World.cell?,h]
theorem me {w w':World} {b:Nat} (h:w'.heap[b]? =w.heap[b]?) (o:Nat) (s:Option Nat):w'.frozen? ⟨b,o,s⟩=w.frozen? ⟨b,o,s⟩:=by
 simp [World.frozen?,h]
theorem aD.zero {I:af} {w w':World} (h:aD I w w'):cx I w w':=⟨h.keep,h.shape⟩
instance {I:af} {w w':World} :Coe (aD I w w') (cx I w w'):=⟨aD.zero⟩
theorem aD.refl (I:af) (w:World):aD I w w:=⟨fun _ _=>rfl,fun _ _ _ h=>h,fun _ r h=>⟨r,h,bt.refl r⟩,fun _ h=>h⟩
theorem aD.trans {I I':af} {a b c:World} (hI: ∀x,I x→I' x) (h:aD I a b) (k:aD I' b c):aD I a c:=
  ⟨fun x hx=>(k.keep x (hI x hx)).trans (h.keep x hx),fun x e n hx=>k.shape x e n (h.shape x e n hx),
   fun x r hx=>let ⟨r1,h1,s1⟩:=h.loop x r hx;let ⟨r2,h2,s2⟩:=k.loop x r1 h1;⟨r2,h2,s1.trans s2⟩,fun x hx=>k.dfr x (h.dfr x hx)⟩
theorem aj.mono {I I':af} {w w':World} (hI: ∀b,I b→I' b) (hk: ∀b,I b→w'.heap[b]? =w.heap[b]?) {p:PV} {v:Value} (h:aj I w p v):aj I' w' p v:=by
 induction h with
 | lit v=>exact .lit v
 | nil k full=>exact .nil k full
 | emp k full a cap hfull=>exact .emp k full a cap hfull
 | sl k full xs b o cap vs hcap hfull hb hk' hc hr ih=>
  exact .sl k full xs b o cap vs hcap hfull (hI b hb) hk' (fun i x hx j p hp=>by rw [d4 (hk b hb)];exact hc i x hx j p hp) ih
 | ptr root off b o vs hb hc hr ih=>
  exact .ptr root off b o vs (hI b hb) (fun j p hp=>by rw [d4 (hk b hb)];exact hc j p hp) ih
 | agg cs vs hl h1 hr ih=>exact .agg cs vs hl h1 ih
 | tup cs vs hl hr ih=>exact .tup cs vs hl ih
 | iface t p v h ih=>exact .iface t p v ih
 | clo f a b va vb hla hlb hra hrb iha ihb=>exact .clo f a b va vb hla hlb iha ihb
theorem ab.mono {σ σ':ak} {I I':af} {w w':World} (hσ: ∀g x,σ g=some x→σ' g=some x) (hI: ∀b,I b→I' b) (hk:cx I w w') {p:AV} {v:Value}
  (h:ab σ I w p v):ab σ' I' w' p v:=by
 induction h with
 | pv p v h=>exact .pv p v (h.mono hI hk.keep)
 | mptr d s g i off b o k h=>exact .mptr d s g i off b o k (hσ _ _ h)
 | msl d s g off n full b o k cap ad had h hn hfull hroom=>
  obtain ⟨e,m,hs,hm⟩:=hroom
  exact .msl d s g off n full b o k cap ad had (hσ _ _ h) hn hfull ⟨e,m,hk.shape _ _ _ hs,hm⟩
 | agg cs vs hl h1 hr ih=>exact .agg cs vs hl h1 ih
 | tup cs vs hl hr ih=>exact .tup cs vs hl ih
 | clo f a b va vb hla hlb hra hrb iha ihb=>exact .clo f a b va vb hla hlb iha ihb
 | yld d s g b o k h=>exact .yld d s g b o k (hσ _ _ h)
 | ifc t v u h ih=>exact .ifc t v u ih
 | btag t=>exact .btag t
 | mref d s g b o k h=>exact .mref d s g b o k (hσ _ _ h)
def aZ.code:aZ→Code
 | .normal=> .skip
 | .exit id=> .exit id
 | .goto l=> .goto l
 | .ret=> .ret
def fY:fw→Loop→Prop
 | .ready,r=>r.state= .ready∧r.pending=none
 | .busy,r=>r.state= .busy
 | .done x,r=>r.state= .done∧r.pending=some x.code
def Fz (I:af) (base:af) (w:World) (b n:Nat):Bool→Prop
 | true=>I b
 | false=> ¬I b∧ ¬base b∧ ∀j,j<n→w.frozen? ⟨b,j,none⟩=false
inductive az (σ:ak) (I:af) (w:World):List ME→List MapEntry→Prop
 | nil:az σ I w [] []
 | cons (e:ME) (x:MapEntry) (es:List ME) (xs:List MapEntry) (hb:x.born=e.born) (hk:x.key=e.key) (hv:ab σ I w e.val x.val) (h:az σ I w es xs):az σ I w (e::es) (x::xs)
theorem az.mono {σ σ':ak} {I I':af} {w w':World} (hσ: ∀g x,σ g=some x→σ' g=some x) (hI: ∀b,I b→I' b) (hk:cx I w w') {es:List ME} {xs:List MapEntry} (h:az σ I w es xs):az σ' I' w' es xs:=by
 induction h with
 | nil=>exact .nil
 | cons e x es xs hb hk' hv h ih=>exact .cons e x es xs hb hk' (hv.mono hσ hI hk) ih
def aL (σ:ak) (I:af) (base:af) (w:World) (r:am):Prop:=match r.b with
 | .dead=>True
 | .box v fz=> ∃b e,σ r.g=some (b,0,1)∧w.shape? b=some (e,v.cells.length)∧bS e v=true∧
   (∀(j:Nat) (p:AV),v.cells[j]? =some p→ ∃u,w.cell? ⟨b,j,none⟩=some u∧u.oneCell'=true∧ab σ I w p u)∧Fz I base w b v.cells.length fz
 | .row k e xs fz=> ∃b o n,σ r.g=some (b,o,k)∧w.shape? b=some (e,n)∧o+xs.length*k≤n∧(∀x∈xs,x.cells.length=k∧x.ok=true)∧
   (∀(i:Nat) (x:PV),xs[i]? =some x→ ∀(j:Nat) (p:PV),x.cells[j]? =some p→ ∃u,w.cell? ⟨b,o+i*k+j,none⟩=some u∧u.oneCell'=true∧aj I w p u)∧Fz I base w b n fz
 | .iter s pos=> ∃b k,σ r.g=some (b,0,k)∧w.heap[b]? =some (.stringIter s pos)∧ ¬I b∧ ¬base b
 | .lp st=> ∃b k,σ r.g=some (b,0,k)∧(∃x,w.heap[b]? =some (Obj.loop x)∧fY st x)∧ ¬I b∧ ¬base b
 | .map clock es=> ∃b k,σ r.g=some (b,0,k)∧(∃a:Array MapEntry,w.heap[b]? =some (Obj.map a clock)∧az σ I w es a.toList)∧ ¬I b∧ ¬base b
 | .mit m since seen last=> ∃b k,σ r.g=some (b,0,k)∧(∃bm,w.heap[b]? =some (Obj.mapIter bm since seen.toArray last)∧(match m with
   | none=>bm=none
   | some (_,_,g)=> ∃b' o' k',σ g=some (b',o',k')∧bm=some b'))∧ ¬I b∧ ¬base b
theorem fZ {e:TypeId} {v:AV} (h:bS e v=true):v.ok=true:=by
 unfold bS at h
 simp only [Bool.and_eq_true] at h
 exact h.1
theorem jE {e:TypeId} {v:AV} (h:v.ok=true) (ht:a8 v=none):bS e v=true:=by
 unfold bS
 rw [h,ht];rfl
theorem mf {e t:TypeId} {v:AV} (h:bS e v=true) (ht:a8 v=some t):t=e:=by
 unfold bS at h
 rw [ht] at h
 simp only [Bool.and_eq_true,beq_iff_eq] at h
 exact h.2
theorem f8 {e:TypeId} {v v':AV} (h:bS e v=true) (h':v'.ok=true) (ht:a8 v'=a8 v∨a8 v'=none):bS e v'=true:=by
 unfold bS at h ⊢
 rw [h']
 rcases ht with ht | ht<;>rw [ht]
 ·simp only [Bool.and_eq_true] at h ⊢
  exact ⟨trivial,h.2⟩
 ·rfl
theorem mg (p:PV):a8 (.pv p)=none:=by
 unfold a8
 simp only [AV.cells,List.head?_map]
 cases p.cells.head?<;>rfl
def aO (w:World) (b:Nat):Prop:= ∃o,w.heap[b]? =some o∧o≠Obj.deferred (some [])
theorem aO.lt {w:World} {b:Nat} (h:aO w b):b<w.heap.size:=by
 obtain ⟨o,h,_⟩:=h
 exact (Array.getElem?_eq_some_iff.1 h).1
theorem aO.keep {w w':World} {b:Nat} (h:aO w b) (he:w'.heap[b]? =w.heap[b]?):aO w' b:=by
 obtain ⟨o,h,hn⟩:=h
 exact ⟨o,he.trans h,hn⟩
theorem aO.of_shape {w:World} {b n:Nat} {e:TypeId} (h:w.shape? b=some (e,n)):aO w b:=by
 unfold World.shape? at h
 split at h
 ·rename_i hh
  exact ⟨_,hh,by simp⟩
 ·cases h
def ai (σ:ak) (r:am):Option Nat:=match r.b with
 | .dead | .box _ true | .row _ _ _ true=>none
 | _=>(σ r.g).map (·.1)
structure ae (σ:ak) (I:af) (base:af) (w:World) (h:aa):Prop where
 rows: ∀d s,aL σ I base w (ac h d s)
 apart: ∀d s d' s' b,ai σ (ac h d s)=some b→ai σ (ac h d' s')=some b→d=d'∧s=s'
 inW: ∀b,I b→aO w b
structure bu (B:af) (w w':World):Prop where
 os:w'.os=w.os
 tape:w'.tape=w.tape
 output:w'.output=w.output
 size:w.heap.size≤w'.heap.size
 block: ∀k,B k→w'.heap[k]? =w.heap[k]?
theorem bu.refl (B:af) (w:World):bu B w w:=⟨rfl,rfl,rfl,Nat.le_refl _,fun _ _=>rfl⟩
theorem bu.trans {B:af} {a b c:World} (h:bu B a b) (k:bu B b c):bu B a c:=
 ⟨k.os.trans h.os,k.tape.trans h.tape,k.output.trans h.output,Nat.le_trans h.size k.size,fun i hi=>(k.block i hi).trans (h.block i hi)⟩
def aG (B:af) (n:Nat):Prop:= ∀b,B b→b<n
theorem aG.up {B:af} {n:Nat} (h:aG B n): ¬B n:=fun hb=>Nat.lt_irrefl _ (h n hb)
theorem aG.mono {B:af} {n m:Nat} (h:aG B n) (hn:n≤m):aG B m:=fun b hb=>Nat.lt_of_lt_of_le (h b hb) hn
def ce (w:World):af:=fun b=>b<w.heap.size
theorem ce.bnd (w:World):aG (ce w) w.heap.size:=fun _ h=>h
theorem bu.of_below {B:af} {w w':World} {n:Nat} (h:Below n w w') (hB:aG B n):bu B w w':=⟨h.os,h.tape,h.output,h.size,fun k hk=>h.block k (hB k hk)⟩
theorem bu.below {w w':World} (h:bu (ce w) w w'):Below w.heap.size w w':=⟨h.os,h.tape,h.output,h.size,fun k hk=>h.block k hk⟩
structure ar (base:af) (σ:ak) (I:af) (w:World) (σ':ak) (I':af) (w':World):Prop where
 sig: ∀g x,σ g=some x→σ' g=some x
 blk: ∀b,I b→I' b
 new: ∀b,I' b→I b∨ ¬base b
 kp:aD I w w'
 below:bu base w w'
theorem ar.refl (base:af) (σ:ak) (I:af) (w:World):ar base σ I w σ I w:=⟨fun _ _ h=>h,fun _ h=>h,fun _ h=> .inl h,aD.refl I w,bu.refl _ _⟩
theorem ar.trans {base:af} {σ σ' σ'':ak} {I I' I'':af} {w w' w'':World} (h:ar base σ I w σ' I' w') (k:ar base σ' I' w' σ'' I'' w''):ar base σ I w σ'' I'' w'':=
 ⟨fun g x hx=>k.sig g x (h.sig g x hx),fun b hb=>k.blk b (h.blk b hb),fun b hb=>(k.new b hb).elim (fun h'=>h.new b h') .inr,h.kp.trans h.blk k.kp,h.below.trans k.below⟩
theorem ar.rep {base:af} {σ σ':ak} {I I':af} {w w':World} (h:ar base σ I w σ' I' w') {p:AV} {v:Value} (r:ab σ I w p v):ab σ' I' w' p v:=r.mono h.sig h.blk h.kp
variable {σ σ':ak} {I I':af} {base:af} {w w':World} {h:aa}
theorem d5 {b:Nat} (e:w'.heap[b]? =w.heap[b]?):w'.shape? b=w.shape? b:=by simp [World.shape?,e]
theorem eU {b:Nat} {x:TypeId×Nat} (e:w.shape? b=some x):b<w.heap.size:=by
 unfold World.shape? at e
 rcases Nat.lt_or_ge b w.heap.size with hlt | hge
 ·exact hlt
 ·rw [Array.getElem?_eq_none hge] at e;cases e
theorem bN {b:Nat} {x:Obj} (e:w.heap[b]? =some x):b<w.heap.size:=by
 rcases Nat.lt_or_ge b w.heap.size with hlt | hge
 ·exact hlt
 ·rw [Array.getElem?_eq_none hge] at e;cases e
theorem g9 {b n:Nat} {e:TypeId} (hs:w.shape? b=some (e,n)) {j:Nat} (hj:j<n): ∃u,w.cell? ⟨b,j,none⟩=some u:=by
 unfold World.shape? at hs
 split at hs
 ·rename_i c e' fr hc
  simp only [Option.some.injEq,Prod.mk.injEq] at hs
  obtain ⟨rfl,rfl⟩:=hs
  exact ⟨c[j],by simp [World.cell?,hc,hj]⟩
 ·cases hs
def Fr (w:World) (n:Nat) (b:Nat):Prop:= ∀j,j<n→w.frozen? ⟨b,j,none⟩=false
theorem Fz.mono {b n:Nat} {fz:Bool} (hz:Fz I base w b n fz) (hI: ∀b,I b→I' b) (hh:fz=false→w'.heap[b]? =w.heap[b]? ∧ ¬I' b):Fz I' base w' b n fz:=by
 cases fz with
 | true=>exact hI b hz
 | false=>
  obtain ⟨h1,h2,h3⟩:=hz
  exact ⟨(hh rfl).2,h2,fun j hj=>by rw [me (hh rfl).1];exact h3 j hj⟩
theorem aL.mono {r:am} (hr:aL σ I base w r) (hσ: ∀g x,σ g=some x→σ' g=some x) (hI: ∀b,I b→I' b) (hk:cx I w w')
  (hb: ∀b,ai σ r=some b→w'.heap[b]? =w.heap[b]? ∧ ¬I' b):aL σ' I' base w' r:=by
 obtain ⟨g,b⟩:=r
 cases b with
 | dead=>trivial
 | box v fz=>
  obtain ⟨b,e,hs,hsh,hok,hc,hz⟩:=hr
  refine ⟨b,e,hσ _ _ hs,hk.shape _ _ _ hsh,hok,fun j p hp=> ?_,hz.mono hI ?_⟩
  ·obtain ⟨u,hu,h1,hr⟩:=hc j p hp
   refine ⟨u,?_,h1,hr.mono hσ hI hk⟩
   cases fz with
   | true=>rw [d4 (hk.keep b hz)];exact hu
   | false=>rw [d4 (hb b (by simp [ai,hs])).1];exact hu
  ·rintro rfl
   exact hb b (by simp [ai,hs])
 | row k e xs fz=>
  obtain ⟨b,o,n,hs,hsh,hn,hx,hc,hz⟩:=hr
  refine ⟨b,o,n,hσ _ _ hs,hk.shape _ _ _ hsh,hn,hx,fun i x hi j p hp=> ?_,hz.mono hI ?_⟩
  ·obtain ⟨u,hu,h1,hr⟩:=hc i x hi j p hp
   refine ⟨u,?_,h1,hr.mono hI hk.keep⟩
   cases fz with
   | true=>rw [d4 (hk.keep b hz)];exact hu
   | false=>rw [d4 (hb b (by simp [ai,hs])).1];exact hu
  ·rintro rfl
   exact hb b (by simp [ai,hs])
 | iter s pos=>
  obtain ⟨b,k,hs,hh,h1,h2⟩:=hr
  have:=hb b (by simp [ai,hs])
  exact ⟨b,k,hσ _ _ hs,this.1.trans hh,this.2,h2⟩
 | lp st=>
  obtain ⟨b,k,hs,⟨x,hh,hx⟩,h1,h2⟩:=hr
  have:=hb b (by simp [ai,hs])
  exact ⟨b,k,hσ _ _ hs,⟨x,this.1.trans hh,hx⟩,this.2,h2⟩
 | map clock es=>
  obtain ⟨b,k,hs,⟨x,hh,hx⟩,h1,h2⟩:=hr
  have:=hb b (by simp [ai,hs])
  exact ⟨b,k,hσ _ _ hs,⟨x,this.1.trans hh,hx.mono hσ hI hk⟩,this.2,h2⟩
 | mit m since seen last=>
  obtain ⟨b,k,hs,⟨x,hh,hx⟩,h1,h2⟩:=hr
  have:=hb b (by simp [ai,hs])
  refine ⟨b,k,hσ _ _ hs,⟨x,this.1.trans hh,?_⟩,this.2,h2⟩
  cases m with
  | none=>exact hx
  | some q=>obtain ⟨b',o',k',h3,h4⟩:=hx;exact ⟨b',o',k',hσ _ _ h3,h4⟩
theorem dF {r:am} (hr:aL σ I base w r) (hσ: ∀g x,σ g=some x→σ' g=some x):ai σ' r=ai σ r:=by
 obtain ⟨g,b⟩:=r
 cases b with
 | dead=>rfl
 | box v fz=>
  obtain ⟨b,e,hs,_⟩:=hr
  cases fz<;>simp [ai,hs,hσ _ _ hs]
 | row k e xs fz=>
  obtain ⟨b,o,n,hs,_⟩:=hr
  cases fz<;>simp [ai,hs,hσ _ _ hs]
 | iter s pos=>
  obtain ⟨b,k,hs,_⟩:=hr
  simp [ai,hs,hσ _ _ hs]
 | lp st=>
  obtain ⟨b,k,hs,_⟩:=hr
  simp [ai,hs,hσ _ _ hs]
 | map clock es=>
  obtain ⟨b,k,hs,_⟩:=hr
  simp [ai,hs,hσ _ _ hs]
 | mit m since seen last=>
  obtain ⟨b,k,hs,_⟩:=hr
  simp [ai,hs,hσ _ _ hs]
theorem aM {r:am} (hr:aL σ I base w r) {b:Nat} (hb:ai σ r=some b):b<w.heap.size∧ ¬I b∧ ¬base b:=by
 obtain ⟨g,bd⟩:=r
 cases bd with
 | dead=>simp [ai] at hb
 | box v fz=>
  obtain ⟨b',e,hs,hsh,_,hc,hz⟩:=hr
  cases fz with
  | true=>simp [ai] at hb
  | false=>
   simp [ai,hs] at hb
   subst hb
   exact ⟨eU hsh,hz.1,hz.2.1⟩
 | row k e xs fz=>
  obtain ⟨b',o,n,hs,hsh,_,_,hc,hz⟩:=hr
  cases fz with
  | true=>simp [ai] at hb
  | false=>
   simp [ai,hs] at hb
   subst hb
   exact ⟨eU hsh,hz.1,hz.2.1⟩
 | iter s pos=>
  obtain ⟨b',k,hs,hh,h1,h2⟩:=hr
  simp [ai,hs] at hb
  subst hb
  exact ⟨bN hh,h1,h2⟩
 | lp st=>
  obtain ⟨b',k,hs,⟨x,hh,_⟩,h1,h2⟩:=hr
  simp [ai,hs] at hb
  subst hb
  exact ⟨bN hh,h1,h2⟩
 | map clock es=>
  obtain ⟨b',k,hs,⟨x,hh,_⟩,h1,h2⟩:=hr
  simp [ai,hs] at hb
  subst hb
  exact ⟨bN hh,h1,h2⟩
 | mit m since seen last=>
  obtain ⟨b',k,hs,⟨x,hh,_⟩,h1,h2⟩:=hr
  simp [ai,hs] at hb
  subst hb
  exact ⟨bN hh,h1,h2⟩
theorem ae.lt (H:ae σ I base w h) (b:Nat) (hb:I b):b<w.heap.size:=(H.inW b hb).lt
theorem aD.inW (hk:aD I w w') (hin: ∀b,I b→aO w b): ∀b,I b→aO w' b:=fun b hb=>(hin b hb).keep (hk.keep b hb)
theorem aL.dead (g:Nat):aL σ I base w ⟨g,.dead⟩:=trivial
theorem ae.put (H:ae σ I base w h) (hσ: ∀g x,σ g=some x→σ' g=some x) (hI: ∀b,I b→I' b) (hk:cx I w w') (hin: ∀b,I' b→aO w' b)
  (d s:Nat) (r:am) (hr:aL σ' I' base w' r)
  (hb: ∀d' s' b,¬(d=d'∧s=s')→ai σ (ac h d' s')=some b→w'.heap[b]? =w.heap[b]? ∧ ¬I' b∧ai σ' r≠some b):
  ae σ' I' base w' (hput h d s r) where
 inW:=hin
 rows d' s':=by
  rw [bz]
  by_cases e:d=d'∧s=s'
  ·rw [if_pos e];exact hr
  ·rw [if_neg e]
   exact (H.rows d' s').mono hσ hI hk fun b hbb=>⟨(hb d' s' b e hbb).1,(hb d' s' b e hbb).2.1⟩
 apart d1 s1 d2 s2 b h1 h2:=by
  rw [bz] at h1 h2
  by_cases e1:d=d1∧s=s1
  ·rw [if_pos e1] at h1
   by_cases e2:d=d2∧s=s2
   ·exact ⟨e1.1.symm.trans e2.1,e1.2.symm.trans e2.2⟩
   ·rw [if_neg e2,dF (H.rows d2 s2) hσ] at h2
    exact absurd h1 (hb d2 s2 b e2 h2).2.2
  ·rw [if_neg e1,dF (H.rows d1 s1) hσ] at h1
   by_cases e2:d=d2∧s=s2
   ·rw [if_pos e2] at h2
    exact absurd h2 (hb d1 s1 b e1 h1).2.2
   ·rw [if_neg e2,dF (H.rows d2 s2) hσ] at h2
    exact H.apart d1 s1 d2 s2 b h1 h2
theorem ae.keep (H:ae σ I base w h) (hσ: ∀g x,σ g=some x→σ' g=some x) (hI: ∀b,I b→I' b) (hk:cx I w w') (hin: ∀b,I' b→aO w' b)
  (hb: ∀d s b,ai σ (ac h d s)=some b→w'.heap[b]? =w.heap[b]? ∧ ¬I' b):ae σ' I' base w' h where
 inW:=hin
 rows d s:=(H.rows d s).mono hσ hI hk (hb d s)
 apart d1 s1 d2 s2 b h1 h2:=by
  rw [dF (H.rows d1 s1) hσ] at h1
  rw [dF (H.rows d2 s2) hσ] at h2
  exact H.apart d1 s1 d2 s2 b h1 h2
theorem ae.kill (H:ae σ I base w h) (d s:Nat):ae σ I base w (hput h d s aC):=
 H.put (fun _ _ h=>h) (fun _ h=>h) (aD.refl I w) H.inW d s aC trivial fun d' s' b _ hb=>⟨rfl,(aM (H.rows d' s') hb).2.1,by simp [ai,aC]⟩
theorem b8 {d s g:Nat} {b:aW} (hl:live h d s g=b) (hne:b≠ .dead):ac h d s=⟨g,b⟩:=by
 unfold live at hl
 split at hl
 ·rename_i e
  rw [←e,←hl]
 ·exact absurd hl.symm hne
theorem ae.live (H:ae σ I base w h) {d s g:Nat} {b:aW} (hl:Abs.live h d s g=b) (hne:b≠ .dead):aL σ I base w ⟨g,b⟩:=by
 have:=H.rows d s
 rw [b8 hl hne] at this
 exact this
structure aJ (w w':World) (o:Obj):Prop where
 heap:w'.heap=w.heap.push o
 os:w'.os=w.os
 tape:w'.tape=w.tape
 output:w'.output=w.output
theorem aJ.old {o:Obj} (hg:aJ w w' o) {b:Nat} (hb:b<w.heap.size):w'.heap[b]? =w.heap[b]? :=by
 rw [hg.heap,Array.getElem?_push];split
 ·omega
 ·rfl
theorem aJ.new {o:Obj} (hg:aJ w w' o):w'.heap[w.heap.size]? =some o:=by rw [hg.heap];simp
theorem aJ.shape {c:Array Value} {e:TypeId} {fr:Nat×Nat} (hg:aJ w w' (.cells c e fr)):w'.shape? w.heap.size=some (e,c.size):=by unfold World.shape?;rw [hg.new]
theorem aJ.cell {c:Array Value} {e:TypeId} {fr:Nat×Nat} (hg:aJ w w' (.cells c e fr)) (j:Nat):w'.cell? ⟨w.heap.size,j,none⟩=c[j]? :=by unfold World.cell?;simp only [hg.new];simp
theorem aJ.frozen {c:Array Value} {e:TypeId} (hg:aJ w w' (.cells c e)) (j:Nat):w'.frozen? ⟨w.heap.size,j,none⟩=false:=by unfold World.frozen?;simp only [hg.new];simp
theorem aJ.size {o:Obj} (hg:aJ w w' o):w'.heap.size=w.heap.size+1:=by rw [hg.heap];simp
theorem aJ.below {o:Obj} (hg:aJ w w' o) (hB:aG base w.heap.size):bu base w w':=⟨hg.os,hg.tape,hg.output,by rw [hg.size];omega,fun k hk=>hg.old (hB k hk)⟩
theorem aJ.keep {o:Obj} (hg:aJ w w' o) (hin: ∀b,I b→b<w.heap.size):aD I w w':=
  ⟨fun b hb=>hg.old (hin b hb),fun b e n hs=>by rw [d5 (hg.old (eU hs))];exact hs,
   fun b r hr=>⟨r,by rw [hg.old (bN hr)];exact hr,bt.refl r⟩,fun b hb=>by rw [hg.old (bN hb)];exact hb⟩
def aN (σ:ak) (g:Nat) (x:Nat×Nat×Nat):ak:=fun g'=>if g'=g then some x else σ g'
theorem bO {g:Nat} {x:Nat×Nat×Nat} (hg:σ g=none): ∀g' y,σ g'=some y→aN σ g x g'=some y:=fun g' y hy=>by
 unfold aN
 split
 ·rename_i e;subst e;rw [hg] at hy;cases hy
 ·exact hy
theorem aP {g:Nat} {x:Nat×Nat×Nat} :aN σ g x g=some x:=by simp [aN]
theorem bV {g g':Nat} {x:Nat×Nat×Nat} (hne:g'≠g):aN σ g x g'=σ g':=by simp [aN,hne]
theorem ar.push {o:Obj} (H:ae σ I base w h) (hB:aG base w.heap.size) {g:Nat} {x:Nat×Nat×Nat} (hg:σ g=none) (hG:aJ w w' o):ar base σ I w (aN σ g x) I w':=
 ⟨bO hg,fun _ h=>h,fun _ h=> .inl h,hG.keep H.lt,hG.below hB⟩
theorem ae.push {o:Obj} (H:ae σ I base w h) {g k:Nat} {off:Nat} (hg:σ g=none) (hG:aJ w w' o) (d s:Nat) {b:aW}
  (hr:aL (aN σ g (w.heap.size,off,k)) I base w' ⟨g,b⟩):ae (aN σ g (w.heap.size,off,k)) I base w' (hput h d s ⟨g,b⟩):=by
 refine H.put (bO hg) (fun _ h=>h) (hG.keep H.lt) ((hG.keep H.lt).inW H.inW) d s _ hr ?_
 intro d' s' b' _ hb'
 have hf:=aM (H.rows d' s') hb'
 refine ⟨hG.old hf.1,hf.2.1,fun e=> ?_⟩
 have:b'=w.heap.size:=by
  cases b with
  | dead=>simp [ai] at e
  | box v fz=>cases fz<;>simp [ai,aP] at e;exact e.symm
  | row k e' xs fz=>cases fz<;>simp [ai,aP] at e;exact e.symm
  | iter s pos=>simp [ai,aP] at e;exact e.symm
  | lp st=>simp [ai,aP] at e;exact e.symm
  | map clock es=>simp [ai,aP] at e;exact e.symm
  | mit m since seen last=>simp [ai,aP] at e;exact e.symm
 omega
theorem eV (b:Nat): ∀(vs:List Value) (o:Nat) (w:World) (b':Nat),b'≠b→(w.setCells b o vs).heap[b']? =w.heap[b']?
 | [],_,_,_,_=>rfl
 | v::r,o,w,b',hne=>by
  rw [World.setCells,eV b r _ _ b' hne]
  simp [World.setCell,Array.getElem?_modify,Ne.symm hne]
theorem c5 (b:Nat): ∀(vs:List Value) (o:Nat) (w:World) (b':Nat),(w.setCells b o vs).shape? b'=w.shape? b'
 | [],_,_,_=>rfl
 | v::r,o,w,b'=>by
  rw [World.setCells,c5 b r]
  unfold World.shape? World.setCell
  simp only [Array.getElem?_modify]
  by_cases e:b=b'
  ·subst e
   rw [if_pos rfl]
   cases hx:w.heap[b]? with
   | none=>simp
   | some x=>cases x<;>simp
  ·rw [if_neg e]
theorem hM (b:Nat) {ob:Obj} (ho: ∀c e fr,ob≠ .cells c e fr): ∀(vs:List Value) (o:Nat) (w:World) (b':Nat),w.heap[b']? =some ob→(w.setCells b o vs).heap[b']? =some ob
 | [],_,_,_,h=>h
 | v::r,o,w,b',h=>by
  rw [World.setCells]
  refine hM b ho r _ _ b' ?_
  simp only [World.setCell,Array.getElem?_modify]
  by_cases e:b=b'
  ·subst e
   rw [if_pos rfl,h]
   cases ob<;>first | rfl | exact absurd rfl (ho _ _ _)
  ·rw [if_neg e];exact h
theorem jF (b:Nat): ∀(vs:List Value) (o:Nat) (w:World),(w.setCells b o vs).heap.size=w.heap.size
 | [],_,_=>rfl
 | v::r,o,w=>by rw [World.setCells,jF b r,World.size_setCell]
theorem f9 (b:Nat): ∀(vs:List Value) (o:Nat) (w:World),(w.setCells b o vs).os=w.os∧(w.setCells b o vs).tape=w.tape∧(w.setCells b o vs).output=w.output
 | [],_,_=>⟨rfl,rfl,rfl⟩
 | v::r,o,w=>by rw [World.setCells];exact f9 b r (o+1) _
theorem jG {b o:Nat} {vs:List Value} (hb: ¬base b):bu base w (w.setCells b o vs):=
 ⟨(f9 b vs o w).1,(f9 b vs o w).2.1,(f9 b vs o w).2.2,by rw [jF];exact Nat.le_refl _,fun k hk=>eV b vs o w k (fun e=>hb (e▸hk))⟩
theorem d6 {b o:Nat} {vs:List Value} (hb: ¬I b):aD I w (w.setCells b o vs):=
  ⟨fun b' hb'=>eV b vs o w b' (fun e=>hb (e▸hb')),fun b' e n hs=>by rw [c5];exact hs,
   fun b' r hr=>⟨r,hM b (by simp) vs o w b' hr,bt.refl r⟩,fun b' hb'=>hM b (by simp) vs o w b' hb'⟩
theorem d7 {b o j:Nat} {vs:List Value} (hj:j<o∨o+vs.length≤j):(w.setCells b o vs).cell? ⟨b,j,none⟩=w.cell? ⟨b,j,none⟩:=
 World.cell?_setCells_out b vs o w ⟨b,j,none⟩ fun _ _=>hj
theorem eW {b o n:Nat} {e:TypeId} {vs:List Value} (hs:w.shape? b=some (e,n)) (hn:o+vs.length≤n) {j:Nat} (hj:j<vs.length):
  (w.setCells b o vs).cell? ⟨b,o+j,none⟩=some vs[j]:=
 World.cell?_setCells_in b vs o w (fun i hi=>by obtain ⟨u,hu⟩:=g9 hs (j:=o+i) (by omega);rw [hu];rfl) j hj
theorem hO {P:Program} {b o n:Nat} {e:TypeId} {vs:List Value} (hs:w.shape? b=some (e,n)) (hn:o+vs.length≤n) (hf:Fr w n b) (h1: ∀v∈vs,v.oneCell'=true):
  (storeCells ⟨b,o,none⟩ vs).run P w= .ok () (w.setCells b o vs):=by
 have:=run_storeCells_cells (P:=P) b o vs 0 w (fun j hj=>by obtain ⟨u,hu⟩:=g9 hs (j:=o+0+j) (by omega);rw [hu];rfl) (fun j hj=>hf _ (by omega)) h1
 simpa using this
theorem cf (b o n:Nat):(⟨b,o,none⟩:Addr).add n=⟨b,o+n,none⟩:=by
 unfold Addr.add;split<;>simp_all
variable {σ σ':ak} {I I':af} {base:af} {w w':World} {h:aa}
theorem hS {v:Value} (hv:v.oneCell'=true):v.cells= #[v]:=by cases v<;>simp_all [Value.cells,Value.oneCell']
theorem aj.cells {p:PV} {u:Value} (hr:aj I w p u) (ho:p.ok=true):
  u.cells.size=p.cells.length∧(∀x∈u.cells.toList,x.oneCell'=true)∧ ∀(j:Nat) (c:PV) (x:Value),p.cells[j]? =some c→u.cells[j]? =some x→aj I w c x:=by
 have one: ∀ {p:PV} {u:Value},aj I w p u→p.cells=[p]→u.oneCell'=true→
   u.cells.size=p.cells.length∧(∀x∈u.cells.toList,x.oneCell'=true)∧ ∀(j:Nat) (c:PV) (x:Value),p.cells[j]? =some c→u.cells[j]? =some x→aj I w c x:=by
  intro p u hr hp hu
  rw [hp,hS hu]
  refine ⟨rfl,by simpa using hu,fun j c x hc hx=> ?_⟩
  cases j with
  | zero=>simp at hc hx;subst hc;subst hx;exact hr
  | succ j=>simp at hc
 cases hr with
 | lit=>exact one (.lit _) rfl ho
 | nil k full=>exact one (.nil k full) rfl rfl
 | emp k full a cap hfull=>exact one (.emp k full a cap hfull) rfl rfl
 | sl k full xs b o cap vs hcap hfull hb hk' hc hr=>exact one (.sl k full xs b o cap vs hcap hfull hb hk' hc hr) rfl rfl
 | ptr root off b o vs hb hc hr=>exact one (.ptr root off b o vs hb hc hr) rfl rfl
 | agg cs vs hl h1 hr=>exact ⟨by simpa [Value.cells,PV.cells] using hl,by simpa [Value.cells] using h1,fun j c x hc hx=>hr j c x hc (by simpa [Value.cells] using hx)⟩
 | tup cs vs hl hr=>cases ho
 | iface t p v h=>exact one (.iface t p v h) rfl rfl
 | clo f a b va vb hla hlb hra hrb=>exact one (.clo f a b va vb hla hlb hra hrb) rfl rfl
theorem ab.cells {p:AV} {u:Value} (hr:ab σ I w p u) (ho:p.ok=true):
  u.cells.size=p.cells.length∧(∀x∈u.cells.toList,x.oneCell'=true)∧ ∀(j:Nat) (c:AV) (x:Value),p.cells[j]? =some c→u.cells[j]? =some x→ab σ I w c x:=by
 have one: ∀ {p:AV} {u:Value},ab σ I w p u→p.cells=[p]→u.oneCell'=true→
   u.cells.size=p.cells.length∧(∀x∈u.cells.toList,x.oneCell'=true)∧ ∀(j:Nat) (c:AV) (x:Value),p.cells[j]? =some c→u.cells[j]? =some x→ab σ I w c x:=by
  intro p u hr hp hu
  rw [hp,hS hu]
  refine ⟨rfl,by simpa using hu,fun j c x hc hx=> ?_⟩
  cases j with
  | zero=>simp at hc hx;subst hc;subst hx;exact hr
  | succ j=>simp at hc
 cases hr with
 | pv p v h=>
  obtain ⟨h1,h2,h3⟩:=h.cells ho
  refine ⟨by simpa [AV.cells] using h1,h2,fun j c x hc hx=> ?_⟩
  simp only [AV.cells,List.getElem?_map,Option.map_eq_some_iff] at hc
  obtain ⟨c',hc',rfl⟩:=hc
  exact .pv _ _ (h3 j c' x hc' hx)
 | mptr d s g i off b o k h=>exact one (.mptr d s g i off b o k h) rfl rfl
 | msl d s g off n full b o k cap ad had h hn hfull hroom=>exact one (.msl d s g off n full b o k cap ad had h hn hfull hroom) rfl rfl
 | agg cs vs hl h1 hr=>exact ⟨by simpa [Value.cells,AV.cells] using hl,by simpa [Value.cells] using h1,fun j c x hc hx=>hr j c x hc (by simpa [Value.cells] using hx)⟩
 | tup cs vs hl hr=>cases ho
 | clo f a b va vb hla hlb hra hrb=>exact one (.clo f a b va vb hla hlb hra hrb) rfl rfl
 | yld d s g b o k h=>exact one (.yld d s g b o k h) rfl rfl
 | ifc t v u h=>exact one (.ifc t v u h) rfl rfl
 | btag t=>exact one (.btag t) rfl rfl
 | mref d s g b o k h=>exact one (.mref d s g b o k h) rfl rfl
theorem mh {v:AV} (ho:v.ok=true) (us:List Value) (hl:us.length=v.cells.length) (h1: ∀x∈us,x.oneCell'=true)
  (hr: ∀(j:Nat) (c:AV) (x:Value),v.cells[j]? =some c→us[j]? =some x→ab σ I w c x): ∃u,ab σ I w v u∧u.cells.toList=us:=by
 have one:v.cells=[v]→ ∃u,ab σ I w v u∧u.cells.toList=us:=by
  intro hv
  rw [hv] at hl
  match us,hl with
  | [u],_=>
   refine ⟨u,hr 0 v u (by rw [hv];rfl) rfl,?_⟩
   rw [hS (h1 u (by simp))]
 cases v with
 | pv p=>
  cases p with
  | agg cs=>
   refine ⟨.agg us.toArray,.pv _ _ (.agg cs us (by simpa [AV.cells,PV.cells] using hl) h1 fun j c x hc hx=> ?_),rfl⟩
   have:=hr j (.pv c) x (by simp [AV.cells,PV.cells,hc]) hx
   cases this with
   | pv _ _ h=>exact h
  | _=>exact one rfl
 | agg cs=>exact ⟨.agg us.toArray,.agg cs us (by simpa [AV.cells] using hl) h1 hr,rfl⟩
 | tup l=>cases ho
 | _=>exact one rfl
theorem ga {α:Type} {P:Nat→α→Prop} : ∀(n:Nat),(∀j,j<n→ ∃u,P j u)→ ∃us:List α,us.length=n∧ ∀(j:Nat) (u:α),us[j]? =some u→P j u
 | 0,_=>⟨[],rfl,fun j u hu=>by simp at hu⟩
 | n+1,hh=>by
  obtain ⟨us,hl,hu⟩:=ga n fun j hj=>hh j (by omega)
  obtain ⟨u,hP⟩:=hh n (by omega)
  refine ⟨us++[u],by simp [hl],fun j x hx=> ?_⟩
  rcases Nat.lt_or_ge j n with hj | hj
  ·rw [List.getElem?_append_left (by omega)] at hx;exact hu j x hx
  ·rw [List.getElem?_append_right (by omega),hl] at hx
   cases hjn:j-n with
   | zero=>rw [hjn] at hx;simp at hx;subst hx;rw [show j=n by omega];exact hP
   | succ m=>rw [hjn] at hx;simp at hx
theorem cM {g:Nat} {v:AV} {fz:Bool} (hr:aL σ I base w ⟨g,.box v fz⟩):
  ∃b k e u,σ g=some (b,0,k)∧w.shape? b=some (e,v.cells.length)∧v.ok=true∧ab σ I w v u∧Fz I base w b v.cells.length fz∧k=1∧
   (∀x∈u.cells.toList,x.oneCell'=true)∧u.cells.size=v.cells.length∧ ∀(j:Nat) (x:Value),u.cells[j]? =some x→w.cell? ⟨b,j,none⟩=some x:=by
 obtain ⟨b,e,hs,hsh,hok,hc,hz⟩:=hr
 have hok:=fZ hok
 obtain ⟨us,hl,hu⟩:=ga (P:=fun j u=>w.cell? ⟨b,j,none⟩=some u∧u.oneCell'=true∧ ∀p,v.cells[j]? =some p→ab σ I w p u) v.cells.length fun j hj=>by
  obtain ⟨u,h1,h2,h3⟩:=hc j v.cells[j] (List.getElem?_eq_getElem hj)
  exact ⟨u,h1,h2,fun p hp=>by rw [List.getElem?_eq_getElem hj] at hp;injection hp with hp;subst hp;exact h3⟩
 obtain ⟨u,hru,hcu⟩:=mh (σ:=σ) (I:=I) (w:=w) hok us hl (fun x hx=>by
   obtain ⟨j,hj,rfl⟩:=List.mem_iff_getElem.1 hx
   exact (hu j _ (List.getElem?_eq_getElem hj)).2.1) (fun j c x hc hx=>(hu j x hx).2.2 c hc)
 refine ⟨b,1,e,u,hs,hsh,hok,hru,hz,rfl,?_,?_,fun j x hx=> ?_⟩
 ·intro x hx
  rw [hcu] at hx
  obtain ⟨j,hj,rfl⟩:=List.mem_iff_getElem.1 hx
  exact (hu j _ (List.getElem?_eq_getElem hj)).2.1
 ·rw [←Array.length_toList,hcu,hl]
 ·have:us[j]? =some x:=by rw [←hcu];simpa using hx
  exact (hu j x this).1
theorem ae.markAt (H:ae σ I base w h) {d s g:Nat} {bd bd':aW} {b o k:Nat} (hl:Abs.live h d s g=bd) (hne:bd≠ .dead) (hs:σ g=some (b,o,k))
  (hb:aO w b) (hfr:ai σ ⟨g,bd⟩=some b∨I b) (hr:aL σ (fun x=>I x∨x=b) base w ⟨g,bd'⟩) (hbd:ai σ ⟨g,bd'⟩=none):
  ae σ (fun x=>I x∨x=b) base w (hput h d s ⟨g,bd'⟩):=by
 refine H.put (fun _ _ h=>h) (fun _ h=> .inl h) (aD.refl I w) (fun x hx=>hx.elim (H.inW x) (fun e=>e▸hb)) d s _ hr ?_
 intro d' s' b' hne' hb'
 have hf:=aM (H.rows d' s') hb'
 refine ⟨rfl,fun hx=> ?_,by rw [hbd];simp⟩
 rcases hx with hx | hx
 ·exact hf.2.1 hx
 ·subst hx
  rcases hfr with hfr | hfr
  ·have hlive:=b8 hl hne
   exact hne' (H.apart d s d' s' _ (by rw [hlive];exact hfr) hb')
  ·exact hf.2.1 hfr
def bv (I I':af) (base:af):Prop:=(∀b,I b→I' b)∧ ∀b,I' b→I b∨ ¬base b
theorem bv.refl:bv I I base:=⟨fun _ h=>h,fun _ h=> .inl h⟩
theorem bv.trans {I'':af} (h:bv I I' base) (k:bv I' I'' base):bv I I'' base:=⟨fun b hb=>k.1 b (h.1 b hb),fun b hb=>(k.2 b hb).elim (h.2 b) .inr⟩
theorem cN {g k:Nat} {e:TypeId} {xs:List PV} {fz:Bool} (hr:aL σ I base w ⟨g,.row k e xs fz⟩):
  ∃b o n,σ g=some (b,o,k)∧b<w.heap.size∧(fz=false→ ¬base b)∧(ai σ ⟨g,.row k e xs fz⟩=some b∨I b)∧o+xs.length*k≤n∧w.shape? b=some (e,n)∧
   (∀x∈xs,x.cells.length=k∧x.ok=true)∧
   (∀i x,xs[i]? =some x→ ∀(j:Nat) (p:PV),x.cells[j]? =some p→ ∃u,w.cell? ⟨b,o+i*k+j,none⟩=some u∧u.oneCell'=true∧aj I w p u)∧Fz I base w b n fz:=by
 obtain ⟨b,o,n,hs,hsh,hn,hx,hc,hz⟩:=hr
 refine ⟨b,o,n,hs,eU hsh,?_,?_,hn,hsh,hx,hc,hz⟩
 ·rintro rfl;exact hz.2.1
 ·cases fz with
  | true=>exact .inr hz
  | false=>exact .inl (by simp [ai,hs])
theorem aL.freeze {g k:Nat} {e:TypeId} {xs:List PV} {fz:Bool} {b o:Nat} (hr:aL σ I base w ⟨g,.row k e xs fz⟩) (hs:σ g=some (b,o,k)):
  aL σ (fun x=>I x∨x=b) base w ⟨g,.row k e xs true⟩:=by
 obtain ⟨b',o',n,hs',hsh,hn,hx,hc,hz⟩:=hr
 rw [hs] at hs'
 simp only [Option.some.injEq,Prod.mk.injEq] at hs'
 obtain ⟨rfl,rfl,_⟩:=hs'
 exact ⟨b,o,n,hs,hsh,hn,hx,fun i x hi j p hp=>by
  obtain ⟨u,h1,h2,h3⟩:=hc i x hi j p hp
  exact ⟨u,h1,h2,h3.mono (fun _ h=> .inl h) fun _ _=>rfl⟩,.inr rfl⟩
theorem mi {P:Nat→Nat→Prop} {Q:Nat→Nat→Value→Prop} (hh: ∀i j,P i j→ ∃u,Q i j u): ∃vs:Nat→Nat→Value,∀i j,P i j→Q i j (vs i j):=by
 classical
 refine ⟨fun i j=>if hp:P i j then Classical.choose (hh i j hp) else default,fun i j hp=> ?_⟩
 simp only [dif_pos hp]
 exact Classical.choose_spec (hh i j hp)
def cy (σ:ak) (I:af) (h:aa) (k:aH):Prop:= ∃b o m,σ (ac h k.1 k.2).g=some (b,o,m)∧I b
def cg (h:aa) (k:aH):Prop:=(∃v fz,(ac h k.1 k.2).b= .box v fz)∨ ∃m e xs fz,(ac h k.1 k.2).b= .row m e xs fz
theorem jH {k:Nat} {xs:List PV} {b o:Nat} (hI: ∀b,I b→I' b) (hc: ∀i x,xs[i]? =some x→ ∀(j:Nat) (p:PV),x.cells[j]? =some p→ ∃u,w.cell? ⟨b,o+i*k+j,none⟩=some u∧u.oneCell'=true∧aj I w p u):
  ∃vs:Nat→Nat→Value,∀i x,xs[i]? =some x→ ∀(j:Nat) (p:PV),x.cells[j]? =some p→w.cell? ⟨b,o+i*k+j,none⟩=some (vs i j)∧(vs i j).oneCell'=true∧aj I' w p (vs i j):=by
 obtain ⟨vs,hvs⟩:=mi (P:=fun i j=> ∃x p,xs[i]? =some x∧x.cells[j]? =some p)
  (Q:=fun i j u=>w.cell? ⟨b,o+i*k+j,none⟩=some u∧u.oneCell'=true∧ ∀x p,xs[i]? =some x→x.cells[j]? =some p→aj I' w p u) fun i j ⟨x,p,hi,hj⟩=>by
   obtain ⟨u,h1,h2,h3⟩:=hc i x hi j p hj
   refine ⟨u,h1,h2,fun x' p' hi' hj'=> ?_⟩
   rw [hi] at hi';injection hi' with hi';subst hi'
   rw [hj] at hj';injection hj' with hj';subst hj'
   exact h3.mono hI fun _ _=>rfl
 exact ⟨vs,fun i x hi j p hj=>⟨(hvs i j ⟨x,p,hi,hj⟩).1,(hvs i j ⟨x,p,hi,hj⟩).2.1,(hvs i j ⟨x,p,hi,hj⟩).2.2 x p hi hj⟩⟩
theorem hU {d s g:Nat} {b:aW} (hl:live h d s g=b) (hne:b≠ .dead):(ac h d s).g=g∧(ac h d s).b=b:=by
 have:=b8 hl hne
 rw [this]
 exact ⟨rfl,rfl⟩
theorem hX {f:AV→Option (PV×List aH)}
  (hf: ∀(v:AV) (p:PV) (ks:List aH) (u:Value),f v=some (p,ks)→ab σ I w v u→(∀k∈ks,cg h k)∧ ∀I',(∀b,I b→I' b)→(∀k∈ks,cy σ I' h k)→aj I' w p u):
  ∀(l:List AV) (ps:List PV) (ks:List aH) (us:List Value),bF f l=some (ps,ks)→us.length=l.length→(∀(j:Nat) (v:AV) (u:Value),l[j]? =some v→us[j]? =some u→ab σ I w v u)→
   ps.length=l.length∧(∀k∈ks,cg h k)∧ ∀I',(∀b,I b→I' b)→(∀k∈ks,cy σ I' h k)→ ∀(j:Nat) (p:PV) (u:Value),ps[j]? =some p→us[j]? =some u→aj I' w p u
 | [],ps,ks,us,he,hl,hr=>by
  simp only [bF,Option.some.injEq,Prod.mk.injEq] at he
  obtain ⟨rfl,rfl⟩:=he
  exact ⟨rfl,by simp,fun I' _ _ j p u hp=>by simp at hp⟩
 | v::l,ps,ks,us,he,hl,hr=>by
  match us,hl with
  | u::us,hl=>
   simp only [bF,Option.bind_eq_some_iff,Option.map_eq_some_iff,Prod.exists] at he
   obtain ⟨p,k1,hp,ps',k2,hps,he⟩:=he
   simp only [Prod.mk.injEq] at he
   obtain ⟨rfl,rfl⟩:=he
   obtain ⟨hk1,hp1⟩:=hf v p k1 u hp (hr 0 v u rfl rfl)
   obtain ⟨hlen,hk2,hp2⟩:=hX hf l ps' k2 us hps (by simpa using hl) (fun j v' u' hv hu=>hr (j+1) v' u' (by simpa using hv) (by simpa using hu))
   refine ⟨by simp [hlen],fun k hk=>(List.mem_append.1 hk).elim (hk1 k) (hk2 k),fun I' hI hs j p' u' hp' hu'=> ?_⟩
   cases j with
   | zero=>
    simp at hp' hu'
    subst hp';subst hu'
    exact hp1 I' hI fun k hk=>hs k (by simp [hk])
   | succ j=>exact hp2 I' hI (fun k hk=>hs k (by simp [hk])) j p' u' (by simpa using hp') (by simpa using hu')
theorem jI: ∀ {n:Nat} {v:AV} {p:PV} {ks:List aH},pk h n v=some (p,ks)→v.ok=true→p.ok=true
 | 0,_,_,_,he,_=>by simp [pk] at he
 | n+1,v,p,ks,he,ho=>by
  cases v with
  | pv q=>simp only [pk,Option.some.injEq,Prod.mk.injEq] at he;obtain ⟨rfl,_⟩:=he;exact ho
  | mptr d s g i off=>
   simp only [pk] at he
   split at he
   ·split at he
    ·simp only [Option.map_eq_some_iff,Prod.exists,Prod.mk.injEq] at he
     obtain ⟨_,_,_,rfl,_⟩:=he;rfl
    ·cases he
   ·simp only [Option.map_eq_some_iff,Prod.mk.injEq] at he
    obtain ⟨_,_,rfl,_⟩:=he;rfl
   ·cases he
  | msl d s g off m full=>
   simp only [pk] at he
   split at he
   ·split at he
    ·simp only [Option.some.injEq,Prod.mk.injEq] at he;obtain ⟨rfl,_⟩:=he;rfl
    ·cases he
   ·cases he
  | agg l=>
   simp only [pk,Option.map_eq_some_iff,Prod.exists,Prod.mk.injEq] at he
   obtain ⟨_,_,_,rfl,_⟩:=he;rfl
  | tup l=>cases ho
  | clo f a b=>
   simp only [pk,Option.bind_eq_some_iff,Option.map_eq_some_iff,Prod.exists,Prod.mk.injEq] at he
   obtain ⟨_,_,_,_,_,_,rfl,_⟩:=he;rfl
  | yld d s g=>simp [pk] at he
  | ifc t v=>
   simp only [pk,Option.map_eq_some_iff,Prod.exists,Prod.mk.injEq] at he
   obtain ⟨_,_,_,rfl,_⟩:=he;rfl
  | btag t=>simp [pk] at he
  | mref d s g=>simp [pk] at he
theorem eX (H:ae σ I base w h): ∀(n:Nat) (v:AV) (p:PV) (ks:List aH) (u:Value),pk h n v=some (p,ks)→ab σ I w v u→
  (∀k∈ks,cg h k)∧ ∀I',(∀b,I b→I' b)→(∀k∈ks,cy σ I' h k)→aj I' w p u
 | 0,v,p,ks,u,he,hr=>by simp [pk] at he
 | n+1,v,p,ks,u,he,hr=>by
  have ih:=hX (σ:=σ) (I:=I) (w:=w) (h:=h) (f:=pk h n) (eX H n)
  cases hr with
  | pv p0 v0 hp=>
   simp only [pk,Option.some.injEq,Prod.mk.injEq] at he
   obtain ⟨rfl,rfl⟩:=he
   exact ⟨by simp,fun I' hI _=>hp.mono hI fun _ _=>rfl⟩
  | mptr d s g i off b o k hs=>
   simp only [pk] at he
   split at he
   ·rename_i v0 fz hl
    split at he
    ·rename_i hi
     subst hi
     simp only [Option.map_eq_some_iff,Prod.exists,Prod.mk.injEq] at he
     obtain ⟨p1,k1,hp1,rfl,rfl⟩:=he
     obtain ⟨b0,k0,e0,u0,hs0,hsh,hok,hru,hz,hf,h1c,hsz,hcell⟩:=cM (H.live hl (by simp))
     rw [hs] at hs0
     simp only [Option.some.injEq,Prod.mk.injEq] at hs0
     obtain ⟨rfl,rfl,rfl⟩:=hs0
     obtain ⟨hkd,hpr⟩:=eX H n v0 p1 k1 u0 hp1 hru
     obtain ⟨hlg,hlb⟩:=hU hl (by simp)
     refine ⟨fun k hk=> ?_,fun I' hI hsafe=> ?_⟩
     ·rcases List.mem_cons.1 hk with rfl | hk
      ·exact .inl ⟨v0,fz,hlb⟩
      ·exact hkd k hk
     ·have hprep:=hpr I' hI fun k hk=>hsafe k (by simp [hk])
      have hpok:=jI hp1 hok
      obtain ⟨hps,hp1c,hpc⟩:=hprep.cells hpok
      obtain ⟨b2,o2,m2,hs2,hIb⟩:=hsafe (d,s) (by simp)
      rw [hlg,hs] at hs2
      simp only [Option.some.injEq,Prod.mk.injEq] at hs2
      obtain ⟨rfl,_,_⟩:=hs2
      have hx: ∀j c,p1.cells[j]? =some c→ ∃x,u0.cells[j]? =some x∧w.cell? ⟨b,j,none⟩=some x∧x.oneCell'=true∧aj I' w c x:=by
       intro j c hc
       have hj:j<u0.cells.size:=by
        have:=(List.getElem?_eq_some_iff.1 hc).1
        omega
       exact ⟨u0.cells[j],Array.getElem?_eq_getElem hj,hcell j _ (Array.getElem?_eq_getElem hj),hp1c _ (by simp),hpc j c _ hc (Array.getElem?_eq_getElem hj)⟩
      have:=aj.ptr (I:=I') (w:=w) p1 off b 0 (fun j=>u0.cells.getD j default) hIb (fun j c hc=> ?_) (fun j c hc=> ?_)
      ·simpa using this
      ·obtain ⟨x,h1,h2,h3,_⟩:=hx j c hc
       simp only [Nat.zero_add,Array.getD_eq_getD_getElem?,h1,Option.getD_some]
       exact ⟨h2,h3⟩
      ·obtain ⟨x,h1,h2,h3,h4⟩:=hx j c hc
       simp only [Array.getD_eq_getD_getElem?,h1,Option.getD_some]
       exact h4
    ·cases he
   ·rename_i k0 e0 xs fz hl
    simp only [Option.map_eq_some_iff,Prod.mk.injEq] at he
    obtain ⟨x,hx,rfl,rfl⟩:=he
    obtain ⟨b',o',n',hs',_,_,_,_,_,_,hc,_⟩:=cN (H.live hl (by simp))
    rw [hs] at hs'
    simp only [Option.some.injEq,Prod.mk.injEq] at hs'
    obtain ⟨rfl,rfl,rfl⟩:=hs'
    obtain ⟨hlg,hlb⟩:=hU hl (by simp)
    refine ⟨fun k hk=> ?_,fun I' hI hsafe=> ?_⟩
    ·rw [List.mem_singleton.1 hk]
     exact .inr ⟨_,_,_,_,hlb⟩
    ·obtain ⟨b2,o2,m2,hs2,hIb⟩:=hsafe (d,s) (by simp)
     rw [hlg,hs] at hs2
     simp only [Option.some.injEq,Prod.mk.injEq] at hs2
     obtain ⟨rfl,_,_⟩:=hs2
     obtain ⟨vs,hv⟩:=jH hI hc
     exact .ptr x off b (o+i*k) (vs i) hIb (fun j p hp=>⟨(hv i x hx j p hp).1,(hv i x hx j p hp).2.1⟩) (fun j p hp=>(hv i x hx j p hp).2.2)
   ·cases he
  | msl d s g off m full b o k cap ad had hs hn hfull hroom=>
   simp only [pk] at he
   split at he
   ·rename_i k0 e0 xs fz hl
    split at he
    ·rename_i hle
     simp only [Option.some.injEq,Prod.mk.injEq] at he
     obtain ⟨rfl,rfl⟩:=he
     obtain ⟨b',o',n',hs',_,_,_,_,_,hx,hc,_⟩:=cN (H.live hl (by simp))
     rw [hs] at hs'
     simp only [Option.some.injEq,Prod.mk.injEq] at hs'
     obtain ⟨rfl,rfl,rfl⟩:=hs'
     obtain ⟨hlg,hlb⟩:=hU hl (by simp)
     refine ⟨fun k hk=> ?_,fun I' hI hsafe=> ?_⟩
     ·rw [List.mem_singleton.1 hk]
      exact .inr ⟨_,_,_,_,hlb⟩
     ·obtain ⟨b2,o2,m2,hs2,hIb⟩:=hsafe (d,s) (by simp)
      rw [hlg,hs] at hs2
      simp only [Option.some.injEq,Prod.mk.injEq] at hs2
      obtain ⟨rfl,_,_⟩:=hs2
      obtain ⟨vs,hv⟩:=jH hI hc
      have hlen:((xs.drop off).take m).length=m:=by simp;omega
      have ac: ∀i x,((xs.drop off).take m)[i]? =some x→xs[off+i]? =some x:=by
       intro i x hi
       rw [List.getElem?_take] at hi
       split at hi
       ·rwa [List.getElem?_drop] at hi
       ·cases hi
      have:=aj.sl (I:=I') (w:=w) k full ((xs.drop off).take m) b (o+off*k) cap (fun i j=>vs (off+i) j) (by omega) (by rw [hlen];exact hfull) hIb
       (fun x hxm=>hx x (List.mem_of_mem_drop (List.mem_of_mem_take hxm)))
       (fun i x hi j p hp=>by
        have:=hv (off+i) x (ac i x hi) j p hp
        rw [show o+off*k+i*k+j=o+(off+i)*k+j by rw [Nat.add_mul];omega]
        exact ⟨this.1,this.2.1⟩)
       (fun i x hi j p hp=>(hv (off+i) x (ac i x hi) j p hp).2.2)
      rw [hlen] at this
      by_cases h0:cap=0
      ·subst h0
       have hm:m=0:=by omega
       subst hm
       exact .emp k full _ 0 fun _=>rfl
      ·rw [had h0]
       exact this
    ·cases he
   ·cases he
  | agg cs vs hl h1 hr=>
   simp only [pk,Option.map_eq_some_iff,Prod.exists,Prod.mk.injEq] at he
   obtain ⟨ps,k1,hps,rfl,rfl⟩:=he
   obtain ⟨hlen,hkd,hp⟩:=ih cs ps k1 vs hps hl hr
   exact ⟨hkd,fun I' hI hs=> .agg ps vs (by omega) h1 (hp I' hI hs)⟩
  | tup cs vs hl hr=>
   simp only [pk,Option.map_eq_some_iff,Prod.exists,Prod.mk.injEq] at he
   obtain ⟨ps,k1,hps,rfl,rfl⟩:=he
   obtain ⟨hlen,hkd,hp⟩:=ih cs ps k1 vs hps hl hr
   exact ⟨hkd,fun I' hI hs=> .tup ps vs (by omega) (hp I' hI hs)⟩
  | clo f a b va vb hla hlb hra hrb=>
   simp only [pk,Option.bind_eq_some_iff,Option.map_eq_some_iff,Prod.exists,Prod.mk.injEq] at he
   obtain ⟨pa,k1,hpa,pb,k2,hpb,rfl,rfl⟩:=he
   obtain ⟨hlen1,hk1,hp1⟩:=ih a pa k1 va hpa hla hra
   obtain ⟨hlen2,hk2,hp2⟩:=ih b pb k2 vb hpb hlb hrb
   exact ⟨fun k hk=>(List.mem_append.1 hk).elim (hk1 k) (hk2 k),fun I' hI hs=> .clo f pa pb va vb (by omega) (by omega) (hp1 I' hI fun k hk=>hs k (by simp [hk])) (hp2 I' hI fun k hk=>hs k (by simp [hk]))⟩
  | yld d s g b o k h=>simp [pk] at he
  | ifc t v0 u0 hv=>
   simp only [pk,Option.map_eq_some_iff,Prod.exists,Prod.mk.injEq] at he
   obtain ⟨p1,k1,hp1,rfl,rfl⟩:=he
   obtain ⟨hkd,hpr⟩:=eX H n v0 p1 k1 u0 hp1 hv
   exact ⟨hkd,fun I' hI hs=> .iface t p1 u0 (hpr I' hI hs)⟩
  | btag t=>simp [pk] at he
  | mref d s g b o k h=>simp [pk] at he
theorem ae.mark_ (H:ae σ I base w h) {k:aH} (hk:cg h k): ∃I',ae σ I' base w (mark h k)∧bv I I' base∧cy σ I' h k:=by
 obtain ⟨d,s⟩:=k
 have hrow:=H.rows d s
 generalize hr:ac h d s=r at hrow
 obtain ⟨g,bd⟩:=r
 have hlive:Abs.live h d s g=bd:=by unfold Abs.live;rw [hr];simp
 have hmark:Abs.mark h (d,s)=hput h d s ⟨g,bf bd⟩:=by unfold Abs.mark;rw [hr]
 rw [hmark]
 unfold cg at hk
 simp only [hr] at hk
 rcases hk with ⟨v,fz,rfl⟩ | ⟨m,e,xs,fz,rfl⟩
 ·obtain ⟨b,e0,hs,hsh,hok,hc,hz⟩:=hrow
  refine ⟨fun x=>I x∨x=b,H.markAt hlive (by simp) hs (.of_shape hsh) ?_ ⟨b,e0,hs,hsh,hok,fun j p hp=> ?_,.inr rfl⟩ rfl,⟨fun _ h=> .inl h,fun x hx=>hx.elim .inl fun e=> ?_⟩,b,0,1,by rw [hr];exact hs,.inr rfl⟩
  ·cases fz with
   | true=>exact .inr hz
   | false=>exact .inl (by simp [ai,hs])
  ·obtain ⟨u,h1,h2,h3⟩:=hc j p hp
   exact ⟨u,h1,h2,h3.mono (fun _ _ h=>h) (fun _ h=> .inl h) (aD.refl _ _).zero⟩
  ·subst e
   cases fz with
   | true=>exact .inl hz
   | false=>exact .inr hz.2.1
 ·have hrow':=hrow
  obtain ⟨b,o,n,hs,hb,hbase,hfr,hn,hsh,hx,hc,hz⟩:=cN hrow
  refine ⟨fun x=>I x∨x=b,H.markAt hlive (by simp) hs (.of_shape hsh) hfr (aL.freeze hrow' hs) rfl,⟨fun _ h=> .inl h,fun x hx=>hx.elim .inl fun e=> ?_⟩,b,o,m,by rw [hr];exact hs,.inr rfl⟩
  subst e
  cases fz with
  | true=>exact .inl hz
  | false=>exact .inr (hbase rfl)
theorem jJ (k:aH) (d s:Nat):(ac (mark h k) d s).g=(ac h d s).g∧(ac (mark h k) d s).b=if k=(d,s) then bf (ac h d s).b else (ac h d s).b:=by
 unfold mark
 rw [bz]
 by_cases e:k.1=d∧k.2=s
 ·have:k=(d,s):=Prod.ext e.1 e.2
  rw [if_pos e,if_pos this,this]
  exact ⟨rfl,rfl⟩
 ·have:k≠(d,s):=fun hh=>e ⟨by rw [hh],by rw [hh]⟩
  rw [if_neg e,if_neg this]
  exact ⟨rfl,rfl⟩
theorem cg.mark {k k':aH} (hk:cg h k):cg (Abs.mark h k') k:=by
 have hg:=jJ (h:=h) k' k.1 k.2
 unfold cg
 rw [hg.2]
 rcases hk with ⟨v,fz,hv⟩ | ⟨m,e,xs,fz,hv⟩
 ·left
  split<;>rw [hv]
  ·exact ⟨v,true,rfl⟩
  ·exact ⟨v,fz,rfl⟩
 ·right
  split<;>rw [hv]
  ·exact ⟨m,e,xs,true,rfl⟩
  ·exact ⟨m,e,xs,fz,rfl⟩
theorem cy.mark {k k':aH} :cy σ I (Abs.mark h k') k↔cy σ I h k:=by
 unfold cy
 rw [(jJ (h:=h) k' k.1 k.2).1]
theorem ae.marks_: ∀(ks:List aH) {h:aa} {I:af},ae σ I base w h→(∀k∈ks,cg h k)→ ∃I',ae σ I' base w (marks ks h)∧bv I I' base∧ ∀k∈ks,cy σ I' h k
 | [],h,I,H,_=>⟨I,H,bv.refl,by simp⟩
 | k::ks,h,I,H,hk=>by
  obtain ⟨I1,H1,m1,hs1⟩:=H.mark_ (hk k (by simp))
  obtain ⟨I2,H2,m2,hs2⟩:=ae.marks_ ks H1 fun k' hk'=>(hk k' (by simp [hk'])).mark
  refine ⟨I2,H2,m1.trans m2,fun k' hk'=> ?_⟩
  rcases List.mem_cons.1 hk' with rfl | hk'
  ·obtain ⟨b,o,m,h1,h2⟩:=hs1
   exact ⟨b,o,m,h1,m2.1 b h2⟩
  ·exact cy.mark.1 (hs2 k' hk')
theorem d8 (n:Nat) (v:AV) (h:aa) (p:PV) (h':aa) (u:Value) (I:af) (he:frz n v h=some (p,h')) (hr:ab σ I w v u) (H:ae σ I base w h):
  ∃I',aj I' w p u∧ae σ I' base w h'∧bv I I' base:=by
 unfold frz at he
 simp only [Option.map_eq_some_iff,Prod.exists,Prod.mk.injEq] at he
 obtain ⟨p',ks,hp,rfl,rfl⟩:=he
 obtain ⟨hk,hpr⟩:=eX H n v p' ks u hp hr
 obtain ⟨I',H',m,hs⟩:=ae.marks_ ks H hk
 exact ⟨I',hpr I' m.1 hs,H',m⟩
theorem gc (n:Nat) (l:List AV) (h:aa) (ps:List PV) (h':aa) (us:List Value) (I:af) (he:bn n l h=some (ps,h')) (hl:us.length=l.length)
  (hr: ∀(j:Nat) (v:AV) (u:Value),l[j]? =some v→us[j]? =some u→ab σ I w v u) (H:ae σ I base w h):
  ∃I',ps.length=l.length∧(∀(j:Nat) (p:PV) (u:Value),ps[j]? =some p→us[j]? =some u→aj I' w p u)∧ae σ I' base w h'∧bv I I' base:=by
 unfold bn at he
 simp only [Option.map_eq_some_iff,Prod.exists,Prod.mk.injEq] at he
 obtain ⟨ps',ks,hp,rfl,rfl⟩:=he
 obtain ⟨hlen,hk,hpr⟩:=hX (h:=h) (eX H n) l ps' ks us hp hl hr
 obtain ⟨I',H',m,hs⟩:=ae.marks_ ks H hk
 exact ⟨I',hlen,hpr I' m.1 hs,H',m⟩
theorem mj {n:Nat} {v:AV} {h h':aa} {p:PV} (he:frz n v h=some (p,h')) (ho:v.ok=true):p.ok=true:=by
 unfold frz at he
 simp only [Option.map_eq_some_iff,Prod.exists,Prod.mk.injEq] at he
 obtain ⟨p',ks,hp,rfl,rfl⟩:=he
 exact jI hp ho
theorem eY {α:Type} (z:α): ∀(l:List α) (i j:Nat) (v u:α),i≠j→aR z (aR z l i v) j u=aR z (aR z l j u) i v
 | [],0,0,_,_,h=>absurd rfl h
 | [],0,j+1,v,u,_=>by simp [aR]
 | [],i+1,0,v,u,_=>by simp [aR]
 | [],i+1,j+1,v,u,h=>by simp [aR];exact eY z [] i j v u (by omega)
 | x::l,0,0,_,_,h=>absurd rfl h
 | x::l,0,j+1,v,u,_=>by simp [aR]
 | x::l,i+1,0,v,u,_=>by simp [aR]
 | x::l,i+1,j+1,v,u,h=>by simp [aR];exact eY z l i j v u (by omega)
theorem gd {α:Type} (z:α): ∀(l:List α) (i:Nat) (v u:α),aR z (aR z l i v) i u=aR z l i u
 | [],0,_,_=>rfl
 | [],i+1,v,u=>by simp [aR];exact gd z [] i v u
 | x::l,0,_,_=>rfl
 | x::l,i+1,v,u=>by simp [aR];exact gd z l i v u
theorem ge (h:aa) {d s d' s':Nat} (r r':am) (hne: ¬(d=d'∧s=s')):hput (hput h d s r) d' s' r'=hput (hput h d' s' r') d s r:=by
 unfold hput
 by_cases hd:d=d'
 ·subst hd
  have hs:s≠s':=fun e=>hne ⟨rfl,e⟩
  rw [gd,gd,cw,cw,if_pos rfl,if_pos rfl,eY _ _ _ _ _ _ hs]
 ·rw [cw,cw,if_neg hd,if_neg (fun e=>hd e.symm),eY _ _ _ _ _ _ hd]
def aU (h h2:aa):Prop:= ∀d s g,live h d s g≠ .dead→bf (live h2 d s g)=bf (live h d s g)
theorem aU.refl (h:aa):aU h h:=fun _ _ _ _=>rfl
theorem gf (h:aa) (k:aH) (d s:Nat):ac (mark h k) d s=if k.1=d∧k.2=s then { ac h d s with b:=bf (ac h d s).b} else ac h d s:=by
 unfold mark
 rw [bz]
 by_cases e:k.1=d∧k.2=s
 ·obtain ⟨rfl,rfl⟩:=e;simp
 ·simp [e]
theorem ml (b:aW):bf (bf b)=bf b:=by cases b<;>rfl
theorem mn {b:aW} :bf b= .dead↔b= .dead:=by cases b<;>simp [bf]
theorem mo (h:aa) (k:aH) (d s g:Nat):bf (live (mark h k) d s g)=bf (live h d s g):=by
 unfold live
 rw [gf]
 by_cases e:k.1=d∧k.2=s
 ·rw [if_pos e]
  by_cases eg:(ac h d s).g=g<;>simp [eg,ml]
 ·rw [if_neg e]
theorem hY: ∀(ks:List aH) (h:aa) (d s g:Nat),bf (live (marks ks h) d s g)=bf (live h d s g)
 | [],_,_,_,_=>rfl
 | k::ks,h,d,s,g=>by
  have:=hY ks (mark h k) d s g
  rw [mo] at this
  exact this
theorem mp (h:aa) (k:aH) (d s:Nat):(ac (mark h k) d s).b= .dead↔(ac h d s).b= .dead:=by
 rw [gf]
 by_cases e:k.1=d∧k.2=s
 ·rw [if_pos e];exact mn
 ·rw [if_neg e]
theorem jK: ∀(ks:List aH) (h:aa) (d s:Nat),(ac (marks ks h) d s).b= .dead↔(ac h d s).b= .dead
 | [],_,_,_=>Iff.rfl
 | k::ks,h,d,s=>(jK ks (mark h k) d s).trans (mp h k d s)
theorem aU.marks_l (ks:List aH) (h:aa):aU (marks ks h) h:=fun d s g _=>(hY ks h d s g).symm
theorem aU.marks_r (ks:List aH) (h:aa):aU h (marks ks h):=fun d s g _=>hY ks h d s g
theorem aU.hput {h:aa} {d s:Nat} {r:am} (hd:(ac h d s).b= .dead):aU h (hput h d s r):=by
 intro d' s' g hl
 unfold live at*
 rw [bz]
 by_cases e:d=d'∧s=s'
 ·obtain ⟨rfl,rfl⟩:=e
  exfalso;apply hl
  by_cases eg:(ac h d s).g=g<;>simp [eg,hd]
 ·rw [if_neg e]
theorem mq (h:aa) (k k':aH):mark (mark h k) k'=mark (mark h k') k:=by
 by_cases e:k.1=k'.1∧k.2=k'.2
 ·have:k=k':=Prod.ext e.1 e.2
  rw [this]
 ·have e': ¬(k'.1=k.1∧k'.2=k.2):=fun x=>e ⟨x.1.symm,x.2.symm⟩
  have h1:ac (mark h k) k'.1 k'.2=ac h k'.1 k'.2:=by rw [gf,if_neg e]
  have h2:ac (mark h k') k.1 k.2=ac h k.1 k.2:=by rw [gf,if_neg e']
  conv=>lhs;rw [mark,h1];rw [mark]
  conv=>rhs;rw [mark,h2];rw [mark]
  exact ge h _ _ e
theorem jL: ∀(ks:List aH) (h:aa) (k:aH),marks ks (mark h k)=mark (marks ks h) k
 | [],_,_=>rfl
 | k'::ks,h,k=>by
  show marks ks (mark (mark h k) k')=mark (marks ks (mark h k')) k
  rw [mq,jL ks]
theorem jM: ∀(ks ks':List aH) (h:aa),marks ks (marks ks' h)=marks ks' (marks ks h)
 | ks,[],_=>rfl
 | ks,k::ks',h=>by
  show marks ks (marks ks' (mark h k))=marks ks' (mark (marks ks h) k)
  rw [jM ks ks',jL]
theorem mr {h:aa} {d s:Nat} {r:am} {k:aH} (hne: ¬(d=k.1∧s=k.2)):mark (hput h d s r) k=hput (mark h k) d s r:=by
 unfold mark
 rw [bz,if_neg hne,ge h _ _ hne]
theorem jN {d s:Nat} {r:am} : ∀ {ks:List aH} {h:aa},(∀k∈ks,¬(d=k.1∧s=k.2))→marks ks (hput h d s r)=hput (marks ks h) d s r
 | [],_,_=>rfl
 | k::ks,h,hk=>by
  show marks ks (mark (hput h d s r) k)=hput (marks ks (mark h k)) d s r
  rw [mr (hk k (by simp)),jN fun k' hk'=>hk k' (by simp [hk'])]
theorem jO {b:aW} {v:AV} {fz:Bool} (h:bf b=bf (.box v fz)): ∃fz',b= .box v fz':=by
 cases b<;>simp [bf] at h
 exact ⟨_,by rw [h]⟩
theorem hZ {b:aW} {k:Nat} {e:TypeId} {xs:List PV} {fz:Bool} (h:bf b=bf (.row k e xs fz)): ∃fz',b= .row k e xs fz':=by
 cases b<;>simp [bf] at h
 obtain ⟨rfl,rfl,rfl⟩:=h
 exact ⟨_,rfl⟩
theorem h9 {h:aa} {d s g:Nat} {b:aW} (e:live h d s g=b) (hb:b≠ .dead):(ac h d s).b≠ .dead:=by
 unfold live at e
 split at e
 ·rw [e];exact hb
 ·exact absurd e.symm hb
theorem dG {f f2:AV→Option (PV×List aH)} {Q:aH→Prop} : ∀(l:List AV) (r:List PV×List aH),(∀v∈l,∀r,f v=some r→f2 v=some r∧ ∀k∈r.2,Q k)→
  bF f l=some r→bF f2 l=some r∧ ∀k∈r.2,Q k
 | [],r,_,h=>by simp [bF] at h ⊢; subst h;simp
 | v::l,r,hf,h=>by
  simp only [bF,Option.bind_eq_some_iff,Option.map_eq_some_iff] at h
  obtain ⟨⟨p,k1⟩,h1,⟨ps,k2⟩,h2,rfl⟩:=h
  obtain ⟨g1,q1⟩:=hf v (by simp) _ h1
  obtain ⟨g2,q2⟩:=dG l _ (fun v hv=>hf v (by simp [hv])) h2
  refine ⟨by simp [bF,g1,g2],fun k hk=> ?_⟩
  simp only [List.mem_append] at hk
  exact hk.elim (q1 k) (q2 k)
theorem cz {h h2:aa} (hr:aU h h2): ∀(n:Nat) (v:AV) (r:PV×List aH),pk h n v=some r→pk h2 n v=some r∧ ∀k∈r.2,(ac h k.1 k.2).b≠ .dead
 | 0,_,_,e=>by simp [pk] at e
 | n+1,v,r,e=>by
  cases v with
  | pv p=>simp [pk] at e ⊢; subst e;simp
  | mptr d s g i off=>
   simp only [pk] at e ⊢
   split at e
   ·rename_i w fz hl
    have:=hr d s g (by rw [hl];simp)
    rw [hl] at this
    obtain ⟨fz',hl2⟩:=jO this
    rw [hl2]
    by_cases hi:i=0
    ·simp only [hi,if_true,Option.map_eq_some_iff] at e ⊢
     obtain ⟨⟨p,ks⟩,h1,rfl⟩:=e
     obtain ⟨g1,q1⟩:=cz hr n w _ h1
     refine ⟨⟨_,g1,rfl⟩,fun k hk=> ?_⟩
     simp only [List.mem_cons] at hk
     rcases hk with rfl | hk
     ·exact h9 hl (by simp)
     ·exact q1 k hk
    ·simp [hi] at e
   ·rename_i k e' xs fz hl
    have:=hr d s g (by rw [hl];simp)
    rw [hl] at this
    obtain ⟨fz',hl2⟩:=hZ this
    rw [hl2]
    simp only [Option.map_eq_some_iff] at e ⊢
    obtain ⟨x,hx,rfl⟩:=e
    refine ⟨⟨x,hx,rfl⟩,fun k hk=> ?_⟩
    simp only [List.mem_singleton] at hk
    subst hk
    exact h9 hl (by simp)
   ·cases e
  | msl d s g off m full=>
   simp only [pk] at e ⊢
   split at e
   ·rename_i k e' xs fz hl
    have:=hr d s g (by rw [hl];simp)
    rw [hl] at this
    obtain ⟨fz',hl2⟩:=hZ this
    rw [hl2]
    simp only [] at e ⊢
    split at e
    ·rename_i hle
     injection e with e
     subst e
     refine ⟨by simp [hle],fun k hk=> ?_⟩
     simp only [List.mem_singleton] at hk
     subst hk
     exact h9 hl (by simp)
    ·cases e
   ·cases e
  | agg l=>
   simp only [pk,Option.map_eq_some_iff] at e ⊢
   obtain ⟨⟨ps,ks⟩,h1,rfl⟩:=e
   obtain ⟨g1,q1⟩:=dG l _ (fun v _ r hv=>cz hr n v r hv) h1
   exact ⟨⟨_,g1,rfl⟩,q1⟩
  | tup l=>
   simp only [pk,Option.map_eq_some_iff] at e ⊢
   obtain ⟨⟨ps,ks⟩,h1,rfl⟩:=e
   obtain ⟨g1,q1⟩:=dG l _ (fun v _ r hv=>cz hr n v r hv) h1
   exact ⟨⟨_,g1,rfl⟩,q1⟩
  | clo f a b=>
   simp only [pk,Option.bind_eq_some_iff,Option.map_eq_some_iff] at e ⊢
   obtain ⟨⟨pa,k1⟩,h1,⟨pb,k2⟩,h2,rfl⟩:=e
   obtain ⟨g1,q1⟩:=dG a _ (fun v _ r hv=>cz hr n v r hv) h1
   obtain ⟨g2,q2⟩:=dG b _ (fun v _ r hv=>cz hr n v r hv) h2
   refine ⟨⟨_,g1,_,g2,rfl⟩,fun k hk=> ?_⟩
   simp only [List.mem_append] at hk
   exact hk.elim (q1 k) (q2 k)
  | yld d s g=>simp [pk] at e
  | ifc t v=>
   simp only [pk,Option.map_eq_some_iff] at e ⊢
   obtain ⟨⟨p,ks⟩,h1,rfl⟩:=e
   obtain ⟨g1,q1⟩:=cz hr n v _ h1
   exact ⟨⟨_,g1,rfl⟩,q1⟩
  | btag t=>simp [pk] at e
  | mref d s g=>simp [pk] at e
section
variable {P:Program} {o:Oper} {ρ ρ':Operand→AV} {d gen:Nat} {h h':aa} {v:AV}
def cO (F:aa→Nat→Option (AV×aa×Nat)):Prop:= ∀h g v h' g',F h g=some (v,h',g')→h'=h∧g'=g∧ ∀h2 g2,F h2 g2=some (v,h2,g2)
def gg (F:aa→Nat→Option (AV×aa×Nat)):Prop:= ∀h g v h' g',F h g=some (v,h',g')→
 ∃ks,(∀k∈ks,(ac h k.1 k.2).b≠ .dead)∧h'=marks ks h∧g'=g∧ ∀h2 g2,aU h h2→F h2 g2=some (v,marks ks h2,g2)
def ia (d slot:Nat) (F:aa→Nat→Option (AV×aa×Nat)):Prop:= ∀h g v h' g',F h g=some (v,h',g')→
 ∃r,(ac h d slot).b= .dead∧h'=hput h d slot r∧g'=g∧ ∀h2 g2,(ac h2 d slot).b= .dead→F h2 g2=some (v,hput h2 d slot r,g2)
theorem cO.fz {F} (hF:cO F):gg F:=fun h g v h' g' e=>by
 obtain ⟨h1,h2,h3⟩:=hF h g v h' g' e
 exact ⟨[],by simp,h1,h2,fun h2 g2 _=>h3 h2 g2⟩
end
section
variable {P:Program} {o:Oper} {ρ ρ':Operand→AV} {d gen:Nat} {h h':aa} {v:AV}
theorem mu (hρ: ∀x∈o.op.operands,ρ x=ρ' x):ah P o ρ d gen h=ah P o ρ' d gen h:=by
 obtain ⟨dst,op,type,pos,after,guard⟩:=o
 have pairs: ∀ps:Array (Nat×Operand),(∀x∈ps.map (·.2),ρ x=ρ' x)→
   (ps.toList.map fun (i,x)=>(i,ρ x))=(ps.toList.map fun (i,x)=>(i,ρ' x)):=fun ps hp=>
  List.map_congr_left fun p hm=>by
   obtain ⟨i,x⟩:=p
   simp only [hp x (Array.mem_map.2 ⟨(i,x),by simpa using hm,rfl⟩)]
 have pairs2: ∀ps:Array (Nat×Operand),(∀x∈ps.map (·.2),ρ x=ρ' x)→
   (ps.toList.map fun q=>ρ q.2)=(ps.toList.map fun q=>ρ' q.2):=fun ps hp=>
  List.map_congr_left fun p hm=>by
   obtain ⟨i,x⟩:=p
   simp only [hp x (Array.mem_map.2 ⟨(i,x),by simpa using hm,rfl⟩)]
 have arr: ∀xs:Array Operand,(∀x∈xs,ρ x=ρ' x)→xs.toList.map ρ=xs.toList.map ρ':=fun xs hx=>List.map_congr_left fun x hm=>hx x (by simpa using hm)
 cases op<;>simp only [Op.operands] at hρ<;>simp only [ah]
 case build t ps=>rw [pairs ps fun x hx=>hρ x (by simpa using hx)]
 case buildSlice t n ps=>rw [pairs2 ps fun x hx=>hρ x (by simpa using hx)]
 case makeFunc fn first captured=>
  rw [arr first fun x hx=>hρ x (by simp [hx]),arr captured fun x hx=>hρ x (by simp [hx])]
 case call c=>
  obtain ⟨callee,args,argTypes⟩:=c
  cases callee with
  | builtin b=>simp only [];rw [arr args fun x hx=>hρ x (by simp [Call.operands,hx])]
  | _=>rfl
 case slice t x lo hi mx=>cases lo<;>cases hi<;>cases mx<;>simp_all
 case next it s=>cases s<;>simp_all
 case lookup t m k ok=>rw [hρ m (by simp),hρ k (by simp)]
 case mapUpdate t m k x=>rw [hρ m (by simp),hρ k (by simp),hρ x (by simp)]
 case insert t m k x=>rw [hρ m (by simp),hρ k (by simp),hρ x (by simp)]
 case makeMap t r=>cases r<;>rfl
 all_goals (first | rfl | (simp_all;done))
theorem eZ {X:Option AV} {h:aa} :(X.map fun r=>(r,h))=((X.map fun r=>(r,([]:aa))).map (·.1)).map fun r=>(r,h):=by cases X<;>rfl
theorem e6 {α:Type} {X:Option α} {f:α→AV} {h:aa} :(X.map fun r=>(f r,h))=((X.map fun r=>(f r,([]:aa))).map (·.1)).map fun r=>(r,h):=by cases X<;>rfl
theorem bP {α:Type} {X:Option α} {f f0:α→Option (AV×aa)} {h:aa} (hf: ∀a,f a=((f0 a).map (·.1)).map fun r=>(r,h)):
  X.bind f=((X.bind f0).map (·.1)).map fun r=>(r,h):=by cases X<;>simp [hf]
theorem jP {E:ao} (hc:aY E o= .pu) (hP:E.P=P) (h:aa):ah P o ρ d gen h=((ah P o ρ d gen []).map (·.1)).map fun r=>(r,h):=by
 obtain ⟨dst,op,type,pos,after,guard⟩:=o
 cases op<;>simp only [aY] at hc<;>try (first | (exfalso;revert hc;decide) | skip)
 case move x=>rfl
 case assign x=>rfl
 case pick c a b=>simp only [ah];split<;>rfl
 case nilCheck x=>simp only [ah];split<;>rfl
 case binOp op t x y ty=>exact eZ
 case typeAssert x xT aT ok=>exact eZ
 case unOp op t x=>exact bP fun a=>e6
 case makeFunc fn first captured=>simp only [ah];split<;>rfl
 case extract x i=>simp only [ah];split<;>first | exact eZ | exact e6 | rfl
 case fieldAddr st x f=>
  simp only [ah];split
  ·refine bP fun off=> ?_
   split<;>rfl
  ·rfl
 case index t x ix=>
  simp only [ah];split
  ·split<;>rfl
  ·split
   ·refine bP fun size=>bP fun ag=> ?_
    split
    ·exact eZ
    ·rfl
   ·rfl
  ·rfl
 case field t x f=>
  simp only [ah];split
  ·refine bP fun fd=>bP fun size=>bP fun ag=> ?_
   split
   ·exact eZ
   ·rfl
  ·rfl
 case build t parts=>
  simp only [ah]
  refine bP fun z=> ?_
  split
  ·split
   ·exact bP fun pl=>bP fun cs=>rfl
   ·exact bP fun pl=>bP fun cs=>rfl
   ·rfl
  ·rfl
 case convert src dst x=>
  simp only [ah]
  have hs:dx P src=false∧dx P dst=false:=by
   subst hP
   cases h1:dx E.P src<;>cases h2:dx E.P dst<;>simp [h1,h2] at hc ⊢
  unfold dx at hs
  split
  ·rename_i h1 h2 h3;rw [h2] at hs;simp at hs
  ·rename_i h1 h2;rw [h1] at hs;simp at hs
  ·exact bP fun v=>e6
 case call c=>
  obtain ⟨callee,args,argTypes⟩:=c
  cases callee with
  | builtin b=>
   cases b<;>simp only [aY] at hc<;>try (first | (exfalso;revert hc;decide) | skip)
   case len=>
    have hm: ∀h:aa,bG P .len argTypes h (args.toList.map ρ)=none:=by
     intro h
     subst hP
     unfold bG
     split
     ·split
      ·rename_i hx _;rw [hx] at hc;cases hc
      ·rename_i hx _;rw [hx] at hc;cases hc
      ·rfl
     all_goals first | rfl | contradiction
    simp only [ah,hm,cb]
    repeat' first | rfl | contradiction | exact bP fun vs=>e6 | split
   all_goals
    simp only [ah,cb,bG]
    repeat' first | rfl | contradiction | exact bP fun vs=>e6 | split
  | value f=>rfl
  | invoke r m=>rfl
theorem jQ {h2:aa} (hr:aU h h2) {d s g:Nat} {v:AV} {fz:Bool} (hl:live h d s g= .box v fz): ∃fz',live h2 d s g= .box v fz':=by
 have:=hr d s g (by rw [hl];simp)
 rw [hl] at this
 exact jO this
theorem ib {h2:aa} (hr:aU h h2) {d s g k:Nat} {e:TypeId} {xs:List PV} {fz:Bool} (hl:live h d s g= .row k e xs fz): ∃fz',live h2 d s g= .row k e xs fz':=by
 have:=hr d s g (by rw [hl];simp)
 rw [hl] at this
 exact hZ this
theorem map_some {α:Type} {X:Option α} {f:α→AV} {h2:aa} (e:(X.map fun r=>(f r,h))=some (v,h')):h'=h∧(X.map fun r=>(f r,h2))=some (v,h2):=by
 cases X<;>simp at e ⊢
 exact ⟨e.2.symm,e.1⟩
theorem bind_some {α:Type} {X:Option α} {f f2:α→Option (AV×aa)} {h2:aa} (e:X.bind f=some (v,h')) (hf: ∀a,f a=some (v,h')→h'=h∧f2 a=some (v,h2)):
  h'=h∧X.bind f2=some (v,h2):=by
 cases X with
 | none=>simp at e
 | some a=>exact hf a e
theorem mw {h2:aa} {t:TypeId} {a:Operand} (ho:o.op= .load t a) (hr:aU h h2) (e:ah P o ρ d gen h=some (v,h')):h'=h∧ah P o ρ d gen h2=some (v,h2):=by
 simp only [ah,ho] at e ⊢
 refine bind_some e fun m e=>bind_some e fun ag e=> ?_
 split at e
 ·rename_i d s g i off hx
  split at e
  ·rename_i w fz hl
   obtain ⟨fz',hl2⟩:=jQ hr hl
   simp only [hl2]
   split at e
   ·rename_i hi;simp only [hi,if_true];exact map_some e
   ·cases e
  ·rename_i k e' xs fz hl
   obtain ⟨fz',hl2⟩:=ib hr hl
   simp only [hl2]
   exact bind_some e fun x e=>map_some e
  ·cases e
 ·exact map_some e
 ·cases e
theorem my {h2:aa} {t:TypeId} {x:AV} {lo hi mx:Option AV} {v:AV} (hr:aU h h2) (e:eF P t h x lo hi mx=some v):eF P t h2 x lo hi mx=some v:=by
 unfold eF at*
 split at e
 ·exact e
 ·exact e
 ·simp only [bind,Option.bind_eq_some_iff] at e ⊢
  obtain ⟨b,hb,size,hs,e⟩:=e
  refine ⟨b,hb,size,hs,?_⟩
  split at e
  ·rename_i k e'' xs fz hl
   obtain ⟨fz',hl2⟩:=ib hr hl
   rw [hl2]
   exact e
  ·cases e
 ·simp only [bind,Option.bind_eq_some_iff] at e ⊢
  obtain ⟨b,hb,size,hs,e⟩:=e
  refine ⟨b,hb,size,hs,?_⟩
  split at e
  ·rename_i w fz hl
   obtain ⟨fz',hl2⟩:=jQ hr hl
   rw [hl2]
   exact e
  ·cases e
 ·cases e
theorem mz {h2:aa} {t:TypeId} {x:Operand} {lo hi mx:Option Operand} (ho:o.op= .slice t x lo hi mx) (hr:aU h h2) (e:ah P o ρ d gen h=some (v,h')):
  h'=h∧ah P o ρ d gen h2=some (v,h2):=by
 simp only [ah,ho] at e ⊢
 simp only [Option.map_eq_some_iff,Prod.mk.injEq] at e ⊢
 obtain ⟨a,ha,rfl,rfl⟩:=e
 exact ⟨rfl,a,my hr ha,rfl,trivial⟩
theorem mB {h2:aa} {t:TypeId} {x ix:Operand} (ho:o.op= .indexAddr t x ix) (hr:aU h h2) (e:ah P o ρ d gen h=some (v,h')):
  h'=h∧ah P o ρ d gen h2=some (v,h2):=by
 simp only [ah,ho] at e ⊢
 refine bind_some e fun i e=> ?_
 split at e
 ·refine bind_some e fun size e=> ?_
  split at e
  ·rename_i hi;rw [if_pos hi];exact map_some e
  ·cases e
 ·refine bind_some e fun size e=> ?_
  split at e
  ·rename_i hl
   obtain ⟨fz',hl2⟩:=ib hr hl
   rw [hl2]
   simp only []
   split at e
   ·rename_i hi;rw [if_pos hi];injection e with e;injection e with e1 e2;subst e1 e2;exact ⟨rfl,rfl⟩
   ·cases e
  ·cases e
 ·refine bind_some e fun size e=> ?_
  split at e
  ·rename_i hi;rw [if_pos hi];injection e with e;injection e with e1 e2;subst e1 e2;exact ⟨rfl,rfl⟩
  ·cases e
 ·refine bind_some e fun size e=> ?_
  split at e
  ·rename_i hi;rw [if_pos hi];injection e with e;injection e with e1 e2;subst e1 e2;exact ⟨rfl,rfl⟩
  ·cases e
 ·cases e
theorem jR {h2:aa} (hr:aU h h2) {d s g c:Nat} {es:List ME} (hl:live h d s g= .map c es):live h2 d s g= .map c es:=by
 have:=hr d s g (by rw [hl];simp)
 rw [hl] at this
 revert this
 cases live h2 d s g<;>simp [bf]
theorem mC {h2:aa} {t:TypeId} {m k:Operand} {ok:Bool} (ho:o.op= .lookup t m k ok) (hr:aU h h2) (e:ah P o ρ d gen h=some (v,h')):h'=h∧ah P o ρ d gen h2=some (v,h2):=by
 simp only [ah,ho] at e ⊢
 split at e
 ·refine bind_some e fun kd e=> ?_
  exact map_some e
 ·split at e
  ·rename_i hl
   rw [jR hr hl]
   simp only []
   refine bind_some e fun kd e=> ?_
   split at e
   ·simp only [Option.some.injEq,Prod.mk.injEq] at e ⊢; exact ⟨e.2.symm,e.1,trivial⟩
   ·exact map_some e
   ·cases e
  ·cases e
 ·cases e
theorem mD {h2:aa} {args:Array Operand} {argTypes:Array TypeId} (ho:o.op= .call { callee:= .builtin .len,args,argTypes}) (hr:aU h h2) (e:ah P o ρ d gen h=some (v,h')):h'=h∧ah P o ρ d gen h2=some (v,h2):=by
 simp only [ah,ho] at e ⊢
 generalize args.toList.map ρ=l at e ⊢
 match l,e with
 | [],e=>simp [bG,cb] at e
 | x::y::l,e=>simp [bG,cb] at e
 | [x],e=>
  cases ht:(argTypes[0]?).bind P.underlying with
  | none=>simp [bG,cb,ht] at e
  | some td=>
   by_cases hmap: ∃kt vt,td= .map kt vt
   ·obtain ⟨kt,vt,rfl⟩:=hmap
    have ha: ∀h:aa,cb P .len argTypes o.type d (o.dst.getD 0) gen h [x]=none:=by
     intro h
     simp only [cb,ht]
    simp only [ha] at e ⊢
    have hm: ∀ {r:AV×aa},bG P .len argTypes h [x]=some r→r.2=h∧bG P .len argTypes h2 [x]=some (r.1,h2):=by
     intro r hx
     simp only [bG,ht] at hx ⊢
     split at hx
     ·simp only [Option.some.injEq] at hx
      subst hx
      exact ⟨rfl,rfl⟩
     ·split at hx
      ·rename_i hl
       simp only [Option.some.injEq] at hx
       subst hx
       rw [jR hr hl]
       exact ⟨rfl,rfl⟩
      ·cases hx
     ·cases hx
    split at e
    ·rename_i r hx
     simp only [Option.some.injEq] at e
     subst e
     obtain ⟨k1,k2⟩:=hm hx
     exact ⟨k1,by rw [k2]⟩
    ·cases e
   ·have hn: ∀h:aa,bG P .len argTypes h [x]=none:=by
     intro h
     simp only [bG,ht]
     split
     ·rename_i hx;injection hx with hx;exact absurd ⟨_,_,hx⟩ hmap
     ·rename_i hx;injection hx with hx;exact absurd ⟨_,_,hx⟩ hmap
     ·rfl
    simp only [hn] at e ⊢
    simp only [cb,ht] at e ⊢
    split at e<;>first | (simp only [Option.some.injEq,Prod.mk.injEq] at e ⊢; exact ⟨e.2.symm,e.1,trivial⟩) | cases e
theorem mF {h2:aa} {n:Nat} {a:AV} {p:PV} (e:frz n a h=some (p,h')): ∃ks,(∀k∈ks,(ac h k.1 k.2).b≠ .dead)∧h'=marks ks h∧ ∀h2,aU h h2→frz n a h2=some (p,marks ks h2):=by
 unfold frz at e
 simp only [Option.map_eq_some_iff,Prod.mk.injEq] at e
 obtain ⟨⟨p',ks⟩,he,rfl,rfl⟩:=e
 refine ⟨ks,(cz (aU.refl h) n a _ he).2,rfl,fun h2 hr=> ?_⟩
 simp [frz,(cz hr n a _ he).1]
theorem mG {n:Nat} {l:List AV} {ps:List PV} (e:bn n l h=some (ps,h')): ∃ks,(∀k∈ks,(ac h k.1 k.2).b≠ .dead)∧h'=marks ks h∧ ∀h2,aU h h2→bn n l h2=some (ps,marks ks h2):=by
 unfold bn at e
 simp only [Option.map_eq_some_iff,Prod.mk.injEq] at e
 obtain ⟨⟨p',ks⟩,he,rfl,rfl⟩:=e
 refine ⟨ks,(dG l _ (fun v _ r hv=>cz (aU.refl h) n v r hv) he).2,rfl,fun h2 hr=> ?_⟩
 simp [bn,(dG l _ (fun v _ r hv=>cz hr n v r hv) he).1]
theorem mH {t:TypeId} {x:Operand} (ho:o.op= .makeInterface t x) (e:ah P o ρ d gen h=some (v,h')):
  ∃ks,(∀k∈ks,(ac h k.1 k.2).b≠ .dead)∧h'=marks ks h∧ ∀h2,aU h h2→ah P o ρ d gen h2=some (v,marks ks h2):=by
 simp only [ah,ho] at e ⊢
 split at e
 ·cases e
 ·cases e
 ·split at e
  ·rename_i hpp
   simp only [Option.some.injEq,Prod.mk.injEq] at e
   obtain ⟨rfl,rfl⟩:=e
   exact ⟨[],by simp,rfl,fun h2 _=>by simp [hpp,marks]⟩
  ·rename_i hpp
   simp only [Option.map_eq_some_iff,Prod.mk.injEq] at e
   obtain ⟨⟨p,h1⟩,hf,rfl,rfl⟩:=e
   obtain ⟨ks,k1,k2,k3⟩:=mF (h2:=h) hf
   exact ⟨ks,k1,k2,fun h2 hr=>by simp [hpp,k3 h2 hr]⟩
theorem mJ {E:ao} (hc:aY E o= .al) (e:ah P o ρ d gen h=some (v,h')): ∃s r,o.dst=some s∧h'=hput h d s r∧ ∀h2,ah P o ρ d gen h2=some (v,hput h2 d s r):=by
 obtain ⟨dst,op,type,pos,after,guard⟩:=o
 cases op<;>simp only [aY] at hc<;>try (first | (exfalso;revert hc;decide) | skip)
 case alloc t=>
  simp only [ah,bind,Option.bind_eq_some_iff] at e ⊢
  obtain ⟨z,hz,s,hs,e⟩:=e
  split at e
  ·rename_i hok
   injection e with e;injection e with e1 e2;subst e1 e2
   exact ⟨s,_,hs,rfl,fun h2=>⟨z,hz,s,hs,by rw [if_pos hok]⟩⟩
  ·cases e
 case box t x=>
  simp only [ah,bind,Option.bind_eq_some_iff] at e ⊢
  obtain ⟨s,hs,e⟩:=e
  split at e
  ·rename_i hok
   injection e with e;injection e with e1 e2;subst e1 e2
   exact ⟨s,_,hs,rfl,fun h2=>⟨s,hs,by rw [if_pos hok]⟩⟩
  ·cases e
 case convert src dst x=>split at hc<;>cases hc
 case makeMap t r=>
  cases r with
  | some r=>simp [ah] at e
  | none=>
   simp only [ah,Option.map_eq_some_iff,Prod.mk.injEq] at e ⊢
   obtain ⟨s,hs,rfl,rfl⟩:=e
   exact ⟨s,_,hs,rfl,fun h2=>⟨s,hs,rfl,rfl⟩⟩
 case call c=>
  obtain ⟨callee,args,argTypes⟩:=c
  exfalso
  cases callee with
  | builtin b=>cases b<;>simp at hc;split at hc<;>cases hc
  | value f=>
   cases f<;>simp only [] at hc<;>try (cases hc;done)
   split at hc<;>cases hc
  | invoke r m=>simp at hc
end
theorem jS {t:List AV} {dst:Option Tmp} {v:AV} {x:Operand} (h: ∀d,dst=some d→x≠ .tmp d):aB (bw t dst v) x=aB t x:=by
 cases dst with
 | none=>rfl
 | some d=>
  cases x with
  | tmp i=>simp only [aB,bw];rw [fX,if_neg (fun e=>h d rfl (by rw [e]))]
  | _=>rfl
theorem jT (t:List AV) {x y:Option Tmp} (v u:AV) (h: ∀d,x=some d→y≠some d):bw (bw t x v) y u=bw (bw t y u) x v:=by
 cases x with
 | none=>cases y<;>rfl
 | some d=>
  cases y with
  | none=>rfl
  | some e=>exact eY _ _ _ _ _ _ (fun q=>h d rfl (by rw [q]))
theorem jU {all:Array Oper} {o:Oper} {t:List AV} {dst:Option Tmp} {v:AV} (h: ∀d,dst=some d→d∉o.looksAt all):cc all (bw t dst v) o=cc all t o:=by
 cases dst with
 | none=>rfl
 | some d=>
  unfold cc
  cases hg:o.guard with
  | none=>rfl
  | some gw=>
   obtain ⟨j,want⟩:=gw
   simp only []
   cases ht:(all[j]?).bind (·.dst) with
   | none=>rfl
   | some i=>
    have hne:d≠i:=fun e=>h d rfl (by subst e;simp [Oper.looksAt,hg,ht])
    simp only [Option.bind_some,bw]
    rw [fX,if_neg hne]
section
variable {E:ao} {call:bi} {ys:Ys} {st:Bool} {d gen gb:Nat} {all:Array Oper}
theorem mL {o:Oper} {ρ ρ':Operand→AV} (hρ: ∀x∈o.op.operands,ρ x=ρ' x) (h:aa) (g:Nat):bj E call ys st d gen o ρ h g=bj E call ys st d gen o ρ' h g:=by
 unfold bj
 split
 ·rename_i f args argTypes ho
  rw [ho] at hρ
  have h1:ρ f=ρ' f:=hρ f (by simp [Op.operands,Call.operands])
  have h2:args.toList.map ρ=args.toList.map ρ':=List.map_congr_left fun x hx=>hρ x (by simp [Op.operands,Call.operands];exact .inr (by simpa using hx))
  rw [h1,h2]
 ·rename_i r m args argTypes ho
  rw [ho] at hρ
  have h1:ρ r=ρ' r:=hρ r (by simp [Op.operands,Call.operands])
  have h2:args.toList.map ρ=args.toList.map ρ':=List.map_congr_left fun x hx=>hρ x (by simp [Op.operands,Call.operands];exact .inr (by simpa using hx))
  rw [h1,h2]
 ·rw [mu hρ]
theorem gh {i:Nat} {o:Oper} {t:List AV} {dst:Option Tmp} {v:AV} (h: ∀d,dst=some d→d∉o.looksAt all):cK E call ys st d gb all i o (bw t dst v)=cK E call ys st d gb all i o t:=by
 funext hh g
 unfold cK
 rw [jU h,mL (ρ':=aB t)]
 intro x hx
 exact jS fun d hd hxd=>h d hd (by
  subst hxd
  exact List.mem_append_left _ (List.mem_filterMap.2 ⟨.tmp d,by simpa using hx,rfl⟩))
def ci (E:ao) (call:bi):Prop:= ∀fid args,E.own fid=false→E.inl fid=false→E.rd fid=false→args.any (bT an)=false→
 ∃r:List PV→Option PV,∀ys d slot gen h g,call ys fid args d slot gen h g=(bn an args h).bind fun (ps,h1)=>(r ps).map fun p=>(.pv p,h1,g)
inductive gi (E:ao) (d:Nat) (o:Oper) (F:aa→Nat→Option (AV×aa×Nat)):Prop
 | pu (h:cO F)
 | fz (hc:aY E o= .fz∨aY E o= .rd) (h:gg F)
 | al (slot:Nat) (hc:aY E o= .al) (hd:o.dst=some slot) (h:ia d slot F)
 | eff (hc:aY E o= .eff)
theorem jV {v:AV} :cO (fun h g=>some (v,h,g)):=fun h g v' h' g' e=>by
 simp only [Option.some.injEq,Prod.mk.injEq] at e
 obtain ⟨rfl,rfl,rfl⟩:=e
 exact ⟨rfl,rfl,fun _ _=>rfl⟩
theorem jW:cO (fun _ _=>none):=fun h g v' h' g' e=>by cases e
theorem ic {F:aa→Option (AV×aa)} (hF: ∀h v h',F h=some (v,h')→ ∃ks,(∀k∈ks,(ac h k.1 k.2).b≠ .dead)∧h'=marks ks h∧ ∀h2,aU h h2→F h2=some (v,marks ks h2)):
  gg (fun h g=>(F h).map fun (v,h)=>(v,h,g)):=fun h g v h' g' e=>by
 simp only [Option.map_eq_some_iff,Prod.mk.injEq] at e
 obtain ⟨⟨a,ha⟩,he,rfl,rfl,rfl⟩:=e
 obtain ⟨ks,k1,k2,k3⟩:=hF h a _ he
 exact ⟨ks,k1,k2,rfl,fun h2 g2 hr=>by simp [k3 h2 hr]⟩
theorem mM {F:aa→Option (AV×aa)} (hF: ∀h v h' h2,aU h h2→F h=some (v,h')→h'=h∧F h2=some (v,h2)):
  gg (fun h g=>(F h).map fun (v,h)=>(v,h,g)):=ic fun h v h' e=>
 ⟨[],by simp,(hF h v h' h (aU.refl h) e).1,fun h2 hr=>(hF h v h' h2 hr e).2⟩
theorem jX (hcall:ci E call) (o:Oper) (t:List AV):gi E d o (bj E call ys true d gen o (aB t)):=by
  by_cases hcl: ∃f args ats,o.op= .call { callee:= .value f,args:=args,argTypes:=ats}
  · obtain ⟨f,args,ats,ho⟩:=hcl
    cases hc:aY E o with
    | eff=>exact .eff hc
    | fz=>
      cases f with
      | func fid=>
        have hc':=hc
        simp only [aY,ho] at hc'
        split at hc'
        · cases hc'
        · rename_i hn
          simp only [Bool.or_eq_true,not_or,Bool.not_eq_true] at hn
          have hF: ∀h g,bj E call ys true d gen o (aB t) h g=if (args.toList.map (aB t)).any (bT an) then none else call ys fid (args.toList.map (aB t)) d (o.dst.getD 0) gen h g:=by
            intro h g
            unfold bj
            split
            · rename_i f' args' ats' ho'
              rw [ho] at ho'
              injection ho' with ho'
              injection ho' with h1 h2 h3
              injection h1 with h1
              subst h1 h2
              simp [aB,cJ,hc]
            · rename_i hinv
              rw [ho] at hinv
              cases hinv
            · rename_i hno _
              exact absurd ho (hno _ _ _)
          cases hm:(args.toList.map (aB t)).any (bT an) with
          | true => exact .pu (by have:bj E call ys true d gen o (aB t)=fun _ _=>none:=by funext h g;rw [hF,hm];rfl
                                  rw [this];exact jW)
          | false=>
            obtain ⟨r,hr⟩:=hcall fid _ hn.1.1 hn.1.2.1 hn.1.2.2 hm
            refine .fz (.inl hc) ?_
            have:bj E call ys true d gen o (aB t)=fun h g=>(((bn an (args.toList.map (aB t)) h).bind fun (ps,h1)=>(r ps).map fun p=>(AV.pv p,h1))).map fun (v,h)=>(v,h,g):=by
              funext h g
              rw [hF,hm,hr]
              cases hz:bn an (args.toList.map (aB t)) h with
              | none=>rfl
              | some q=>obtain ⟨ps,h1⟩:=q;cases hrp:r ps<;>simp [hrp]
            rw [this]
            refine ic fun h v h' e=> ?_
            simp only [Option.bind_eq_some_iff,Option.map_eq_some_iff,Prod.mk.injEq] at e
            obtain ⟨⟨ps,h1⟩,e1,p,e2,rfl,rfl⟩:=e
            obtain ⟨ks,k1,k2,k3⟩:=mG e1
            exact ⟨ks,k1,k2,fun h2 hr=>by simp [k3 h2 hr,e2]⟩
      | _=>simp [aY,ho] at hc
    | _=>
      exfalso
      cases f<;>simp [aY,ho] at hc<;>(try split at hc)<;>cases hc
  by_cases hin: ∃r m args ats,o.op= .call { callee:= .invoke r m,args:=args,argTypes:=ats}
  · obtain ⟨r,m,args,ats,ho⟩:=hin
    exact .eff (by simp [aY,ho])
  · have hst: ∀h g,bj E call ys true d gen o (aB t) h g=if (aY E o== .al)&& !dX h d o.dst then none else (ah E.P o (aB t) d gen h).map fun (v,h)=>(v,h,g):=by
      intro h g
      unfold bj
      split
      · rename_i f args ats ho;exact absurd ⟨f,args,ats,ho⟩ hcl
      · rename_i r m args ats ho;exact absurd ⟨r,m,args,ats,ho⟩ hin
      · simp
    cases hc:aY E o with
    | eff=>exact .eff hc
    | pu=>
      refine .pu fun h g v h' g' e=> ?_
      rw [hst,hc] at e
      simp only [Bool.false_and,Bool.false_eq_true,if_false,Option.map_eq_some_iff,Prod.mk.injEq,show ((gR.pu==gR.al)=false) from rfl] at e
      obtain ⟨⟨a,ha⟩,he,rfl,rfl,rfl⟩:=e
      rw [jP hc rfl] at he
      cases hx:((ah E.P o (aB t) d gen []).map (·.1)) with
      | none=>rw [hx] at he;cases he
      | some b=>
        rw [hx] at he
        simp only [Option.map_some,Option.some.injEq,Prod.mk.injEq] at he
        obtain ⟨rfl,rfl⟩:=he
        refine ⟨rfl,rfl,fun h2 g2=> ?_⟩
        rw [hst,hc,jP hc rfl,hx]
        rfl
    | rd=>
      refine .fz (.inr hc) ?_
      have:bj E call ys true d gen o (aB t)=fun h g=>(ah E.P o (aB t) d gen h).map fun (v,h)=>(v,h,g):=by
        funext h g;rw [hst,hc];rfl
      rw [this]
      refine mM fun h v h' h2 hr e=> ?_
      cases ho:o.op<;>simp only [aY,ho] at hc<;>try (first | (exfalso;revert hc;decide) | skip)
      · exact mw ho hr e
      · split at hc<;>cases hc
      · exact mz ho hr e
      · exact mB ho hr e
      · exact mC ho hr e
      · rename_i c
        obtain ⟨callee,args,argTypes⟩:=c
        cases callee with
        | builtin b=>
          cases b<;>simp at hc
          exact mD ho hr e
        | value f=>exact absurd ⟨_,_,_,ho⟩ hcl
        | invoke r m=>simp at hc
    | fz=>
      refine .fz (.inl hc) ?_
      have:bj E call ys true d gen o (aB t)=fun h g=>(ah E.P o (aB t) d gen h).map fun (v,h)=>(v,h,g):=by
        funext h g;rw [hst,hc];rfl
      rw [this]
      refine ic fun h v h' e=> ?_
      cases ho:o.op<;>simp only [aY,ho] at hc<;>try (first | (exfalso;revert hc;decide) | skip)
      · split at hc<;>cases hc
      · exact mH ho e
      · rename_i c
        obtain ⟨callee,args,argTypes⟩:=c
        exfalso
        cases callee with
        | builtin b=>cases b<;>simp at hc;split at hc<;>cases hc
        | value f=>exact hcl ⟨_,_,_,ho⟩
        | invoke r m=>simp at hc
    | al=>
      cases hd:o.dst with
      | none=>
        refine .pu ?_
        have:bj E call ys true d gen o (aB t)=fun _ _=>none:=by
          funext h g;rw [hst,hc,hd];simp [dX]
        rw [this];exact jW
      | some slot=>
        refine .al slot hc hd fun h g v h' g' e=> ?_
        have hdead: ∀h,dX h d (some slot)=true↔(ac h d slot).b= .dead:=by
          intro h
          unfold dX
          simp only []
          split<;>simp_all
        rw [hst,hc,hd] at e
        by_cases hk:dX h d (some slot)=true
        · simp only [hk,Bool.not_true,Bool.and_false,Bool.false_eq_true,if_false,Option.map_eq_some_iff,Prod.mk.injEq] at e
          obtain ⟨⟨a,ha⟩,he,rfl,rfl,rfl⟩:=e
          obtain ⟨s,r,hs,h1,h2⟩:=mJ hc he
          rw [hd] at hs
          injection hs with hs
          subst hs
          refine ⟨r,(hdead h).1 hk,h1,rfl,fun h3 g3 hk3=> ?_⟩
          rw [hst,hc,hd,(hdead h3).2 hk3,h2]
          rfl
        · simp [hk] at e
theorem jY (hcall:ci E call) (i:Nat) (o:Oper) (t:List AV):gi E d o (cK E call ys true d gb all i o t):=by
 unfold cK
 cases cc all t o with
 | true=>exact jX hcall o t
 | false=>exact .pu jV
theorem mN {x y:Oper} {ops:Array Oper} {Fx Fy:aa→Nat→Option (AV×aa×Nat)} (hx:gi E d x Fx) (hy:gi E d y Fy) (hok:bx E ops x y=true)
  {h hx' hy':aa} {g gx gy:Nat} {vx vy:AV} (ex:Fx h g=some (vx,hx',gx)) (ey:Fy hx' gx=some (vy,hy',gy)):
  ∃h' g',Fy h g=some (vy,h',g')∧Fx h' g'=some (vx,hy',gy):=by
 have hap:x.apart ops y=true:=by
  unfold bx at hok
  simp only [Bool.and_eq_true] at hok
  exact hok.1
 have pu_x:cO Fx→ ∃h' g',Fy h g=some (vy,h',g')∧Fx h' g'=some (vx,hy',gy):=fun hp=>by
  obtain ⟨rfl,rfl,k⟩:=hp _ _ _ _ _ ex
  exact ⟨_,_,ey,k _ _⟩
 have pu_y:cO Fy→ ∃h' g',Fy h g=some (vy,h',g')∧Fx h' g'=some (vx,hy',gy):=fun hp=>by
  obtain ⟨rfl,rfl,k⟩:=hp _ _ _ _ _ ey
  exact ⟨_,_,k _ _,ex⟩
 cases hx with
 | pu hp=>exact pu_x hp
 | eff hc=>
  cases hy with
  | pu hp=>exact pu_y hp
  | fz hc' h'=>rcases hc' with hc' | hc'<;>simp [bx,hc,hc'] at hok
  | al slot hc' _ _=>simp [bx,hc,hc'] at hok
  | eff hc'=>simp [bx,hc,hc'] at hok
 | fz hc hfx=>
  obtain ⟨kx,x1,rfl,rfl,x3⟩:=hfx _ _ _ _ _ ex
  cases hy with
  | pu hp=>exact pu_y hp
  | eff hc'=>rcases hc with hc | hc<;>simp [bx,hc,hc'] at hok
  | fz hc' hfy=>
   obtain ⟨ky,y1,rfl,rfl,y3⟩:=hfy _ _ _ _ _ ey
   refine ⟨_,_,y3 _ _ (aU.marks_l kx h),?_⟩
   rw [x3 _ _ (aU.marks_r ky h),jM]
  | al slot hc' hd hfy=>
   obtain ⟨r,y1,rfl,rfl,y3⟩:=hfy _ _ _ _ _ ey
   rw [jK] at y1
   refine ⟨_,_,y3 _ _ y1,?_⟩
   rw [x3 _ _ (aU.hput y1),jN]
   rintro k hk ⟨rfl,rfl⟩
   exact x1 k hk y1
 | al slot hc hd hfx=>
  obtain ⟨r,x1,rfl,rfl,x3⟩:=hfx _ _ _ _ _ ex
  cases hy with
  | pu hp=>exact pu_y hp
  | eff hc'=>simp [bx,hc,hc'] at hok
  | fz hc' hfy=>rcases hc' with hc' | hc'<;>simp [bx,hc,hc'] at hok
  | al slot' hc' hd' hfy=>
   obtain ⟨r',y1,rfl,rfl,y3⟩:=hfy _ _ _ _ _ ey
   have hne:slot≠slot':=by
    intro e
    subst e
    exact (Oper.apart_spec hap).2.1 _ hd hd'
   rw [bz,if_neg (by simp [hne])] at y1
   refine ⟨_,_,y3 _ _ y1,?_⟩
   rw [x3 _ _ (by rw [bz,if_neg (fun q=>hne q.2.symm)];exact x1),ge _ _ _ (fun q=>hne q.2.symm)]
theorem jZ (hcall:ci E call) {i j:Nat} {x y:Oper} {s s1 s2:St} (hok:bx E all x y=true) (ex:bp E call ys true d gb all j x s=some s1) (ey:bp E call ys true d gb all i y s1=some s2):
  ∃s1',bp E call ys true d gb all i y s=some s1'∧bp E call ys true d gb all j x s1'=some s2:=by
 have hap:x.apart all y=true:=by
  have:=hok
  unfold bx at this
  simp only [Bool.and_eq_true] at this
  exact this.1
 obtain ⟨a1,a2,a3⟩:=Oper.apart_spec hap
 unfold bp at ex ey
 simp only [Option.map_eq_some_iff] at ex
 obtain ⟨⟨vx,hx',gx⟩,ex,rfl⟩:=ex
 simp only [] at ey
 rw [gh a1] at ey
 simp only [Option.map_eq_some_iff] at ey
 obtain ⟨⟨vy,hy',gy⟩,ey,rfl⟩:=ey
 obtain ⟨h',g',e1,e2⟩:=mN (jY hcall j x s.t) (jY hcall i y s.t) hok ex ey
 refine ⟨{ t:=bw s.t y.dst vy,h:=h',g:=g'},by simp [bp,e1],?_⟩
 unfold bp
 simp only []
 rw [gh a3,e2]
 simp only [Option.map_some,jT s.t vx vy a2]
def bZ (E:ao) (call:bi) (ys:Ys) (st:Bool) (d gb:Nat) (all:Array Oper) (i:Nat) (s:St):Option St:=match all[i]? with
 | some o=>bp E call ys st d gb all i o s
 | none=>some s
def cP (E:ao) (call:bi) (ys:Ys) (st:Bool) (d gb:Nat) (all:Array Oper):List Nat→St→Option St
 | [],s=>some s
 | i::l,s=>(bZ E call ys st d gb all i s).bind (cP E call ys st d gb all l)
theorem j0: ∀(os:List Oper) (i:Nat) (s:St),(∀j,all[i+j]? =os[j]?)→eM E call ys st d gb all os i s=cP E call ys st d gb all (List.range' i os.length) s
 | [],_,_,_=>rfl
 | o::os,i,s,h=>by
  have h0:all[i]? =some o:=by simpa using h 0
  simp only [eM,List.length_cons,List.range'_succ,cP,bZ,h0]
  congr 1
  funext s
  exact j0 os (i+1) s fun j=>by have:=h (j+1);rw [show i+(j+1)=i+1+j by omega] at this;simpa using this
theorem mO (s:St):eM E call ys st d gb all all.toList 0 s=cP E call ys st d gb all (List.range all.size) s:=by
 rw [j0 _ 0 s (fun j=>by simp),List.range_eq_range',Array.length_toList]
def gj (E:ao) (all:Array Oper) (j i:Nat):Prop:= ∃x y,all[j]? =some x∧all[i]? =some y∧bx E all x y=true
end
variable {σ σ':ak} {I I':af} {base:af} {w w':World} {h:aa} {P:Program}
def ay (σ:ak) (I:af) (base:af) (w:World) (gen:Nat) (run:Result Next) (v:AV) (h':aa):Prop:=
 ∃nx w' u σ' I',run= .ok nx w'∧(nx= .value u∨(nx= .skip∧u=undef))∧ab σ' I' w' v u∧ae σ' I' base w' h'∧ar base σ I w σ' I' w'∧ ∀g,g≠gen→σ' g=σ g
theorem bv.ext (m:bv I I' base):ar base σ I w σ I' w:=⟨fun _ _ h=>h,m.1,m.2,aD.refl _ _,bu.refl _ _⟩
theorem ay.same {gen:Nat} {run:Result Next} {v:AV} (u:Value) (H:ae σ I base w h) (hrun:run= .ok (.value u) w) (hr:ab σ I w v u):ay σ I base w gen run v h:=
 ⟨_,w,u,σ,I,hrun,.inl rfl,hr,H,ar.refl _ _ _ _,fun _ _=>rfl⟩
theorem ay.frz {gen:Nat} {run:Result Next} {v:AV} {h':aa} (u:Value) (m:bv I I' base) (H:ae σ I' base w h') (hrun:run= .ok (.value u) w) (hr:ab σ I' w v u):ay σ I base w gen run v h':=
 ⟨_,w,u,σ,I',hrun,.inl rfl,hr,H,m.ext,fun _ _=>rfl⟩
theorem ap {s:Sem Value} {u:Value} {w w':World} (hs:s.run P w= .ok u w'):(do let x ←s;pure (Next.value x):Sem Next).run P w= .ok (.value u) w':=by
 simp [hs]
theorem ig {s:Sem Unit} {w w':World} (hs:s.run P w= .ok () w'):(do s;pure Next.skip:Sem Next).run P w= .ok .skip w':=by
 simp [hs]
theorem dH {t:TypeId} {i:TypeInfo} (hi:P.info? t=some i):(typeInfo t).run P w= .ok i w:=by simp [typeInfo,hi]
theorem bQ {t:TypeId} {n:Nat} (hi:aK P t=some n):(sizeOf t).run P w= .ok n w:=by
 unfold aK at hi
 simp only [Option.map_eq_some_iff] at hi
 obtain ⟨i,hi,rfl⟩:=hi
 simp [sizeOf,dH hi]
theorem mP {t:TypeId} {n:Nat} (hi:cW P t=some n): ∃i,P.info? t=some i∧i.bytes=n:=by
 unfold cW at hi
 simpa only [Option.map_eq_some_iff] using hi
theorem c6 {t:TypeId} {z:Value} (hi:bo P t=some z):(zeroValue t).run P w= .ok z w:=by
 unfold bo at hi
 simp only [Option.bind_eq_some_iff] at hi
 obtain ⟨i,hi,hz⟩:=hi
 simp [zeroValue,dH hi,hz]
theorem aq {t:TypeId} {d:TypeDesc} (hd:P.underlying t=some d):(underlying t).run P w= .ok d w:=by simp [underlying,hd]
theorem d9 {t:TypeId} {ag:Bool} (ha:bK P t=some ag):(isAgg t).run P w= .ok ag w:=by
 unfold bK at ha
 split at ha
 ·rename_i fs hd;injection ha with ha;subst ha;simp [isAgg,aq hd]
 ·rename_i n e hd;injection ha with ha;subst ha;simp [isAgg,aq hd]
 ·rename_i d hd1 hd2 hd3
  injection ha with ha
  subst ha
  simp only [isAgg,Sem.run_bind,aq hd3,Result.andThen_ok]
  rfl
 ·cases ha
theorem j1 {cs:List AV} {vs:List Value} (hl:vs.length=cs.length) (h1: ∀v∈vs,v.oneCell'=true)
  (hr: ∀(j:Nat) (p:AV) (v:Value),cs[j]? =some p→vs[j]? =some v→ab σ I w p v):ab σ I w (bY cs) (.agg vs.toArray):=by
 have key: ∀(cs:List AV) (ps:List PV),aF cs=some ps→cs=ps.map .pv:=by
  intro cs
  induction cs with
  | nil=>intro ps hp;simp [aF] at hp;subst hp;rfl
  | cons c cs ih=>
   intro ps hp
   cases c<;>simp only [aF,Option.map_eq_some_iff] at hp
   ·obtain ⟨qs,hq,rfl⟩:=hp
    rw [ih qs hq];rfl
   all_goals cases hp
 unfold bY
 cases ha:aF cs with
 | none=>exact .agg cs vs hl h1 hr
 | some ps=>
  have hcs:=key cs ps ha
  subst hcs
  refine .pv _ _ (.agg ps vs (by simpa using hl) h1 fun j p v hp hv=> ?_)
  have:=hr j (.pv p) v (by simp [hp]) hv
  cases this with
  | pv _ _ h=>exact h
theorem dI {cs:List AV} {ps:List PV} (hp:aF cs=some ps):cs=ps.map .pv:=by
 induction cs generalizing ps with
 | nil=>simp [aF] at hp;subst hp;rfl
 | cons c cs ih=>
  cases c<;>simp only [aF,Option.map_eq_some_iff] at hp
  ·obtain ⟨qs,hq,rfl⟩:=hp
   rw [ih hq];rfl
  all_goals cases hp
theorem cQ {α:Type} {l:List α} {off m j:Nat} {x:α} (hx:((l.drop off).take m)[j]? =some x):j<m∧l[off+j]? =some x:=by
 rw [List.getElem?_take] at hx
 split at hx
 ·rename_i hj;rw [List.getElem?_drop] at hx;exact ⟨hj,hx⟩
 ·cases hx
theorem j2 {ag:Bool} {m off:Nat} {p p':PV} {us:List Value} (hs:dp ag m off p=some p') (hl:us.length=p.cells.length) (h1: ∀x∈us,x.oneCell'=true)
  (hr: ∀(j:Nat) (c:PV) (x:Value),p.cells[j]? =some c→us[j]? =some x→aj I w c x):
  (ag=true→off+m≤us.length∧aj I w p' (.agg ((us.drop off).take m).toArray))∧(ag=false→ ∃x,us[off]? =some x∧aj I w p' x):=by
 cases ag with
 | true=>
  refine ⟨fun _=> ?_,fun hh=>by cases hh⟩
  simp only [dp,if_true] at hs
  split at hs
  ·injection hs with hs
   subst hs
   refine ⟨by omega,.agg _ _ (by simp [hl]) (fun x hx=>h1 x (List.mem_of_mem_drop (List.mem_of_mem_take hx))) fun j c x hc hx=> ?_⟩
   exact hr (off+j) c x (cQ hc).2 (cQ hx).2
  ·cases hs
 | false=>
  refine ⟨fun hh=>(by cases hh),fun _=> ?_⟩
  simp only [dp,Bool.false_eq_true,if_false] at hs
  have hj:=(List.getElem?_eq_some_iff.1 hs).1
  exact ⟨us[off],List.getElem?_eq_getElem (by omega),hr off p' _ hs (List.getElem?_eq_getElem (by omega))⟩
theorem ii {ag:Bool} {m off:Nat} {v v':AV} {us:List Value} (hs:cU ag m off v=some v') (hl:us.length=v.cells.length) (h1: ∀x∈us,x.oneCell'=true)
  (hr: ∀(j:Nat) (c:AV) (x:Value),v.cells[j]? =some c→us[j]? =some x→ab σ I w c x):
  (ag=true→off+m≤us.length∧ab σ I w v' (.agg ((us.drop off).take m).toArray))∧(ag=false→ ∃x,us[off]? =some x∧ab σ I w v' x):=by
 have other:(if ag then (if off+m≤v.cells.length then some (bY ((v.cells.drop off).take m)) else none) else v.cells[off]?)=some v'→
   (ag=true→off+m≤us.length∧ab σ I w v' (.agg ((us.drop off).take m).toArray))∧(ag=false→ ∃x,us[off]? =some x∧ab σ I w v' x):=by
  intro hs
  cases ag with
  | true=>
   refine ⟨fun _=> ?_,fun hh=>by cases hh⟩
   simp only [if_true] at hs
   split at hs
   ·injection hs with hs
    subst hs
    refine ⟨by omega,j1 (by simp [hl]) (fun x hx=>h1 x (List.mem_of_mem_drop (List.mem_of_mem_take hx))) fun j c x hc hx=> ?_⟩
    exact hr (off+j) c x (cQ hc).2 (cQ hx).2
   ·cases hs
  | false=>
   refine ⟨fun hh=>(by cases hh),fun _=> ?_⟩
   simp only [Bool.false_eq_true,if_false] at hs
   have hj:=(List.getElem?_eq_some_iff.1 hs).1
   exact ⟨us[off],List.getElem?_eq_getElem (by omega),hr off v' _ hs (List.getElem?_eq_getElem (by omega))⟩
 cases v with
 | pv p=>
  simp only [cU,Option.map_eq_some_iff] at hs
  obtain ⟨p',hp',rfl⟩:=hs
  have:=j2 (I:=I) (w:=w) hp' (us:=us) (by simpa [AV.cells] using hl) h1 fun j c x hc hx=>by
   have:=hr j (.pv c) x (by simp [AV.cells,hc]) hx
   cases this with
   | pv _ _ h=>exact h
  exact ⟨fun ha=>⟨(this.1 ha).1,.pv _ _ (this.1 ha).2⟩,fun ha=>by obtain ⟨x,h1,h2⟩:=this.2 ha;exact ⟨x,h1,.pv _ _ h2⟩⟩
 | mptr=>exact other hs
 | msl=>exact other hs
 | agg=>exact other hs
 | tup=>exact other hs
 | clo=>exact other hs
 | yld=>exact other hs
 | ifc=>exact other hs
 | btag=>exact other hs
 | mref=>exact other hs
theorem ij {t:TypeId} {m:Nat} {ag:Bool} {b o:Nat} {us:List Value} (hm:aK P t=some m) (ha:bK P t=some ag) (off:Nat)
  (hc: ∀(j:Nat) (x:Value),us[j]? =some x→w.cell? ⟨b,o+j,none⟩=some x):
  (ag=true→off+m≤us.length→(loadVar t ⟨b,o+off,none⟩).run P w= .ok (.agg ((us.drop off).take m).toArray) w)∧
  (ag=false→ ∀x,us[off]? =some x→(loadVar t ⟨b,o+off,none⟩).run P w= .ok x w):=by
 refine ⟨?_,?_⟩
 ·rintro rfl hle
  have hlen:((us.drop off).take m).length=m:=by simp;omega
  have:=run_loadCells_list (P:=P) w ⟨b,o+off,none⟩ ((us.drop off).take m) fun j x hx=>by
   rw [cf,Nat.add_assoc]
   exact hc (off+j) x (cQ hx).2
  rw [hlen] at this
  simp [loadVar,d9 ha,bQ hm,this]
 ·rintro rfl x hx
  simp [loadVar,d9 ha,hc off x hx]
section
variable {ρ:Operand→AV} {ρc:Operand→Value} {d gen:Nat} {o:Oper}
theorem bW {d s g i off:Nat} {u:Value} (hr:ab σ I w (.mptr d s g i off) u): ∃b o k,σ g=some (b,o,k)∧u= .pointer (some ⟨b,o+i*k+off,none⟩):=by
 cases hr with
 | mptr _ _ _ _ _ b o k h=>exact ⟨b,o,k,h,rfl⟩
theorem aw {p:PV} {u:Value} (hr:ab σ I w (.pv p) u):aj I w p u:=by
 cases hr with
 | pv _ _ h=>exact h
theorem aQ {v u:Value} (hr:aj I w (.lit v) u):u=v:=by
 cases hr;rfl
theorem gk {root:PV} {off:Nat} {u:Value} (hr:aj I w (.ptr root off) u): ∃(b o:Nat) (vs:Nat→Value),u= .pointer (some ⟨b,o+off,none⟩)∧I b∧
  (∀(j:Nat) (p:PV),root.cells[j]? =some p→w.cell? ⟨b,o+j,none⟩=some (vs j)∧(vs j).oneCell'=true∧aj I w p (vs j)):=by
 cases hr with
 | ptr _ _ b o vs hI hc hr=>exact ⟨b,o,vs,rfl,hI,fun j p hp=>⟨(hc j p hp).1,(hc j p hp).2,hr j p hp⟩⟩
theorem mQ {cs:List PV} {b o:Nat} (hv: ∀(j:Nat) (p:PV),cs[j]? =some p→ ∃u,w.cell? ⟨b,o+j,none⟩=some u∧u.oneCell'=true∧aj I w p u):
  ∃us:List Value,us.length=cs.length∧(∀x∈us,x.oneCell'=true)∧(∀(j:Nat) (x:Value),us[j]? =some x→w.cell? ⟨b,o+j,none⟩=some x)∧
   ∀(j:Nat) (c:PV) (x:Value),cs[j]? =some c→us[j]? =some x→aj I w c x:=by
 obtain ⟨us,hl,hu⟩:=ga (P:=fun j u=>w.cell? ⟨b,o+j,none⟩=some u∧u.oneCell'=true∧ ∀c,cs[j]? =some c→aj I w c u) cs.length fun j hj=>by
  obtain ⟨u,h1,h2,h3⟩:=hv j cs[j] (List.getElem?_eq_getElem hj)
  exact ⟨u,h1,h2,fun c hc=>by rw [List.getElem?_eq_getElem hj] at hc;injection hc with hc;subst hc;exact h3⟩
 refine ⟨us,hl,fun x hx=> ?_,fun j x hx=>(hu j x hx).1,fun j c x hc hx=>(hu j x hx).2.2 c hc⟩
 obtain ⟨j,hj,rfl⟩:=List.mem_iff_getElem.1 hx
 exact (hu j _ (List.getElem?_eq_getElem hj)).2.1
theorem j3 {t:TypeId} {m off b o:Nat} {ag:Bool} {root p':PV} (hm:aK P t=some m) (ha:bK P t=some ag) (hs:dp ag m off root=some p')
  (hv: ∀(j:Nat) (p:PV),root.cells[j]? =some p→ ∃u,w.cell? ⟨b,o+j,none⟩=some u∧u.oneCell'=true∧aj I w p u):
  ∃u,(loadVar t ⟨b,o+off,none⟩).run P w= .ok u w∧aj I w p' u:=by
 obtain ⟨us,hl,h1,hc,hr⟩:=mQ hv
 have hsub:=j2 (I:=I) (w:=w) hs hl h1 hr
 have hload:=ij (P:=P) hm ha off hc
 cases ag with
 | true=>exact ⟨_,hload.1 rfl (hsub.1 rfl).1,(hsub.1 rfl).2⟩
 | false=>
  obtain ⟨x,hx,hp⟩:=hsub.2 rfl
  exact ⟨x,hload.2 rfl x hx,hp⟩
theorem mR {t:TypeId} {a:Operand} {v:AV} {h':aa} (ho:o.op= .load t a) (hop:ah P o ρ d gen h=some (v,h')) (hρ: ∀x,ab σ I w (ρ x) (ρc x)) (H:ae σ I base w h):
  ay σ I base w gen ((execOp ρc o).run P w) v h':=by
 simp only [ah,ho,Option.bind_eq_bind,Option.bind_eq_some_iff] at hop
 obtain ⟨m,hm,ag,hag,hop⟩:=hop
 have hra:=hρ a
 have fin: ∀ {u:Value} {ad:Addr},ρc a= .pointer (some ad)→(loadVar t ad).run P w= .ok u w→(execOp ρc o).run P w= .ok (.value u) w:=by
  intro u ad hp hl
  simp only [execOp,ho]
  exact ap (by simp [Instr.loadAt,Instr.sureAddr,hp,hl])
 split at hop
 ·rename_i d1 s g i off he
  rw [he] at hra
  obtain ⟨b,ob,k,hs,hu⟩:=bW hra
  split at hop
  ·rename_i v0 fz hl
   split at hop
   ·rename_i hi
    subst hi
    simp only [Option.map_eq_some_iff,Prod.mk.injEq] at hop
    obtain ⟨v',hv',rfl,rfl⟩:=hop
    obtain ⟨b0,k0,e0,u0,hs0,hsh,hok,hru,hz,hf,h1c,hsz,hcell⟩:=cM (H.live hl (by simp))
    rw [hs] at hs0
    simp only [Option.some.injEq,Prod.mk.injEq] at hs0
    obtain ⟨rfl,rfl,rfl⟩:=hs0
    have hsub:=ii (σ:=σ) (I:=I) (w:=w) hv' (us:=u0.cells.toList) (by simpa using hsz) h1c fun j c x hc hx=>(hru.cells hok).2.2 j c x hc (by simpa using hx)
    have hload:=ij (P:=P) (w:=w) (b:=b) (o:=0) (us:=u0.cells.toList) hm hag off fun j x hx=>by simpa using hcell j x (by simpa using hx)
    simp only [Nat.zero_mul,Nat.add_zero,Nat.zero_add] at hu hload
    cases ag with
    | true=>exact .same _ H (fin hu (hload.1 rfl (hsub.1 rfl).1)) (hsub.1 rfl).2
    | false=>
     obtain ⟨x,hx,hp⟩:=hsub.2 rfl
     exact .same _ H (fin hu (hload.2 rfl x hx)) hp
   ·cases hop
  ·rename_i k0 e0 xs fz hl
   simp only [Option.bind_eq_some_iff,Option.map_eq_some_iff,Prod.mk.injEq] at hop
   obtain ⟨x,hx,p',hp',rfl,rfl⟩:=hop
   obtain ⟨b',o',n',hs',_,_,_,_,_,_,hc,_⟩:=cN (H.live hl (by simp))
   rw [hs] at hs'
   simp only [Option.some.injEq,Prod.mk.injEq] at hs'
   obtain ⟨rfl,rfl,rfl⟩:=hs'
   obtain ⟨u,hrun,hpr⟩:=j3 (P:=P) hm hag hp' (fun j p hp=>hc i x hx j p hp)
   exact .same _ H (fin hu hrun) (.pv _ _ hpr)
  ·cases hop
 ·rename_i root off he
  rw [he] at hra
  simp only [Option.map_eq_some_iff,Prod.mk.injEq] at hop
  obtain ⟨p',hp',rfl,rfl⟩:=hop
  obtain ⟨b,ob,vs,hu,_,hv⟩:=gk (aw hra)
  obtain ⟨u,hrun,hpr⟩:=j3 (P:=P) hm hag hp' (fun j p hp=>⟨vs j,hv j p hp⟩)
  exact .same _ H (fin hu hrun) (.pv _ _ hpr)
 ·cases hop
end
variable {σ σ':ak} {I I':af} {base:af} {w w':World} {h:aa} {P:Program}
theorem e7 {α:Type} {s:Sem α} {a:α} (hs:b7 P s=some a):s.run P w= .ok a w:=by
 induction s with
 | pure b=>simp only [b7,Option.some.injEq] at hs;subst hs;rfl
 | program k ih=>simp only [b7] at hs;simpa [Sem.run] using ih P hs
 | mark m k ih=>simp only [b7] at hs;simpa [Sem.run] using ih hs
 | _=>simp [b7] at hs
theorem j4 {p:PV} {v u:Value} (hr:aj I w p u) (ht:dr p=some v):u=v:=by
 cases hr with
 | lit=>simp only [dr,Option.some.injEq] at ht;exact ht
 | nil=>simp only [dr,Option.some.injEq] at ht;exact ht
 | iface t p v h=>
  cases p<;>simp only [dr] at ht<;>try cases ht
  cases h;rfl
 | _=>simp [dr] at ht
theorem ik: ∀ {ps:List PV} {vs us:List Value},cV ps=some vs→us.length=ps.length→(∀(j:Nat) (p:PV) (u:Value),ps[j]? =some p→us[j]? =some u→aj I w p u)→us=vs
 | [],vs,us,ht,hl,_=>by
  simp only [cV,Option.some.injEq] at ht
  subst ht
  exact List.eq_nil_of_length_eq_zero hl
 | p::ps,vs,us,ht,hl,hr=>by
  match us,hl with
  | u::us,hl=>
   simp only [cV,Option.bind_eq_some_iff,Option.map_eq_some_iff] at ht
   obtain ⟨v,hv,vs',hvs,rfl⟩:=ht
   have e1:=j4 (hr 0 p u rfl rfl) hv
   have e2:us=vs':=ik hvs (by simpa using hl) fun j p' u' hp hu=>hr (j+1) p' u' (by simpa using hp) (by simpa using hu)
   rw [e1,e2]
theorem mS {p:PV} {v u:Value} (ht:gK p=some v) (hr:aj I w p u):u=v:=by
 cases p with
 | agg cs=>
  cases hr with
  | agg _ vs hl h1 hr=>
   simp only [gK,Option.map_eq_some_iff] at ht
   obtain ⟨l,hl',rfl⟩:=ht
   rw [ik hl' hl hr]
 | _=>exact j4 hr ht
theorem gm {p:AV} {v u:Value} (ht:eD p=some v) (hr:ab σ I w p u):u=v:=by
 cases hr with
 | pv p v h=>exact mS ht h
 | _=>cases ht
theorem j5 {l:List AV} {ps:List PV} {vs us:List Value} (hp:aF l=some ps) (ht:cV ps=some vs) (hl:us.length=l.length)
  (hr: ∀(j:Nat) (p:AV) (u:Value),l[j]? =some p→us[j]? =some u→ab σ I w p u):us=vs:=by
 have:=dI hp
 subst this
 exact ik (I:=I) (w:=w) ht (by simpa using hl) fun j p u hp' hu=>aw (hr j (.pv p) u (by simp [hp']) hu)
section
variable {ρ:Operand→AV} {ρc:Operand→Value} {d gen:Nat} {o:Oper} {v:AV} {h':aa}
theorem j6 {x:Operand} (ho:o.op= .move x∨o.op= .assign x) (hop:ah P o ρ d gen h=some (v,h')) (hρ: ∀x,ab σ I w (ρ x) (ρc x)) (H:ae σ I base w h):
  ay σ I base w gen ((execOp ρc o).run P w) v h':=by
 have:v=ρ x∧h'=h:=by rcases ho with ho | ho<;>simp only [ah,ho,Option.some.injEq,Prod.mk.injEq] at hop<;>exact ⟨hop.1.symm,hop.2.symm⟩
 obtain ⟨rfl,rfl⟩:=this
 exact .same (ρc x) H (by rcases ho with ho | ho<;>simp [execOp,ho]) (hρ x)
theorem mT {c a b:Operand} (ho:o.op= .pick c a b) (hop:ah P o ρ d gen h=some (v,h')) (hρ: ∀x,ab σ I w (ρ x) (ρc x)) (H:ae σ I base w h):
  ay σ I base w gen ((execOp ρc o).run P w) v h':=by
 have hrc:=hρ c
 simp only [ah,ho] at hop
 split at hop
 ·rename_i t he
  rw [he] at hrc
  have hc:=aQ (aw hrc)
  simp only [Option.some.injEq,Prod.mk.injEq] at hop
  obtain ⟨rfl,rfl⟩:=hop
  exact .same (if t then ρc a else ρc b) H (by simp [execOp,ho,hc,asBool]) (by cases t<;>simp [hρ])
 ·cases hop
theorem mU {x:Operand} (ho:o.op= .nilCheck x) (hop:ah P o ρ d gen h=some (v,h')) (hρ: ∀x,ab σ I w (ρ x) (ρc x)) (H:ae σ I base w h):
  ay σ I base w gen ((execOp ρc o).run P w) v h':=by
 have hr:=hρ x
 have hv:ρ x=v∧h=h'∧(execOp ρc o).run P w= .ok (.value (ρc x)) w:=by
  simp only [ah,ho] at hop
  split at hop
  ·rename_i d s g i off he
   rw [he] at hr
   obtain ⟨b,ob,k,_,hu⟩:=bW hr
   simp only [Option.some.injEq,Prod.mk.injEq] at hop
   exact ⟨he.trans hop.1,hop.2,by simp [execOp,ho,hu]⟩
  ·rename_i r off he
   rw [he] at hr
   obtain ⟨b,ob,vs,hu,_⟩:=gk (aw hr)
   simp only [Option.some.injEq,Prod.mk.injEq] at hop
   exact ⟨he.trans hop.1,hop.2,by simp [execOp,ho,hu]⟩
  ·rename_i f a b he
   rw [he] at hr
   simp only [Option.some.injEq,Prod.mk.injEq] at hop
   refine ⟨he.trans hop.1,hop.2,?_⟩
   generalize hu:ρc x=u at hr
   cases hr with
   | pv _ _ hr=>cases hr with
    | clo _ _ _ va vb=>simp [execOp,ho,hu]
  ·rename_i f a b he
   rw [he] at hr
   simp only [Option.some.injEq,Prod.mk.injEq] at hop
   refine ⟨he.trans hop.1,hop.2,?_⟩
   generalize hu:ρc x=u at hr
   cases hr with
   | clo _ _ _ va vb=>simp [execOp,ho,hu]
  ·rename_i t p he
   rw [he] at hr
   simp only [Option.some.injEq,Prod.mk.injEq] at hop
   refine ⟨he.trans hop.1,hop.2,?_⟩
   generalize hu:ρc x=u at hr
   cases hr with
   | pv _ _ hr=>cases hr with
    | iface=>simp [execOp,ho,hu]
  ·cases hop
 obtain ⟨rfl,rfl,hrun⟩:=hv
 exact .same (ρc x) H hrun hr
theorem j7 {e:TypeId} {x:AV} {u:Value} {s:Nat} (H:ae σ I base w h) (hr:ab σ I w x u) (hbo:bS e x=true) (hg:σ gen=none) (hB:aG base w.heap.size) {run:Result Next}
  (hrun:run= .ok (.value (.pointer (some ⟨w.heap.size,0,none⟩))) (w.alloc (.cells u.cells e))):
  ay σ I base w gen run (.mptr d s gen 0 0) (hput h d s ⟨gen,.box x false⟩):=by
 have hG:aJ w (w.alloc (.cells u.cells e)) (.cells u.cells e):=⟨rfl,rfl,rfl,rfl⟩
 have hE:=ar.push (x:=(w.heap.size,0,1)) H hB hg hG
 obtain ⟨h1,h2,h3⟩:=hr.cells (fZ hbo)
 refine ⟨_,_,_,_,I,hrun,.inl rfl,?_,H.push hg hG d s ?_,hE,fun g hne=>bV hne⟩
 ·have:=ab.mptr (σ:=aN σ gen (w.heap.size,0,1)) (I:=I) (w:=w.alloc (.cells u.cells e)) d s gen 0 0 w.heap.size 0 1 aP
  simpa using this
 ·refine ⟨w.heap.size,e,aP,by rw [hG.shape,h1],hbo,fun j p hp=> ?_,⟨fun hb=> ?_,hB.up,fun j hj=>hG.frozen j⟩⟩
  ·have hj:=(List.getElem?_eq_some_iff.1 hp).1
   refine ⟨u.cells[j],?_,h2 _ (by simp),hE.rep (h3 j p _ hp (Array.getElem?_eq_getElem (by omega)))⟩
   rw [hG.cell];exact Array.getElem?_eq_getElem (by omega)
  ·exact absurd (H.lt _ hb) (by omega)
theorem j8 (v:Value):aj I w (eC v) v:=by
 unfold eC
 split
 ·split
  ·rename_i hh;rw [hh.1,hh.2];exact .nil 0 true
  ·exact .lit _
 ·rename_i f a b
  split
  ·rename_i hh
   have ha:a= #[]:=Array.eq_empty_of_size_eq_zero hh.1
   have hb:b= #[]:=Array.eq_empty_of_size_eq_zero hh.2
   rw [ha,hb]
   exact .clo _ [] [] [] [] rfl rfl (fun j p v hp=>by simp at hp) (fun j p v hp=>by simp at hp)
  ·exact .lit _
 ·exact .lit _
theorem c7 (v:Value):aj I w (av v) v:=by
 unfold av
 split
 ·rename_i cs
  split
  ·rename_i hall
   have:=aj.agg (I:=I) (w:=w) (cs.toList.map eC) cs.toList (by simp) (fun v hv=>List.all_eq_true.1 hall v hv) fun j p v hp hv=>by
    simp only [List.getElem?_map,Option.map_eq_some_iff] at hp
    obtain ⟨v',hv',rfl⟩:=hp
    rw [hv] at hv'
    injection hv' with hv'
    subst hv'
    exact j8 v
   simpa using this
  ·exact .lit _
 ·exact j8 _
theorem il {t:List AV} {a:Act} (hT: ∀i,ab σ I w (a7 t i) (a.tmps.getD i undef)) (x:Operand):ab σ I w (aB t x) (a.eval x):=by
 cases x with
 | tmp i=>exact hT i
 | const v=>exact .pv _ _ (c7 v)
 | global g=>exact .pv _ _ (.lit _)
 | func f=>exact .pv _ _ (.clo _ [] [] [] [] rfl rfl (fun j p v hp=>by simp at hp) (fun j p v hp=>by simp at hp))
theorem mV {e:TypeId} (ho:o.op= .alloc e) (hop:ah P o ρ d gen h=some (v,h')) (H:ae σ I base w h) (hg:σ gen=none) (hB:aG base w.heap.size):
  ay σ I base w gen ((execOp ρc o).run P w) v h':=by
 simp only [ah,ho,Option.bind_eq_bind,Option.bind_eq_some_iff] at hop
 obtain ⟨z,hz,s,hs,hop⟩:=hop
 split at hop
 ·rename_i hok
  simp only [Option.some.injEq,Prod.mk.injEq] at hop
  obtain ⟨rfl,rfl⟩:=hop
  have htg:ab σ I w (fI P e (av z)) z∧bS e (fI P e (av z))=true:=by
   have hr0:ab σ I w (.pv (av z)) z:= .pv _ _ (c7 z)
   unfold fI
   split
   ·rename_i l _ hz1
    rw [hz1] at hr0
    refine ⟨?_,by simp [bS,AV.ok,a8,AV.cells,dq]⟩
    have hp:=aw hr0
    generalize z=z0 at hp
    cases hp with
    | agg cs vs hl h1 hr=>
     refine .agg _ vs (by simpa using hl) h1 fun j p v hp hv=> ?_
     cases j with
     | zero=>
      simp at hp
      subst hp
      have:=aQ (hr 0 _ v rfl hv)
      subst this
      exact .btag e
     | succ j=>
      simp only [List.getElem?_cons_succ,List.getElem?_map,Option.map_eq_some_iff] at hp
      obtain ⟨q,hq,rfl⟩:=hp
      exact .pv _ _ (hr (j+1) q v (by simpa using hq) hv)
   ·exact ⟨hr0,jE hok (mg _)⟩
  refine j7 (e:=e) H htg.1 htg.2 hg hB ?_
  simp only [execOp,ho]
  exact ap (by simp [Instr.alloc,c6 hz,newVar,newRow])
 ·cases hop
theorem mW {e:TypeId} {x:Operand} (ho:o.op= .box e x) (hop:ah P o ρ d gen h=some (v,h')) (hρ: ∀x,ab σ I w (ρ x) (ρc x)) (H:ae σ I base w h) (hg:σ gen=none) (hB:aG base w.heap.size):
  ay σ I base w gen ((execOp ρc o).run P w) v h':=by
 simp only [ah,ho,Option.bind_eq_bind,Option.bind_eq_some_iff] at hop
 obtain ⟨s,hs,hop⟩:=hop
 split at hop
 ·rename_i hok
  simp only [Option.some.injEq,Prod.mk.injEq] at hop
  obtain ⟨rfl,rfl⟩:=hop
  refine j7 (e:=e) H (hρ x) (jE hok.1 (Option.isNone_iff_eq_none.1 hok.2)) hg hB ?_
  simp only [execOp,ho]
  exact ap (by simp [Instr.box,newVar,newRow])
 ·cases hop
theorem j9 {t:TypeId} {dd:TypeDesc} {x y:AV} {a b:Value} (hd:P.underlying t=some dd) (hn:(fB dd x y||fC dd x y)=true) (hx:ab σ I w x a) (hy:ab σ I w y b):
  (Op.equal t a b).run P w= .ok false w∧ ∀op xo yo,(eqGuard op t xo yo a b).run P w= .ok () w∧(binOp .eql t a b=(do pure (.bool (←Op.equal t a b))))∧(binOp .neq t a b=(do pure (.bool (!(←Op.equal t a b))))):=by
 obtain ⟨dep,hdep⟩: ∃dep,Op.maxDepth=dep+1:=⟨9999,rfl⟩
 rcases Bool.or_eq_true_iff.1 hn with hn | hn
 ·unfold fB at hn
  split at hn<;>try cases hn
  all_goals cases hx
  all_goals (try (rename_i hp;cases hp))
  all_goals (cases hy;rename_i hp;cases hp)
  all_goals
   refine ⟨?_,fun op xo yo=>⟨?_,rfl,rfl⟩⟩
   ·unfold Op.equal
    rw [hdep]
    unfold Op.equalIn
    simp only [Sem.run_bind,aq hd,Result.andThen_ok,Sem.run_pure,Option.isNone]
   ·unfold eqGuard;split<;>simp
 ·unfold fC at hn
  split at hn
  ·rename_i t1 p t2 q
   cases hx;rename_i hp;cases hp
   cases hy;rename_i hq;cases hq
   have hne:=bne_iff_ne.1 hn
   refine ⟨?_,fun op xo yo=>⟨?_,rfl,rfl⟩⟩
   ·unfold Op.equal
    rw [hdep]
    unfold Op.equalIn
    simp only [Sem.run_bind,aq hd,Result.andThen_ok]
    rw [if_pos hne]
    rfl
   ·unfold eqGuard;split<;>simp
  ·cases hn
end
variable {σ σ':ak} {I I':af} {base:af} {w w':World} {h:aa} {P:Program}
section
variable {ρ:Operand→AV} {ρc:Operand→Value} {d gen:Nat} {o:Oper} {v:AV} {h':aa}
theorem mX {t:TypeId} {a b:PV} {r:Bool} {u v:Value} (h:gL P t a b=some r) (ha:aj I w a u) (hb:aj I w b v) (d:Nat):(Op.equalIn (d+1) t u v).run P w= .ok r w∧bK P t=some false:=by
 unfold gL at h
 split at h
 ·rename_i x y ht
  cases h;cases ha;cases hb
  exact ⟨run_equalIn_string w d t x y ht,by unfold bK;rw [ht]⟩
 ·rename_i k0 k x k' y ht
  split at h
  ·rename_i hk
   subst hk
   cases h;cases ha;cases hb
   exact ⟨run_equalIn_int w d t k k0 x y ht,by unfold bK;rw [ht]⟩
  ·cases h
 ·rename_i x y ht
  cases h;cases ha;cases hb
  exact ⟨run_equalIn_bool' w d t x y ht,by unfold bK;rw [ht]⟩
 ·cases h
theorem ka {xs ys:List PV} {us vs:List Value} (lx:us.length=xs.length) (ly:vs.length=ys.length)
  (hx: ∀(j:Nat) (p:PV) (v:Value),xs[j]? =some p→us[j]? =some v→aj I w p v) (hy: ∀(j:Nat) (p:PV) (v:Value),ys[j]? =some p→vs[j]? =some v→aj I w p v) (d:Nat):
  ∀(fs:List Field) (r:Bool),eE P fs xs ys=some r→(Op.eqFields (d+1) us.toArray vs.toArray fs).run P w= .ok r w
 | [],r,h=>by
  simp only [eE,Option.some.injEq] at h
  subst h
  simp [Op.eqFields]
 | f::fs,r,h=>by
  unfold eE at h
  split at h
  ·rename_i hn
   simp only [Option.bind_eq_some_iff,Option.map_eq_some_iff] at h
   obtain ⟨a,ha,b,hb,r1,h1,q,hq,rfl⟩:=h
   obtain ⟨la,_⟩:=List.getElem?_eq_some_iff.1 ha
   obtain ⟨lb,_⟩:=List.getElem?_eq_some_iff.1 hb
   have hu:us[f.offset]? =some us[f.offset]:=List.getElem?_eq_getElem (by omega)
   have hv:vs[f.offset]? =some vs[f.offset]:=List.getElem?_eq_getElem (by omega)
   obtain ⟨h2,hag⟩:=mX h1 (hx _ _ _ ha hu) (hy _ _ _ hb hv) d
   have ih:=ka lx ly hx hy d fs q hq
   have p1:(part f.type us.toArray f.offset).run P w= .ok us[f.offset] w:=by simp [part,d9 hag,hu]
   have p2:(part f.type vs.toArray f.offset).run P w= .ok vs[f.offset] w:=by simp [part,d9 hag,hv]
   simp only [Op.eqFields,if_pos hn,Sem.run_bind,p1,p2,h2,Result.andThen_ok]
   cases r1
   ·simp
   ·simpa using ih
  ·cases h
theorem mY {op:BinOp} {t:TypeId} {xo yo:Operand} {x y:AV} {u v:Value} {r:Bool} (h:gM P op t x y=some r) (hx:ab σ I w x u) (hy:ab σ I w y v):
  (do eqGuard op t xo yo u v;binOp op t u v:Sem Value).run P w= .ok (.bool r) w:=by
 have key: ∀(xs ys:List PV) (r:Bool),fD P t xs ys=some r→ ∀u v,aj I w (.agg xs) u→aj I w (.agg ys) v→ ∃us vs:List Value,u= .agg us.toArray∧v= .agg vs.toArray∧P.eqGuardType P.depth t=false∧(Op.equalIn 10000 t u v).run P w= .ok r w:=by
  intro xs ys r h u v hx hy
  unfold fD at h
  split at h
  ·rename_i fs ht
   split at h
   ·rename_i hc
    cases hx with
    | agg _ us hl _ hr=>
     cases hy with
     | agg _ vs hl2 _ hr2=>
      have hf:P.fieldsOf t=fs:=by unfold Program.fieldsOf;rw [ht]
      refine ⟨us,vs,rfl,rfl,hc.2,?_⟩
      rw [run_equalIn_agg w 9999 t us.toArray vs.toArray (by rw [hf];exact ht) hc.1,hf]
      exact ka hl hl2 hr hr2 9998 fs.toList r h
   ·cases h
  ·cases h
 unfold gM at h
 split at h
 ·rename_i xs ys
  cases hx with
  | pv _ _ hx=>
  cases hy with
  | pv _ _ hy=>
   split at h
   ·obtain ⟨us,vs,rfl,rfl,hg,he⟩:=key xs ys r h u v hx hy
    simp only [Sem.run_bind,run_eqGuard_agg w .eql t xo yo us.toArray vs.toArray hg,Result.andThen_ok,run_eql_struct,he]
   ·simp only [Option.map_eq_some_iff] at h
    obtain ⟨q,hq,rfl⟩:=h
    obtain ⟨us,vs,rfl,rfl,hg,he⟩:=key xs ys q hq u v hx hy
    simp only [Sem.run_bind,run_eqGuard_agg w .neq t xo yo us.toArray vs.toArray hg,Result.andThen_ok,run_neq_struct,he]
   ·cases h
 ·cases h
theorem mZ {op:BinOp} {t ty:TypeId} {x y:Operand} (ho:o.op= .binOp op t x y ty) (hop:ah P o ρ d gen h=some (v,h')) (hρ: ∀x,ab σ I w (ρ x) (ρc x)) (H:ae σ I base w h):
  ay σ I base w gen ((execOp ρc o).run P w) v h':=by
 simp only [ah,ho,Option.map_eq_some_iff,Prod.mk.injEq] at hop
 obtain ⟨v',hv,rfl,rfl⟩:=hop
 have hx:=hρ x
 have hy:=hρ y
 have hex:execOp ρc o=(do let r ←(do eqGuard op t x y (ρc x) (ρc y);binOp op t (ρc x) (ρc y));pure (Next.value r)):=by simp only [execOp,ho]
 rw [hex]
 unfold jy at hv
 split at hv
 ·rename_i r hr
  cases hv
  exact .same (.bool r) H (ap (mY hr hx hy)) (.pv _ _ (.lit _))
 rename_i hno
 clear hno
 split at hv
 ·rename_i a b ha hb
  simp only [Option.map_eq_some_iff] at hv
  obtain ⟨r,hr,rfl⟩:=hv
  rw [gm ha hx,gm hb hy]
  exact .same r H (ap (e7 hr)) (.pv _ _ (.lit r))
 ·split at hv
  ·rename_i dd hd
   split at hv
   ·rename_i hn
    injection hv with hv
    subst hv
    obtain ⟨h1,h2⟩:=j9 hd hn hx hy
    obtain ⟨h3,h4,_⟩:=h2 .eql x y
    refine .same (.bool false) H (ap ?_) (.pv _ _ (.lit _))
    rw [h4]
    simp [h3,h1]
   ·cases hv
  ·rename_i dd hd
   split at hv
   ·rename_i hn
    injection hv with hv
    subst hv
    obtain ⟨h1,h2⟩:=j9 hd hn hx hy
    obtain ⟨h3,_,h4⟩:=h2 .neq x y
    refine .same (.bool true) H (ap ?_) (.pv _ _ (.lit _))
    rw [h4]
    simp [h3,h1]
   ·cases hv
  ·cases hv
theorem m5 {op:UnOp} {t:TypeId} {x:Operand} (ho:o.op= .unOp op t x) (hop:ah P o ρ d gen h=some (v,h')) (hρ: ∀x,ab σ I w (ρ x) (ρc x)) (H:ae σ I base w h):
  ay σ I base w gen ((execOp ρc o).run P w) v h':=by
 simp only [ah,ho,Option.bind_eq_some_iff,Option.map_eq_some_iff,Prod.mk.injEq] at hop
 obtain ⟨a,ha,r,hr,rfl,rfl⟩:=hop
 refine .same r H ?_ (.pv _ _ (.lit r))
 simp only [execOp,ho]
 rw [gm ha (hρ x)]
 exact ap (e7 hr)
theorem m6 {t:TypeId} {x:Operand} (ho:o.op= .makeInterface t x) (hop:ah P o ρ d gen h=some (v,h')) (hρ: ∀x,ab σ I w (ρ x) (ρc x)) (H:ae σ I base w h):
    ay σ I base w gen ((execOp ρc o).run P w) v h':=by
  simp only [ah,ho] at hop
  split at hop
  · cases hop
  · cases hop
  · rename_i dd hn hd
    have hrun:(execOp ρc o).run P w= .ok (.value (.iface t (ρc x))) w:=by
      simp only [execOp,ho]
      refine ap ?_
      simp only [Instr.makeInterface,Sem.run_bind,aq hd,Result.andThen_ok]
      first
        | rfl
        | (split
           · rename_i ms;exact absurd hd (hn ms)
           · rfl)
    split at hop
    · simp only [Option.some.injEq,Prod.mk.injEq] at hop
      obtain ⟨rfl,rfl⟩:=hop
      exact .same _ H hrun (.ifc t _ _ (hρ x))
    simp only [Option.map_eq_some_iff,Prod.exists,Prod.mk.injEq] at hop
    obtain ⟨p,h1,hp,rfl,rfl⟩:=hop
    obtain ⟨I',hpr,H',m⟩:=d8 _ _ _ _ _ _ _ hp (hρ x) H
    exact .frz _ m H' hrun (.pv _ _ (.iface t p (ρc x) hpr))
theorem kb {p q:PV} {u v:Value} (hp:aj I w p u) (hq:aj I w q v):aj I w (.tup [p,q]) (.tuple #[u,v]):=
 .tup [p,q] [u,v] rfl fun j c x hc hx=>by
  match j with
  | 0=>simp at hc hx;subst hc;subst hx;exact hp
  | 1=>simp at hc hx;subst hc;subst hx;exact hq
  | j+2=>simp at hc
theorem im {want:Array (String×TypeId)} {got:Array Method} :(dV want got=false→Instr.missingMethod want got=none)∧(dV want got=true→ ∃m,Instr.missingMethod want got=some m):=by
 have le: ∀l:List String,l≠[]→ ∃m,Instr.least l=some m:=fun l h=>by
  cases l with
  | nil=>exact absurd rfl h
  | cons x l=>exact ⟨_,rfl⟩
 unfold dV Instr.missingMethod
 refine ⟨fun h=> ?_,fun h=> ?_⟩
 ·have h0:(want.toList.filter fun (q:String×TypeId)=> !got.any fun m=>m.name==q.1&&m.sig==q.2)=[]:=by
   rw [List.filter_eq_nil_iff]
   intro q hq
   have:=List.any_eq_false.1 h q hq
   simpa using this
  simp only [h0]
  rfl
 ·have h0:(want.toList.filter fun (q:String×TypeId)=> !got.any fun m=>m.name==q.1&&m.sig==q.2)≠[]:=by
   intro e
   obtain ⟨q,hq,hp⟩:=List.any_eq_true.1 h
   have:q∈(want.toList.filter fun (q:String×TypeId)=> !got.any fun m=>m.name==q.1&&m.sig==q.2):=List.mem_filter.2 ⟨hq,hp⟩
   rw [e] at this
   cases this
  generalize (want.toList.filter fun (q:String×TypeId)=> !got.any fun m=>m.name==q.1&&m.sig==q.2)=l at h0
  simp only [List.partition_eq_filter_filter]
  cases he:(l.map (·.1)).filter (not∘fun (x:String)=>x.contains '.') with
  | cons x xs=>exact ⟨_,rfl⟩
  | nil=>
   cases hu:(l.map (·.1)).filter (fun (x:String)=>x.contains '.') with
   | cons x xs=>exact ⟨_,rfl⟩
   | nil=>
    exfalso
    cases l with
    | nil=>exact h0 rfl
    | cons y ys=>
     rw [List.filter_eq_nil_iff] at he hu
     have h1:=he y.1 (by simp)
     have h2:=hu y.1 (by simp)
     simp only [Function.comp] at h1
     simp_all
theorem m7 {x:Operand} {xT aT:TypeId} {ok:Bool} (ho:o.op= .typeAssert x xT aT ok) (hop:ah P o ρ d gen h=some (v,h')) (hρ: ∀x,ab σ I w (ρ x) (ρc x)) (H:ae σ I base w h):
  ay σ I base w gen ((execOp ρc o).run P w) v h':=by
 simp only [ah,ho,Option.map_eq_some_iff,Prod.mk.injEq] at hop
 obtain ⟨v',hv,rfl,rfl⟩:=hop
 suffices hs: ∃u,(Instr.typeAssert (ρc x) xT aT ok).run P w= .ok u w∧ab σ I w v' u by
  obtain ⟨u,h1,h2⟩:=hs
  refine .same u H ?_ h2
  simp only [execOp,ho]
  exact ap h1
 have hr:=hρ x
 generalize ρc x=u0 at hr
 have fails: ∀(a b:Option TypeId) (m:String),(if ok then (bo P aT).map fun z=>(AV.pv (.tup [av z,.lit (.bool false)])) else none)=some v'→
   ∃u,(do if ok then pure (.tuple #[←zeroValue aT,.bool false]) else runtimePanic (.typeAssertion a b aT m):Sem Value).run P w= .ok u w∧ab σ I w v' u:=by
  intro a b m hf
  split at hf
  ·rename_i hok
   simp only [Option.map_eq_some_iff] at hf
   obtain ⟨z,hz,rfl⟩:=hf
   exact ⟨_,by simp [hok,c6 hz],.pv _ _ (kb (c7 z) (.lit _))⟩
  ·cases hf
 have holds: ∀(p:PV) (u:Value),aj I w p u→(some (AV.pv (if ok then .tup [p,.lit (.bool true)] else p)))=some v'→ ∃u',(pure (if ok then .tuple #[u,.bool true] else u):Sem Value).run P w= .ok u' w∧ab σ I w v' u':=by
  intro p u hp hf
  injection hf with hf
  subst hf
  cases ok with
  | true=>exact ⟨_,rfl,.pv _ _ (kb hp (.lit _))⟩
  | false=>exact ⟨_,rfl,.pv _ _ hp⟩
 unfold jB at hv
 simp only [] at hv
 split at hv
 ·rename_i dd hd he
  rw [he] at hr
  cases hr;rename_i hp;cases hp
  unfold Instr.typeAssert
  simp only [Sem.run_bind,aq hd,Result.andThen_ok]
  split<;>first | exact fails _ _ _ hv | simp_all
 ·rename_i want t p hd he
  rw [he] at hr
  cases hr;rename_i hp;cases hp;rename_i u hp
  simp only [Option.bind_eq_some_iff] at hv
  obtain ⟨i,hi,hv⟩:=hv
  unfold Instr.typeAssert
  simp only [Sem.run_bind,aq hd,dH hi,Result.andThen_ok]
  split at hv
  ·rename_i hm
   have hm:=im.1 hm
   simp only [hm]
   exact holds _ _ (.iface t p u hp) hv
  ·rename_i hm
   obtain ⟨m,hm⟩:=im.2 hm
   simp only [hm]
   exact fails _ _ _ hv
 ·rename_i dd t p hn hd he
  rw [he] at hr
  cases hr;rename_i hp;cases hp;rename_i u hp
  unfold Instr.typeAssert
  simp only [Sem.run_bind,aq hd,Result.andThen_ok]
  by_cases e:t=aT
  ·rw [if_pos e] at hv ⊢; exact holds _ _ hp hv
  ·rw [if_neg e] at hv ⊢; exact fails _ _ _ hv
 ·cases hv
theorem m8 {fn:Fn} {first captured:Array Operand} (ho:o.op= .makeFunc fn first captured) (hop:ah P o ρ d gen h=some (v,h')) (hρ: ∀x,ab σ I w (ρ x) (ρc x)) (H:ae σ I base w h):
  ay σ I base w gen ((execOp ρc o).run P w) v h':=by
 have hpw: ∀(l:Array Operand) (j:Nat) (p:AV) (u:Value),(l.toList.map ρ)[j]? =some p→(l.toList.map ρc)[j]? =some u→ab σ I w p u:=by
  intro l j p u hp hu
  simp only [List.getElem?_map,Option.map_eq_some_iff] at hp hu
  obtain ⟨x,hx,rfl⟩:=hp
  obtain ⟨y,hy,rfl⟩:=hu
  rw [hx] at hy
  injection hy with hy
  subst hy
  exact hρ x
 have hrun:(execOp ρc o).run P w= .ok (.value (.func fn (first.toList.map ρc).toArray (captured.toList.map ρc).toArray)) w:=by
  simp only [execOp,ho]
  refine ap ?_
  simp only [Instr.makeFunc,Sem.run_pure]
  congr 2<;>(apply Array.ext';simp)
 simp only [ah,ho] at hop
 split at hop
 ·rename_i a b ha hb
  simp only [Option.some.injEq,Prod.mk.injEq] at hop
  obtain ⟨rfl,rfl⟩:=hop
  have ea:=dI ha
  have eb:=dI hb
  refine .same _ H hrun (.pv _ _ (.clo fn a b _ _ ?_ ?_ ?_ ?_))
  ·rw [List.length_map,←List.length_map (f:=ρ),ea,List.length_map]
  ·rw [List.length_map,←List.length_map (f:=ρ),eb,List.length_map]
  ·exact fun j p u hp hu=>aw (hpw first j (.pv p) u (by rw [ea];simp [hp]) hu)
  ·exact fun j p u hp hu=>aw (hpw captured j (.pv p) u (by rw [eb];simp [hp]) hu)
 ·simp only [Option.some.injEq,Prod.mk.injEq] at hop
  obtain ⟨rfl,rfl⟩:=hop
  exact .same _ H hrun (.clo fn _ _ _ _ (by simp) (by simp) (hpw first) (hpw captured))
theorem m9 {st:TypeId} {x:Operand} {f:Nat} (ho:o.op= .fieldAddr st x f) (hop:ah P o ρ d gen h=some (v,h')) (hρ: ∀x,ab σ I w (ρ x) (ρc x)) (H:ae σ I base w h):
  ay σ I base w gen ((execOp ρc o).run P w) v h':=by
 simp only [ah,ho] at hop
 split at hop
 ·rename_i fields hd
  simp only [Option.bind_eq_some_iff] at hop
  obtain ⟨off,hoff,hop⟩:=hop
  unfold jz at hoff
  simp only [Option.bind_eq_some_iff] at hoff
  obtain ⟨fd,hfd,n,hn,hoff⟩:=hoff
  split at hoff
  ·cases hoff
  ·rename_i hne
   injection hoff with hoff
   subst hoff
   have fin: ∀ {b ob:Nat},ρc x= .pointer (some ⟨b,ob,none⟩)→(execOp ρc o).run P w= .ok (.value (.pointer (some ⟨b,ob+fd.offset,none⟩))) w:=by
    intro b ob hp
    simp only [execOp,ho]
    refine ap ?_
    simp [Instr.fieldAt,aq hd,hfd,Instr.sureAddr,hp,fieldPlace,bQ hn,hne,cf]
   have hr:=hρ x
   split at hop
   ·rename_i d1 s g i oo he
    rw [he] at hr
    obtain ⟨b,ob,k,hs,hu⟩:=bW hr
    simp only [Option.some.injEq,Prod.mk.injEq] at hop
    obtain ⟨rfl,rfl⟩:=hop
    refine .same _ H (fin hu) ?_
    rw [Nat.add_assoc]
    exact .mptr d1 s g i (oo+fd.offset) b ob k hs
   ·rename_i r oo he
    rw [he] at hr
    simp only [Option.some.injEq,Prod.mk.injEq] at hop
    obtain ⟨rfl,rfl⟩:=hop
    have hr':=aw hr
    generalize hu:ρc x=u at hr'
    cases hr' with
    | ptr _ _ b ob vs hI hc hr2=>
     refine .same _ H (fin hu) ?_
     rw [Nat.add_assoc]
     exact .pv _ _ (.ptr r (oo+fd.offset) b ob vs hI hc hr2)
   ·cases hop
 ·cases hop
theorem gn {a:AV} {u:Value} {i:Int} (hi:intOf? a=some i) (hr:ab σ I w a u): ∃k,u= .int k i:=by
 unfold intOf? at hi
 split at hi
 ·rename_i k n
  injection hi with hi
  subst hi
  exact ⟨k,aQ (aw hr)⟩
 ·cases hi
theorem na {t:TypeId} {x ix:Operand} (ho:o.op= .indexAddr t x ix) (hop:ah P o ρ d gen h=some (v,h')) (hρ: ∀x,ab σ I w (ρ x) (ρc x)) (H:ae σ I base w h):
  ay σ I base w gen ((execOp ρc o).run P w) v h':=by
 simp only [ah,ho,Option.bind_eq_some_iff] at hop
 obtain ⟨i,hi,hop⟩:=hop
 obtain ⟨kind,hix⟩:=gn hi (hρ ix)
 have hr:=hρ x
 split at hop
 ·rename_i e k nl full xs hd he
  rw [he] at hr
  simp only [Option.bind_eq_some_iff] at hop
  obtain ⟨size,hsz,hop⟩:=hop
  split at hop
  ·rename_i hc
   obtain ⟨h0,hnl,hk⟩:=hc
   subst hnl;subst hk
   simp only [Option.map_eq_some_iff,Prod.mk.injEq] at hop
   obtain ⟨y,hy,rfl,rfl⟩:=hop
   have hlt:=(List.getElem?_eq_some_iff.1 hy).1
   have hr':=aw hr
   generalize hu:ρc x=u at hr'
   cases hr' with
   | emp=>simp at hy
   | sl _ _ _ b ob cap vs hcap hfull hI hk hcl hr2=>
    have hlt':i<(xs.length:Int):=by omega
    refine .same (.pointer (some ⟨b,ob+i.toNat*k,none⟩)) H ?_ (.pv _ _ ?_)
    ·simp only [execOp,ho]
     refine ap ?_
     simp [Instr.indexAt,asIntOf,hix,aq hd,hu,h0,hlt',bQ hsz,cf]
    ·have:=aj.ptr (I:=I) (w:=w) y 0 b (ob+i.toNat*k) (vs i.toNat) hI (fun j p hp=>hcl _ y hy j p hp) (fun j p hp=>hr2 _ y hy j p hp)
     simpa using this
  ·cases hop
 ·rename_i e d1 s g off n full hd he
  rw [he] at hr
  simp only [Option.bind_eq_some_iff] at hop
  obtain ⟨size,hsz,hop⟩:=hop
  split at hop
  ·rename_i k0 e0 xs fz hl
   split at hop
   ·rename_i hc
    obtain ⟨h0,hn,hk⟩:=hc
    subst hk
    simp only [Option.some.injEq,Prod.mk.injEq] at hop
    obtain ⟨rfl,rfl⟩:=hop
    obtain ⟨b',o',n',hs',_⟩:=cN (H.live hl (by simp))
    generalize hu:ρc x=u at hr
    cases hr with
    | msl _ _ _ _ _ _ b ob k cap ad had hs hcap hfull hroom=>
     rw [hs] at hs'
     simp only [Option.some.injEq,Prod.mk.injEq] at hs'
     obtain ⟨rfl,rfl,rfl⟩:=hs'
     have had':=had (by omega)
     subst had'
     refine .same (.pointer (some ⟨b,ob+off*k+i.toNat*k,none⟩)) H ?_ ?_
     ·simp only [execOp,ho]
      refine ap ?_
      simp [Instr.indexAt,asIntOf,hix,aq hd,hu,h0,hn,bQ hsz,cf]
     ·have:=ab.mptr (σ:=σ) (I:=I) (w:=w) d1 s g (off+i.toNat) 0 b ob k hs
      rw [Nat.add_zero,Nat.add_mul,←Nat.add_assoc] at this
      exact this
   ·cases hop
  ·cases hop
 ·rename_i n e d1 s g j oo hd he
  rw [he] at hr
  simp only [Option.bind_eq_some_iff] at hop
  obtain ⟨size,hsz,hop⟩:=hop
  split at hop
  ·rename_i hc
   obtain ⟨b,ob,k,hs,hu⟩:=bW hr
   simp only [Option.some.injEq,Prod.mk.injEq] at hop
   obtain ⟨rfl,rfl⟩:=hop
   refine .same (.pointer (some ⟨b,ob+j*k+oo+i.toNat*size,none⟩)) H ?_ ?_
   ·simp only [execOp,ho]
    refine ap ?_
    simp [Instr.indexAt,asIntOf,hix,aq hd,hu,hc.1,hc.2,bQ hsz,cf,Instr.sureAddr]
   ·rw [Nat.add_assoc]
    exact .mptr d1 s g j (oo+i.toNat*size) b ob k hs
  ·cases hop
 ·rename_i n e r oo hd he
  rw [he] at hr
  simp only [Option.bind_eq_some_iff] at hop
  obtain ⟨size,hsz,hop⟩:=hop
  split at hop
  ·rename_i hc
   simp only [Option.some.injEq,Prod.mk.injEq] at hop
   obtain ⟨rfl,rfl⟩:=hop
   have hr':=aw hr
   generalize hu:ρc x=u at hr'
   cases hr' with
   | ptr _ _ b ob vs hI hcl hr2=>
    refine .same (.pointer (some ⟨b,ob+oo+i.toNat*size,none⟩)) H ?_ ?_
    ·simp only [execOp,ho]
     refine ap ?_
     simp [Instr.indexAt,asIntOf,hix,aq hd,hu,hc.1,hc.2,bQ hsz,cf,Instr.sureAddr]
    ·rw [Nat.add_assoc]
     exact .pv _ _ (.ptr r (oo+i.toNat*size) b ob vs hI hcl hr2)
  ·cases hop
 ·cases hop
theorem nb {t:TypeId} {m off:Nat} {ag:Bool} {us:List Value} (hm:aK P t=some m) (ha:bK P t=some ag):
  (ag=true→off+m≤us.length→(part t us.toArray off).run P w= .ok (.agg ((us.drop off).take m).toArray) w)∧
  (ag=false→ ∀x,us[off]? =some x→(part t us.toArray off).run P w= .ok x w):=by
 refine ⟨?_,?_⟩
 ·rintro rfl hle
  simp only [part,Sem.run_bind,d9 ha,Result.andThen_ok,if_true,bQ hm,Sem.run_pure]
  congr 2
  apply Array.ext'
  simp [List.extract_eq_take_drop]
 ·rintro rfl x hx
  simp [part,d9 ha,hx]
theorem nc {v:AV} {u:Value} (hv:v.isAgg=true) (hr:ab σ I w v u):v.ok=true∧ ∃us:List Value,u= .agg us.toArray∧u.cells.toList=us:=by
 cases hr with
 | pv p _ hp=>
  cases hp with
  | agg cs vs hl h1 hr=>exact ⟨rfl,vs,rfl,rfl⟩
  | _=>cases hv
 | agg cs vs hl h1 hr=>exact ⟨rfl,vs,rfl,rfl⟩
 | _=>cases hv
theorem kc {t:TypeId} {m off:Nat} {ag:Bool} {x v':AV} {u:Value} (hm:aK P t=some m) (ha:bK P t=some ag) (hx:x.isAgg=true) (hr:ab σ I w x u) (hs:cU ag m off x=some v'):
  ∃us y,u= .agg us∧(part t us off).run P w= .ok y w∧ab σ I w v' y:=by
 obtain ⟨hok,us,rfl,hus⟩:=nc hx hr
 obtain ⟨h1,h2,h3⟩:=hr.cells hok
 have hsub:=ii (σ:=σ) (I:=I) (w:=w) hs (us:=us) (by simpa [Value.cells] using h1) (by simpa [Value.cells] using h2) fun j c x hc hx=>h3 j c x hc (by simpa [Value.cells] using hx)
 have hpart:=nb (P:=P) (w:=w) (off:=off) (us:=us) hm ha
 cases ag with
 | true=>exact ⟨_,_,rfl,hpart.1 rfl (hsub.1 rfl).1,(hsub.1 rfl).2⟩
 | false=>
  obtain ⟨y,hy,hp⟩:=hsub.2 rfl
  exact ⟨_,y,rfl,hpart.2 rfl y hy,hp⟩
theorem nf {t:TypeId} {x ix:Operand} (ho:o.op= .index t x ix) (hop:ah P o ρ d gen h=some (v,h')) (hρ: ∀x,ab σ I w (ρ x) (ρc x)) (H:ae σ I base w h):
  ay σ I base w gen ((execOp ρc o).run P w) v h':=by
 simp only [ah,ho] at hop
 have hr:=hρ x
 have hi:=hρ ix
 split at hop
 ·rename_i s k i hd he hei
  rw [he] at hr
  rw [hei] at hi
  have hu:=aQ (aw hr)
  have hix:=aQ (aw hi)
  split at hop
  ·rename_i h0
   simp only [Option.some.injEq,Prod.mk.injEq] at hop
   obtain ⟨rfl,rfl⟩:=hop
   refine .same (.int .u8 (s[i.toNat]'h0.2).toNat) H ?_ (.pv _ _ (.lit _))
   simp only [execOp,ho]
   refine ap ?_
   have:s[i.toNat]? =some (s[i.toNat]'h0.2):=by exact getElem?_pos s i.toNat h0.2
   simp [Instr.index,asIntOf,hix,aq hd,hu,h0.1,this]
  ·cases hop
 ·rename_i n e x' k i hd hei
  rw [hei] at hi
  have hix:=aQ (aw hi)
  split at hop
  ·rename_i hc
   simp only [Option.bind_eq_some_iff] at hop
   obtain ⟨size,hsz,ag,hag,hop⟩:=hop
   split at hop
   ·rename_i hagg
    simp only [Option.map_eq_some_iff,Prod.mk.injEq] at hop
    obtain ⟨v',hv',rfl,rfl⟩:=hop
    obtain ⟨us,y,hu,hpart,hry⟩:=kc (P:=P) hsz hag hagg hr hv'
    refine .same y H ?_ hry
    simp only [execOp,ho]
    refine ap ?_
    simp [Instr.index,asIntOf,hix,aq hd,hu,hc.1,hc.2,bQ hsz,hpart]
   ·cases hop
  ·cases hop
 ·cases hop
theorem ng {t:TypeId} {x:Operand} {f:Nat} (ho:o.op= .field t x f) (hop:ah P o ρ d gen h=some (v,h')) (hρ: ∀x,ab σ I w (ρ x) (ρc x)) (H:ae σ I base w h):
  ay σ I base w gen ((execOp ρc o).run P w) v h':=by
 simp only [ah,ho] at hop
 have hr:=hρ x
 split at hop
 ·rename_i fields hd
  simp only [Option.bind_eq_some_iff] at hop
  obtain ⟨fd,hfd,size,hsz,ag,hag,hop⟩:=hop
  split at hop
  ·rename_i hagg
   simp only [Option.map_eq_some_iff,Prod.mk.injEq] at hop
   obtain ⟨v',hv',rfl,rfl⟩:=hop
   obtain ⟨us,y,hu,hpart,hry⟩:=kc (P:=P) hsz hag hagg hr hv'
   refine .same y H ?_ hry
   simp only [execOp,ho]
   refine ap ?_
   simp [Instr.field,aq hd,hfd,hu,asAgg,hpart]
  ·cases hop
 ·cases hop
theorem nh {x:Operand} {i:Nat} (ho:o.op= .extract x i) (hop:ah P o ρ d gen h=some (v,h')) (hρ: ∀x,ab σ I w (ρ x) (ρc x)) (H:ae σ I base w h):
  ay σ I base w gen ((execOp ρc o).run P w) v h':=by
 simp only [ah,ho] at hop
 have hr:=hρ x
 split at hop
 ·rename_i vs he
  rw [he] at hr
  simp only [Option.map_eq_some_iff,Prod.mk.injEq] at hop
  obtain ⟨p,hp,rfl,rfl⟩:=hop
  have hr':=aw hr
  generalize hu:ρc x=u at hr'
  cases hr' with
  | tup _ us hl hr2=>
   have hi:=(List.getElem?_eq_some_iff.1 hp).1
   have hy:us[i]? =some us[i]:=List.getElem?_eq_getElem (by omega)
   refine .same us[i] H ?_ (.pv _ _ (hr2 i p _ hp hy))
   simp only [execOp,ho]
   refine ap ?_
   simp [Instr.extract,hu,hy]
 ·rename_i vs he
  rw [he] at hr
  simp only [Option.map_eq_some_iff,Prod.mk.injEq] at hop
  obtain ⟨p,hp,rfl,rfl⟩:=hop
  generalize hu:ρc x=u at hr
  cases hr with
  | tup _ us hl hr2=>
   have hi:=(List.getElem?_eq_some_iff.1 hp).1
   have hy:us[i]? =some us[i]:=List.getElem?_eq_getElem (by omega)
   refine .same us[i] H ?_ (hr2 i p _ hp hy)
   simp only [execOp,ho]
   refine ap ?_
   simp [Instr.extract,hu,hy]
 ·cases hop
end
variable {σ σ':ak} {I I':af} {base:af} {w w':World} {h:aa} {P:Program}
theorem dJ {α:Type} {l new:List α} {off:Nat} (hle:off+new.length≤l.length) (k:Nat):
  (bq l off new)[k]? =if off≤k∧k<off+new.length then new[k-off]? else l[k]? :=by
 unfold bq
 have hl1:(l.take off).length=off:=by simp;omega
 rcases Nat.lt_or_ge k off with hk | hk
 ·rw [if_neg (by omega),List.append_assoc,List.getElem?_append_left (by omega),List.getElem?_take,if_pos hk]
 ·rcases Nat.lt_or_ge k (off+new.length) with hk2 | hk2
  ·rw [if_pos ⟨hk,hk2⟩,List.append_assoc,List.getElem?_append_right (by omega),hl1,List.getElem?_append_left (by omega)]
  ·rw [if_neg (by omega),List.getElem?_append_right (by simp [hl1];omega),List.getElem?_drop]
   congr 1
   simp [hl1]
   omega
theorem dK {α:Type} {l new:List α} {off:Nat} (hle:off+new.length≤l.length):(bq l off new).length=l.length:=by
 unfold bq
 simp
 omega
theorem ke (l:List AV):(bY l).cells=l:=by
 unfold bY
 cases ha:aF l with
 | none=>rfl
 | some ps=>rw [dI ha];rfl
theorem ni (l:List AV):(bY l).ok=true:=by
 unfold bY
 cases ha:aF l<;>rfl
theorem kf {v:AV} {u:Value} (hr:ab σ I w v u) (hu:u.oneCell'=true):v.ok=true∧v.cells=[v]:=by
 cases hr with
 | pv p _ hp=>
  cases hp with
  | lit=>exact ⟨hu,rfl⟩
  | agg=>cases hu
  | tup=>cases hu
  | _=>exact ⟨rfl,rfl⟩
 | agg=>cases hu
 | tup=>cases hu
 | _=>exact ⟨rfl,rfl⟩
theorem nj {v:PV} {u:Value} (hr:aj I w v u) (hu:u.oneCell'=true):v.ok=true∧v.cells=[v]:=by
 cases hr with
 | lit=>exact ⟨hu,rfl⟩
 | agg=>cases hu
 | tup=>cases hu
 | _=>exact ⟨rfl,rfl⟩
theorem kg {t:TypeId} {m b o n:Nat} {e:TypeId} {u:Value} (hm:aK P t=some m) (hu:u.cells.size=m) (hs:w.shape? b=some (e,n)) (hn:o+m≤n) (hf:Fr w n b)
  (h1: ∀x∈u.cells.toList,x.oneCell'=true):(storeVar t ⟨b,o,none⟩ u).run P w= .ok () (w.setCells b o u.cells.toList):=by
 have:=hO (P:=P) (w:=w) (b:=b) (o:=o) (vs:=u.cells.toList) hs (by simpa [hu] using hn) hf h1
 simp only [storeVar,Sem.run_bind,bQ hm,Result.andThen_ok]
 rw [if_neg (by simp [hu])]
 simpa using this
theorem ae.store (H:ae σ I base w h) {d s g:Nat} {bd bd':aW} {b o k off:Nat} {us:List Value} (hl:Abs.live h d s g=bd) (hne:bd≠ .dead) (hs:σ g=some (b,o,k))
  (hb:ai σ ⟨g,bd⟩=some b) (hb':ai σ ⟨g,bd'⟩=some b) (hr:aL σ I base (w.setCells b off us) ⟨g,bd'⟩):
  ae σ I base (w.setCells b off us) (hput h d s ⟨g,bd'⟩)∧ar base σ I w σ I (w.setCells b off us):=by
 have hrow:=b8 hl hne
 have hf:=aM (H.rows d s) (by rw [hrow];exact hb)
 have hk:aD I w (w.setCells b off us):=d6 hf.2.1
 refine ⟨H.put (fun _ _ h=>h) (fun _ h=>h) hk (hk.inW H.inW) d s _ hr ?_,⟨fun _ _ h=>h,fun _ h=>h,fun _ h=> .inl h,hk,jG hf.2.2⟩⟩
 intro d' s' b' hne' hb2
 have hf':=aM (H.rows d' s') hb2
 have hbb:b'≠b:=fun e=>hne' (H.apart d s d' s' b (by rw [hrow];exact hb) (e▸hb2))
 exact ⟨eV b us off w b' hbb,hf'.2.1,by rw [hb'];simpa using Ne.symm hbb⟩
theorem kh {v v':AV} {off:Nat} {new:List AV} (hs:cF v off new=some v') (hnew: ∀(c:AV),c∈new→c.ok=true∧c.cells=[c]) (hne:v.isAgg=false→new.length≠0) (hv:v.isAgg=false→v.cells=[v]):
  off+new.length≤v.cells.length∧v'.cells=bq v.cells off new∧v'.ok=true:=by
 unfold cF at hs
 split at hs
 ·rename_i hle
  have hle:=hle.1
  split at hs
  ·injection hs with hs
   subst hs
   exact ⟨hle,ke _,ni _⟩
  ·rename_i hag
   have hag:v.isAgg=false:=by simpa using hag
   have hv:=hv hag
   match new,hs with
   | c::rest,hs=>
    simp only [List.head?_cons,Option.some.injEq] at hs
    subst hs
    rw [hv] at hle
    simp at hle
    have hrest:rest=[]:=List.eq_nil_of_length_eq_zero (by omega)
    have hoff:off=0:=by omega
    subst hrest;subst hoff
    have:=hnew c (by simp)
    exact ⟨by rw [hv];simp,by rw [hv,this.2];simp [bq],this.1⟩
 ·cases hs
theorem kj {v v':AV} {off:Nat} {new:List AV} (hs:cF v off new=some v') (hnew: ∀(c:AV),c∈new→c.cells=[c]):a8 v'=a8 v∨a8 v'=none:=by
 unfold cF at hs
 split at hs
 ·rename_i hle
  obtain ⟨hle,ht⟩:=hle
  have nt: ∀c∈new,∀t,c≠ .btag t:=fun c hc t e=>by
   have:=List.any_eq_false.1 ht c hc
   subst e
   exact this rfl
  have one: ∀(c:AV),(∀t,c≠ .btag t)→dq (some c)=none:=fun c hc=>by
   cases c<;>first | rfl | exact absurd rfl (hc _)
  split at hs
  ·injection hs with hs
   subst hs
   unfold a8
   rw [ke]
   cases off with
   | zero=>
    cases new with
    | nil=>left;simp [bq]
    | cons c l=>right;simp only [bq,List.take_zero,List.nil_append,List.cons_append,List.head?_cons];exact one c (nt c (by simp))
   | succ k=>
    left
    cases hv:v.cells with
    | nil=>rw [hv] at hle;simp at hle
    | cons c l=>simp [bq]
  ·right
   have hm:v'∈new:=List.mem_of_mem_head? (by rw [hs];rfl)
   unfold a8
   rw [hnew v' hm]
   exact one v' (nt v' hm)
 ·cases hs
theorem io {g b k n:Nat} {e:TypeId} {v:AV} {fz:Bool} (hr:aL σ I base w ⟨g,.box v fz⟩) (hs:σ g=some (b,0,k)) (hsh:w.shape? b=some (e,n)):bS e v=true:=by
 obtain ⟨b1,e1,h1,h2,h3,_⟩:=hr
 simp only [] at h1
 rw [hs] at h1
 simp only [Option.some.injEq,Prod.mk.injEq] at h1
 obtain ⟨rfl,_⟩:=h1
 rw [hsh] at h2
 simp only [Option.some.injEq,Prod.mk.injEq] at h2
 rw [h2.1]
 exact h3
theorem nk {v v':PV} {off:Nat} {new:List PV} (hs:gJ v off new=some v') (hnew: ∀(c:PV),c∈new→c.ok=true∧c.cells=[c]) (hne:v.isAgg=false→new.length≠0) (hv:v.isAgg=false→v.cells=[v]):
  off+new.length≤v.cells.length∧v'.cells=bq v.cells off new∧v'.ok=true:=by
 unfold gJ at hs
 split at hs
 ·rename_i hle
  split at hs
  ·injection hs with hs
   subst hs
   exact ⟨hle,rfl,rfl⟩
  ·rename_i hag
   have hag:v.isAgg=false:=by simpa using hag
   have hv:=hv hag
   match new,hs with
   | c::rest,hs=>
    simp only [List.head?_cons,Option.some.injEq] at hs
    subst hs
    rw [hv] at hle
    simp at hle
    have hrest:rest=[]:=List.eq_nil_of_length_eq_zero (by omega)
    have hoff:off=0:=by omega
    subst hrest;subst hoff
    have:=hnew c (by simp)
    exact ⟨by rw [hv];simp,by rw [hv,this.2];simp [bq],this.1⟩
 ·cases hs
theorem kl {v:AV} (hv:v.isAgg=false):v.cells=[v]:=by
 cases v with
 | pv p=>cases p<;>first | rfl | cases hv
 | agg=>cases hv
 | _=>rfl
theorem ip {v:PV} (hv:v.isAgg=false):v.cells=[v]:=by cases v<;>first | rfl | cases hv
theorem e8 {α:Type} {l:List α} {x:α} (hx:x∈l): ∃j:Nat,l[j]? =some x:=by
 obtain ⟨j,hj,rfl⟩:=List.mem_iff_getElem.1 hx
 exact ⟨j,List.getElem?_eq_getElem hj⟩
section
variable {ρ:Operand→AV} {ρc:Operand→Value} {d gen:Nat} {o:Oper} {v:AV} {h':aa}
theorem ec:ab σ I w a6 undef:= .pv _ _ (.lit _)
theorem iq {d1 s g b off:Nat} {v0 v':AV} {new:List AV} {vs:List Value} (H:ae σ I base w h) (hl:live h d1 s g= .box v0 false) (hs:σ g=some (b,0,1)) (hlen:vs.length=new.length)
  (hx2: ∀x∈vs,x.oneCell'=true) (hx3: ∀(j:Nat) (p:AV) (u:Value),new[j]? =some p→vs[j]? =some u→ab σ I w p u) (hne:new.length≠0) (hv':cF v0 off new=some v'):
  ae σ I base (w.setCells b off vs) (hput h d1 s ⟨g,.box v' false⟩)∧ar base σ I w σ I (w.setCells b off vs)∧ ∃e n,w.shape? b=some (e,n)∧off+vs.length≤n∧Fr w n b:=by
 obtain ⟨b0,k0,e0,u0,hs0,hsh,hok0,hru,hz,hf,h1c,hszu,hcell⟩:=cM (H.live hl (by simp))
 rw [hs] at hs0
 simp only [Option.some.injEq,Prod.mk.injEq] at hs0
 obtain ⟨rfl,_,_⟩:=hs0
 have hnew: ∀(c:AV),c∈new→c.ok=true∧c.cells=[c]:=by
  intro c hc
  obtain ⟨j,hj⟩:=e8 hc
  have hlt:=(List.getElem?_eq_some_iff.1 hj).1
  have hv:vs[j]? =some vs[j]:=by simp
  exact kf (hx3 j c _ hj hv) (hx2 _ (by simp))
 obtain ⟨hle,hvc,hvok⟩:=kh hv' hnew (fun _=>hne) kl
 have hrow:aL σ I base (w.setCells b off vs) ⟨g,.box v' false⟩:=by
  have hk:aD I w (w.setCells b off vs):=d6 hz.1
  refine ⟨b,e0,hs,?_,f8 (io (H.live hl (by simp)) hs hsh) hvok (kj hv' fun c hc=>(hnew c hc).2),fun j p hp=> ?_,⟨hz.1,hz.2.1,fun j hj=> ?_⟩⟩
  ·rw [c5,hsh,hvc,dK hle]
  ·rw [hvc,dJ hle] at hp
   split at hp
   ·rename_i hj
    have hlt:=(List.getElem?_eq_some_iff.1 hp).1
    refine ⟨vs[j-off]'(by omega),?_,hx2 _ (by simp),(hx3 (j-off) p _ hp (by simp)).mono (fun _ _ h=>h) (fun _ h=>h) hk⟩
    have:=eW (w:=w) (b:=b) (o:=off) (vs:=vs) hsh (by omega) (j:=j-off) (by omega)
    rw [show off+(j-off)=j by omega] at this
    exact this
   ·rename_i hj
    have hlt:=(List.getElem?_eq_some_iff.1 hp).1
    have hcj:=Array.getElem?_eq_getElem (xs:=u0.cells) (i:=j) (by omega)
    refine ⟨u0.cells[j],?_,h1c _ (by simp),((hru.cells hok0).2.2 j p _ hp hcj).mono (fun _ _ h=>h) (fun _ h=>h) hk⟩
    rw [d7 (by omega)]
    exact hcell j _ hcj
  ·rw [World.frozen?_setCells]
   exact hz.2.2 j (by rw [hvc,dK hle] at hj;exact hj)
 obtain ⟨H',E'⟩:=H.store hl (by simp) hs (by simp [ai,hs]) (bd':= .box v' false) (by simp [ai,hs]) hrow
 exact ⟨H',E',e0,_,hsh,by omega,hz.2.2⟩
theorem nn {t:TypeId} {a x:Operand} (ho:o.op= .store t a x) (hop:ah P o ρ d gen h=some (v,h')) (hρ: ∀x,ab σ I w (ρ x) (ρc x)) (H:ae σ I base w h):
  ay σ I base w gen ((execOp ρc o).run P w) v h':=by
 simp only [ah,ho,Option.bind_eq_bind,Option.bind_eq_some_iff] at hop
 obtain ⟨m,hm,hop⟩:=hop
 split at hop
 case isFalse=>cases hop
 rename_i hsz
 obtain ⟨hsz,hm0,hok⟩:=hsz
 obtain ⟨hx1,hx2,hx3⟩:=(hρ x).cells hok
 have hra:=hρ a
 have fin: ∀ {ad:Addr} {w':World},ρc a= .pointer (some ad)→(storeVar t ad (ρc x)).run P w= .ok () w'→(execOp ρc o).run P w= .ok .skip w':=by
  intro ad w' hp hl
  simp only [execOp,ho]
  exact ig (by simp [Instr.storeAt,Instr.sureAddr,hp,hl])
 split at hop
 case h_2=>cases hop
 rename_i d1 s g i off he
 rw [he] at hra
 obtain ⟨b,ob,k,hs,hu⟩:=bW hra
 split at hop
 ·rename_i v0 hl
  split at hop
  case isFalse=>cases hop
  rename_i hi
  subst hi
  simp only [Option.map_eq_some_iff,Prod.mk.injEq] at hop
  obtain ⟨v',hv',rfl,rfl⟩:=hop
  obtain ⟨b0,k0,e0,u0,hs0,hsh,hok0,hru,hz,hf,h1c,hszu,hcell⟩:=cM (H.live hl (by simp))
  rw [hs] at hs0
  simp only [Option.some.injEq,Prod.mk.injEq] at hs0
  obtain ⟨rfl,rfl,rfl⟩:=hs0
  have hnew: ∀(c:AV),c∈(ρ x).cells→c.ok=true∧c.cells=[c]:=by
   intro c hc
   obtain ⟨j,hj⟩:=e8 hc
   have hlt:=(List.getElem?_eq_some_iff.1 hj).1
   exact kf (hx3 j c _ hj (Array.getElem?_eq_getElem (by omega))) (hx2 _ (by simp))
  obtain ⟨hle,hvc,hvok⟩:=kh hv' hnew (fun _=>by omega) kl
  have hlenN:(ρc x).cells.toList.length=(ρ x).cells.length:=by simpa using hx1
  have hrun:=kg (P:=P) (u:=ρc x) (b:=b) (o:=0+0*k+off) hm (by omega) hsh (by omega) hz.2.2 hx2
  simp only [Nat.zero_mul,Nat.add_zero,Nat.zero_add] at hu hrun
  have hrow:aL σ I base (w.setCells b off (ρc x).cells.toList) ⟨g,.box v' false⟩:=by
   have hk:aD I w (w.setCells b off (ρc x).cells.toList):=d6 hz.1
   refine ⟨b,e0,by rw [hs,hf],?_,f8 (io (H.live hl (by simp)) hs hsh) hvok (kj hv' fun c hc=>(hnew c hc).2),fun j p hp=> ?_,⟨hz.1,hz.2.1,fun j hj=> ?_⟩⟩
   ·rw [c5,hsh,hvc,dK hle]
   ·rw [hvc,dJ hle] at hp
    split at hp
    ·rename_i hj
     have hlt:=(List.getElem?_eq_some_iff.1 hp).1
     refine ⟨(ρc x).cells.toList[j-off]'(by omega),?_,hx2 _ (by simp),(hx3 (j-off) p _ hp (by simp)).mono (fun _ _ h=>h) (fun _ h=>h) hk⟩
     have:=eW (w:=w) (b:=b) (o:=off) (vs:=(ρc x).cells.toList) hsh (by omega) (j:=j-off) (by omega)
     rw [show off+(j-off)=j by omega] at this
     exact this
    ·rename_i hj
     have hlt:=(List.getElem?_eq_some_iff.1 hp).1
     have hcj:=Array.getElem?_eq_getElem (xs:=u0.cells) (i:=j) (by omega)
     refine ⟨u0.cells[j],?_,h1c _ (by simp),((hru.cells hok0).2.2 j p _ hp hcj).mono (fun _ _ h=>h) (fun _ h=>h) hk⟩
     rw [d7 (by omega)]
     exact hcell j _ hcj
   ·rw [World.frozen?_setCells]
    exact hz.2.2 j (by rw [hvc,dK hle] at hj;exact hj)
  obtain ⟨H',E'⟩:=H.store hl (by simp) hs (by simp [ai,hs]) (bd':= .box v' false) (by simp [ai,hs]) hrow
  exact ⟨_,_,undef,σ,I,fin hu hrun,.inr ⟨rfl,rfl⟩,ec,H',E',fun _ _=>rfl⟩
 ·rename_i k0 e0 xs hl
  simp only [Option.bind_eq_some_iff,Prod.exists] at hop
  obtain ⟨p,h1,hp,hop⟩:=hop
  split at hop
  case h_2=>cases hop
  rename_i k1 e1 xs1 hl1
  simp only [Option.bind_eq_some_iff] at hop
  obtain ⟨y,hy,hop⟩:=hop
  split at hop
  case isFalse=>cases hop
  simp only [Option.map_eq_some_iff,Prod.mk.injEq] at hop
  obtain ⟨y',hy',rfl,rfl⟩:=hop
  obtain ⟨I1,hpr,H1,m1⟩:=d8 _ _ _ _ _ _ _ hp (hρ x) H
  have hpok:=mj hp hok
  obtain ⟨hp1,hp2,hp3⟩:=hpr.cells hpok
  have hr1:=H1.live hl1 (by simp)
  obtain ⟨b',o',n',hs',hb',hbase,_,hn,hsh,hxk,hc,hz⟩:=cN hr1
  rw [hs] at hs'
  simp only [Option.some.injEq,Prod.mk.injEq] at hs'
  obtain ⟨rfl,rfl,rfl⟩:=hs'
  have hnew: ∀(c:PV),c∈p.cells→c.ok=true∧c.cells=[c]:=by
   intro c hc
   obtain ⟨j,hj⟩:=e8 hc
   have hlt:=(List.getElem?_eq_some_iff.1 hj).1
   exact nj (hp3 j c _ hj (Array.getElem?_eq_getElem (by omega))) (hp2 _ (by simp))
  obtain ⟨hle,hvc,hvok⟩:=nk hy' hnew (fun _=>by omega) ip
  obtain ⟨hyk,hyok⟩:=hxk y (List.mem_of_getElem? hy)
  have hi:=(List.getElem?_eq_some_iff.1 hy).1
  have hlenN:(ρc x).cells.toList.length=p.cells.length:=by simpa using hp1
  have hmul:(i+1)*k≤xs1.length*k:=Nat.mul_le_mul_right k (by omega)
  have hmul':(i+1)*k=i*k+k:=by rw [Nat.add_mul];omega
  have hin:ob+i*k+off+(ρc x).cells.toList.length≤n':=by omega
  have hrun:=kg (P:=P) (u:=ρc x) (b:=b) (o:=ob+i*k+off) hm (by omega) hsh (by omega) hz.2.2 hx2
  have hk:aD I1 w (w.setCells b (ob+i*k+off) (ρc x).cells.toList):=d6 hz.1
  have hrow:aL σ I1 base (w.setCells b (ob+i*k+off) (ρc x).cells.toList) ⟨g,.row k e1 (xs1.set i y') false⟩:=by
   refine ⟨b,ob,n',hs,by rw [c5];exact hsh,by simpa using hn,fun z hzm=> ?_,fun i' z hz' j q hq=> ?_,⟨hz.1,hz.2.1,fun j hj=>by rw [World.frozen?_setCells];exact hz.2.2 j hj⟩⟩
   ·rcases List.mem_or_eq_of_mem_set hzm with hmem | rfl
    ·exact hxk z hmem
    ·exact ⟨by rw [hvc,dK hle,hyk],hvok⟩
   ·rw [List.getElem?_set] at hz'
    by_cases hii:i=i'
    ·subst hii
     rw [if_pos rfl,if_pos hi] at hz'
     injection hz' with hz'
     subst hz'
     rw [hvc,dJ hle] at hq
     split at hq
     ·rename_i hj
      have hlt:=(List.getElem?_eq_some_iff.1 hq).1
      refine ⟨(ρc x).cells.toList[j-off]'(by omega),?_,hx2 _ (by simp),(hp3 (j-off) q _ hq (by simp)).mono (fun _ h=>h) hk.keep⟩
      have:=eW (w:=w) (b:=b) (o:=ob+i*k+off) (vs:=(ρc x).cells.toList) hsh hin (j:=j-off) (by omega)
      rw [show ob+i*k+off+(j-off)=ob+i*k+j by omega] at this
      exact this
     ·rename_i hj
      have hlt:=(List.getElem?_eq_some_iff.1 hq).1
      obtain ⟨u,hu1,hu2,hu3⟩:=hc i y hy j q hq
      exact ⟨u,by rw [d7 (by omega)];exact hu1,hu2,hu3.mono (fun _ h=>h) hk.keep⟩
    ·rw [if_neg hii] at hz'
     obtain ⟨u,hu1,hu2,hu3⟩:=hc i' z hz' j q hq
     have hjk:j<k:=by rw [←(hxk z (List.mem_of_getElem? hz')).1];exact (List.getElem?_eq_some_iff.1 hq).1
     refine ⟨u,?_,hu2,hu3.mono (fun _ h=>h) hk.keep⟩
     rw [d7]
     ·exact hu1
     ·rcases Nat.lt_or_ge i' i with hlt | hge
      ·left
       have:(i'+1)*k≤i*k:=Nat.mul_le_mul_right k (by omega)
       rw [Nat.add_mul] at this
       omega
      ·right
       have:(i+1)*k≤i'*k:=Nat.mul_le_mul_right k (by omega)
       omega
  obtain ⟨H',E'⟩:=H1.store hl1 (by simp) hs (by simp [ai,hs]) (bd':= .row k e1 (xs1.set i y') false) (by simp [ai,hs]) hrow
  exact ⟨_,_,undef,σ,I1,fin hu hrun,.inr ⟨rfl,rfl⟩,ec,H',m1.ext.trans E',fun _ _=>rfl⟩
 ·cases hop
end
variable {σ σ':ak} {I I':af} {base:af} {w w':World} {h:aa} {P:Program}
theorem km (off:Nat) (v:Value) (cells:Array Value):
  ((v.cells.zipIdx.foldl (fun cs (x:Value×Nat)=>cs.setIfInBounds (off+x.2) x.1) cells)).size=cells.size∧
  ∀k,(v.cells.zipIdx.foldl (fun cs (x:Value×Nat)=>cs.setIfInBounds (off+x.2) x.1) cells)[k]? =
   if off≤k∧k<off+v.cells.size∧k<cells.size then v.cells[k-off]? else cells[k]? :=by
 have:=Great.foldl_set off v.cells.toList 0 cells
 rw [←Array.foldl_toList,Array.toList_zipIdx]
 simpa using this
structure PW (σ:ak) (I:af) (w:World) (cs:List AV) (us:Array Value):Prop where
 len:us.size=cs.length
 one: ∀x∈us.toList,x.oneCell'=true
 rep: ∀(j:Nat) (c:AV) (x:Value),cs[j]? =some c→us[j]? =some x→ab σ I w c x
theorem ko {place:Nat→Option (Nat×Nat)} : ∀(parts:List (Nat×AV)) (pc:List (Nat×Value)) (cs cs':List AV) (us:Array Value),
  dt place cs parts=some cs'→PW σ I w cs us→pc.length=parts.length→(∀(j:Nat) (p:Nat×AV) (q:Nat×Value),parts[j]? =some p→pc[j]? =some q→p.1=q.1∧ab σ I w p.2 q.2)→
  ∃us',Instr.fill place us pc=some us'∧PW σ I w cs' us'
 | [],[],cs,cs',us,hf,hp,_,_=>by
  simp only [dt,Option.some.injEq] at hf
  subst hf
  exact ⟨us,rfl,hp⟩
 | (i,v)::parts,(i',u)::pc,cs,cs',us,hf,hp,hl,hr=>by
  obtain ⟨hii,hru⟩:=hr 0 (i,v) (i',u) rfl rfl
  have hru:ab σ I w v u:=hru
  have hii:i=i':=hii
  subst hii
  simp only [dt] at hf
  split at hf
  ·cases hf
  ·rename_i off size hpl
   split at hf
   ·rename_i hc
    obtain ⟨hsz,hle,hok⟩:=hc
    obtain ⟨h1,h2,h3⟩:=ab.cells hru hok
    have h1:u.cells.size=v.cells.length:=h1
    have hsz:v.cells.length=size:=hsz
    obtain ⟨hs1,hs2⟩:=km off u us
    have hle':off+v.cells.length≤cs.length:=by omega
    have hlen:=hp.len
    have hp':PW σ I w (bq cs off v.cells) (u.cells.zipIdx.foldl (fun cs (x:Value×Nat)=>cs.setIfInBounds (off+x.2) x.1) us):=by
     refine ⟨by rw [hs1,dK hle',hlen],fun x hx=> ?_,fun j c x hc hx=> ?_⟩
     ·obtain ⟨j,hj⟩:=e8 hx
      rw [Array.getElem?_toList,hs2] at hj
      split at hj
      ·exact h2 x (List.mem_of_getElem? (i:=j-off) (by simpa using hj))
      ·exact hp.one x (List.mem_of_getElem? (i:=j) (by simpa using hj))
     ·rw [hs2] at hx
      rw [dJ hle'] at hc
      by_cases hj:off≤j∧j<off+v.cells.length
      ·rw [if_pos hj] at hc
       rw [if_pos (by omega)] at hx
       exact h3 _ c x hc hx
      ·rw [if_neg hj] at hc
       rw [if_neg (by omega)] at hx
       exact hp.rep j c x hc hx
    obtain ⟨us',hf',hp''⟩:=ko parts pc _ cs' _ hf hp' (by simpa using hl) fun j p q hpj hqj=>hr (j+1) p q (by simpa using hpj) (by simpa using hqj)
    refine ⟨us',?_,hp''⟩
    simp only [Instr.fill,hpl]
    have e1:u.cells.size=size:=by omega
    have hcond: ¬((u.cells.size≠size||decide (off+u.cells.size>us.size))=true):=by
     simp [e1];omega
    rw [if_neg (by simpa using hcond)]
    exact hf'
   ·cases hf
theorem gp {z:Value} {n:Nat} (hn:(av z).cells.length=n) (hok:(av z).ok=true):
  z.cells.size=n∧(∀x∈z.cells.toList,x.oneCell'=true)∧ ∀(j:Nat) (c:PV) (x:Value),(av z).cells[j]? =some c→z.cells[j]? =some x→aj I w c x:=by
 obtain ⟨h1,h2,h3⟩:=(c7 (I:=I) (w:=w) z).cells hok
 exact ⟨by omega,h2,h3⟩
section
variable {ρ:Operand→AV} {ρc:Operand→Value} {d gen:Nat} {o:Oper} {v:AV} {h':aa}
theorem np (hρ: ∀x,ab σ I w (ρ x) (ρc x)) (parts:List (Nat×Operand)) (j:Nat) (p:Nat×AV) (q:Nat×Value)
  (hp:(parts.map fun (i,x)=>(i,ρ x))[j]? =some p) (hq:(parts.map fun (i,x)=>(i,ρc x))[j]? =some q):p.1=q.1∧ab σ I w p.2 q.2:=by
 simp only [List.getElem?_map,Option.map_eq_some_iff] at hp hq
 obtain ⟨x,hx,rfl⟩:=hp
 obtain ⟨y,hy,rfl⟩:=hq
 rw [hx] at hy
 injection hy with hy
 subst hy
 exact ⟨rfl,hρ x.2⟩
theorem nq {fields:Array Field} {pl:List (Nat×Nat)} (hp:dS P fields=some pl):
  fields.toList.mapM (fun f=>(P.info? f.type).map fun i=>(f.offset,i.size))=some pl:=by
 unfold dS at hp
 rw [←hp]
 congr 1
 funext f
 unfold aK
 cases P.info? f.type<;>rfl
theorem nr {t:TypeId} {parts:Array (Nat×Operand)} (ho:o.op= .build t parts) (hop:ah P o ρ d gen h=some (v,h')) (hρ: ∀x,ab σ I w (ρ x) (ρc x)) (H:ae σ I base w h):
  ay σ I base w gen ((execOp ρc o).run P w) v h':=by
 simp only [ah,ho,Option.bind_eq_bind,Option.bind_eq_some_iff] at hop
 obtain ⟨z,hz,hop⟩:=hop
 split at hop
 case isFalse=>cases hop
 rename_i hzok
 have hpw:PW σ I w ((av z).cells.map AV.pv) z.cells:=by
  obtain ⟨h1,h2,h3⟩:=gp (I:=I) (w:=w) (z:=z) rfl hzok
  refine ⟨by simpa using h1,h2,fun j c x hc hx=> ?_⟩
  simp only [List.getElem?_map,Option.map_eq_some_iff] at hc
  obtain ⟨c',hc',rfl⟩:=hc
  exact .pv _ _ (h3 j c' x hc' hx)
 have hz':=hz
 unfold bo at hz'
 simp only [Option.bind_eq_some_iff] at hz'
 obtain ⟨it,hit,hitz⟩:=hz'
 have fin: ∀ {cs':List AV} {place:Nat→Option (Nat×Nat)},dt place ((av z).cells.map AV.pv) (parts.toList.map fun (i,x)=>(i,ρ x))=some cs'→
   (∀cells,Instr.fill place z.cells (parts.map fun (i,x)=>(i,ρc x)).toList=some cells→P.built t (parts.map fun (i,x)=>(i,ρc x)).toList=some cells)→
   ay σ I base w gen ((execOp ρc o).run P w) (bY cs') h:=by
  intro cs' place hf hb
  obtain ⟨us',hf',hp'⟩:=ko (σ:=σ) (I:=I) (w:=w) _ (parts.toList.map fun (i,x)=>(i,ρc x)) _ cs' z.cells hf hpw (by simp) fun j p q hp hq=>np hρ parts.toList j p q hp hq
  have hbt:=hb us' (by simpa using hf')
  refine .same (.agg us') H ?_ ?_
  ·simp only [execOp,ho]
   exact ap (run_build w t _ us' hbt)
  ·have:=j1 (σ:=σ) (I:=I) (w:=w) (cs:=cs') (vs:=us'.toList) (by simpa using hp'.len) hp'.one fun j p v hp hv=>hp'.rep j p v hp (by simpa using hv)
   simpa using this
 split at hop
 ·rename_i fields hd
  simp only [Option.bind_eq_some_iff] at hop
  obtain ⟨pl,hpl,cs',hf,hop⟩:=hop
  simp only [Option.some.injEq,Prod.mk.injEq] at hop
  obtain ⟨rfl,rfl⟩:=hop
  refine fin hf fun cells hc=> ?_
  have hm:=nq hpl
  simp only [Program.built,hit,hd,hitz,hm]
  have e:(fun x:Nat=>pl.toArray[x]?)=(fun x:Nat=>pl[x]?):=by funext x;simp
  rw [e]
  exact hc
 ·rename_i n e hd
  simp only [Option.bind_eq_some_iff] at hop
  obtain ⟨size,hsz,cs',hf,hop⟩:=hop
  simp only [Option.some.injEq,Prod.mk.injEq] at hop
  obtain ⟨rfl,rfl⟩:=hop
  refine fin hf fun cells hc=> ?_
  unfold aK at hsz
  simp only [Option.map_eq_some_iff] at hsz
  obtain ⟨ie,hie,rfl⟩:=hsz
  simp only [Program.built,hit,hd,hitz,hie]
  exact hc
 ·cases hop
structure bH (I:af) (w:World) (k:Nat) (xs:List PV) (arr:Array Value):Prop where
 size:xs.length*k≤arr.size
 elem: ∀x∈xs,x.cells.length=k∧x.ok=true
 rep: ∀i x,xs[i]? =some x→ ∀(j:Nat) (p:PV),x.cells[j]? =some p→ ∃u,arr[i*k+j]? =some u∧u.oneCell'=true∧aj I w p u
theorem bH.mono {k:Nat} {xs:List PV} {arr:Array Value} (hr:bH I w k xs arr) (hI: ∀b,I b→I' b) (hk: ∀b,I b→w'.heap[b]? =w.heap[b]?):bH I' w' k xs arr:=
 ⟨hr.size,hr.elem,fun i x hi j p hp=>by obtain ⟨u,h1,h2,h3⟩:=hr.rep i x hi j p hp;exact ⟨u,h1,h2,h3.mono hI hk⟩⟩
theorem e9 {e:TypeId} {k n cap s:Nat} {full:Bool} {xs:List PV} {arr:Array Value} {fr:Nat×Nat} (H:ae σ I base w h) (hra:bH I w k xs arr) (hg:σ gen=none) (hB:aG base w.heap.size)
  (hG:aJ w w' (.cells arr e fr)) (hfr: ∀j,j<arr.size→w'.frozen? ⟨w.heap.size,j,none⟩=false) (hn:n≤cap) (hfull:full=true→cap=n) (hcap:cap*k≤arr.size)
  {run:Result Next} (hrun:run= .ok (.value (.slice (some ⟨w.heap.size,0,none⟩) n cap)) w'):
  ay σ I base w gen run (.msl d s gen 0 n full) (hput h d s ⟨gen,.row k e xs false⟩):=by
 have hE:=ar.push (x:=(w.heap.size,0,k)) H hB hg hG
 refine ⟨_,_,_,_,I,hrun,.inl rfl,?_,H.push hg hG d s ?_,hE,fun g hne=>bV hne⟩
 ·exact .msl d s gen 0 n full w.heap.size 0 k cap 0 (fun _=>by simp) aP hn hfull ⟨e,arr.size,hG.shape,by simpa using hcap⟩
 ·refine ⟨w.heap.size,0,arr.size,aP,hG.shape,by simpa using hra.size,hra.elem,fun i x hi j p hp=> ?_,⟨fun hb=> ?_,hB.up,hfr⟩⟩
  ·obtain ⟨u,h1,h2,h3⟩:=hra.rep i x hi j p hp
   refine ⟨u,?_,h2,h3.mono (fun _ h=>h) hE.kp.keep⟩
   rw [hG.cell]
   simpa using h1
  ·exact absurd (H.lt _ hb) (by omega)
theorem kq {i j k:Nat} (hj:j<k):(i*k+j)%k=j:=by
 rw [Nat.add_comm,Nat.add_mul_mod_self_right,Nat.mod_eq_of_lt hj]
theorem gq {i j k n:Nat} (hi:i<n) (hj:j<k):i*k+j<n*k:=by
 have:(i+1)*k≤n*k:=Nat.mul_le_mul_right k (by omega)
 rw [Nat.add_mul] at this
 omega
theorem ir {z:Value} {k n m:Nat} (hz:(av z).cells.length=k) (hok:(av z).ok=true) (hk:k≠0) (hm:n≤m):
  bH I w k (List.replicate n (av z)) ((Array.range (m*k)).map (z.cells[· %z.cells.size]!)):=by
 obtain ⟨h1,h2,h3⟩:=gp (I:=I) (w:=w) hz hok
 refine ⟨by simp;exact Nat.mul_le_mul_right k hm,fun x hx=>by rw [List.eq_of_mem_replicate hx];exact ⟨hz,hok⟩,fun i x hi j p hp=> ?_⟩
 rw [List.getElem?_replicate] at hi
 split at hi
 ·rename_i hin
  injection hi with hi
  subst hi
  have hj:j<k:=by rw [←hz];exact (List.getElem?_eq_some_iff.1 hp).1
  have hlt:i*k+j<m*k:=gq (by omega) hj
  refine ⟨z.cells[j]'(by omega),?_,h2 _ (by simp),h3 j p _ hp (Array.getElem?_eq_getElem (by omega))⟩
  simp only [Array.getElem?_map,Array.getElem?_range,hlt,if_true,Option.map_some]
  have hmod:(i*k+j)%z.cells.size=j:=by rw [h1];exact kq hj
  rw [hmod,getElem!_pos z.cells j (by omega)]
 ·cases hi
theorem nu {t:TypeId} {lo co:Operand} (ho:o.op= .makeSlice t lo co) (hop:ah P o ρ d gen h=some (v,h')) (hρ: ∀x,ab σ I w (ρ x) (ρc x)) (H:ae σ I base w h) (hg:σ gen=none) (hB:aG base w.heap.size):
  ay σ I base w gen ((execOp ρc o).run P w) v h':=by
 simp only [ah,ho] at hop
 split at hop
 case h_2=>cases hop
 rename_i e hd
 simp only [Option.bind_eq_bind,Option.bind_eq_some_iff] at hop
 obtain ⟨size,hsz,bytes,hby,z,hz,s,hs,l,hl,c,hc,hop⟩:=hop
 split at hop
 case isFalse=>cases hop
 rename_i hcond
 obtain ⟨hl0,hlc,hfit,hne,hzl,hzok⟩:=hcond
 simp only [Option.some.injEq,Prod.mk.injEq] at hop
 obtain ⟨rfl,rfl⟩:=hop
 obtain ⟨k1,hlr⟩:=gn hl (hρ lo)
 obtain ⟨k2,hcr⟩:=gn hc (hρ co)
 unfold cp gN fE at hfit
 simp only [Bool.and_eq_true,decide_eq_true_eq] at hfit
 obtain ⟨hf1,hf2⟩:=hfit
 have hwl:IntKind.i64.wrap l=l:=IntWalk.i64_in _ (by omega)
 have hwc:IntKind.i64.wrap c=c:=IntWalk.i64_in _ (by omega)
 obtain ⟨ie,hie,hbe⟩:=mP hby
 obtain ⟨c',rfl⟩:=Int.eq_ofNat_of_zero_le (show 0≤c by omega)
 have hsmall:(bytes:Int)*c'≤140737488355328:=by
  have:c'*bytes≤140737488355328:=by have:=hf1;rwa [Int.toNat_natCast] at this
  have:((c'*bytes:Nat):Int)≤140737488355328:=Int.le_trans (Int.ofNat_le.mpr this) (by decide)
  rw [Int.natCast_mul,Int.mul_comm] at this
  exact this
 have hG:aJ w (w.alloc (.cells ((Array.range (c'*size)).map (z.cells[· %z.cells.size]!)) e)) (.cells ((Array.range (c'*size)).map (z.cells[· %z.cells.size]!)) e):=⟨rfl,rfl,rfl,rfl⟩
 refine e9 (k:=size) (n:=l.toNat) (cap:=c') (full:=decide (l=(c':Int))) H (ir hzl hzok hne (show l.toNat≤c' by omega)) hg hB hG (fun j hj=>hG.frozen j) (by omega)
  (by intro hh;simp at hh;omega) (by simp) ?_
 simp only [execOp,ho]
 refine ap ?_
 by_cases hn0:c'*size=0
 ·simp [Instr.makeSlice,aq hd,asInt,asIntOf,hlr,hcr,dH hie,hbe,hwl,hwc,bQ hsz,hn0,newRow]
  rw [if_neg (by omega)]
  have hr0:Array.range 0=(#[]:Array Nat):=rfl
  simp [hr0]
 ·simp [Instr.makeSlice,aq hd,asInt,asIntOf,hlr,hcr,dH hie,hbe,hwl,hwc,bQ hsz,hn0,newRow,c6 hz]
  intro hbad
  omega
end
end Go.Proofs.YthkilaondjgemaaGreatDoor.Abs

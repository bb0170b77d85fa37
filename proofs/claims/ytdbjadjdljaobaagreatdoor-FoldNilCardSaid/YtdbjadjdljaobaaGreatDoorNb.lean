/-
  The abstract machine over the model, its soundness, walks of the program's functions and what they compute. Conditions: the values are of their types.
-/
import Derived.Test.YtdbjadjdljaobaaGreatDoorNa
import Derived.Laws.BytesString
import Derived.IntWalk
import Derived.Deep.AppendSrc
import Derived.Deep.Upon
import Derived.Lib.AppendZeros
import Derived.MapKept
import Derived.CallsIn
import Derived.OrdersIn
import Derived.RangeFuncIn
import Derived.RangeFuncRecord
import Derived.RangeFuncNested
import Derived.RangeFuncLeaves

set_option linter.all false
set_option linter.unnecessarySimpa false

namespace Go.Proofs.YtdbjadjdljaobaaGreatDoor.Abs
open Go Go.RowKit
variable {σ σ':aq} {I I':ah} {base:ah} {w w':World} {h:aa} {P:Program}
theorem nk (off:Nat) (v:Value) (cells:Array Value):
  ((v.cells.zipIdx.foldl (fun cs (x:Value×Nat)=>cs.setIfInBounds (off+x.2) x.1) cells)).size=cells.size∧
  ∀k,(v.cells.zipIdx.foldl (fun cs (x:Value×Nat)=>cs.setIfInBounds (off+x.2) x.1) cells)[k]? =
   if off≤k∧k<off+v.cells.size∧k<cells.size then v.cells[k-off]? else cells[k]? :=by
 have:=Great.foldl_set off v.cells.toList 0 cells
 rw [←Array.foldl_toList,Array.toList_zipIdx]
 simpa using this
structure PW (σ:aq) (I:ah) (w:World) (cs:List AV) (us:Array Value):Prop where
 len:us.size=cs.length
 one: ∀x∈us.toList,x.oneCell'=true
 rep: ∀(j:Nat) (c:AV) (x:Value),cs[j]? =some c→us[j]? =some x→ab σ I w c x
theorem nn {place:Nat→Option (Nat×Nat)} : ∀(parts:List (Nat×AV)) (pc:List (Nat×Value)) (cs cs':List AV) (us:Array Value),
  eP place cs parts=some cs'→PW σ I w cs us→pc.length=parts.length→(∀(j:Nat) (p:Nat×AV) (q:Nat×Value),parts[j]? =some p→pc[j]? =some q→p.1=q.1∧ab σ I w p.2 q.2)→
  ∃us',Instr.fill place us pc=some us'∧PW σ I w cs' us'
 | [],[],cs,cs',us,hf,hp,_,_=>by
  simp only [eP,Option.some.injEq] at hf
  subst hf
  exact ⟨us,rfl,hp⟩
 | (i,v)::parts,(i',u)::pc,cs,cs',us,hf,hp,hl,hr=>by
  obtain ⟨hii,hru⟩:=hr 0 (i,v) (i',u) rfl rfl
  have hru:ab σ I w v u:=hru
  have hii:i=i':=hii
  subst hii
  simp only [eP] at hf
  split at hf
  ·cases hf
  ·rename_i off size hpl
   split at hf
   ·rename_i hc
    obtain ⟨hsz,hle,hok⟩:=hc
    obtain ⟨h1,h2,h3⟩:=ab.cells hru hok
    have h1:u.cells.size=v.cells.length:=h1
    have hsz:v.cells.length=size:=hsz
    obtain ⟨hs1,hs2⟩:=nk off u us
    have hle':off+v.cells.length≤cs.length:=by omega
    have hlen:=hp.len
    have hp':PW σ I w (bN cs off v.cells) (u.cells.zipIdx.foldl (fun cs (x:Value×Nat)=>cs.setIfInBounds (off+x.2) x.1) us):=by
     refine ⟨by rw [hs1,fe hle',hlen],fun x hx=> ?_,fun j c x hc hx=> ?_⟩
     ·obtain ⟨j,hj⟩:=gW hx
      rw [Array.getElem?_toList,hs2] at hj
      split at hj
      ·exact h2 x (List.mem_of_getElem? (i:=j-off) (by simpa using hj))
      ·exact hp.one x (List.mem_of_getElem? (i:=j) (by simpa using hj))
     ·rw [hs2] at hx
      rw [fc hle'] at hc
      by_cases hj:off≤j∧j<off+v.cells.length
      ·rw [if_pos hj] at hc
       rw [if_pos (by omega)] at hx
       exact h3 _ c x hc hx
      ·rw [if_neg hj] at hc
       rw [if_neg (by omega)] at hx
       exact hp.rep j c x hc hx
    obtain ⟨us',hf',hp''⟩:=nn parts pc _ cs' _ hf hp' (by simpa using hl) fun j p q hpj hqj=>hr (j+1) p q (by simpa using hpj) (by simpa using hqj)
    refine ⟨us',?_,hp''⟩
    simp only [Instr.fill,hpl]
    have e1:u.cells.size=size:=by omega
    have hcond: ¬((u.cells.size≠size||decide (off+u.cells.size>us.size))=true):=by
     simp [e1];omega
    rw [if_neg (by simpa using hcond)]
    exact hf'
   ·cases hf
theorem jv {z:Value} {n:Nat} (hn:(aA z).cells.length=n) (hok:(aA z).ok=true):
  z.cells.size=n∧(∀x∈z.cells.toList,x.oneCell'=true)∧ ∀(j:Nat) (c:PV) (x:Value),(aA z).cells[j]? =some c→z.cells[j]? =some x→am I w c x:=by
 obtain ⟨h1,h2,h3⟩:=(ej (I:=I) (w:=w) z).cells hok
 exact ⟨by omega,h2,h3⟩
section
variable {ρ:Operand→AV} {ρc:Operand→Value} {d gen:Nat} {o:Oper} {v:AV} {h':aa}
theorem q7 (hρ: ∀x,ab σ I w (ρ x) (ρc x)) (parts:List (Nat×Operand)) (j:Nat) (p:Nat×AV) (q:Nat×Value)
  (hp:(parts.map fun (i,x)=>(i,ρ x))[j]? =some p) (hq:(parts.map fun (i,x)=>(i,ρc x))[j]? =some q):p.1=q.1∧ab σ I w p.2 q.2:=by
 simp only [List.getElem?_map,Option.map_eq_some_iff] at hp hq
 obtain ⟨x,hx,rfl⟩:=hp
 obtain ⟨y,hy,rfl⟩:=hq
 rw [hx] at hy
 injection hy with hy
 subst hy
 exact ⟨rfl,hρ x.2⟩
theorem q8 {fields:Array Field} {pl:List (Nat×Nat)} (hp:fE P fields=some pl):
  fields.toList.mapM (fun f=>(P.info? f.type).map fun i=>(f.offset,i.size))=some pl:=by
 unfold fE at hp
 rw [←hp]
 congr 1
 funext f
 unfold aF
 cases P.info? f.type<;>rfl
theorem q9 {t:TypeId} {parts:Array (Nat×Operand)} (ho:o.op= .build t parts) (hop:ai P o ρ d gen h=some (v,h')) (hρ: ∀x,ab σ I w (ρ x) (ρc x)) (H:af σ I base w h):
  aJ σ I base w gen ((execOp ρc o).run P w) v h':=by
 simp only [ai,ho,Option.bind_eq_bind,Option.bind_eq_some_iff] at hop
 obtain ⟨z,hz,hop⟩:=hop
 split at hop
 case isFalse=>cases hop
 rename_i hzok
 have hpw:PW σ I w ((aA z).cells.map AV.pv) z.cells:=by
  obtain ⟨h1,h2,h3⟩:=jv (I:=I) (w:=w) (z:=z) rfl hzok
  refine ⟨by simpa using h1,h2,fun j c x hc hx=> ?_⟩
  simp only [List.getElem?_map,Option.map_eq_some_iff] at hc
  obtain ⟨c',hc',rfl⟩:=hc
  exact .pv _ _ (h3 j c' x hc' hx)
 have hz':=hz
 unfold bA at hz'
 simp only [Option.bind_eq_some_iff] at hz'
 obtain ⟨it,hit,hitz⟩:=hz'
 have fin: ∀ {cs':List AV} {place:Nat→Option (Nat×Nat)},eP place ((aA z).cells.map AV.pv) (parts.toList.map fun (i,x)=>(i,ρ x))=some cs'→
   (∀cells,Instr.fill place z.cells (parts.map fun (i,x)=>(i,ρc x)).toList=some cells→P.built t (parts.map fun (i,x)=>(i,ρc x)).toList=some cells)→
   aJ σ I base w gen ((execOp ρc o).run P w) (cA cs') h:=by
  intro cs' place hf hb
  obtain ⟨us',hf',hp'⟩:=nn (σ:=σ) (I:=I) (w:=w) _ (parts.toList.map fun (i,x)=>(i,ρc x)) _ cs' z.cells hf hpw (by simp) fun j p q hp hq=>q7 hρ parts.toList j p q hp hq
  have hbt:=hb us' (by simpa using hf')
  refine .same (.agg us') H ?_ ?_
  ·simp only [execOp,ho]
   exact ay (run_build w t _ us' hbt)
  ·have:=mV (σ:=σ) (I:=I) (w:=w) (cs:=cs') (vs:=us'.toList) (by simpa using hp'.len) hp'.one fun j p v hp hv=>hp'.rep j p v hp (by simpa using hv)
   simpa using this
 split at hop
 ·rename_i fields hd
  simp only [Option.bind_eq_some_iff] at hop
  obtain ⟨pl,hpl,cs',hf,hop⟩:=hop
  simp only [Option.some.injEq,Prod.mk.injEq] at hop
  obtain ⟨rfl,rfl⟩:=hop
  refine fin hf fun cells hc=> ?_
  have hm:=q8 hpl
  simp only [Program.built,hit,hd,hitz,hm]
  have e:(fun x:Nat=>pl.toArray[x]?)=(fun x:Nat=>pl[x]?):=by funext x;simp
  rw [e]
  exact hc
 ·rename_i n e hd
  simp only [Option.bind_eq_some_iff] at hop
  obtain ⟨size,hsz,cs',hf,hop⟩:=hop
  simp only [Option.some.injEq,Prod.mk.injEq] at hop
  obtain ⟨rfl,rfl⟩:=hop
  refine fin hf fun cells hc=> ?_
  unfold aF at hsz
  simp only [Option.map_eq_some_iff] at hsz
  obtain ⟨ie,hie,rfl⟩:=hsz
  simp only [Program.built,hit,hd,hitz,hie]
  exact hc
 ·cases hop
structure cb (I:ah) (w:World) (k:Nat) (xs:List PV) (arr:Array Value):Prop where
 size:xs.length*k≤arr.size
 elem: ∀x∈xs,x.cells.length=k∧x.ok=true
 rep: ∀i x,xs[i]? =some x→ ∀(j:Nat) (p:PV),x.cells[j]? =some p→ ∃u,arr[i*k+j]? =some u∧u.oneCell'=true∧am I w p u
theorem cb.mono {k:Nat} {xs:List PV} {arr:Array Value} (hr:cb I w k xs arr) (hI: ∀b,I b→I' b) (hk: ∀b,I b→w'.heap[b]? =w.heap[b]?):cb I' w' k xs arr:=
 ⟨hr.size,hr.elem,fun i x hi j p hp=>by obtain ⟨u,h1,h2,h3⟩:=hr.rep i x hi j p hp;exact ⟨u,h1,h2,h3.mono hI hk⟩⟩
theorem gX {e:TypeId} {k n cap s:Nat} {full:Bool} {xs:List PV} {arr:Array Value} {fr:Nat×Nat} (H:af σ I base w h) (hra:cb I w k xs arr) (hg:σ gen=none) (hB:aW base w.heap.size)
  (hG:aZ w w' (.cells arr e fr)) (hfr: ∀j,j<arr.size→w'.frozen? ⟨w.heap.size,j,none⟩=false) (hn:n≤cap) (hfull:full=true→cap=n) (hcap:cap*k≤arr.size)
  {run:Result Next} (hrun:run= .ok (.value (.slice (some ⟨w.heap.size,0,none⟩) n cap)) w'):
  aJ σ I base w gen run (.msl d s gen 0 n full) (hput h d s ⟨gen,.row k e xs false⟩):=by
 have hE:=aB.push (x:=(w.heap.size,0,k)) H hB hg hG
 refine ⟨_,_,_,_,I,hrun,.inl rfl,?_,H.push hg hG d s ?_,hE,fun g hne=>cx hne⟩
 ·exact .msl d s gen 0 n full w.heap.size 0 k cap 0 (fun _=>by simp) bj hn hfull ⟨e,arr.size,hG.shape,by simpa using hcap⟩
 ·refine ⟨w.heap.size,0,arr.size,bj,hG.shape,by simpa using hra.size,hra.elem,fun i x hi j p hp=> ?_,⟨fun hb=> ?_,hB.up,hfr⟩⟩
  ·obtain ⟨u,h1,h2,h3⟩:=hra.rep i x hi j p hp
   refine ⟨u,?_,h2,h3.mono (fun _ h=>h) hE.kp.keep⟩
   rw [hG.cell]
   simpa using h1
  ·exact absurd (H.lt _ hb) (by omega)
theorem np {i j k:Nat} (hj:j<k):(i*k+j)%k=j:=by
 rw [Nat.add_comm,Nat.add_mul_mod_self_right,Nat.mod_eq_of_lt hj]
theorem jx {i j k n:Nat} (hi:i<n) (hj:j<k):i*k+j<n*k:=by
 have:(i+1)*k≤n*k:=Nat.mul_le_mul_right k (by omega)
 rw [Nat.add_mul] at this
 omega
theorem kI {z:Value} {k n m:Nat} (hz:(aA z).cells.length=k) (hok:(aA z).ok=true) (hk:k≠0) (hm:n≤m):
  cb I w k (List.replicate n (aA z)) ((Array.range (m*k)).map (z.cells[· %z.cells.size]!)):=by
 obtain ⟨h1,h2,h3⟩:=jv (I:=I) (w:=w) hz hok
 refine ⟨by simp;exact Nat.mul_le_mul_right k hm,fun x hx=>by rw [List.eq_of_mem_replicate hx];exact ⟨hz,hok⟩,fun i x hi j p hp=> ?_⟩
 rw [List.getElem?_replicate] at hi
 split at hi
 ·rename_i hin
  injection hi with hi
  subst hi
  have hj:j<k:=by rw [←hz];exact (List.getElem?_eq_some_iff.1 hp).1
  have hlt:i*k+j<m*k:=jx (by omega) hj
  refine ⟨z.cells[j]'(by omega),?_,h2 _ (by simp),h3 j p _ hp (Array.getElem?_eq_getElem (by omega))⟩
  simp only [Array.getElem?_map,Array.getElem?_range,hlt,if_true,Option.map_some]
  have hmod:(i*k+j)%z.cells.size=j:=by rw [h1];exact np hj
  rw [hmod,getElem!_pos z.cells j (by omega)]
 ·cases hi
theorem ra {t:TypeId} {lo co:Operand} (ho:o.op= .makeSlice t lo co) (hop:ai P o ρ d gen h=some (v,h')) (hρ: ∀x,ab σ I w (ρ x) (ρc x)) (H:af σ I base w h) (hg:σ gen=none) (hB:aW base w.heap.size):
  aJ σ I base w gen ((execOp ρc o).run P w) v h':=by
 simp only [ai,ho] at hop
 split at hop
 case h_2=>cases hop
 rename_i e hd
 simp only [Option.bind_eq_bind,Option.bind_eq_some_iff] at hop
 obtain ⟨size,hsz,bytes,hby,z,hz,s,hs,l,hl,c,hc,hop⟩:=hop
 split at hop
 case isFalse=>cases hop
 rename_i hcond
 obtain ⟨hl0,hlc,hfit,hne,hzl,hzok⟩:=hcond
 simp only [Option.some.injEq,Prod.mk.injEq] at hop
 obtain ⟨rfl,rfl⟩:=hop
 obtain ⟨k1,hlr⟩:=ju hl (hρ lo)
 obtain ⟨k2,hcr⟩:=ju hc (hρ co)
 unfold bO j1 iG at hfit
 simp only [Bool.and_eq_true,decide_eq_true_eq] at hfit
 obtain ⟨hf1,hf2⟩:=hfit
 have hwl:IntKind.i64.wrap l=l:=IntWalk.i64_in _ (by omega)
 have hwc:IntKind.i64.wrap c=c:=IntWalk.i64_in _ (by omega)
 obtain ⟨ie,hie,hbe⟩:=qC hby
 obtain ⟨c',rfl⟩:=Int.eq_ofNat_of_zero_le (show 0≤c by omega)
 have hsmall:(bytes:Int)*c'≤140737488355328:=by
  have:c'*bytes≤140737488355328:=by have:=hf1;rwa [Int.toNat_natCast] at this
  have:((c'*bytes:Nat):Int)≤140737488355328:=Int.le_trans (Int.ofNat_le.mpr this) (by decide)
  rw [Int.natCast_mul,Int.mul_comm] at this
  exact this
 have hG:aZ w (w.alloc (.cells ((Array.range (c'*size)).map (z.cells[· %z.cells.size]!)) e)) (.cells ((Array.range (c'*size)).map (z.cells[· %z.cells.size]!)) e):=⟨rfl,rfl,rfl,rfl⟩
 refine gX (k:=size) (n:=l.toNat) (cap:=c') (full:=decide (l=(c':Int))) H (kI hzl hzok hne (show l.toNat≤c' by omega)) hg hB hG (fun j hj=>hG.frozen j) (by omega)
  (by intro hh;simp at hh;omega) (by simp) ?_
 simp only [execOp,ho]
 refine ay ?_
 by_cases hn0:c'*size=0
 ·simp [Instr.makeSlice,aC hd,asInt,asIntOf,hlr,hcr,e9 hie,hbe,hwl,hwc,cn hsz,hn0,newRow]
  rw [if_neg (by omega)]
  have hr0:Array.range 0=(#[]:Array Nat):=rfl
  simp [hr0]
 ·simp [Instr.makeSlice,aC hd,asInt,asIntOf,hlr,hcr,e9 hie,hbe,hwl,hwc,cn hsz,hn0,newRow,ei hz]
  intro hbad
  omega
end
variable {σ σ':aq} {I I':ah} {base:ah} {w w':World} {h:aa} {P:Program}
theorem nq (s:ByteArray) (i:Nat):(ar s)[i]? =(s.data[i]?).map fun b=>PV.lit (.int .u8 b.toNat):=by
 unfold ar
 simp
structure ek (I:ah) (w:World) (P:Program) (size:Nat) (u:Value) (ys:List PV) (news:Array Value):Prop where
 len: ∀w':World,(Builtin.lenOf u).run P w'= .ok ys.length w'
 run:(Builtin.firstCells size ys.length u).run P w= .ok news w
 runD:(Builtin.firstCells size ys.length u).run P w.drew= .ok news w.drew
 arr:cb I w size ys news
 size_eq:news.size=ys.length*size
 one: ∀x∈news.toList,x.oneCell'=true
theorem kJ {b o k:Nat} {xs:List PV} (hk: ∀x∈xs,x.cells.length=k∧x.ok=true) (hc: ∀i x,xs[i]? =some x→ ∀(j:Nat) (p:PV),x.cells[j]? =some p→
   ∃u,w.cell? ⟨b,o+i*k+j,none⟩=some u∧u.oneCell'=true∧am I w p u):
  ∃arr:Array Value,(loadCells ⟨b,o,none⟩ (xs.length*k)).run P w= .ok arr w∧(loadCells ⟨b,o,none⟩ (xs.length*k)).run P w.drew= .ok arr w.drew∧cb I w k xs arr∧arr.size=xs.length*k∧ ∀x∈arr.toList,x.oneCell'=true:=by
 have hcell: ∀n,n<xs.length*k→ ∃u,w.cell? ⟨b,o+n,none⟩=some u∧u.oneCell'=true∧ ∀x p,xs[n/k]? =some x→x.cells[n%k]? =some p→am I w p u:=by
  intro n hn
  have hk0:0<k:=by
   rcases Nat.eq_zero_or_pos k with h0 | h0
   ·subst h0;simp at hn
   ·exact h0
  have hi:n/k<xs.length:=Nat.div_lt_of_lt_mul (by rw [Nat.mul_comm];exact hn)
  have hj:n%k<k:=Nat.mod_lt _ hk0
  have hx:=List.getElem?_eq_getElem hi
  have hxk:=(hk _ (List.getElem_mem hi)).1
  obtain ⟨u,h1,h2,h3⟩:=hc (n/k) _ hx (n%k) _ (List.getElem?_eq_getElem (by omega))
  have e:o+n/k*k+n%k=o+n:=by
   have:=Nat.div_add_mod n k
   rw [Nat.mul_comm] at this
   omega
  rw [e] at h1
  refine ⟨u,h1,h2,fun x p hx' hp'=> ?_⟩
  rw [hx] at hx';injection hx' with hx';subst hx'
  rw [List.getElem?_eq_getElem (by omega)] at hp';injection hp' with hp';subst hp'
  exact h3
 obtain ⟨us,hl,hu⟩:=jd (P:=fun n u=>w.cell? ⟨b,o+n,none⟩=some u∧u.oneCell'=true∧ ∀x p,xs[n/k]? =some x→x.cells[n%k]? =some p→am I w p u) (xs.length*k) hcell
 have hrun:=run_loadCells_list (P:=P) w ⟨b,o,none⟩ us fun j v hv=>by rw [c6];exact (hu j v hv).1
 have hrunD:=run_loadCells_list (P:=P) w.drew ⟨b,o,none⟩ us fun j v hv=>by rw [c6,World.cell?_drew];exact (hu j v hv).1
 rw [hl] at hrun hrunD
 refine ⟨us.toArray,hrun,hrunD,⟨by simp [hl],hk,fun i x hi j p hp=> ?_⟩,by simp [hl],fun x hx=> ?_⟩
 ·have hil:=(List.getElem?_eq_some_iff.1 hi).1
  have hjl:j<k:=by rw [←(hk x (List.mem_of_getElem? hi)).1];exact (List.getElem?_eq_some_iff.1 hp).1
  have hlt:=jx hil hjl
  have hg:us[i*k+j]? =some us[i*k+j]:=List.getElem?_eq_getElem (by omega)
  obtain ⟨_,h2,h3⟩:=hu _ _ hg
  refine ⟨us[i*k+j],by simpa using hg,h2,h3 x p ?_ ?_⟩
  ·rw [Nat.add_comm,Nat.add_mul_div_right _ _ (by omega),Nat.div_eq_of_lt hjl,Nat.zero_add];exact hi
  ·rw [np hjl];exact hp
 ·obtain ⟨j,hj⟩:=gW (l:=us) (by simpa using hx)
  exact (hu j x hj).2.1
theorem fT {size:Nat} {v:AV} {u:Value} {ys:List PV} (he:ct size h v=some ys) (hr:ab σ I w v u) (H:af σ I base w h):
  ∃news,ek I w P size u ys news:=by
 unfold ct at he
 split at he
 ·rename_i k nl full xs
  have hr':=aG hr
  cases hr' with
  | nil=>
   simp at he
   subst he
   exact ⟨#[],⟨fun _=>rfl,by simp [Builtin.firstCells],by simp [Builtin.firstCells],⟨by simp,by simp,fun i x hi=>by simp at hi⟩,by simp,by simp⟩⟩
  | emp k full a cap hfull=>
   simp at he
   obtain ⟨rfl,rfl⟩:=he
   exact ⟨#[],⟨fun _=>rfl,by simp [Builtin.firstCells,loadCells,loadCellsFrom],by simp [Builtin.firstCells,loadCells,loadCellsFrom],⟨by simp,by simp,fun i x hi=>by simp at hi⟩,by simp,by simp⟩⟩
  | sl k full xs b o cap vs hcap hfull hI hk hc hr2=>
   simp at he
   obtain ⟨rfl,rfl⟩:=he
   obtain ⟨arr,h1,h1D,h2,h3,h4⟩:=kJ (P:=P) (I:=I) (w:=w) (b:=b) (o:=o) hk fun i x hi j p hp=>⟨vs i j,(hc i x hi j p hp).1,(hc i x hi j p hp).2,hr2 i x hi j p hp⟩
   exact ⟨arr,⟨fun _=>rfl,by simpa [Builtin.firstCells] using h1,by simpa [Builtin.firstCells] using h1D,h2,h3,h4⟩⟩
 ·rename_i s
  split at he
  ·rename_i hs
   subst hs
   injection he with he
   subst he
   have hu:=bl (aG hr)
   subst hu
   have hlen:(ar s).length=s.size:=by simp [ar]
   refine ⟨s.data.map fun b=> .int .u8 b.toNat,⟨fun _=>by rw [hlen];rfl,?_,?_,⟨by simp [hlen],?_,?_⟩,by simp [hlen],?_⟩⟩
   ·rw [hlen]
    simp only [Builtin.firstCells,Sem.run_pure]
    congr 2
    have:(s.extract 0 s.size)=s:=by simp
    rw [this]
   ·rw [hlen]
    simp only [Builtin.firstCells,Sem.run_pure]
    congr 2
    have:(s.extract 0 s.size)=s:=by simp
    rw [this]
   ·intro x hx
    simp only [ar,List.mem_map] at hx
    obtain ⟨b,_,rfl⟩:=hx
    exact ⟨rfl,rfl⟩
   ·intro i x hi j p hp
    rw [nq] at hi
    simp only [Option.map_eq_some_iff] at hi
    obtain ⟨b,hb,rfl⟩:=hi
    cases j with
    | zero=>
     simp [PV.cells] at hp
     subst hp
     exact ⟨.int .u8 b.toNat,by simp [hb],rfl,.lit _⟩
    | succ j=>simp [PV.cells] at hp
   ·intro x hx
    simp only [Array.toList_map,List.mem_map] at hx
    obtain ⟨b,_,rfl⟩:=hx
    rfl
  ·cases he
 ·rename_i d s g off n full
  split at he
  ·rename_i k e xs fz hl
   split at he
   ·rename_i hc0
    obtain ⟨rfl,hle⟩:=hc0
    injection he with he
    subst he
    obtain ⟨b',o',n',hs',_,_,_,hn,hsh,hx,hc,_⟩:=dV (H.live hl (by simp))
    cases hr with
    | msl _ _ _ _ _ _ b ob k cap ad had hs hcap hfull hroom=>
     rw [hs] at hs'
     simp only [Option.some.injEq,Prod.mk.injEq] at hs'
     obtain ⟨rfl,rfl,rfl⟩:=hs'
     have hlen:((xs.drop off).take n).length=n:=by simp;omega
     by_cases h0:cap=0
     ·have hn0:n=0:=by omega
      subst hn0
      exact ⟨#[],⟨fun _=>by simp [Builtin.lenOf],by simp [Builtin.firstCells,loadCells,loadCellsFrom],by simp [Builtin.firstCells,loadCells,loadCellsFrom],⟨by simp,by simp,fun i x hi=>by simp at hi⟩,by simp,by simp⟩⟩
     ·rw [had h0]
      obtain ⟨arr,h1,h1D,h2,h3,h4⟩:=kJ (P:=P) (I:=I) (w:=w) (b:=b) (o:=ob+off*k) (xs:=(xs.drop off).take n) (k:=k)
       (fun x hxm=>hx x (List.mem_of_mem_drop (List.mem_of_mem_take hxm))) fun i x hi j p hp=>by
        have:=hc (off+i) x (dY hi).2 j p hp
        rw [show ob+off*k+i*k+j=ob+(off+i)*k+j by rw [Nat.add_mul];omega]
        exact this
      exact ⟨arr,⟨fun _=>by rw [hlen];rfl,by simpa [Builtin.firstCells] using h1,by simpa [Builtin.firstCells] using h1D,h2,h3,h4⟩⟩
   ·cases he
  ·rename_i v fz hl
   split at he
   ·rename_i hc0
    obtain ⟨rfl,hle⟩:=hc0
    simp only [Option.bind_eq_some_iff] at he
    obtain ⟨ps,hps,he⟩:=he
    split at he
    ·rename_i hall
     injection he with he
     subst he
     have hmap:=dX hps
     have hlenp:ps.length=n:=by
      have:=congrArg List.length hmap
      simp at this
      omega
     obtain ⟨b',e,hs',hsh,hok,hc,hz⟩:=H.live hl (by simp)
     have hcell1: ∀p∈ps,p.cells=[p]∧p.ok=true:=by
      intro p hp
      have:=List.all_eq_true.1 hall p hp
      simp only [Bool.and_eq_true,Bool.not_eq_true'] at this
      refine ⟨?_,this.1⟩
      cases p<;>first | rfl | (simp [PV.isAgg] at this)
     cases hr with
     | msl _ _ _ _ _ _ b ob k cap ad had hs hcap hfull hroom=>
      rw [hs] at hs'
      simp only [Option.some.injEq,Prod.mk.injEq] at hs'
      obtain ⟨rfl,rfl,rfl⟩:=hs'
      by_cases h0:cap=0
      ·have hn0:n=0:=by omega
       subst hn0
       have:ps=[]:=List.eq_nil_of_length_eq_zero hlenp
       subst this
       exact ⟨#[],⟨fun _=>by simp [Builtin.lenOf],by simp [Builtin.firstCells,loadCells,loadCellsFrom],by simp [Builtin.firstCells,loadCells,loadCellsFrom],⟨by simp,by simp,fun i x hi=>by simp at hi⟩,by simp,by simp⟩⟩
      ·rw [had h0]
       obtain ⟨arr,h1,h1D,h2,h3,h4⟩:=kJ (P:=P) (I:=I) (w:=w) (b:=b) (o:=0+off*1) (xs:=ps) (k:=1)
        (fun x hxm=>⟨by rw [(hcell1 x hxm).1];rfl,(hcell1 x hxm).2⟩) fun i x hi j p hp=>by
         have hxm:=List.mem_of_getElem? hi
         rw [(hcell1 x hxm).1] at hp
         cases j with
         | succ j=>simp at hp
         | zero=>
          simp at hp
          subst hp
          have hv:v.cells[off+i]? =some (.pv x):=by
           have:((v.cells.drop off).take n)[i]? =some (.pv x):=by rw [hmap];simp [hi]
           exact (dY this).2
          obtain ⟨u,g1,g2,g3⟩:=hc (off+i) _ hv
          exact ⟨u,by rw [show 0+off*1+i*1+0=off+i by omega];exact g1,g2,aG g3⟩
       rw [←hlenp]
       exact ⟨arr,⟨fun _=>rfl,by simpa [Builtin.firstCells] using h1,by simpa [Builtin.firstCells] using h1D,h2,h3,h4⟩⟩
    ·cases he
   ·cases he
  ·cases he
 ·cases he
theorem ek.src {size:Nat} {u:Value} {ys:List PV} {news:Array Value} {t1:TypeId} (hE:ek I w P size u ys news) (ht:gz P t1=true):Src P size t1 u ys.length news.toList w:=by
 refine ⟨?_,hE.len,by simpa using hE.run,by simpa using hE.runD,by simpa using hE.size_eq,hE.one⟩
 unfold gz at ht
 split at ht
 ·rename_i e' hh;exact .inl ⟨e',hh⟩
 ·rename_i hh;exact .inr hh
 ·cases ht
theorem nr {n bytes:Nat} (hf:bO n bytes=true):n*bytes≤140737488355328∧n≤9223372036854775807:=by
 unfold bO j1 iG at hf
 simpa only [Bool.and_eq_true,decide_eq_true_eq] using hf
theorem cb.append {k:Nat} {xs ys:List PV} {a b:Array Value} (ha:cb I w k xs a) (hb:cb I w k ys b) (hs:a.size=xs.length*k) (rest:Array Value):cb I w k (xs++ys) ((a.toList++b.toList).toArray++rest):=by
 refine ⟨?_,fun x hx=>(List.mem_append.1 hx).elim (ha.elem x) (hb.elem x),fun i x hi j p hp=> ?_⟩
 ·have:=hb.size
  simp [Nat.add_mul]
  omega
 ·have hj: ∀ {zs:List PV} {c:Array Value},cb I w k zs c→x∈zs→j<k:=fun hz hm=>by rw [←(hz.elem x hm).1];exact (List.getElem?_eq_some_iff.1 hp).1
  rcases Nat.lt_or_ge i xs.length with hlt | hge
  ·rw [List.getElem?_append_left hlt] at hi
   obtain ⟨u,h1,h2,h3⟩:=ha.rep i x hi j p hp
   have hb1:=(Array.getElem?_eq_some_iff.1 h1).1
   refine ⟨u,?_,h2,h3⟩
   rw [Array.getElem?_append_left (by simp;omega)]
   simp only [List.getElem?_toArray]
   rw [List.getElem?_append_left (by simpa using hb1)]
   simpa using h1
  ·rw [List.getElem?_append_right hge] at hi
   obtain ⟨u,h1,h2,h3⟩:=hb.rep (i-xs.length) x hi j p hp
   have hb1:=(Array.getElem?_eq_some_iff.1 h1).1
   have e:i*k+j=xs.length*k+((i-xs.length)*k+j):=by
    have:i*k=xs.length*k+(i-xs.length)*k:=by rw [←Nat.add_mul];congr 1;omega
    omega
   refine ⟨u,?_,h2,h3⟩
   rw [Array.getElem?_append_left (by simp;omega)]
   simp only [List.getElem?_toArray]
   rw [List.getElem?_append_right (by simp;omega)]
   simp only [Array.length_toList,Array.getElem?_toList]
   rw [show i*k+j-a.size=(i-xs.length)*k+j by omega]
   exact h1
variable {σ σ':aq} {I I':ah} {base:ah} {w w':World} {h:aa} {P:Program}
section
variable {d gen:Nat} {t0 t1 ty e:TypeId} {size bytes:Nat} {z:Value}
structure gY (P:Program) (t0 t1 e:TypeId) (size bytes:Nat) (z:Value):Prop where
 d0:P.underlying t0=some (.slice e)
 d1:gz P t1=true
 sz:aF P e=some size
 by_:cY P e=some bytes
 z_:bA P e=some z
 ne:size≠0
 zs:z.cells.size=size
theorem gY.info (T:gY P t0 t1 e size bytes z): ∃i,P.info? e=some i∧i.size=size∧i.bytes=bytes∧i.zero=some z:=by
 have h1:=T.sz
 have h2:=T.by_
 have h3:=T.z_
 unfold aF at h1
 unfold cY at h2
 unfold bA at h3
 simp only [Option.map_eq_some_iff,Option.bind_eq_some_iff] at h1 h2 h3
 obtain ⟨i,hi,rfl⟩:=h1
 obtain ⟨i2,hi2,rfl⟩:=h2
 obtain ⟨i3,hi3,hz⟩:=h3
 rw [hi] at hi2 hi3
 injection hi2 with hi2
 injection hi3 with hi3
 subst hi2;subst hi3
 exact ⟨i,hi,rfl,rfl,hz⟩
theorem jy (T:gY P t0 t1 e size bytes z) {bs:Option Addr} {n cap:Nat} {x:Value} {news:Array Value} (hle:n≤cap) (hx:ek I w P size x [] news):
  (Builtin.append_ #[t0,t1] ty #[.slice bs n cap,x]).run P w= .ok (.slice bs n cap) w:=by
 obtain ⟨i,hi,hs,hb,hz⟩:=T.info
 have hsrc:=hx.src T.d1
 have hn:news.toList=[]:=List.eq_nil_of_length_eq_zero (by simpa using hx.size_eq)
 rw [hn] at hsrc
 subst hs
 exact run_append_nothing w t0 t1 ty e i T.d0 hi bs n cap hle x (by simpa using hsrc)
theorem gZ (T:gY P t0 t1 e size bytes z) (H:af σ I base w h) (hg:σ gen=none) (hB:aW base w.heap.size) {d s:Nat} {bs:Option Addr} {cap:Nat} {x:Value} {xs ys:List PV} {olds news:Array Value}
  (hs:ek I w P size (.slice bs xs.length cap) xs olds) (hx:ek I w P size x ys news) (hlt:cap<xs.length+ys.length) (hfit:bO (xs.length+ys.length) bytes=true)
  {run:Result Next} (hrun:run=((Builtin.append_ #[t0,t1] ty #[.slice bs xs.length cap,x]).run P w).andThen fun v w'=> .ok (.value v) w'):
  aJ σ I base w gen run (.msl d s gen 0 (xs.length+ys.length) false) (hput h d s ⟨gen,.row size e (xs++ys) false⟩):=by
 obtain ⟨i,hi,hsi,hb,hz⟩:=T.info
 subst hsi
 obtain ⟨hf1,hf2⟩:=nr hfit
 have hr:=run_append_grow_src (P:=P) w t0 t1 ty e i z T.d0 hi hz bs xs.length cap olds.toList (by simpa using hs.runD) x ys.length news.toList (hx.src T.d1) hlt (by omega)
  (growslice_fits hlt (by rw [hb];exact hf1))
 rw [hr] at hrun
 have hG:aZ w (w.drew.alloc (.cells ((olds.toList++news.toList).toArray++Builtin.zeroCells z.cells (grownCap w (xs.length+ys.length) cap e-(xs.length+ys.length))) e))
   (.cells ((olds.toList++news.toList).toArray++Builtin.zeroCells z.cells (grownCap w (xs.length+ys.length) cap e-(xs.length+ys.length))) e):=⟨rfl,rfl,rfl,rfl⟩
 have hge:=grownCap_ge w (xs.length+ys.length) cap e
 refine gX H (hs.arr.append hx.arr hs.size_eq _) hg hB hG (fun j _=>hG.frozen j) hge (by simp) ?_ hrun
 have e1:(Builtin.zeroCells z.cells (grownCap w (xs.length+ys.length) cap e-(xs.length+ys.length))).size=(grownCap w (xs.length+ys.length) cap e-(xs.length+ys.length))*i.size:=by
  rw [size_zeroCells,T.zs]
 have e2:=hs.size_eq
 have e3:=hx.size_eq
 simp only [Array.size_append,List.size_toArray,List.length_append,Array.length_toList,e1,e2,e3]
 rw [←Nat.add_mul,←Nat.add_mul]
 exact Nat.mul_le_mul_right _ (by omega)
theorem rb {tgt v:AV} {h':aa} {u x:Value} {slot:Nat} {ys:List PV} {news:Array Value} (T:gY P t0 t1 e size bytes z) (hop:dL e size bytes d slot gen h tgt ys=some (v,h')) (hu:ab σ I w tgt u)
  (hx:ek I w P size x ys news) (H:af σ I base w h) (hg:σ gen=none) (hB:aW base w.heap.size)
  {run:Result Next} (hrun:run=((Builtin.append_ #[t0,t1] ty #[u,x]).run P w).andThen fun v w'=> .ok (.value v) w'):aJ σ I base w gen run v h':=by
 unfold dL at hop
 split at hop
 ·rename_i k nl full xs
  split at hop
  ·
   rename_i hys
   have hys:ys=[]:=by simpa using hys
   subst hys
   simp only [Option.some.injEq,Prod.mk.injEq] at hop
   obtain ⟨rfl,rfl⟩:=hop
   refine .same u H ?_ hu
   have hu':=aG hu
   cases hu' with
   | nil=>rw [hrun,jy T (Nat.le_refl _) hx];rfl
   | emp=>rw [hrun,jy T (Nat.zero_le _) hx];rfl
   | sl _ _ _ b o cap vs hcap=>rw [hrun,jy T hcap hx];rfl
  ·rename_i hys
   have hys:ys≠[]:=by simpa using hys
   have hpos:0<ys.length:=by
    cases ys with
    | nil=>exact absurd rfl hys
    | cons a l=>simp
   split at hop
   ·rename_i hnl
    subst hnl
    split at hop
    ·rename_i hc
     simp only [Option.some.injEq,Prod.mk.injEq] at hop
     obtain ⟨rfl,rfl⟩:=hop
     have hu':=aG hu
     cases hu' with
     | nil=>
      obtain ⟨olds,hs⟩:=fT (P:=P) (size:=size) (ys:=[]) (by simp [ct]) hu H
      have:=gZ (ty:=ty) T H hg hB (d:=d) (s:=slot) (xs:=[]) hs hx (by simpa using hpos) (by simpa using hc.2) hrun
      simpa using this
    ·cases hop
   ·rename_i hnl
    have hnl:nl=false:=by simpa using hnl
    subst hnl
    split at hop
    ·rename_i hc
     obtain ⟨rfl,rfl,hfit⟩:=hc
     simp only [Option.some.injEq,Prod.mk.injEq] at hop
     obtain ⟨rfl,rfl⟩:=hop
     obtain ⟨olds,hs⟩:=fT (P:=P) (size:=k) (ys:=xs) (by simp [ct]) hu H
     have hu':=aG hu
     cases hu' with
     | emp _ _ a cap hfull=>
      have:=hfull rfl
      subst this
      exact gZ (ty:=ty) T H hg hB (d:=d) (s:=slot) (xs:=[]) hs hx (by simpa using hpos) hfit hrun
     | sl _ _ _ b o cap vs hcap hfull=>
      have:=hfull rfl
      subst this
      exact gZ (ty:=ty) T H hg hB (d:=d) (s:=slot) hs hx (by omega) hfit hrun
    ·cases hop
 ·rename_i d' s' g' off n full
  split at hop
  case h_2=>cases hop
  rename_i k e' xs fz hl
  have hu0:=hu
  cases hu with
  | msl _ _ _ _ _ _ b o k2 cap ad had hs hn hfull hroom=>
   obtain ⟨b',o',n',hs',hbl,hbase,hfr,hxn,hsh,hxk,hc,hz⟩:=dV (H.live hl (by simp))
   rw [hs] at hs'
   simp only [Option.some.injEq,Prod.mk.injEq] at hs'
   obtain ⟨rfl,rfl,rfl⟩:=hs'
   split at hop
   ·rename_i hfl
    subst hfl
    have hcn:=hfull rfl
    subst hcn
    split at hop
    ·rename_i hys
     have hys:ys=[]:=by simpa using hys
     subst hys
     simp only [Option.some.injEq,Prod.mk.injEq] at hop
     obtain ⟨rfl,rfl⟩:=hop
     exact .same _ H (by rw [hrun,jy T hn hx];rfl) hu0
    ·rename_i hys
     have hys:ys≠[]:=by simpa using hys
     have hpos:0<ys.length:=by
      cases ys with
      | nil=>exact absurd rfl hys
      | cons a l=>simp
     split at hop
     ·rename_i hcc
      obtain ⟨rfl,hle,hfit⟩:=hcc
      simp only [Option.some.injEq,Prod.mk.injEq] at hop
      obtain ⟨rfl,rfl⟩:=hop
      obtain ⟨olds,hso⟩:=fT (P:=P) (size:=k2) (ys:=(xs.drop off).take cap) (by simp [ct,hl,hle]) hu0 H
      have hlen:((xs.drop off).take cap).length=cap:=by simp;omega
      have hso':ek I w P k2 (.slice (some ⟨b,ad,none⟩) ((xs.drop off).take cap).length cap) ((xs.drop off).take cap) olds:=by rw [hlen];exact hso
      have:=gZ (run:=run) (ty:=ty) (cap:=cap) T H hg hB (d:=d) (s:=slot) hso' hx (by omega) (by rw [hlen];exact hfit) (by rw [hlen];exact hrun)
      rw [hlen] at this
      exact this
     ·cases hop
   ·rename_i hfl
    split at hop
    case isFalse=>cases hop
    rename_i hcc
    obtain ⟨rfl,rfl,rfl,hle,hfit⟩:=hcc
    simp only [Option.some.injEq,Prod.mk.injEq] at hop
    obtain ⟨rfl,rfl⟩:=hop
    have hdrop:(xs.drop off).take n=xs.drop off:=List.take_of_length_le (by simp;omega)
    have hlenD:(xs.drop off).length=n:=by simp;omega
    by_cases hroomy:n+ys.length≤cap
    ·
     obtain ⟨i,hi,hsi,hb,hzz⟩:=T.info
     subst hsi
     obtain ⟨ee,mm,hsh2,hroom2⟩:=hroom
     rw [hsh] at hsh2
     simp only [Option.some.injEq,Prod.mk.injEq] at hsh2
     obtain ⟨rfl,rfl⟩:=hsh2
     have hnews:news.toList.length=ys.length*i.size:=by simpa using hx.size_eq
     have hcells:(n+ys.length)*i.size≤cap*i.size:=Nat.mul_le_mul_right _ hroomy
     rw [Nat.add_mul] at hcells
     rw [Nat.add_mul] at hroom2
     have hin: ∀j,j<news.toList.length→cap≠0∧ad+n*i.size+j<n':=by
      intro j hj
      have hc0:cap≠0:=by
       intro h0
       subst h0
       have:ys.length=0:=by omega
       rw [this] at hnews
       omega
      have:=had hc0
      exact ⟨hc0,by omega⟩
     have hr:=run_append_room_src (P:=P) w t0 t1 ty _ i T.d0 hi b ad n cap x ys.length news.toList (hx.src T.d1) hroomy
      (fun j hj=>by obtain ⟨u,hu⟩:=kf hsh (hin j hj).2;rw [hu];rfl) (fun j hj=>hz.2.2 _ (hin j hj).2)
     rw [hr] at hrun
     have hkeep:aO I w (w.setCells b (ad+n*i.size) news.toList):=fO hz.1
     have hxsl:xs.length*i.size=off*i.size+n*i.size:=by rw [←hle,Nat.add_mul]
     have had':news.toList.length≠0→ad=o+off*i.size:=fun hh=>had (hin 0 (by omega)).1
     have hE:aB base σ I w (bf σ gen (b,o+off*i.size,i.size)) I (w.setCells b (ad+n*i.size) news.toList):=
      ⟨cl hg,fun _ h=>h,fun _ h=> .inl h,hkeep,mw hz.2.1⟩
     have hrowl:=cQ hl (by simp)
     refine ⟨_,_,_,bf σ gen (b,o+off*i.size,i.size),I,hrun,.inl rfl,?_,?_,hE,fun g hne=>cx hne⟩
     ·exact .msl d' s' gen 0 _ false b _ _ cap ad (fun hc0=>by rw [had hc0];simp) bj hroomy (by simp) ⟨_,n',by rw [eh];exact hsh,by rw [Nat.zero_add];omega⟩
     ·refine H.put (cl hg) (fun _ h=>h) hkeep (hkeep.inW H.inW) d' s' _ ?_ ?_
      ·refine ⟨b,o+off*i.size,n',bj,by rw [eh];exact hsh,?_,?_,?_,⟨hz.1,hz.2.1,fun j hj=>by rw [World.frozen?_setCells];exact hz.2.2 j hj⟩⟩
       ·rw [List.length_append,hlenD,Nat.add_mul]
        by_cases h0:ys.length=0
        ·rw [h0];omega
        ·have:cap≠0:=by omega
         omega
       ·intro y hy
        rcases List.mem_append.1 hy with hy | hy
        ·exact hxk y (List.mem_of_mem_drop hy)
        ·exact hx.arr.elem y hy
       ·intro i' y hy j p hp
        have hyk:y.cells.length=i.size:=by
         rcases List.mem_append.1 (List.mem_of_getElem? hy) with hy | hy
         ·exact (hxk y (List.mem_of_mem_drop hy)).1
         ·exact (hx.arr.elem y hy).1
        have hjk:j<i.size:=by rw [←hyk];exact (List.getElem?_eq_some_iff.1 hp).1
        rcases Nat.lt_or_ge i' n with hlt | hge
        ·rw [List.getElem?_append_left (by omega),List.getElem?_drop] at hy
         obtain ⟨u,h1,h2,h3⟩:=hc (off+i') y hy j p hp
         refine ⟨u,?_,h2,h3.mono (fun _ h=>h) hkeep.keep⟩
         have e1:o+off*i.size+i'*i.size+j=o+(off+i')*i.size+j:=by rw [Nat.add_mul];omega
         rw [e1]
         by_cases hnl:news.toList.length=0
         ·have:news.toList=[]:=List.eq_nil_of_length_eq_zero hnl
          rw [this]
          exact h1
         ·rw [fP]
          ·exact h1
          ·left
           have:=jx (k:=i.size) hlt hjk
           rw [had' hnl,Nat.add_mul]
           omega
        ·rw [List.getElem?_append_right (by omega),hlenD] at hy
         obtain ⟨u,h1,h2,h3⟩:=hx.arr.rep (i'-n) y hy j p hp
         have hlt:=(Array.getElem?_eq_some_iff.1 h1).1
         have hnl:news.toList.length≠0:=by rw [Array.length_toList];omega
         refine ⟨u,?_,h2,h3.mono (fun _ h=>h) hkeep.keep⟩
         have:=gP (w:=w) (b:=b) (o:=ad+n*i.size) (vs:=news.toList) hsh (by have:=(hin 0 (by omega)).1;have:=had this;omega) (j:=(i'-n)*i.size+j) (by simpa using hlt)
         have e1:ad+n*i.size+((i'-n)*i.size+j)=o+off*i.size+i'*i.size+j:=by
          have:i'*i.size=n*i.size+(i'-n)*i.size:=by rw [←Nat.add_mul];congr 1;omega
          have:=had' hnl
          omega
         rw [e1] at this
         rw [this]
         have h1':news.toList[(i'-n)*i.size+j]? =some u:=by simpa using h1
         rw [List.getElem?_eq_getElem (by simpa using hlt)] at h1'
         exact h1'
      ·intro d2 s2 b2 hne hb2
       have hf':=aY (H.rows d2 s2) hb2
       have hbb:b2≠b:=fun e=>hne (H.apart d' s' d2 s2 b (by rw [hrowl];simp [aj,hs]) (e▸hb2))
       exact ⟨gO b _ _ w b2 hbb,hf'.2.1,by simp [aj,bj];exact Ne.symm hbb⟩
    ·obtain ⟨olds,hso⟩:=fT (P:=P) (size:=k2) (ys:=xs.drop off) (by simp [ct,hl,hdrop];omega) hu0 H
     rw [←hlenD] at hso hfit hroomy hrun
     have:=gZ (ty:=ty) T H hg hB (d:=d') (s:=s') hso hx (by omega) hfit hrun
     rw [hlenD] at this
     exact this
 ·cases hop
theorem rc {tn:TypeId} {x y v:AV} {h':aa} {u uy:Value} {slot:Nat} (hd0:P.underlying t0=some (.slice e)) (hop:eR P e tn d slot gen h x y=some (v,h')) (hu:ab σ I w x u) (hy:ab σ I w y uy)
  (H:af σ I base w h) (hg:σ gen=none) (hB:aW base w.heap.size)
  {run:Result Next} (hrun:run=((Builtin.append_ #[t0,tn] ty #[u,uy]).run P w).andThen fun v w'=> .ok (.value v) w'):aJ σ I base w gen run v h':=by
 unfold eR at hop
 split at hop
 ·rename_i kn k nl fl xs ki n htn
  simp only [Option.bind_eq_bind,Option.bind_eq_some_iff] at hop
  obtain ⟨size,hsz,bytes,hby,z,hz,hop⟩:=hop
  split at hop
  ·cases hop
  ·rename_i hne
   split at hop
   ·rename_i hc
    obtain ⟨rfl,hx0,hn1,hfit⟩:=hc
    have hx0:xs=[]:=List.length_eq_zero_iff.1 hx0
    subst hx0
    simp only [Option.some.injEq,Prod.mk.injEq] at hop
    obtain ⟨rfl,rfl⟩:=hop
    have hne1:size≠0:=fun e=>hne (.inl e)
    have hne2:z.cells.size=size:=by
     rcases Nat.decEq z.cells.size size with hh | hh
     ·exact absurd (.inr hh) hne
     ·exact hh
    have hu':=aG hu
    have huy:=bl (aG hy)
    subst huy
    unfold aF at hsz
    unfold cY at hby
    unfold bA at hz
    simp only [Option.map_eq_some_iff,Option.bind_eq_some_iff] at hsz hby hz
    obtain ⟨i,hi,rfl⟩:=hsz
    obtain ⟨i2,hi2,rfl⟩:=hby
    obtain ⟨i3,hi3,hz⟩:=hz
    rw [hi] at hi2 hi3
    injection hi2 with hi2
    injection hi3 with hi3
    subst hi2;subst hi3
    obtain ⟨hf1,hf2⟩:=nr hfit
    obtain ⟨m,rfl⟩: ∃m:Nat,n=(m:Int):=⟨n.toNat,by omega⟩
    simp only [Int.toNat_natCast] at*
    have hgrow: ∀A:Array Value,A.size=(m+(grownCap w m 0 e-m))*i.size→
      ((Builtin.append_ #[t0,tn] ty #[.slice none 0 0,.int ki (m:Int)]).run P w)= .ok (.slice (some ⟨w.heap.size,0,none⟩) m (grownCap w m 0 e)) (w.drew.alloc (.cells A e))→
      u= .slice none 0 0→aJ σ I base w gen run (.msl d slot gen 0 m false) (hput h d slot ⟨gen,.row i.size e [] false⟩):=by
     intro A hA hr hu0
     rw [hu0,hr] at hrun
     have hG:aZ w (w.drew.alloc (.cells A e)) (.cells A e):=⟨rfl,rfl,rfl,rfl⟩
     have hge:=grownCap_ge w m 0 e
     refine gX H ⟨by simp,by simp,fun i x hi=>by simp at hi⟩ hg hB hG (fun j _=>hG.frozen j) hge (by simp) ?_ hrun
     rw [hA]
     exact Nat.mul_le_mul_right _ (by omega)
    have hr:=Go.Lib.run_append_nil_zeros (P:=P) w t0 tn ty e i z ki kn hd0 htn hi hz m (by omega) (by omega) (by omega) (by omega)
    cases hu' with
    | nil=>
     refine hgrow _ ?_ hr rfl
     rw [Array.size_append,size_zeroCells,size_zeroCells,hne2,Nat.add_mul]
   ·cases hop
 ·cases hop
end
variable {σ σ':aq} {I I':ah} {base:ah} {w w':World} {h:aa} {P:Program}
section
variable {ρ:Operand→AV} {ρc:Operand→Value} {d gen:Nat} {o:Oper} {v:AV} {h':aa}
theorem re (w:World) (arr:Array Value) (e:TypeId):((w.drew.alloc (.cells arr e)).freeze ⟨w.heap.size,arr.size,none⟩ 1).heap=w.heap.push (.cells arr e (arr.size,arr.size+1)):=by
 unfold World.freeze
 rw [if_neg (by decide)]
 apply Array.ext_getElem?
 intro i
 simp only [World.drew,World.alloc,Array.getElem?_modify,Array.getElem?_push]
 by_cases hi:i=w.heap.size
 ·subst hi;simp
 ·rw [if_neg (fun e=>hi e.symm),if_neg hi,if_neg hi]
theorem kK: ∀ {l:List PV} {bs:List UInt8},cB l=some bs→ ∃ns:List Int,l=ns.map (fun n=>PV.lit (.int .u8 n))∧bs=ns.map fun n=>UInt8.ofNat n.toNat
 | [],bs,hl=>by simp only [cB,Option.some.injEq] at hl;subst hl;exact ⟨[],rfl,rfl⟩
 | p::l,bs,hl=>by
  unfold cB at hl
  split at hl
  ·rename_i hh;cases hh
  ·rename_i n l' hh
   injection hh with h1 h2
   subst h1;subst h2
   simp only [Option.map_eq_some_iff] at hl
   obtain ⟨bs',hb,rfl⟩:=hl
   obtain ⟨ns,rfl,rfl⟩:=kK hb
   exact ⟨n::ns,rfl,rfl⟩
  ·cases hl
theorem rf (ns:List Int): ∀(s:ByteArray),ns.foldl (fun r n=>r.push (UInt8.ofNat n.toNat)) s=⟨s.data++(ns.map fun n=>UInt8.ofNat n.toNat).toArray⟩:=by
 induction ns with
 | nil=>intro s;simp
 | cons n ns ih=>
  intro s
  rw [List.foldl_cons,ih]
  have:(s.push (UInt8.ofNat n.toNat)).data=s.data.push (UInt8.ofNat n.toNat):=rfl
  rw [this]
  congr 1
  apply Array.ext'
  simp
theorem rg {src dst:TypeId} {x:Operand} (ho:o.op= .convert src dst x) (hop:ai P o ρ d gen h=some (v,h')) (hρ: ∀x,ab σ I w (ρ x) (ρc x)) (H:af σ I base w h) (hg:σ gen=none) (hB:aW base w.heap.size):
  aJ σ I base w gen ((execOp ρc o).run P w) v h':=by
 have hr:=hρ x
 simp only [ai,ho] at hop
 split at hop
 ·rename_i e s hsrc hdst hx
  rw [hx] at hr
  have hu:=bl (aG hr)
  split at hop
  ·rename_i slot he hslot
   split at hop
   ·rename_i hsz
    simp only [Option.some.injEq,Prod.mk.injEq] at hop
    obtain ⟨rfl,rfl⟩:=hop
    have hcut:s.size≤(Question.appendCap s.size 0 e).cut (w.tape w.drawn (Question.appendCap s.size 0 e)):=by simp [Question.cut]
    generalize hc:(Question.appendCap s.size 0 e).cut (w.tape w.drawn (Question.appendCap s.size 0 e))=cap at hcut
    have hsize:(s.data.map (fun b=>Value.int .u8 b.toNat)++Array.replicate (cap-s.size) (Value.int .u8 0)).size=cap:=by
     have:s.data.size=s.size:=rfl
     simp;omega
    have hG:aZ w ((w.drew.alloc (.cells (s.data.map (fun b=>Value.int .u8 b.toNat)++Array.replicate (cap-s.size) (.int .u8 0)) e)).freeze
      ⟨w.heap.size,(s.data.map (fun b=>Value.int .u8 b.toNat)++Array.replicate (cap-s.size) (Value.int .u8 0)).size,none⟩ 1)
      (.cells (s.data.map (fun b=>Value.int .u8 b.toNat)++Array.replicate (cap-s.size) (.int .u8 0)) e
       ((s.data.map (fun b=>Value.int .u8 b.toNat)++Array.replicate (cap-s.size) (Value.int .u8 0)).size,(s.data.map (fun b=>Value.int .u8 b.toNat)++Array.replicate (cap-s.size) (Value.int .u8 0)).size+1)):=by
     refine ⟨re w _ e,?_,?_,?_⟩<;>(unfold World.freeze;rw [if_neg (by decide)];rfl)
    refine gX (k:=1) (n:=s.size) (cap:=cap) (full:=false) H ?_ hg hB hG ?_ hcut (by simp) (by rw [hsize];omega) ?_
    ·refine ⟨by rw [hsize];simp [ar];omega,?_,?_⟩
     ·intro y hy
      simp only [ar,List.mem_map] at hy
      obtain ⟨b,_,rfl⟩:=hy
      exact ⟨rfl,rfl⟩
     ·intro i y hi j p hp
      rw [nq] at hi
      simp only [Option.map_eq_some_iff] at hi
      obtain ⟨b,hb,rfl⟩:=hi
      cases j with
      | zero=>
       simp [PV.cells] at hp
       subst hp
       refine ⟨.int .u8 b.toNat,?_,rfl,.lit _⟩
       have hlt:=(Array.getElem?_eq_some_iff.1 hb).1
       have hds:s.data.size=s.size:=rfl
       rw [Array.getElem?_append_left (by simp;omega)]
       simp [hb]
      | succ j=>simp [PV.cells] at hp
    ·intro j hj
     unfold World.frozen?
     simp only [hG.new]
     simp
     omega
    ·simp only [execOp,ho]
     refine ay ?_
     have hs2:(w.drew.alloc (.cells (s.data.map (fun b=>Value.int .u8 b.toNat)++Array.replicate (cap-s.size) (.int .u8 0)) e)).shape? w.heap.size=
       some (e,(s.data.map (fun b=>Value.int .u8 b.toNat)++Array.replicate (cap-s.size) (Value.int .u8 0)).size):=by
      unfold World.shape? World.alloc World.drew
      simp
     simp only [convert,Sem.run_bind,aC hsrc,aC hdst,Result.andThen_ok,hu,aC he,Conv.stringToBytes,run_choose,Question.forced,Bool.false_eq_true,if_false,newRow,run_newObj,Sem.run_pure,markStringish,run_shape]
     rw [hc]
     dsimp only [World.alloc,World.drew] at hs2
     rw [hs2]
     rfl
   ·cases hop
  ·cases hop
 ·rename_i e hsrc hdst
  split at hop
  ·rename_i he
   split at hop
   case isFalse=>cases hop
   rename_i hsl
   simp only [Option.bind_eq_some_iff,Option.map_eq_some_iff,Prod.mk.injEq] at hop
   obtain ⟨l,hl,bs,hbs,rfl,rfl⟩:=hop
   obtain ⟨news,hE⟩:=fT (P:=P) hl hr H
   obtain ⟨ns,rfl,rfl⟩:=kK hbs
   have hsz:=hE.size_eq
   have hnews:news=(ns.map (Value.int .u8)).toArray:=by
    apply Array.ext_getElem?
    intro j
    simp only [List.getElem?_toArray,List.getElem?_map]
    cases hj:ns[j]? with
    | none=>
     simp only [Option.map_none]
     rw [Array.getElem?_eq_none]
     have:=List.getElem?_eq_none_iff.1 hj
     simp at hsz
     omega
    | some n=>
     obtain ⟨u,h1,_,h3⟩:=hE.arr.rep j (.lit (.int .u8 n)) (by simp [hj]) 0 (.lit (.int .u8 n)) rfl
     rw [bl h3] at h1
     simpa using h1
   refine .same (.string (ns.foldl (fun r n=>r.push (UInt8.ofNat n.toNat)) ByteArray.empty)) H ?_ ?_
   ·simp only [execOp,ho]
    refine ay ?_
    have hrun:=hE.run
    have hlen:=hE.len w
    generalize hu:ρc x=u at hr hrun hlen
    generalize hxv:ρ x=xx at hr hl hsl
    have hkind: ∃a n c,u= .slice a n c:=by
     cases hr with
     | pv p _ hp=>
      cases hp with
      | nil=>exact ⟨_,_,_,rfl⟩
      | emp=>exact ⟨_,_,_,rfl⟩
      | sl=>exact ⟨_,_,_,rfl⟩
      | _=>cases hsl
     | msl=>exact ⟨_,_,_,rfl⟩
     | _=>cases hsl
    obtain ⟨a,n,c,rfl⟩:=hkind
    rw [run_convert_bytes_string w src dst e a n c hsrc he hdst]
    have hn:n=(ns.map fun n=>PV.lit (.int .u8 n)).length:=by
     simp [Builtin.lenOf] at hlen
     simpa using hlen
    cases a with
    | none=>
     simp [Builtin.firstCells] at hrun
     rw [hnews] at hrun
     have:ns=[]:=by simpa using hrun.symm
     subst this
     simp [Conv.bytesToString]
    | some a=>
     refine run_bytesToString w a n c ns ?_
     rw [←hnews,hn]
     simpa [Builtin.firstCells] using hrun
   ·rw [rf]
    exact .pv _ _ (by simpa using am.lit _)
  ·cases hop
 ·simp only [Option.bind_eq_some_iff,Option.map_eq_some_iff,Prod.mk.injEq] at hop
  obtain ⟨a,ha,r,hrr,rfl,rfl⟩:=hop
  refine .same r H ?_ (.pv _ _ (.lit r))
  simp only [execOp,ho]
  rw [jt ha hr]
  exact ay (gU hrr)
end
variable {σ σ':aq} {I I':ah} {base:ah} {w w':World} {h:aa} {P:Program}
section
variable {ρ:Operand→AV} {ρc:Operand→Value} {d gen:Nat} {o:Oper} {v:AV} {h':aa}
theorem rh {u:Value} {k:IntKind} {i:Int} {y:Nat} {code:BoundsCode} (hu:u= .int k i) (h0:0≤i) (h1:i≤y):(Instr.sliceBound u y code).run P w= .ok i.toNat w:=by
 subst hu
 simp [Instr.sliceBound,asIntOf,h0,h1]
theorem jz {x:Operand} {dflt top n:Nat} (hn:dM (some (ρ x)) dflt top=some n) (hρ: ∀x,ab σ I w (ρ x) (ρc x)):
  n≤top∧ ∀(y:Nat) (code:BoundsCode),top≤y→(Instr.sliceBound (ρc x) y code).run P w= .ok n w:=by
 simp only [dM,Option.bind_eq_some_iff] at hn
 obtain ⟨i,hi,hn⟩:=hn
 split at hn
 ·rename_i hc
  injection hn with hn
  subst hn
  obtain ⟨k,hk⟩:=ju hi (hρ x)
  exact ⟨by omega,fun y code hy=>rh hk hc.1 (by omega)⟩
 ·cases hn
theorem jA {n l r:Nat} {m:Option Nat} {lo hi mx:Option Operand} (hb:dN n (lo.map ρ) (hi.map ρ) (mx.map ρ)=some (l,r,m)) (hρ: ∀x,ab σ I w (ρ x) (ρc x)) (isS:Bool) {cap:Nat} (hn:n≤cap):
  (Instr.sliceBounds isS n cap (lo.map ρc) (hi.map ρc) (mx.map ρc)).run P w= .ok (l,r,m.getD cap) w∧l≤r∧r≤n∧r≤m.getD cap∧m.getD cap≤cap∧(∀m',m=some m'→m'≤n)∧m.isSome=mx.isSome:=by
 simp only [dN,Option.bind_eq_some_iff] at hb
 obtain ⟨m0,hm0,r0,hr0,l0,hl0,hb⟩:=hb
 split at hb
 ·cases hb
 ·rename_i hmh
  simp only [Option.some.injEq,Prod.mk.injEq] at hb
  obtain ⟨rfl,rfl,rfl⟩:=hb
  have hl: ∀(code:BoundsCode) (C:Nat),l0≤r0∧(match lo.map ρc with
    | some v=>(do let l ←Instr.sliceBound v r0 code;pure (l,r0,C):Sem (Nat×Nat×Nat))
    | none=>(do let l ←pure 0;pure (l,r0,C))).run P w= .ok (l0,r0,C) w:=by
   intro code C
   cases lo with
   | none=>simp [dM] at hl0;subst hl0;exact ⟨Nat.zero_le _,rfl⟩
   | some x=>
    obtain ⟨h1,h2⟩:=jz (P:=P) hl0 hρ
    exact ⟨h1,by simp [h2 r0 code (Nat.le_refl _)]⟩
  cases mx with
  | none=>
   simp at hm0
   subst hm0
   cases hi with
   | none=>
    simp [dM] at hr0
    subst hr0
    refine ⟨?_,(hl .sliceB cap).1,Nat.le_refl _,by simpa using hn,by simp,by simp,rfl⟩
    have:=(hl .sliceB cap).2
    simp only [Instr.sliceBounds,Option.map_none,Sem.run_bind,Sem.run_pure,Result.andThen_ok,Option.isSome_none,Bool.false_eq_true,if_false,Option.getD_none]
    exact this
   | some x=>
    obtain ⟨h1,h2⟩:=jz (P:=P) hr0 hρ
    simp only [Option.getD_none] at h1 h2
    refine ⟨?_,(hl .sliceB cap).1,h1,by simp;omega,by simp,by simp,rfl⟩
    have:=(hl .sliceB cap).2
    simp only [Instr.sliceBounds,Option.map_none,Option.map_some,Sem.run_bind,Sem.run_pure,Result.andThen_ok,Option.isSome_none,Bool.false_eq_true,if_false,Option.getD_none,h2 cap _ hn]
    exact this
  | some y=>
   cases hi with
   | none=>simp at hmh
   | some x=>
    simp only [Option.map_some,Option.map_eq_some_iff] at hm0
    obtain ⟨m1,hm1,rfl⟩:=hm0
    obtain ⟨h1,h2⟩:=jz (P:=P) hm1 hρ
    simp only [Option.map_some,Option.getD_some] at hr0
    obtain ⟨h3,h4⟩:=jz (P:=P) hr0 hρ
    refine ⟨?_,(hl .slice3C m1).1,by omega,by simpa using h3,by simp;omega,by simpa using h1,rfl⟩
    have:=(hl .slice3C m1).2
    simp only [Instr.sliceBounds,Option.map_some,Sem.run_bind,Sem.run_pure,Result.andThen_ok,Option.isSome_some,if_true,Option.getD_some,h2 cap _ hn,h4 m1 _ (Nat.le_refl _)]
    exact this
theorem ri {t:TypeId} {x:Operand} {lo hi mx:Option Operand} (ho:o.op= .slice t x lo hi mx) (hop:ai P o ρ d gen h=some (v,h')) (hρ: ∀x,ab σ I w (ρ x) (ρc x)) (H:af σ I base w h):
  aJ σ I base w gen ((execOp ρc o).run P w) v h':=by
 simp only [ai,ho,Option.map_eq_some_iff,Prod.mk.injEq] at hop
 obtain ⟨v',hv,rfl,rfl⟩:=hop
 have hr:=hρ x
 have fin: ∀ {u:Value},(Instr.sliceAt t (ρc x) (lo.map ρc) (hi.map ρc) (mx.map ρc)).run P w= .ok u w→(execOp ρc o).run P w= .ok (.value u) w:=by
  intro u hu
  simp only [execOp,ho]
  exact ay hu
 unfold eQ at hv
 split at hv
 ·rename_i s hd he
  rw [he] at hr
  have hu:=bl (aG hr)
  simp only [Option.bind_eq_bind,Option.bind_eq_some_iff] at hv
  obtain ⟨⟨l,r,m⟩,hb,hv⟩:=hv
  dsimp only at hv
  split at hv
  ·cases hv
  ·rename_i hm
   injection hv with hv
   subst hv
   obtain ⟨hrun,hlr,hrn,_,_,_,hms⟩:=jA (P:=P) hb hρ false (cap:=s.size) (Nat.le_refl _)
   have hmx:mx=none:=by
    cases mx with
    | none=>rfl
    | some y=>simp at hms;rw [hms] at hm;exact absurd rfl hm
   subst hmx
   refine .same (.string (s.extract l r)) H (fin ?_) (.pv _ _ (.lit _))
   simp only [Option.map_none] at hrun
   simp [Instr.sliceAt,Instr.slice,aC hd,hu,hrun]
 ·rename_i e k nl full xs hd he
  rw [he] at hr
  simp only [Option.bind_eq_bind,Option.bind_eq_some_iff] at hv
  obtain ⟨⟨l,r,m⟩,hb,size,hsz,hv⟩:=hv
  dsimp only at hv
  split at hv
  case isFalse=>cases hv
  rename_i hk
  injection hv with hv
  subst hv
  have hr':=aG hr
  generalize hu:ρc x=u at hr'
  have hat: ∀ {a:Option Addr} {n cap:Nat},u= .slice a n cap→n=xs.length→n≤cap→
    (Instr.sliceAt t u (lo.map ρc) (hi.map ρc) (mx.map ρc)).run P w= .ok (.slice (if m.getD cap=l then a else a.map (·.add (l*size))) (r-l) (m.getD cap-l)) w∧
    l≤r∧r≤n∧r≤m.getD cap∧m.getD cap≤cap∧(∀m',m=some m'→m'≤n):=by
   intro a n cap hu hn hcap
   subst hu
   obtain ⟨hrun,h1,h2,h3,h4,h5,_⟩:=jA (P:=P) hb hρ true (cap:=cap) (by omega)
   refine ⟨?_,h1,by omega,h3,h4,fun m' hm'=>by rw [hn];exact h5 m' hm'⟩
   rw [←hn] at hrun
   simp [Instr.sliceAt,Instr.slice,aC hd,hrun,cn hsz]
  cases hr' with
  | nil=>
   obtain ⟨h0,h1,h2,h3,h4,h5⟩:=hat rfl (by simp) (Nat.le_refl _)
   refine .same _ H (fin (hu▸h0)) ?_
   have hr0:r=0:=by simpa using h2
   have hl0:l=0:=by omega
   subst hr0;subst hl0
   have hm0:m.getD 0=0:=by omega
   rw [hm0]
   simp only [if_true,List.drop_nil,List.take_nil,Nat.sub_self]
   exact .pv _ _ (.nil k _)
  | emp _ _ a cap hfull=>
   obtain ⟨h0,h1,h2,h3,h4,h5⟩:=hat rfl (by simp) (Nat.zero_le _)
   refine .same _ H (fin (hu▸h0)) ?_
   have hr0:r=0:=by simpa using h2
   have hl0:l=0:=by omega
   subst hr0;subst hl0
   simp only [List.drop_nil,List.take_nil,Nat.sub_self]
   have:(if m.getD cap=0 then some a else Option.map (fun x=>x.add (0*size)) (some a))=some a:=by
    split
    ·rfl
    ·simp [Addr.add]
   rw [this]
   refine .pv _ _ (.emp k _ a _ fun hf=> ?_)
   cases m with
   | none=>
    simp at hf
    have:=hfull hf
    simp;omega
   | some m'=>
    simp at hf
    simpa using hf
  | sl _ _ _ b ob cap vs hcap hfull hI hkk hcl hr2=>
   obtain ⟨h0,h1,h2,h3,h4,h5⟩:=hat rfl rfl hcap
   refine .same _ H (fin (hu▸h0)) ?_
   have hk:k=size:=by simpa using hk
   subst hk
   have hlen:((xs.drop l).take (r-l)).length=r-l:=by simp;omega
   have hful:(match m with | some m=>m==r | none=>full&&r==xs.length)=true→m.getD cap=r:=by
    intro hf
    cases m with
    | none=>
     simp at hf
     have:=hfull hf.1
     simp;omega
    | some m'=>simpa using hf
   by_cases hml:m.getD cap=l
   ·rw [if_pos hml]
    have hrl:r=l:=by omega
    subst hrl
    rw [hml]
    simp only [Nat.sub_self,List.take_zero]
    exact .pv _ _ (.emp k _ _ 0 fun _=>rfl)
   ·rw [if_neg hml]
    have:=am.sl (I:=I) (w:=w) k (match m with | some m=>m==r | none=>full&&r==xs.length) ((xs.drop l).take (r-l)) b (ob+l*k) (m.getD cap-l) (fun i j=>vs (l+i) j)
     (by omega) (fun hf=>by have:=hful hf;omega) hI (fun x hx=>hkk x (List.mem_of_mem_drop (List.mem_of_mem_take hx)))
     (fun i x hi j p hp=>by
      have:=hcl (l+i) x (dY hi).2 j p hp
      rw [show ob+l*k+i*k+j=ob+(l+i)*k+j by rw [Nat.add_mul];omega]
      exact this)
     (fun i x hi j p hp=>hr2 (l+i) x (dY hi).2 j p hp)
    rw [hlen] at this
    simp only [Option.map_some,c6]
    exact .pv _ _ this
 ·rename_i e d1 s g off n full hd he
  rw [he] at hr
  simp only [Option.bind_eq_bind,Option.bind_eq_some_iff] at hv
  obtain ⟨⟨l,r,m⟩,hb,size,hsz,hv⟩:=hv
  dsimp only at hv
  split at hv
  case h_2=>cases hv
  rename_i k0 e0 xs fz hl
  split at hv
  case isFalse=>cases hv
  rename_i hk
  subst hk
  injection hv with hv
  subst hv
  obtain ⟨b',o',n',hs',_⟩:=dV (H.live hl (by simp))
  generalize hu:ρc x=u at hr
  cases hr with
  | msl _ _ _ _ _ _ b ob k cap ad had hs hn hfull hroom=>
   rw [hs] at hs'
   simp only [Option.some.injEq,Prod.mk.injEq] at hs'
   obtain ⟨rfl,rfl,rfl⟩:=hs'
   obtain ⟨hrun,h1,h2,h3,h4,h5,_⟩:=jA (P:=P) hb hρ true (cap:=cap) hn
   have hrun':(Instr.sliceAt t (ρc x) (lo.map ρc) (hi.map ρc) (mx.map ρc)).run P w=
     .ok (.slice (if m.getD cap=l then some ⟨b,ad,none⟩ else (some ⟨b,ad,none⟩:Option Addr).map (·.add (l*k))) (r-l) (m.getD cap-l)) w:=by
    rw [hu]
    simp [Instr.sliceAt,Instr.slice,aC hd,hrun,cn hsz]
   have hful:(match m with | some m=>m==r | none=>full&&r==n)=true→m.getD cap=r:=by
    intro hf
    cases m with
    | none=>
     simp at hf
     have:=hfull hf.1
     simp;omega
    | some m'=>simpa using hf
   obtain ⟨ee,mm,hsh,hrm⟩:=hroom
   have hmul:(off+l+(m.getD cap-l))*k≤(off+cap)*k:=Nat.mul_le_mul_right k (by omega)
   have hroom': ∃e m',w.shape? b=some (e,m')∧ob+(off+l+(m.getD cap-l))*k≤m':=⟨ee,mm,hsh,by omega⟩
   by_cases hml:m.getD cap=l
   ·rw [if_pos hml] at hrun'
    refine .same _ H (fin hrun') ?_
    exact .msl d1 s g (off+l) (r-l) _ b ob k _ ad (fun hc=>absurd hml (by omega)) hs (by omega) (fun hf=>by have:=hful hf;omega) hroom'
   ·rw [if_neg hml] at hrun'
    simp only [Option.map_some,c6] at hrun'
    refine .same _ H (fin hrun') ?_
    exact .msl d1 s g (off+l) (r-l) _ b ob k _ _ (fun hc=>by rw [had (by omega),Nat.add_mul];omega) hs (by omega) (fun hf=>by have:=hful hf;omega) hroom'
 ·rename_i n e d1 s g i off hd he
  rw [he] at hr
  obtain ⟨b,ob,k,hs,hu⟩:=cp hr
  simp only [Option.bind_eq_bind,Option.bind_eq_some_iff] at hv
  obtain ⟨⟨l,r,m⟩,hb,size,hsz,hv⟩:=hv
  dsimp only at hv
  split at hv
  case h_2=>cases hv
  rename_i v0 fz hl
  split at hv
  case isFalse=>cases hv
  rename_i hc
  obtain ⟨rfl,rfl,hlen⟩:=hc
  injection hv with hv
  subst hv
  obtain ⟨b0,k0,e0,u0,hs0,hsh,hok0,hru,hz,hf,h1c,hszu,hcell⟩:=dU (H.live hl (by simp))
  rw [hs] at hs0
  simp only [Option.some.injEq,Prod.mk.injEq] at hs0
  obtain ⟨rfl,rfl,rfl⟩:=hs0
  subst hf
  obtain ⟨hrun,hlr,hrn,hrc,hcn,_,_⟩:=jA (P:=P) hb hρ false (cap:=n) (Nat.le_refl _)
  simp only [Nat.zero_mul,Nat.add_zero,Nat.zero_add] at hu
  have hrun':(Instr.sliceAt t (ρc x) (lo.map ρc) (hi.map ρc) (mx.map ρc)).run P w= .ok (.slice (some (if m.getD n=l then ⟨b,off,none⟩ else (⟨b,off,none⟩:Addr).add (l*1))) (r-l) (m.getD n-l)) w:=by
   simp [Instr.sliceAt,Instr.sureAddr,aC hd,hu,hrun,cn hsz]
  have hroom': ∃e m',w.shape? b=some (e,m')∧0+(off+l+(m.getD n-l))*1≤m':=⟨_,_,hsh,by omega⟩
  have hful:(m.getD n==r)=true→m.getD n-l=r-l:=fun h=>by simp at h;rw [h]
  by_cases hml:m.getD n=l
  ·rw [if_pos hml] at hrun'
   refine .same _ H (fin hrun') ?_
   exact .msl d1 s g (off+l) (r-l) _ b 0 1 _ off (fun hc=>absurd hml (by omega)) hs (by omega) hful hroom'
  ·rw [if_neg hml] at hrun'
   simp only [c6] at hrun'
   refine .same _ H (fin hrun') ?_
   exact .msl d1 s g (off+l) (r-l) _ b 0 1 _ _ (fun hc=>by omega) hs (by omega) hful hroom'
 ·cases hv
theorem rj {t:TypeId} {x:Operand} (ho:o.op= .range t x) (hop:ai P o ρ d gen h=some (v,h')) (hρ: ∀x,ab σ I w (ρ x) (ρc x)) (H:af σ I base w h) (hg:σ gen=none) (hB:aW base w.heap.size):
  aJ σ I base w gen ((execOp ρc o).run P w) v h':=by
 have hr:=hρ x
 simp only [ai,ho] at hop
 split at hop
 ·rename_i s slot hd he hslot
  rw [he] at hr
  have hu:=bl (aG hr)
  simp only [Option.some.injEq,Prod.mk.injEq] at hop
  obtain ⟨rfl,rfl⟩:=hop
  have hG:aZ w (w.alloc (.stringIter s 0)) (.stringIter s 0):=⟨rfl,rfl,rfl,rfl⟩
  have hE:=aB.push (x:=(w.heap.size,0,0)) H hB hg hG
  refine ⟨_,_,.pointer (some ⟨w.heap.size,0,none⟩),_,I,?_,.inl rfl,?_,H.push hg hG d slot (k:=0) (off:=0) ?_,hE,fun g hne=>cx hne⟩
  ·simp only [execOp,ho]
   exact ay (by simp [Instr.range,aC hd,hu])
  ·have:=ab.mptr (σ:=bf σ gen (w.heap.size,0,0)) (I:=I) (w:=w.alloc (.stringIter s 0)) d slot gen 0 0 w.heap.size 0 0 bj
   simpa using this
  ·exact ⟨w.heap.size,0,bj,hG.new,fun hb=>absurd (H.lt _ hb) (by omega),hB.up⟩
 ·rename_i kt vt slot hd he hslot
  rw [he] at hr
  have hu:=bl (aG hr)
  simp only [Option.some.injEq,Prod.mk.injEq] at hop
  obtain ⟨rfl,rfl⟩:=hop
  have hG:aZ w (w.alloc (.mapIter none 0 #[] 0)) (.mapIter none 0 #[] 0):=⟨rfl,rfl,rfl,rfl⟩
  have hE:=aB.push (x:=(w.heap.size,0,0)) H hB hg hG
  refine ⟨_,_,.pointer (some ⟨w.heap.size,0,none⟩),_,I,?_,.inl rfl,?_,H.push hg hG d slot (k:=0) (off:=0) ?_,hE,fun g hne=>cx hne⟩
  ·simp only [execOp,ho]
   exact ay (by simp [Instr.range,aC hd,hu])
  ·have:=ab.mptr (σ:=bf σ gen (w.heap.size,0,0)) (I:=I) (w:=w.alloc (.mapIter none 0 #[] 0)) d slot gen 0 0 w.heap.size 0 0 bj
   simpa using this
  ·exact ⟨w.heap.size,0,bj,⟨none,hG.new,rfl⟩,fun hb=>absurd (H.lt _ hb) (by omega),hB.up⟩
 ·rename_i kt vt d1 s1 g1 slot hd he hslot
  rw [he] at hr
  generalize hcx:ρc x=u at hr
  cases hr with
  | mref _ _ _ b o1 k hs=>
  split at hop
  ·rename_i clock es hl
   simp only [Option.some.injEq,Prod.mk.injEq] at hop
   obtain ⟨rfl,rfl⟩:=hop
   obtain ⟨b',k',hs',⟨a,hh,hent⟩,hnI,hbb⟩:=H.live hl (by simp)
   rw [hs] at hs'
   simp only [Option.some.injEq,Prod.mk.injEq] at hs'
   obtain ⟨rfl,rfl,rfl⟩:=hs'
   have ac:(getObj b).run P w= .ok (.map a clock) w:=by simp [getObj,Sem.run,hh]
   have hG:aZ w (w.alloc (.mapIter (some b) clock #[] clock)) (.mapIter (some b) clock #[] clock):=⟨rfl,rfl,rfl,rfl⟩
   have hE:=aB.push (x:=(w.heap.size,0,0)) H hB hg hG
   refine ⟨_,_,.pointer (some ⟨w.heap.size,0,none⟩),_,I,?_,.inl rfl,?_,H.push hg hG d slot (k:=0) (off:=0) ?_,hE,fun g hne=>cx hne⟩
   ·simp only [execOp,ho]
    exact ay (by simp [Instr.range,aC hd,hcx,ac])
   ·have:=ab.mptr (σ:=bf σ gen (w.heap.size,0,0)) (I:=I) (w:=w.alloc (.mapIter (some b) clock #[] clock)) d slot gen 0 0 w.heap.size 0 0 bj
    simpa using this
   ·exact ⟨w.heap.size,0,bj,⟨some b,hG.new,b,0,k,cl hg _ _ hs,rfl⟩,fun hb=>absurd (H.lt _ hb) (by omega),hB.up⟩
  ·cases hop
 ·cases hop
theorem rk {it:Operand} (ho:o.op= .next it true) (hop:ai P o ρ d gen h=some (v,h')) (hρ: ∀x,ab σ I w (ρ x) (ρc x)) (H:af σ I base w h):
  aJ σ I base w gen ((execOp ρc o).run P w) v h':=by
 have hr:=hρ it
 ·simp only [ai,ho] at hop
  split at hop
  case h_2=>cases hop
  rename_i d1 s g he
  rw [he] at hr
  obtain ⟨b,ob,k,hs,hu⟩:=cp hr
  split at hop
  case h_2=>cases hop
  rename_i bs pos hl
  obtain ⟨b',k',hs',hh,hnI,hbb⟩:=H.live hl (by simp)
  rw [hs] at hs'
  simp only [Option.some.injEq,Prod.mk.injEq] at hs'
  obtain ⟨rfl,rfl,rfl⟩:=hs'
  simp only [Nat.zero_mul,Nat.add_zero] at hu
  have ac:(getObj b).run P w= .ok (.stringIter bs pos) w:=by simp [getObj,Sem.run,hh]
  split at hop
  ·rename_i hpos
   simp only [Option.some.injEq,Prod.mk.injEq] at hop
   obtain ⟨rfl,rfl⟩:=hop
   have hset: ∀o:Obj,(setObj b o).run P w= .ok () { w with heap:=w.heap.setIfInBounds b o} :=by intro o;simp [setObj,Sem.run,hh]
   let w':World:= { w with heap:=w.heap.setIfInBounds b (.stringIter bs (pos+(Utf8.decode bs pos).2))}
   have hoth: ∀b2,b2≠b→w'.heap[b2]? =w.heap[b2]? :=fun b2 hne=>by simp [w',Array.getElem?_setIfInBounds,Ne.symm hne]
   have hlt:=cj hh
   have hsame:w'.heap[b]? =some (.stringIter bs (pos+(Utf8.decode bs pos).2)):=by simp [w',hlt]
   have hk:aO I w w':=by
    refine ⟨fun b2 hb2=>hoth b2 fun e=>hnI (e▸hb2),fun b2 e n hsh=> ?_,fun b2 r hr=>⟨r,by rw [hoth b2 (fun e=>by subst e;rw [hh] at hr;cases hr)];exact hr,bP.refl r⟩,
     fun b2 hr=>by rw [hoth b2 (fun e=>by subst e;rw [hh] at hr;cases hr)];exact hr⟩
    by_cases e2:b2=b
    ·subst e2
     unfold World.shape? at hsh
     rw [hh] at hsh
     cases hsh
    ·rw [fN (hoth b2 e2)];exact hsh
   refine ⟨_,w',.tuple #[.bool true,goInt pos,.int .i32 (Utf8.decode bs pos).1],σ,I,?_,.inl rfl,?_,H.put (fun _ _ h=>h) (fun _ h=>h) hk (hk.inW H.inW) d1 s _ ⟨b,k,hs,hsame,hnI,hbb⟩ ?_,
    ⟨fun _ _ h=>h,fun _ h=>h,fun _ h=> .inl h,hk,⟨rfl,rfl,rfl,by simp [w'],fun k2 hk2=>hoth k2 (fun e=>hbb (e▸hk2))⟩⟩,fun _ _=>rfl⟩
   ·simp only [execOp,ho]
    refine ay ?_
    simp [Instr.next,hu,ac,hpos,hset,w']
   ·refine .pv _ _ ?_
    have:=am.tup (I:=I) (w:=w') [.lit (.bool true),.lit (.int .i64 pos),.lit (.int .i32 (Utf8.decode bs pos).1)] [.bool true,.int .i64 pos,.int .i32 (Utf8.decode bs pos).1] rfl fun j p v hp hv=>by
     match j with
     | 0=>simp at hp hv;subst hp;subst hv;exact .lit _
     | 1=>simp at hp hv;subst hp;subst hv;exact .lit _
     | 2=>simp at hp hv;subst hp;subst hv;exact .lit _
     | j+3=>simp at hp
    exact this
   ·intro d2 s2 b2 hne hb2
    have hf':=aY (H.rows d2 s2) hb2
    have hrowl:=cQ hl (by simp)
    have hbb':b2≠b:=fun e=>hne (H.apart d1 s d2 s2 b (by rw [hrowl];simp [aj,hs]) (e▸hb2))
    exact ⟨hoth b2 hbb',hf'.2.1,by simp [aj,hs];exact Ne.symm hbb'⟩
  ·rename_i hpos
   simp only [Option.some.injEq,Prod.mk.injEq] at hop
   obtain ⟨rfl,rfl⟩:=hop
   refine .same (.tuple #[.bool false]) H ?_ (.pv _ _ ?_)
   ·simp only [execOp,ho]
    refine ay ?_
    simp [Instr.next,hu,ac,hpos]
   ·have:=am.tup (I:=I) (w:=w) [.lit (.bool false)] [.bool false] rfl fun j p v hp hv=>by
     match j with
     | 0=>simp at hp hv;subst hp;subst hv;exact .lit _
     | j+1=>simp at hp
    exact this
end
variable {σ σ':aq} {I I':ah} {base:ah} {w w':World} {h:aa} {P:Program}
theorem ff {b:Nat} {ob:Obj} (ob':Obj) (hh:w.heap[b]? =some ob) (h1: ∀c e fr,ob≠ .cells c e fr) (h2: ∀r,ob≠ .loop r) (h3:ob≠ .deferred (some [])) (hnI: ¬I b) (hbb: ¬base b):
  ∃w':World,w'.heap[b]? =some ob'∧(∀b2,b2≠b→w'.heap[b2]? =w.heap[b2]?)∧aO I w w'∧bT base w w'∧ ∀P,(setObj b ob').run P w= .ok () w':=by
 refine ⟨{ w with heap:=w.heap.setIfInBounds b ob'},?_,?_,?_,?_,?_⟩
 ·simp [cj hh]
 ·intro b2 hne
  simp [Array.getElem?_setIfInBounds,Ne.symm hne]
 ·have hoth: ∀b2,b2≠b→({ w with heap:=w.heap.setIfInBounds b ob'} :World).heap[b2]? =w.heap[b2]? :=fun b2 hne=>by simp [Array.getElem?_setIfInBounds,Ne.symm hne]
  refine ⟨fun b2 hb2=>hoth b2 fun e=>hnI (e▸hb2),fun b2 e n hsh=> ?_,fun b2 r hr=>⟨r,by rw [hoth b2 (fun e=>by subst e;rw [hh] at hr;injection hr with hr;exact h2 _ hr)];exact hr,bP.refl r⟩,
   fun b2 hr=>by rw [hoth b2 (fun e=>by subst e;rw [hh] at hr;injection hr with hr;exact h3 hr)];exact hr⟩
  by_cases e2:b2=b
  ·subst e2
   unfold World.shape? at hsh
   rw [hh] at hsh
   cases ob
   case cells=>exact absurd rfl (h1 _ _ _)
   all_goals cases hsh
  ·rw [fN (hoth b2 e2)];exact hsh
 ·exact ⟨rfl,rfl,rfl,by simp,fun k2 hk2=>by simp [Array.getElem?_setIfInBounds,show ¬b=k2 from fun e=>hbb (e▸hk2)]⟩
 ·intro P
  simp [setObj,Sem.run,hh]
theorem af.setPut (H:af σ I base w h) {d s g b:Nat} {bd:ba} (bd':ba) (hl:Abs.live h d s g=bd) (hne:bd≠ .dead) (hb:aj σ ⟨g,bd⟩=some b) (hb':aj σ ⟨g,bd'⟩=some b) (hk:aO I w w')
  (hoth: ∀b2,b2≠b→w'.heap[b2]? =w.heap[b2]?) (hr:be σ I base w' ⟨g,bd'⟩):af σ I base w' (hput h d s ⟨g,bd'⟩):=by
 refine H.put (fun _ _ h=>h) (fun _ h=>h) hk.zero (hk.inW H.inW) d s _ hr fun d2 s2 b2 hn hb2=> ?_
 have hf:=aY (H.rows d2 s2) hb2
 have hrow:=cQ hl hne
 have hbb:b2≠b:=fun e=>hn (H.apart d s d2 s2 b (by rw [hrow];exact hb) (e▸hb2))
 exact ⟨hoth b2 hbb,hf.2.1,by rw [hb'];simpa using Ne.symm hbb⟩
theorem aH.append {es fs:List ME} {xs ys:List MapEntry} (h:aH σ I w es xs) (k:aH σ I w fs ys):aH σ I w (es++fs) (xs++ys):=by
 induction h with
 | nil=>exact k
 | cons e x es xs hb hk hv h ih=>exact .cons e x _ _ hb hk hv ih
theorem aH.len {es:List ME} {xs:List MapEntry} (h:aH σ I w es xs):xs.length=es.length:=by
 induction h with
 | nil=>rfl
 | cons e x es xs hb hk hv h ih=>simp [ih]
theorem aH.get {es:List ME} {xs:List MapEntry} (h:aH σ I w es xs): ∀(i:Nat) (e:ME),es[i]? =some e→ ∃x,xs[i]? =some x∧x.born=e.born∧x.key=e.key∧ab σ I w e.val x.val:=by
 induction h with
 | nil=>intro i e he;simp at he
 | cons e x es xs hb hk hv h ih=>
  intro i e' he
  cases i with
  | zero=>simp at he;subst he;exact ⟨x,rfl,hb,hk,hv⟩
  | succ i=>simpa using ih i e' (by simpa using he)
theorem aH.filter {p:Nat→Bool} {es:List ME} {xs:List MapEntry} (h:aH σ I w es xs):aH σ I w (es.filter fun e=>p e.born) (xs.filter fun e=>p e.born):=by
 induction h with
 | nil=>exact .nil
 | cons e x es xs hb hk hv h ih=>
  simp only [List.filter_cons,hb]
  split
  ·exact .cons e x _ _ hb hk hv ih
  ·exact ih
theorem aH.all {p:Nat→Bool} {es:List ME} {xs:List MapEntry} (h:aH σ I w es xs):xs.all (fun e=>p e.born)=es.all (fun e=>p e.born):=by
 induction h with
 | nil=>rfl
 | cons e x es xs hb hk hv h ih=>simp only [List.all_cons,hb,ih]
theorem aH.empty {es:List ME} {xs:List MapEntry} (h:aH σ I w es xs):xs.isEmpty=es.isEmpty:=by
 cases h<;>rfl
theorem aH.erase {es:List ME} {xs:List MapEntry} (h:aH σ I w es xs): ∀(i:Nat),aH σ I w (es.eraseIdx i) (xs.eraseIdx i):=by
 induction h with
 | nil=>intro i;exact .nil
 | cons e x es xs hb hk hv h ih=>
  intro i
  cases i with
  | zero=>exact h
  | succ i=>exact .cons e x _ _ hb hk hv (ih i)
theorem aH.set {es:List ME} {xs:List MapEntry} (h:aH σ I w es xs) {key:Value} {v:AV} {u:Value} (hv:ab σ I w v u): ∀(i:Nat),aH σ I w (es.set i ⟨((es[i]?).map (·.born)).getD 0,key,v⟩) (xs.modify i fun e=> { e with key:=key,val:=u}):=by
 induction h with
 | nil=>intro i;simpa using aH.nil
 | cons e x es xs hb hk hv' h ih=>
  intro i
  cases i with
  | zero=>exact .cons _ _ _ _ hb rfl hv h
  | succ i=>simpa using aH.cons e x _ _ hb hk hv' (ih i)
theorem aH.arr_nil {a:Array MapEntry} (h:aH σ I w [] a.toList):a= #[]:=by
 cases a with
 | mk l=>cases h;rfl
theorem aH.arr_one {a:Array MapEntry} {e:ME} (h:aH σ I w [e] a.toList): ∃x,a= #[x]∧x.born=e.born∧x.key=e.key∧ab σ I w e.val x.val:=by
 cases a with
 | mk l=>
  cases h with
  | cons _ x _ xs hb hk hv h=>cases h;exact ⟨x,rfl,hb,hk,hv⟩
theorem kL {since last:Nat} {seen:List Nat} {es:List ME} {r:Option ME} (h:iH since seen last es=some r):
  (!seen.isEmpty&& !es.isEmpty&&es.all (fun e=>decide (last≤e.born)))=false∧d8 since seen es=[]∧(match r with
   | none=>cZ since seen es=[]
   | some e=>cZ since seen es=[e]):=by
 unfold iH at h
 split at h
 ·cases h
 ·rename_i ht
  refine ⟨by simpa using ht,?_⟩
  split at h
  ·rename_i e1 e2;injection h with h;subst h;exact ⟨e2,e1⟩
  ·rename_i e e1 e2;injection h with h;subst h;exact ⟨e2,e1⟩
  ·cases h
theorem nu {kt:TypeId} {kd:TypeDesc} (hk:dj P kt=some kd):P.underlying kt=some kd∧((∃k,kd= .int k)∨kd= .string∨kd= .bool):=by
 unfold dj at hk
 split at hk
 ·rename_i hu;injection hk with hk;subst hk;exact ⟨hu,by simp⟩
 ·rename_i hu;injection hk with hk;subst hk;exact ⟨hu,by simp⟩
 ·rename_i hu;injection hk with hk;subst hk;exact ⟨hu,by simp⟩
 ·cases hk
theorem fg {kt:TypeId} {kd:TypeDesc} (hk:dj P kt=some kd) (e:Bool) (v:Value):(Instr.checkKey e 10000 kt v).run P w= .ok () w:=by
 obtain ⟨hu,hk⟩:=nu hk
 have h0:(10000:Nat)=9999+1:=rfl
 rw [h0]
 unfold Instr.checkKey
 rcases hk with ⟨k,rfl⟩ | rfl | rfl<;>simp [aC hu]
theorem fh {kt:TypeId} {kd:TypeDesc} {key:Value} {xs:List MapEntry} {r:Option (Nat×Value)} (hk:dj P kt=some kd) (hf:Instr.findNow kd key xs 0=some r):(Instr.findKey kt key xs).run P w= .ok r w:=by
 simp [Instr.findKey,aC (nu hk).1,hf]
theorem rl {kd:TypeDesc} {a b:Value} (h:Instr.sameNow kd a b=some true):a=b:=by
 unfold Instr.sameNow at h
 split at h
 ·split at h
  ·rename_i hk
   subst hk
   simp at h
   rw [h]
  ·cases h
 ·injection h with h;rw [(MapKept.bytes_beq _ _).1 h]
 ·simp at h;rw [h]
 ·cases h
theorem rm {kd:TypeDesc} {a b:Value} (h:Instr.sameNow kd a b=some true):(Instr.keyThatStays b a).run P w= .ok a w:=by
 have hab:=rl h
 subst hab
 unfold Instr.sameNow at h
 unfold Instr.keyThatStays
 split at h
 ·simp [Instr.sameBits]
 ·simp [Instr.sameBits,(MapKept.bytes_beq _ _).2 rfl]
 ·simp [Instr.sameBits]
 ·cases h
theorem fU {kd:TypeDesc} {key:Value} {es:List ME} {xs:List MapEntry} (h:aH σ I w es xs): ∀(i:Nat) (r:Option (Nat×AV)),dO kd key es i=some r→
  (r=none→Instr.findNow kd key xs i=some none)∧ ∀j v,r=some (j,v)→ ∃e x u,Instr.findNow kd key xs i=some (some (j,u))∧ab σ I w v u∧i≤j∧es[j-i]? =some e∧xs[j-i]? =some x∧x.key=e.key∧Instr.sameNow kd key e.key=some true:=by
 induction h with
 | nil=>intro i r hr;simp [dO] at hr;subst hr;simp [Instr.findNow]
 | cons e x es xs hb hk hv h ih=>
  intro i r hr
  unfold dO at hr
  split at hr
  ·rename_i hs
   injection hr with hr
   subst hr
   refine ⟨(fun h=>nomatch h),fun j v hj=> ?_⟩
   simp only [Option.some.injEq,Prod.mk.injEq] at hj
   obtain ⟨rfl,rfl⟩:=hj
   exact ⟨e,x,x.val,by simp [Instr.findNow,hk,hs],hv,Nat.le_refl _,by simp,by simp,hk,hs⟩
  ·rename_i hs
   obtain ⟨h1,h2⟩:=ih (i+1) r hr
   refine ⟨fun hn=>by simp [Instr.findNow,hk,hs,h1 hn],fun j v hj=> ?_⟩
   obtain ⟨e',x',u,g1,g2,g3,g4,g5,g6,g7⟩:=h2 j v hj
   refine ⟨e',x',u,by simp [Instr.findNow,hk,hs,g1],g2,by omega,?_,?_,g6,g7⟩
   ·rw [show j-i=(j-(i+1))+1 by omega];simpa using g4
   ·rw [show j-i=(j-(i+1))+1 by omega];simpa using g5
  ·cases hr
theorem nv {cs:List AV} {vs:List Value} (hl:vs.length=cs.length)
  (hr: ∀(j:Nat) (p:AV) (v:Value),cs[j]? =some p→vs[j]? =some v→ab σ I w p v):ab σ I w (dP cs) (.tuple vs.toArray):=by
 unfold dP
 cases ha:aQ cs with
 | none=>exact .tup cs vs hl hr
 | some ps=>
  have hcs:=dX ha
  subst hcs
  refine .pv _ _ (.tup ps vs (by simpa using hl) fun j p v hp hv=> ?_)
  exact aG (hr j (.pv p) v (by simp [hp]) hv)
theorem nw {x y:AV} {u v:Value} (hx:ab σ I w x u) (hy:ab σ I w y v):ab σ I w (dP [x,y]) (.tuple #[u,v]):=
 nv (vs:=[u,v]) rfl fun j p q hp hq=>by
  match j with
  | 0=>simp at hp hq;subst hp;subst hq;exact hx
  | 1=>simp at hp hq;subst hp;subst hq;exact hy
  | j+2=>simp at hp
theorem ny {x y z:AV} {u v t:Value} (hx:ab σ I w x u) (hy:ab σ I w y v) (hz:ab σ I w z t):ab σ I w (dP [x,y,z]) (.tuple #[u,v,t]):=
 nv (vs:=[u,v,t]) rfl fun j p q hp hq=>by
  match j with
  | 0=>simp at hp hq;subst hp;subst hq;exact hx
  | 1=>simp at hp hq;subst hp;subst hq;exact hy
  | 2=>simp at hp hq;subst hp;subst hq;exact hz
  | j+3=>simp at hp
theorem hO (ρ:K2→K2): ∀(n:Nat) (v:AV) (u:Value),ab σ I w v u→ab σ I w (bt ρ n v) u
 | 0,v,u,h=>h
 | n+1,v,u,h=>by
  have lst: ∀ {l:List AV} {vs:List Value},(∀(j:Nat) (p:AV) (v:Value),l[j]? =some p→vs[j]? =some v→ab σ I w p v)→ ∀(j:Nat) (p:AV) (v:Value),(l.map (bt ρ n))[j]? =some p→vs[j]? =some v→ab σ I w p v:=by
   intro l vs hr j p v hp hv
   rw [List.getElem?_map,Option.map_eq_some_iff] at hp
   obtain ⟨q,hq,rfl⟩:=hp
   exact hO ρ n q v (hr j q v hq hv)
  cases h with
  | pv p _ h=>exact .pv p _ h
  | mptr d s g i off b o k h=>exact .mptr _ _ g i off b o k h
  | msl d s g off m full b o k cap ad had h hn hfull hroom=>exact .msl _ _ g off m full b o k cap ad had h hn hfull hroom
  | agg cs vs hl h1 hr=>exact .agg _ vs (by simpa using hl) h1 (lst hr)
  | tup cs vs hl hr=>exact .tup _ vs (by simpa using hl) (lst hr)
  | clo f a b va vb hla hlb hra hrb=>exact .clo f _ _ va vb (by simpa using hla) (by simpa using hlb) (lst hra) (lst hrb)
  | yld d s g b o k h=>exact .yld d s g b o k h
  | ifc t _ _ h=>exact .ifc t _ _ (hO ρ n _ _ h)
  | btag t=>exact .btag t
  | mref d s g b o k h=>exact .mref _ _ g b o k h
theorem rn (ρ:K2→K2) (n:Nat) (v:AV):
  (bt ρ (n+1) v).cells.length=v.cells.length∧(bt ρ (n+1) v).ok=v.ok∧bC (bt ρ (n+1) v)=bC v∧ ∀(j:Nat) (p:AV),(bt ρ (n+1) v).cells[j]? =some p→ ∃q m,v.cells[j]? =some q∧p=bt ρ m q:=by
 have tag: ∀(m:Nat) (x:AV),eO (some (bt ρ m x))=eO (some x):=by
  intro m x
  cases m with
  | zero=>rfl
  | succ m=>cases x<;>rfl
 have one: ∀ {x:AV},x.cells=[x]→(bt ρ (n+1) x).cells=[bt ρ (n+1) x]→(bt ρ (n+1) x).cells.length=x.cells.length∧bC (bt ρ (n+1) x)=bC x∧ ∀(j:Nat) (p:AV),(bt ρ (n+1) x).cells[j]? =some p→ ∃q m,x.cells[j]? =some q∧p=bt ρ m q:=by
  intro x h1 h2
  rw [h1,h2]
  refine ⟨rfl,?_,fun j p hp=> ?_⟩
  ·unfold bC;rw [h1,h2];exact tag (n+1) x
  ·cases j with
   | zero=>simp at hp;subst hp;exact ⟨x,n+1,rfl,rfl⟩
   | succ j=>simp at hp
 cases v with
 | pv p=>exact ⟨rfl,rfl,rfl,fun j q hq=>⟨q,0,hq,rfl⟩⟩
 | mptr d s g i off=>exact ⟨rfl,rfl,(one rfl rfl).2.1,(one rfl rfl).2.2⟩
 | msl d s g off m full=>exact ⟨rfl,rfl,(one rfl rfl).2.1,(one rfl rfl).2.2⟩
 | tup l=>exact ⟨rfl,rfl,(one rfl rfl).2.1,(one rfl rfl).2.2⟩
 | clo f a b=>exact ⟨rfl,rfl,(one rfl rfl).2.1,(one rfl rfl).2.2⟩
 | yld d s g=>exact ⟨rfl,rfl,(one rfl rfl).2.1,(one rfl rfl).2.2⟩
 | ifc t v=>exact ⟨rfl,rfl,(one rfl rfl).2.1,(one rfl rfl).2.2⟩
 | btag t=>exact ⟨rfl,rfl,(one rfl rfl).2.1,(one rfl rfl).2.2⟩
 | mref d s g=>exact ⟨rfl,rfl,(one rfl rfl).2.1,(one rfl rfl).2.2⟩
 | agg l=>
  refine ⟨by simp [bt,AV.cells],rfl,?_,fun j p hp=> ?_⟩
  ·unfold bC
   simp only [bt,AV.cells]
   cases l with
   | nil=>rfl
   | cons x l=>exact tag n x
  ·simp only [bt,AV.cells,List.getElem?_map,Option.map_eq_some_iff] at hp
   obtain ⟨q,hq,rfl⟩:=hp
   exact ⟨q,n,hq,rfl⟩
theorem ro (ρ:K2→K2) {es:List ME} {xs:List MapEntry} (h:aH σ I w es xs):aH σ I w (es.map fun e=> { e with val:=bt ρ ao e.val}) xs:=by
 induction h with
 | nil=>exact .nil
 | cons e x es xs hb hk hv h ih=>exact .cons _ x _ xs hb hk (hO ρ _ _ _ hv) ih
theorem rp (ρ:K2→K2) {g:Nat} {b:ba} (h:be σ I base w ⟨g,b⟩):be σ I base w ⟨g,j2 ρ b⟩∧aj σ ⟨g,j2 ρ b⟩=aj σ ⟨g,b⟩:=by
 cases b with
 | box v fz=>
  obtain ⟨b,e,hs,hsh,hok,hc,hz⟩:=h
  obtain ⟨k1,k2,k3,k4⟩:=rn ρ 7 v
  refine ⟨⟨b,e,hs,by rw [show (bt ρ ao v).cells.length=v.cells.length from k1];exact hsh,jb hok (k2.trans (ja hok)) (.inl k3),fun j p hp=> ?_,by rw [show (bt ρ ao v).cells.length=v.cells.length from k1];exact hz⟩,by cases fz<;>rfl⟩
  obtain ⟨q,m,hq,rfl⟩:=k4 j p hp
  obtain ⟨u,h1,h2,h3⟩:=hc j q hq
  exact ⟨u,h1,h2,hO ρ m q u h3⟩
 | map c es=>
  obtain ⟨b,k,hs,⟨a,hh,hent⟩,h1,h2⟩:=h
  exact ⟨⟨b,k,hs,⟨a,hh,ro ρ hent⟩,h1,h2⟩,rfl⟩
 | dead=>exact ⟨h,rfl⟩
 | row k e xs fz=>exact ⟨h,rfl⟩
 | iter s p=>exact ⟨h,rfl⟩
 | lp st=>exact ⟨h,rfl⟩
 | mit m a b c=>exact ⟨h,rfl⟩
theorem nz (ρ:K2→K2): ∀(ks:List K2) (n:Nat) {h:aa},af σ I base w h→af σ I base w (iK ρ ks n h)
 | [],_,_,H=>H
 | k::ks,n,h,H=>by
  unfold iK
  refine nz ρ ks (n+1) ?_
  have hrow:=H.rows k.1 k.2
  obtain ⟨h1,h2⟩:=rp (σ:=σ) (I:=I) (base:=base) (w:=w) ρ (g:=(ac h k.1 k.2).g) (b:=(ac h k.1 k.2).b) hrow
  refine (H.kill k.1 k.2).put (fun _ _ h=>h) (fun _ h=>h) (aO.refl I w).zero H.inW 0 n _ h1 fun d' s' b' hne hb'=> ?_
  rw [bY] at hb'
  split at hb'
  ·simp [aj,ae] at hb'
  ·rename_i hk
   refine ⟨rfl,(aY (H.rows d' s') hb').2.1,fun he=> ?_⟩
   rw [h2] at he
   exact hk (H.apart k.1 k.2 d' s' b' he hb')
theorem nA (ks:List K2) {v:AV} {u:Value} (hr:ab σ I w v u) (H:af σ I base w h):ab σ I w (fG ks h v).1 u∧af σ I base w (fG ks h v).2:=
 ⟨hO _ _ _ _ hr,nz _ _ _ H⟩
theorem rq {v v1:AV} {h1:aa} {u:Value} (he:gC h v=some (v1,h1)) (hr:ab σ I w v u) (H:af σ I base w h): ∃I',ab σ I' w v1 u∧af σ I' base w h1∧bU I I' base:=by
 have mv: ∀(ks:List K2) (v0:AV),v0=v→some (fG ks h v0)=some (v1,h1)→ ∃I',ab σ I' w v1 u∧af σ I' base w h1∧bU I I' base:=by
  intro ks v0 hv0 hm
  subst hv0
  have:=nA ks hr H
  injection hm with hm
  rw [hm] at this
  exact ⟨I,this.1,this.2,bU.refl⟩
 unfold gC at he
 split at he
 ·exact mv _ _ rfl he
 ·exact mv _ _ rfl he
 ·exact mv _ _ rfl he
 ·simp only [Option.map_eq_some_iff,Prod.mk.injEq] at he
  obtain ⟨⟨p,h2⟩,hf,rfl,rfl⟩:=he
  obtain ⟨I',h1,h2,h3⟩:=fQ _ _ _ _ _ u I hf hr H
  exact ⟨I',.pv _ _ h1,h2,h3⟩
section
variable {ρ:Operand→AV} {ρc:Operand→Value} {d gen:Nat} {o:Oper} {v:AV} {h':aa}
theorem em (H:af σ I base w h) {d s g clock b o1 k:Nat} {es:List ME} (hl:Abs.live h d s g= .map clock es) (hs:σ g=some (b,o1,k)):
  ∃a:Array MapEntry,w.heap[b]? =some (Obj.map a clock)∧aH σ I w es a.toList∧ ¬I b∧ ¬base b∧o1=0∧aj σ ⟨g,.map clock es⟩=some b∧ ∀P,(getObj b).run P w= .ok (.map a clock) w:=by
 obtain ⟨b',k',hs',⟨a,hh,hent⟩,hnI,hbb⟩:=H.live hl (by simp)
 rw [hs] at hs'
 simp only [Option.some.injEq,Prod.mk.injEq] at hs'
 obtain ⟨rfl,rfl,rfl⟩:=hs'
 exact ⟨a,hh,hent,hnI,hbb,rfl,by simp [aj,hs],fun P=>by simp [getObj,Sem.run,hh]⟩
theorem hU {d s g:Nat} {u:Value} (hr:ab σ I w (.mref d s g) u): ∃b o k,σ g=some (b,o,k)∧u= .map (some b):=by
 cases hr with
 | mref _ _ _ b o k h=>exact ⟨b,o,k,h,rfl⟩
theorem rt {t:TypeId} {r:Option Operand} (ho:o.op= .makeMap t r) (hop:ai P o ρ d gen h=some (v,h')) (H:af σ I base w h) (hg:σ gen=none) (hB:aW base w.heap.size):
  aJ σ I base w gen ((execOp ρc o).run P w) v h':=by
 cases r with
 | some r=>simp [ai,ho] at hop
 | none=>
  simp only [ai,ho,Option.map_eq_some_iff,Prod.mk.injEq] at hop
  obtain ⟨s,hs,rfl,rfl⟩:=hop
  have hG:aZ w (w.alloc (.map #[] 0)) (.map #[] 0):=⟨rfl,rfl,rfl,rfl⟩
  have hE:=aB.push (x:=(w.heap.size,0,0)) H hB hg hG
  refine ⟨_,_,.map (some w.heap.size),_,I,?_,.inl rfl,.mref _ _ _ w.heap.size 0 0 bj,H.push hg hG d s (k:=0) (off:=0) ?_,hE,fun g hne=>cx hne⟩
  ·simp only [execOp,ho]
   exact ay (by simp [Instr.makeMap])
  ·exact ⟨w.heap.size,0,bj,⟨#[],hG.new,.nil⟩,fun hb=>absurd (H.lt _ hb) (by omega),hB.up⟩
theorem ru {t:TypeId} {m k:Operand} {ok:Bool} (ho:o.op= .lookup t m k ok) (hop:ai P o ρ d gen h=some (v,h')) (hρ: ∀x,ab σ I w (ρ x) (ρc x)) (H:af σ I base w h):
  aJ σ I base w gen ((execOp ρc o).run P w) v h':=by
 have hrm:=hρ m
 have hrk:=hρ k
 have zero: ∀(z:Value),ab σ I w (if ok then .pv (.tup [aA z,.lit (.bool false)]) else .pv (aA z)) (if ok then .tuple #[z,.bool false] else z):=by
  intro z
  cases ok with
  | false=>exact .pv _ _ (ej z)
  | true=>
   refine .pv _ _ (.tup [aA z,.lit (.bool false)] [z,.bool false] rfl fun j p v hp hv=> ?_)
   match j with
   | 0=>simp at hp hv;subst hp;subst hv;exact ej z
   | 1=>simp at hp hv;subst hp;subst hv;exact .lit _
   | j+2=>simp at hp
 simp only [ai,ho] at hop
 split at hop
 ·rename_i kt vt key hd hm hk
  rw [hm] at hrm
  have hu:=bl (aG hrm)
  simp only [Option.bind_eq_some_iff,Option.map_eq_some_iff,Prod.mk.injEq] at hop
  obtain ⟨kd,hkd,z,hz,rfl,rfl⟩:=hop
  refine .same _ H ?_ (zero z)
  simp only [execOp,ho]
  refine ay ?_
  simp [Instr.lookup,aC hd,hu,fg hkd,fh (key:=ρc k) hkd (show Instr.findNow kd (ρc k) [] 0=some none from rfl),ei hz]
 ·rename_i kt vt d1 s g key hd hm hk
  rw [hm] at hrm
  rw [hk] at hrk
  obtain ⟨b,o1,k1,hs,hu⟩:=hU hrm
  have huk:=bl (aG hrk)
  split at hop
  ·rename_i clock es hl
   obtain ⟨a,hh,hent,hnI,hbb,_,_,ac⟩:=em H hl hs
   simp only [Option.bind_eq_some_iff] at hop
   obtain ⟨kd,hkd,hop⟩:=hop
   split at hop
   ·rename_i j v1 hf
    simp only [Option.some.injEq,Prod.mk.injEq] at hop
    obtain ⟨rfl,rfl⟩:=hop
    obtain ⟨e,x,u,g1,g2,_⟩:=(fU hent 0 _ hf).2 j v1 rfl
    refine .same (if ok then .tuple #[u,.bool true] else u) H ?_ ?_
    ·simp only [execOp,ho]
     refine ay ?_
     simp [Instr.lookup,aC hd,hu,huk,ac,fg hkd,fh hkd g1]
    ·cases ok with
     | false=>exact g2
     | true=>exact nw g2 (.pv _ _ (.lit _))
   ·rename_i hf
    simp only [Option.map_eq_some_iff,Prod.mk.injEq] at hop
    obtain ⟨z,hz,rfl,rfl⟩:=hop
    have g1:=(fU hent 0 _ hf).1 rfl
    refine .same _ H ?_ (zero z)
    simp only [execOp,ho]
    refine ay ?_
    simp [Instr.lookup,aC hd,hu,huk,ac,fg hkd,fh hkd g1,ei hz]
   ·cases hop
  ·cases hop
 ·cases hop
theorem nB {t:TypeId} {m k x:Operand} (ho:o.op= .mapUpdate t m k x∨o.op= .insert t m k x) (hop:ai P o ρ d gen h=some (v,h')) (hρ: ∀x,ab σ I w (ρ x) (ρc x)) (H:af σ I base w h):
  aJ σ I base w gen ((execOp ρc o).run P w) v h':=by
 have hrm:=hρ m
 have hrk:=hρ k
 have hex:execOp ρc o=(do Instr.mapUpdate t (ρc m) (ρc k) (ρc x);pure Next.skip):=by rcases ho with ho | ho<;>simp only [execOp,ho]
 have hop:(match P.underlying t,ρ m,ρ k with
  | some (.map kt _),.mref d s g,.pv (.lit key)=>(dj P kt).bind fun kd=>(gC h (ρ x)).bind fun (v,h1)=>match Abs.live h1 d s g with
   | .map clock es=>match dO kd key es 0 with
    | some (some (i,_))=>some (bb,hput h1 d s ⟨g,.map clock (es.set i ⟨((es[i]?).map (·.born)).getD 0,key,v⟩)⟩)
    | some none=>some (bb,hput h1 d s ⟨g,.map (clock+1) (es++[⟨clock,key,v⟩])⟩)
    | none=>none
   | _=>none
  | _,_,_=>none)=some (v,h'):=by
  rcases ho with ho | ho<;>(simp only [ai,ho] at hop;exact hop)
 split at hop
 ·rename_i kt vt d1 s g key hd hm hk
  rw [hm] at hrm
  rw [hk] at hrk
  obtain ⟨b,o1,k1,hs,hu⟩:=hU hrm
  have huk:=bl (aG hrk)
  simp only [Option.bind_eq_some_iff,Prod.exists] at hop
  obtain ⟨kd,hkd,v1,h1,hkp,hop⟩:=hop
  obtain ⟨I1,hrv,H1,hmore⟩:=rq hkp (hρ x) H
  split at hop
  ·rename_i clock es hl
   obtain ⟨a,hh,hent,hnI,hbb,rfl,hblk,ac⟩:=em H1 hl hs
   split at hop
   ·rename_i j v0 hf
    simp only [Option.some.injEq,Prod.mk.injEq] at hop
    obtain ⟨rfl,rfl⟩:=hop
    obtain ⟨e,y,u,g1,g2,_,g4,g5,g6,g7⟩:=(fU hent 0 _ hf).2 j v0 rfl
    simp only [Nat.sub_zero] at g4 g5
    obtain ⟨w1,f1,f2,f3,f4,f5⟩:=ff (I:=I1) (base:=base) (.map (a.modify j fun e=> { e with key:=key,val:=ρc x}) clock) hh (by simp) (by simp) (by simp) hnI hbb
    refine ⟨_,w1,undef,σ,I1,?_,.inr ⟨rfl,rfl⟩,.pv _ _ (.lit _),H1.setPut _ hl (by simp) hblk (by simp [aj,hs]) f3 f2 ?_,⟨fun _ _ h=>h,hmore.1,hmore.2,⟨fun b hb=>f3.keep b (hmore.1 b hb),f3.shape,f3.loop,f3.dfr⟩,f4⟩,fun _ _=>rfl⟩
    ·rw [hex]
     refine kA ?_
     have g5':a[j]? =some y:=by simpa using g5
     simp [Instr.mapUpdate,aC hd,hu,huk,ac,fg hkd,fh hkd g1,g5',g6,rm g7,f5]
    ·refine ⟨b,k1,hs,⟨_,f1,?_⟩,hnI,hbb⟩
     rw [Array.toList_modify]
     exact (hent.mono (fun _ _ h=>h) (fun _ h=>h) f3.zero).set (hrv.mono (fun _ _ h=>h) (fun _ h=>h) f3.zero) j
   ·rename_i hf
    simp only [Option.some.injEq,Prod.mk.injEq] at hop
    obtain ⟨rfl,rfl⟩:=hop
    have g1:=(fU hent 0 _ hf).1 rfl
    obtain ⟨w1,f1,f2,f3,f4,f5⟩:=ff (I:=I1) (base:=base) (.map (a.push { key:=key,val:=ρc x,born:=clock}) (clock+1)) hh (by simp) (by simp) (by simp) hnI hbb
    refine ⟨_,w1,undef,σ,I1,?_,.inr ⟨rfl,rfl⟩,.pv _ _ (.lit _),H1.setPut _ hl (by simp) hblk (by simp [aj,hs]) f3 f2 ?_,⟨fun _ _ h=>h,hmore.1,hmore.2,⟨fun b hb=>f3.keep b (hmore.1 b hb),f3.shape,f3.loop,f3.dfr⟩,f4⟩,fun _ _=>rfl⟩
    ·rw [hex]
     refine kA ?_
     simp [Instr.mapUpdate,aC hd,hu,huk,ac,fg hkd,fh hkd g1,f5]
    ·refine ⟨b,k1,hs,⟨_,f1,?_⟩,hnI,hbb⟩
     rw [Array.toList_push]
     exact (hent.mono (fun _ _ h=>h) (fun _ h=>h) f3.zero).append (.cons _ _ _ _ rfl rfl (hrv.mono (fun _ _ h=>h) (fun _ h=>h) f3.zero) .nil)
   ·cases hop
  ·cases hop
 ·cases hop
theorem aH.find {p:Nat→Bool} {es:List ME} {xs:List MapEntry} (h:aH σ I w es xs): ∀e,es.find? (fun e=>p e.born)=some e→ ∃x,xs.find? (fun e=>p e.born)=some x∧x.key=e.key∧ab σ I w e.val x.val:=by
 induction h with
 | nil=>intro e he;simp at he
 | cons e x es xs hb hk hv h ih=>
  intro e' he
  rw [List.find?_cons] at he ⊢
  rw [hb]
  split at he
  ·injection he with he;subst he;exact ⟨x,rfl,hk,hv⟩
  ·exact ih e' he
theorem rx {it:Operand} (ho:o.op= .entry it) (hop:ai P o ρ d gen h=some (v,h')) (hρ: ∀x,ab σ I w (ρ x) (ρc x)) (H:af σ I base w h):
  aJ σ I base w gen ((execOp ρc o).run P w) v h':=by
 have hr:=hρ it
 simp only [ai,ho] at hop
 split at hop
 case h_2=>cases hop
 rename_i d1 s g he
 rw [he] at hr
 obtain ⟨b,ob,k,hs,hu⟩:=cp hr
 split at hop
 case h_2=>cases hop
 rename_i d2 s2 g2 since seen last hl
 obtain ⟨b',k',hs',⟨bm,hh,b2,o2,k2,hs2,hbm⟩,hnI,hbb⟩:=H.live hl (by simp)
 rw [hs] at hs'
 simp only [Option.some.injEq,Prod.mk.injEq] at hs'
 obtain ⟨rfl,rfl,rfl⟩:=hs'
 subst hbm
 simp only [Nat.zero_mul,Nat.add_zero] at hu
 have ac:(getObj b).run P w= .ok (.mapIter (some b2) since seen.toArray last) w:=by simp [getObj,Sem.run,hh]
 split at hop
 case h_2=>cases hop
 rename_i clock es hl2
 obtain ⟨a,hh2,hent,_,_,_,_,hget2⟩:=em H hl2 hs2
 split at hop
 case h_2=>cases hop
 rename_i stamp hst
 split at hop
 case isFalse=>cases hop
 rename_i hcl
 simp only [Option.map_eq_some_iff,Prod.mk.injEq] at hop
 obtain ⟨e,hfe,rfl,rfl⟩:=hop
 obtain ⟨x,hfx,hxk,hxv⟩:=hent.find (p:=fun n=>n==stamp) e hfe
 have hfa:a.find? (fun e=>e.born==stamp)=some x:=by rw [←Array.find?_toList];exact hfx
 have hback:seen.toArray.back?=some stamp:=by rw [List.back?_toArray];exact hst
 refine .same (.tuple #[x.key,x.val]) H ?_ (nw (by rw [hxk];exact .pv _ _ (.lit _)) hxv)
 simp only [execOp,ho]
 refine ay ?_
 simp only [Instr.entry,hu,Sem.run_bind,ac,Result.andThen_ok,hback,hget2,hcl,bne_self_eq_false,Bool.false_eq_true,if_false,hfa]
 rfl
theorem ry {it:Operand} (ho:o.op= .next it false) (hop:ai P o ρ d gen h=some (v,h')) (hρ: ∀x,ab σ I w (ρ x) (ρc x)) (H:af σ I base w h):
  aJ σ I base w gen ((execOp ρc o).run P w) v h':=by
 have hr:=hρ it
 have over: ∀(w:World),ab σ I w (.pv (.tup [.lit (.bool false)])) (.tuple #[.bool false]):=fun w=> .pv _ _ (.tup [.lit (.bool false)] [.bool false] rfl fun j p v hp hv=>by
  match j with
  | 0=>simp at hp hv;subst hp;subst hv;exact .lit _
  | j+1=>simp at hp)
 simp only [ai,ho] at hop
 split at hop
 case h_2=>cases hop
 rename_i d1 s g he
 rw [he] at hr
 obtain ⟨b,ob,k,hs,hu⟩:=cp hr
 split at hop
 ·rename_i s1 s2 l1 hl
  obtain ⟨b',k',hs',⟨bm,hh,hbm⟩,hnI,hbb⟩:=H.live hl (by simp)
  rw [hs] at hs'
  simp only [Option.some.injEq,Prod.mk.injEq] at hs'
  obtain ⟨rfl,rfl,rfl⟩:=hs'
  simp only at hbm
  subst hbm
  simp only [Nat.zero_mul,Nat.add_zero] at hu
  simp only [Option.some.injEq,Prod.mk.injEq] at hop
  obtain ⟨rfl,rfl⟩:=hop
  have ac:(getObj b).run P w= .ok (.mapIter none s1 s2.toArray l1) w:=by simp [getObj,Sem.run,hh]
  refine .same (.tuple #[.bool false]) H ?_ (over w)
  simp only [execOp,ho]
  refine ay ?_
  simp [Instr.next,hu,ac]
 ·rename_i d2 s2 g2 since seen last hl
  obtain ⟨b',k',hs',⟨bm,hh,b2,o2,k2,hs2,hbm⟩,hnI,hbb⟩:=H.live hl (by simp)
  rw [hs] at hs'
  simp only [Option.some.injEq,Prod.mk.injEq] at hs'
  obtain ⟨rfl,rfl,rfl⟩:=hs'
  subst hbm
  simp only [Nat.zero_mul,Nat.add_zero] at hu
  have ac:(getObj b).run P w= .ok (.mapIter (some b2) since seen.toArray last) w:=by simp [getObj,Sem.run,hh]
  split at hop
  ·rename_i clock es hl2
   obtain ⟨a,hh2,hent,_,_,_,_,hget2⟩:=em H hl2 hs2
   have hold:aH σ I w (cZ since seen es) ((a.filter fun e=> !seen.toArray.contains e.born).filter (fun e=>decide (e.born<since))).toList:=by
    have:=hent.filter (p:=fun n=> !seen.contains n&&decide (n<since))
    simpa [cZ,Bool.and_comm] using this
   have hnew:aH σ I w (d8 since seen es) ((a.filter fun e=> !seen.toArray.contains e.born).filter (fun e=>decide (e.born≥since))).toList:=by
    have:=hent.filter (p:=fun n=> !seen.contains n&&decide (since≤n))
    simpa [d8,Bool.and_comm] using this
   have htest: ∀ {r},iH since seen last es=some r→(!seen.toArray.isEmpty&& !a.isEmpty&&a.all (fun e=>decide (e.born≥last)))=false:=by
    intro r hx
    have h1:=(kL hx).1
    have h2:a.all (fun e=>decide (e.born≥last))=es.all (fun e=>decide (last≤e.born)):=by
     rw [←Array.all_toList];exact hent.all (p:=fun n=>decide (last≤n))
    have h3:a.isEmpty=es.isEmpty:=by rw [←hent.empty];cases a;simp
    rw [h2,h3]
    simpa using h1
   split at hop
   ·rename_i hx
    simp only [Option.some.injEq,Prod.mk.injEq] at hop
    obtain ⟨rfl,rfl⟩:=hop
    obtain ⟨_,e2,e1⟩:=kL hx
    simp only at e1
    rw [e1] at hold
    rw [e2] at hnew
    have f1:=hold.arr_nil
    have f2:=hnew.arr_nil
    refine .same (.tuple #[.bool false]) H ?_ (over w)
    simp only [execOp,ho]
    refine ay ?_
    simp only [Instr.next,hu,Sem.run_bind,ac,Result.andThen_ok,hget2,htest hx,Bool.false_eq_true,if_false,f1,f2]
    simp [choose,Sem.run,Question.forced]
   ·rename_i e hx
    simp only [Option.some.injEq,Prod.mk.injEq] at hop
    obtain ⟨rfl,rfl⟩:=hop
    obtain ⟨_,e2,e1⟩:=kL hx
    simp only at e1
    rw [e1] at hold
    rw [e2] at hnew
    obtain ⟨x,f1,hxb,hxk,hxv⟩:=hold.arr_one
    have f2:=hnew.arr_nil
    obtain ⟨w1,g1,g2,g3,g4,g5⟩:=ff (I:=I) (base:=base) (.mapIter (some b2) since (seen++[x.born]).toArray clock) hh (by simp) (by simp) (by simp) hnI hbb
    refine ⟨_,w1,.tuple #[.bool true,x.key,x.val],σ,I,?_,.inl rfl,ny (.pv _ _ (.lit _)) (by rw [hxk];exact .pv _ _ (.lit _)) (hxv.mono (fun _ _ h=>h) (fun _ h=>h) g3.zero),
     H.setPut _ hl (by simp) (by simp [aj,hs]) (by simp [aj,hs]) g3 g2 ⟨b,k,hs,⟨some b2,?_,b2,o2,k2,hs2,rfl⟩,hnI,hbb⟩,⟨fun _ _ h=>h,fun _ h=>h,fun _ h=> .inl h,g3,g4⟩,fun _ _=>rfl⟩
    ·simp only [execOp,ho]
     refine ay ?_
     simp only [Instr.next,hu,Sem.run_bind,ac,Result.andThen_ok,hget2,htest hx,Bool.false_eq_true,if_false,f1,f2]
     simp [choose,Sem.run,Question.forced,g5]
    ·rw [g1,←hxb]
   ·cases hop
  ·cases hop
 ·cases hop
end
variable {σ σ':aq} {I I':ah} {base:ah} {w w':World} {h:aa} {P:Program}
section
variable {ρ:Operand→AV} {ρc:Operand→Value} {d gen:Nat} {o:Oper} {v:AV} {h':aa}
theorem fV {α β:Type} {f:α→β} {l:Array α} {y:β} (hm:l.toList.map f=[y]): ∃x,l= #[x]∧f x=y:=by
 cases l with
 | mk l=>
  match l,hm with
  | [x],hm=>simp at hm;exact ⟨x,rfl,hm⟩
theorem kM {α β:Type} {f:α→β} {l:Array α} {y z:β} (hm:l.toList.map f=[y,z]): ∃x x',l= #[x,x']∧f x=y∧f x'=z:=by
 cases l with
 | mk l=>
  match l,hm with
  | [x,x'],hm=>simp at hm;exact ⟨x,x',rfl,hm.1,hm.2⟩
theorem rz {b:Builtin} {args:Array Operand} {argTypes:Array TypeId} (ho:o.op= .call { callee:= .builtin b,args,argTypes}):
  ∃consts,(execOp ρc o).run P w=(builtin b argTypes o.type consts (args.map ρc)).run P w:=by
 refine ⟨args.map fun | .const _=>true | _=>false,?_⟩
 simp only [execOp,ho,resolve,Sem.run_bind,Sem.run_pure,Result.andThen_ok,invoke]
 rfl
theorem rA {x:AV} {u:Value} (hr:ab σ I w x u):(∀k nl full xs,x= .pv (.sl k nl full xs)→ ∃a c,u= .slice a xs.length c)∧(∀d s g off n full,x= .msl d s g off n full→ ∃a c,u= .slice a n c):=by
 refine ⟨?_,?_⟩
 ·rintro k nl full xs rfl
  have:=aG hr
  cases this with
  | nil=>exact ⟨_,_,rfl⟩
  | emp=>exact ⟨_,_,rfl⟩
  | sl=>exact ⟨_,_,rfl⟩
 ·rintro d s g off n full rfl
  cases hr with
  | msl=>exact ⟨_,_,rfl⟩
theorem rB {x:AV} {u:Value} (hr:ab σ I w x u):(∀k nl xs,x= .pv (.sl k nl true xs)→ ∃a,u= .slice a xs.length xs.length)∧(∀d s g off n,x= .msl d s g off n true→ ∃a,u= .slice a n n):=by
 refine ⟨?_,?_⟩
 ·rintro k nl xs rfl
  have:=aG hr
  cases this with
  | nil=>exact ⟨_,rfl⟩
  | emp _ _ a cap hf=>rw [hf rfl];exact ⟨_,rfl⟩
  | sl _ _ _ b o cap vs hc hf=>rw [hf rfl];exact ⟨_,rfl⟩
 ·rintro d s g off n rfl
  cases hr with
  | msl _ _ _ _ _ _ b o k cap ad had hs hn hf=>rw [hf rfl];exact ⟨_,rfl⟩
theorem fi {argTypes:Array TypeId} {dd:TypeDesc} (hb:(argTypes[0]?).bind P.underlying=some dd): ∃t,argTypes[0]? =some t∧P.underlying t=some dd:=by
 simpa only [Option.bind_eq_some_iff] using hb
theorem rC {z:Value} (hok:(aA z).ok=true) (hag:(aA z).isAgg=false): ∃c,z.cells= #[c]∧c.oneCell'=true∧ ∀(I:ah) (w:World),am I w (aA z) c:=by
 have hc:(aA z).cells=[aA z]:=by
  cases he:aA z<;>rw [he] at hag<;>first | rfl | (simp [PV.isAgg] at hag)
 have h1:=fun (I:ah) (w:World)=>(ej (I:=I) (w:=w) z).cells hok
 have hs:z.cells.size=1:=by
  have:=(h1 (fun _=>False) { (default:World) with}).1
  rw [hc] at this;simpa using this
 obtain ⟨c,hcz⟩: ∃c,z.cells= #[c]:=by
  refine ⟨z.cells[0],?_⟩
  apply Array.ext
  ·simpa using hs
  ·intro i hi1 hi2
   have:i=0:=by simp at hi2;omega
   subst this;rfl
 refine ⟨c,hcz,(h1 (fun _=>False) { (default:World) with}).2.1 c (by rw [hcz];simp),fun I w=> ?_⟩
 exact (h1 I w).2.2 0 _ _ (by rw [hc];rfl) (by rw [hcz];rfl)
theorem rD {d s g k e b o1 i0:Nat} {xs ys:List PV} {arr:Array Value} (H:af σ I base w h) (hl:Abs.live h d s g= .row k e xs false) (hs:σ g=some (b,o1,k)) (hra:cb I w k ys arr) (hsz:arr.size=ys.length*k) (hle:i0+ys.length≤xs.length):
  af σ I base (w.setCells b (o1+i0*k) arr.toList) (hput h d s ⟨g,.row k e (bN xs i0 ys) false⟩)∧aB base σ I w σ I (w.setCells b (o1+i0*k) arr.toList)∧ ∃e1 m,w.shape? b=some (e1,m)∧o1+i0*k+arr.toList.length≤m∧Fr w m b:=by
 obtain ⟨b',o',n',hs',hsh,hn,hx,hc,hz⟩:=H.live hl (by simp)
 rw [hs] at hs'
 simp only [Option.some.injEq,Prod.mk.injEq] at hs'
 obtain ⟨rfl,rfl,_⟩:=hs'
 have hroom:i0*k+ys.length*k≤xs.length*k:=by rw [←Nat.add_mul];exact Nat.mul_le_mul_right k hle
 have hal:arr.toList.length=ys.length*k:=by simpa using hsz
 have hkeep:aO I w (w.setCells b (o1+i0*k) arr.toList):=fO hz.1
 obtain ⟨H',E'⟩:=H.store (us:=arr.toList) (off:=o1+i0*k) (bd':= .row k e (bN xs i0 ys) false) hl (by simp) hs (by simp [aj,hs]) (by simp [aj,hs]) (by
  refine ⟨b,o1,n',hs,by rw [eh];exact hsh,by rw [fe hle];exact hn,fun y hy=> ?_,fun i y hy j p hp=> ?_,⟨hz.1,hz.2.1,fun j hj=>by rw [World.frozen?_setCells];exact hz.2.2 j hj⟩⟩
  ·obtain ⟨i,hi⟩:=List.mem_iff_getElem?.1 hy
   rw [fc hle] at hi
   split at hi
   ·exact hra.elem y (List.mem_of_getElem? hi)
   ·exact hx y (List.mem_of_getElem? hi)
  ·have hyk:y.cells.length=k:=by
    rw [fc hle] at hy
    split at hy
    ·exact (hra.elem y (List.mem_of_getElem? hy)).1
    ·exact (hx y (List.mem_of_getElem? hy)).1
   have hjk:j<k:=by rw [←hyk];exact (List.getElem?_eq_some_iff.1 hp).1
   rw [fc hle] at hy
   split at hy
   ·rename_i hin
    obtain ⟨u,h1,h2,h3⟩:=hra.rep (i-i0) y hy j p hp
    have hlt:=(Array.getElem?_eq_some_iff.1 h1).1
    refine ⟨u,?_,h2,h3.mono (fun _ h=>h) hkeep.keep⟩
    have:=gP (w:=w) (b:=b) (o:=o1+i0*k) (vs:=arr.toList) hsh (by omega) (j:=(i-i0)*k+j) (by simpa using hlt)
    have e1:o1+i0*k+((i-i0)*k+j)=o1+i*k+j:=by
     have:i*k=i0*k+(i-i0)*k:=by rw [←Nat.add_mul];congr 1;omega
     omega
    rw [e1] at this
    rw [this]
    have h1':arr.toList[(i-i0)*k+j]? =some u:=by simpa using h1
    rw [List.getElem?_eq_getElem (by simpa using hlt)] at h1'
    exact h1'
   ·rename_i hout
    obtain ⟨u,h1,h2,h3⟩:=hc i y hy j p hp
    refine ⟨u,?_,h2,h3.mono (fun _ h=>h) hkeep.keep⟩
    rw [fP]
    ·exact h1
    ·rcases Nat.lt_or_ge i i0 with hi | hi
     ·left
      have:=jx (k:=k) hi hjk
      omega
     ·right
      have h5:i0+ys.length≤i:=by omega
      have:=Nat.mul_le_mul_right k h5
      rw [Nat.add_mul] at this
      rw [hal]
      omega)
 exact ⟨H',E',_,n',hsh,by omega,hz.2.2⟩
theorem rE {e:TypeId} (hc:P.cellsOf e=1) (count off n:Nat) (hn:off+n≤count):liesAt P P.depth e count off e n=true:=by
 have hd:P.depth=(2*(P.types.size+Made.depth)+1)+1:=rfl
 rw [hd]
 simp only [liesAt,Bool.or_eq_true]
 left
 rw [hd]
 simp [rowAt,hc,hn,sameLayout,Nat.mod_one]
theorem nC: ∀(l:List Int) (a:Addr) (acc:ByteArray),(∀j x,l[j]? =some x→w.cell? (a.add j)=some (.int .u8 x))→
  (loadBytes a acc l.length).run P w= .ok ⟨acc.data++(l.map fun x=>UInt8.ofNat x.toNat).toArray⟩ w
 | [],a,acc,_=>by simp [loadBytes]
 | x::l,a,acc,h=>by
  have h0:w.cell? a=some (.int .u8 x):=by
   have:=h 0 x rfl
   simpa [Addr.add] using this
  have ih:=nC l (a.add 1) (acc.push (UInt8.ofNat x.toNat)) (fun j y hy=>by
   have:=h (j+1) y (by simpa using hy)
   have e:(a.add 1).add j=a.add (j+1):=by
    unfold Addr.add
    by_cases hj:j=0
    ·subst hj;simp
    ·simp [hj];omega
   rw [e];exact this)
  simp only [List.length_cons,loadBytes,Sem.run_bind,run_load,h0,Result.andThen]
  refine ih.trans ?_
  have e:(acc.push (UInt8.ofNat x.toNat)).data++(l.map fun x=>UInt8.ofNat x.toNat).toArray=acc.data++((x::l).map fun x=>UInt8.ofNat x.toNat).toArray:=by
   apply Array.ext'
   simp [ByteArray.push]
  rw [e]
theorem fW {b o n k:Nat} (hk:k≠b):(w.freeze ⟨b,o,none⟩ n).heap[k]? =w.heap[k]? :=by
 unfold World.freeze
 split
 ·rfl
 ·simp only [Array.getElem?_modify]
  rw [if_neg (Ne.symm hk)]
theorem rF {b o n:Nat} {c:Array Value} {e:TypeId} {fr:Nat×Nat} (hb:w.heap[b]? =some (.cells c e fr)): ∃fr',(w.freeze ⟨b,o,none⟩ n).heap[b]? =some (.cells c e fr'):=by
 unfold World.freeze
 split
 ·exact ⟨fr,hb⟩
 ·obtain ⟨lo,hi⟩:=fr
  simp [Array.getElem?_modify,hb]
theorem rG {argTypes:Array TypeId} {e ty:TypeId} {d1 s g off m:Nat} {xs:List PV} {bs:List UInt8} {u:Value} (H:af σ I base w h) (hl:Abs.live h d1 s g= .row 1 e xs false) (hr:ab σ I w (.mptr d1 s g off 0) u)
  (hat: ∃pt,argTypes[0]? =some pt∧P.underlying pt=some (.pointer e)) (hc:P.cellsOf e=1) (h1:1≤m) (hm:off+m≤xs.length) (h63:m≤9223372036854775807) (hbs:cB ((xs.drop off).take m)=some bs):
  ∃w' I',(Builtin.unsafeString_ argTypes ty #[u,.int .i64 m]).run P w= .ok (.string ⟨bs.toArray⟩) w'∧af σ I' base w' (hput h d1 s ⟨g,.row 1 e xs true⟩)∧aB base σ I w σ I' w':=by
 obtain ⟨b,ob,k,hs,rfl⟩:=cp hr
 obtain ⟨b0,o,n,hs0,hsh,hn,hx,hcell,hz⟩:=H.live hl (by simp)
 simp only [] at hs0
 rw [hs] at hs0
 simp only [Option.some.injEq,Prod.mk.injEq] at hs0
 obtain ⟨rfl,rfl,rfl⟩:=hs0
 obtain ⟨pt,hpt,hpu⟩:=hat
 obtain ⟨ns,hns,rfl⟩:=kK hbs
 have hlen:ns.length=m:=by
  have:=congrArg List.length hns
  simp at this
  omega
 have hcells: ∀j x,ns[j]? =some x→w.cell? ((⟨b,ob+off*1+0,none⟩:Addr).add j)=some (.int .u8 x):=by
  intro j x hj
  have hjm:j<m:=by rw [←hlen];exact (List.getElem?_eq_some_iff.1 hj).1
  have h2:xs[off+j]? =some (.lit (.int .u8 x)):=by
   have:((xs.drop off).take m)[j]? =some (.lit (.int .u8 x)):=by rw [hns];simp [hj]
   rw [List.getElem?_take,if_pos hjm,List.getElem?_drop] at this
   exact this
  obtain ⟨v,h3,_,h4⟩:=hcell (off+j) _ h2 0 (.lit (.int .u8 x)) rfl
  have:=bl h4
  subst this
  have e1:(⟨b,ob+off*1+0,none⟩:Addr).add j=⟨b,ob+(off+j)*1+0,none⟩:=by
   unfold Addr.add
   by_cases hj0:j=0
   ·subst hj0;simp
   ·simp [hj0];omega
  rw [e1]
  exact h3
 have hlb:=nC (P:=P) (w:=w) ns ⟨b,ob+off*1+0,none⟩ .empty hcells
 have hlies:=rE (P:=P) hc (n/P.cellsOf e) (ob+off*1+0) m (by rw [hc];simp;omega)
 have hrun:(Builtin.unsafeString_ argTypes ty #[.pointer (some ⟨b,ob+off*1+0,none⟩),.int .i64 m]).run P w= .ok (.string ⟨(ns.map fun x=>UInt8.ofNat x.toNat).toArray⟩) (w.freeze ⟨b,ob+off*1+0,none⟩ m):=by
  have hmax:IntKind.i64.max=9223372036854775807:=rfl
  have hneg: ¬(m:Int)<0:=by omega
  have h63': ¬(9223372036854775807:Int)<(m:Int):=by omega
  have hm0:m≠0:=by omega
  have hdef: ∀a:Addr,Builtin.unsafeString_ argTypes ty #[.pointer (some a),.int .i64 m]=
   (do
    let n ←asInt (.int .i64 m)
    let some pt:=argTypes[0]? | stuck "unsafe.String: no argument types"
    if n<0 then runtimePanic (.error "unsafe.String: len out of range")
    if n>IntKind.i64.max then unsupported (.unsafePointer "String: a length above the largest int")
    if n=0 then pure (.string .empty)
    else if ←variablesAt a (←elemOf pt) n.toNat then do
     let s ←loadBytes a .empty n.toNat
     freeze a n.toNat
     pure (.string s)
    else unsupported (.unsafePointer "String: not so many bytes at ptr")):=fun _=>rfl
  rw [hlen] at hlb
  generalize ob+off*1+0=oo at hlies hlb ⊢
  rw [hdef]
  simp [asInt,asIntOf,hmax,h63',hneg,hm0,variablesAt,hsh,elemOf,run_underlying hpu,hpt,hlies,hlb]
 refine ⟨_,fun x=>I x∨x=b,hrun,?_⟩
 generalize ob+off*1+0=oo
 have hnb: ¬I b:=hz.1
 obtain ⟨c,fr,hbk⟩: ∃c fr,w.heap[b]? =some (.cells c e fr):=by
  unfold World.shape? at hsh
  split at hsh
  ·rename_i c e' fr hh
   simp only [Option.some.injEq,Prod.mk.injEq] at hsh
   obtain ⟨rfl,_⟩:=hsh
   exact ⟨c,fr,hh⟩
  ·cases hsh
 obtain ⟨fr',hbk'⟩:=rF (o:=oo) (n:=m) hbk
 have hcl: ∀j,(w.freeze ⟨b,oo,none⟩ m).cell? ⟨b,j,none⟩=w.cell? ⟨b,j,none⟩:=fun j=>by simp [World.cell?,hbk,hbk']
 have hshp: ∀k,(w.freeze ⟨b,oo,none⟩ m).shape? k=w.shape? k:=fun k=>by
  by_cases hk:k=b
  ·subst hk;simp [World.shape?,hbk,hbk']
  ·simp [World.shape?,fW hk]
 have hsz:(w.freeze ⟨b,oo,none⟩ m).heap.size=w.heap.size:=by unfold World.freeze;split<;>simp
 have hk:aO I w (w.freeze ⟨b,oo,none⟩ m):=⟨fun k hk=>fW (fun e=>hnb (e▸hk)),fun k e' n' h'=>by rw [hshp];exact h',
  fun k r hr'=>⟨r,by rw [fW (fun e=>by subst e;rw [hbk] at hr';cases hr')];exact hr',bP.refl r⟩,fun k hk'=>by rw [fW (fun e=>by subst e;rw [hbk] at hk';cases hk')];exact hk'⟩
 have hin: ∀x,(I x∨x=b)→bn (w.freeze ⟨b,oo,none⟩ m) x:=by
  rintro x (hx' | rfl)
  ·exact hk.inW H.inW x hx'
  ·exact ⟨_,hbk',by simp⟩
 refine ⟨H.put (fun _ _ h=>h) (fun _ h=> .inl h) hk hin d1 s _ ⟨b,ob,n,hs,by rw [hshp];exact hsh,hn,hx,fun i x hi j p hp=> ?_,.inr rfl⟩ fun d' s' b' hne' hb'=> ?_,⟨fun _ _ h=>h,fun _ h=> .inl h,?_,hk,?_⟩⟩
 ·obtain ⟨v,h2,h3,h4⟩:=hcell i x hi j p hp
  exact ⟨v,by rw [hcl];exact h2,h3,h4.mono (fun _ h=> .inl h) hk.keep⟩
 ·have hf:=aY (H.rows d' s') hb'
  have hbb:b'≠b:=fun e=>hne' (H.apart d1 s d' s' b (by rw [cQ hl (by simp)];simp [aj,hs]) (e▸hb'))
  exact ⟨fW hbb,fun h=>h.elim hf.2.1 hbb,by simp [aj]⟩
 ·rintro x (hx' | rfl)
  ·exact .inl hx'
  ·exact .inr hz.2.1
 ·have hst:(w.freeze ⟨b,oo,none⟩ m).os=w.os∧(w.freeze ⟨b,oo,none⟩ m).tape=w.tape∧(w.freeze ⟨b,oo,none⟩ m).output=w.output:=by unfold World.freeze;split<;>exact ⟨rfl,rfl,rfl⟩
  exact ⟨hst.1,hst.2.1,hst.2.2,by rw [hsz];exact Nat.le_refl _,fun k hk'=>fW (fun e=>hz.2.1 (e▸hk'))⟩
theorem rH {b:Builtin} {args:Array Operand} {argTypes:Array TypeId} {type:TypeId} {consts:Array Bool} (hop:bR P b argTypes h (args.toList.map ρ)=some (v,h')) (hρ: ∀x,ab σ I w (ρ x) (ρc x))
  (H:af σ I base w h):aJ σ I base w gen ((builtin b argTypes type consts (args.map ρc)).run P w) v h':=by
 unfold bR at hop
 split at hop
 ·rename_i x hx
  obtain ⟨x0,rfl,rfl⟩:=fV hx
  have hr:=hρ x0
  split at hop
  ·rename_i kt vt hd he
   rw [he] at hr
   have hu:=bl (aG hr)
   simp only [Option.some.injEq,Prod.mk.injEq] at hop
   obtain ⟨rfl,rfl⟩:=hop
   obtain ⟨t,h1,h2⟩:=fi hd
   refine .same (goInt 0) H ?_ (.pv _ _ (.lit _))
   simp only [builtin]
   exact ay (by simp [Builtin.len_,h1,aC h2,hu])
  ·rename_i kt vt d1 s g hd he
   rw [he] at hr
   obtain ⟨b,o1,k1,hs,hu⟩:=hU hr
   split at hop
   ·rename_i clock es hl
    obtain ⟨a,hh,hent,hnI,hbb,_,_,ac⟩:=em H hl hs
    simp only [Option.some.injEq,Prod.mk.injEq] at hop
    obtain ⟨rfl,rfl⟩:=hop
    obtain ⟨t,h1,h2⟩:=fi hd
    refine .same (goInt es.length) H ?_ (.pv _ _ (.lit _))
    simp only [builtin]
    have hlen:a.size=es.length:=by simpa using hent.len
    exact ay (by simp [Builtin.len_,h1,aC h2,hu,ac,hlen])
   ·cases hop
  ·cases hop
 ·rename_i m k hx
  obtain ⟨m0,k0,rfl,rfl,rfl⟩:=kM hx
  have hrm:=hρ m0
  have hrk:=hρ k0
  split at hop
  ·rename_i kt vt d1 s g key hd hm hk
   rw [hm] at hrm
   rw [hk] at hrk
   obtain ⟨b,o1,k1,hs,hu⟩:=hU hrm
   have huk:=bl (aG hrk)
   obtain ⟨t,h1,h2⟩:=fi hd
   split at hop
   ·rename_i clock es hl
    obtain ⟨a,hh,hent,hnI,hbb,rfl,hblk,ac⟩:=em H hl hs
    simp only [Option.bind_eq_some_iff] at hop
    obtain ⟨kd,hkd,hop⟩:=hop
    split at hop
    ·rename_i j v0 hf
     simp only [Option.some.injEq,Prod.mk.injEq] at hop
     obtain ⟨rfl,rfl⟩:=hop
     obtain ⟨e,y,u,g1,g2,_,g4,g5,g6,g7⟩:=(fU hent 0 _ hf).2 j v0 rfl
     obtain ⟨w1,f1,f2,f3,f4,f5⟩:=ff (I:=I) (base:=base) (.map (a.eraseIdxIfInBounds j) clock) hh (by simp) (by simp) (by simp) hnI hbb
     refine ⟨_,w1,.tuple #[],σ,I,?_,.inl rfl,.pv _ _ (.tup [] [] rfl fun j p v hp=>by simp at hp),H.setPut _ hl (by simp) hblk (by simp [aj,hs]) f3 f2 ?_,⟨fun _ _ h=>h,fun _ h=>h,fun _ h=> .inl h,f3,f4⟩,fun _ _=>rfl⟩
     ·simp only [builtin]
      exact ay (by simp [Builtin.delete_,h1,aC h2,hu,huk,ac,fg hkd,fh hkd g1,f5])
     ·refine ⟨b,k1,hs,⟨_,f1,?_⟩,hnI,hbb⟩
      have:(a.eraseIdxIfInBounds j).toList=a.toList.eraseIdx j:=by
       unfold Array.eraseIdxIfInBounds
       split
       ·simp
       ·rw [List.eraseIdx_of_length_le];simpa using by omega
      rw [this]
      exact (hent.mono (fun _ _ h=>h) (fun _ h=>h) f3.zero).erase j
    ·rename_i hf
     simp only [Option.some.injEq,Prod.mk.injEq] at hop
     obtain ⟨rfl,rfl⟩:=hop
     have g1:=(fU hent 0 _ hf).1 rfl
     obtain ⟨w1,f1,f2,f3,f4,f5⟩:=ff (I:=I) (base:=base) (.map a clock) hh (by simp) (by simp) (by simp) hnI hbb
     have hrow:=cQ hl (by simp)
     refine ⟨_,w1,.tuple #[],σ,I,?_,.inl rfl,.pv _ _ (.tup [] [] rfl fun j p v hp=>by simp at hp),H.keep (fun _ _ h=>h) (fun _ h=>h) f3.zero (f3.inW H.inW) (fun d2 s2 b2 hb2=>⟨?_,(aY (H.rows d2 s2) hb2).2.1⟩),⟨fun _ _ h=>h,fun _ h=>h,fun _ h=> .inl h,f3,f4⟩,fun _ _=>rfl⟩
     ·simp only [builtin]
      exact ay (by simp [Builtin.delete_,h1,aC h2,hu,huk,ac,fg hkd,fh hkd g1,f5])
     ·by_cases e:b2=b
      ·subst e;rw [f1,hh]
      ·exact f2 b2 e
    ·cases hop
   ·cases hop
  ·cases hop
 ·rename_i x hx
  obtain ⟨x0,rfl,rfl⟩:=fV hx
  have hr:=hρ x0
  split at hop
  ·rename_i kt vt d1 s g hd he
   rw [he] at hr
   obtain ⟨b,o1,k1,hs,hu⟩:=hU hr
   obtain ⟨t,h1,h2⟩:=fi hd
   split at hop
   ·rename_i clock es hl
    obtain ⟨a,hh,hent,hnI,hbb,rfl,hblk,ac⟩:=em H hl hs
    simp only [Option.some.injEq,Prod.mk.injEq] at hop
    obtain ⟨rfl,rfl⟩:=hop
    obtain ⟨w1,f1,f2,f3,f4,f5⟩:=ff (I:=I) (base:=base) (.map #[] clock) hh (by simp) (by simp) (by simp) hnI hbb
    refine ⟨_,w1,.tuple #[],σ,I,?_,.inl rfl,.pv _ _ (.tup [] [] rfl fun j p v hp=>by simp at hp),H.setPut _ hl (by simp) hblk (by simp [aj,hs]) f3 f2 ⟨b,k1,hs,⟨_,f1,.nil⟩,hnI,hbb⟩,⟨fun _ _ h=>h,fun _ h=>h,fun _ h=> .inl h,f3,f4⟩,fun _ _=>rfl⟩
    simp only [builtin]
    exact ay (by simp [Builtin.clear_,h1,aC h2,hu,ac,f5])
   ·cases hop
  ·cases hop
 ·cases hop
theorem rI {b:Builtin} {args:Array Operand} {argTypes:Array TypeId} (ho:o.op= .call { callee:= .builtin b,args,argTypes}) (hop:ai P o ρ d gen h=some (v,h')) (hρ: ∀x,ab σ I w (ρ x) (ρc x))
  (H:af σ I base w h) (hg:σ gen=none) (hB:aW base w.heap.size):aJ σ I base w gen ((execOp ρc o).run P w) v h':=by
 obtain ⟨consts,hex⟩:=rz (P:=P) (ρc:=ρc) (w:=w) ho
 rw [hex]
 simp only [ai,ho] at hop
 split at hop
 ·rename_i r hm
  simp only [Option.some.injEq] at hop
  subst hop
  exact rH hm hρ H
 rename_i hmn
 clear hmn
 unfold cg at hop
 split at hop
 ·
  rename_i x hx
  obtain ⟨x0,rfl,rfl⟩:=fV hx
  have hr:=hρ x0
  have hl:=rA hr
  have fin: ∀ {dd:TypeDesc} {n:Nat} {u:Value},(argTypes[0]?).bind P.underlying=some dd→(∀t,P.underlying t=some dd→argTypes[0]? =some t→(Builtin.len_ argTypes o.type #[ρc x0]).run P w= .ok (goInt n) w)→
    (builtin .len argTypes o.type consts (#[x0].map ρc)).run P w= .ok (.value (goInt n)) w:=by
   intro dd n u hb hrun
   obtain ⟨t,h1,h2⟩:=fi hb
   simp only [builtin]
   exact ay (by simpa using hrun t h2 h1)
  split at hop
  ·rename_i e k nl full xs hd he
   simp only [Option.some.injEq,Prod.mk.injEq] at hop
   obtain ⟨rfl,rfl⟩:=hop
   obtain ⟨a,c,hu⟩:=hl.1 _ _ _ _ he
   exact .same (goInt xs.length) H (fin (u:=ρc x0) hd fun t h2 h1=>by simp [Builtin.len_,h1,aC h2,hu]) (.pv _ _ (.lit _))
  ·rename_i e d1 s g off n full hd he
   simp only [Option.some.injEq,Prod.mk.injEq] at hop
   obtain ⟨rfl,rfl⟩:=hop
   obtain ⟨a,c,hu⟩:=hl.2 _ _ _ _ _ _ he
   exact .same (goInt n) H (fin (u:=ρc x0) hd fun t h2 h1=>by simp [Builtin.len_,h1,aC h2,hu]) (.pv _ _ (.lit _))
  ·rename_i s hd he
   simp only [Option.some.injEq,Prod.mk.injEq] at hop
   obtain ⟨rfl,rfl⟩:=hop
   rw [he] at hr
   have hu:=bl (aG hr)
   exact .same (goInt s.size) H (fin (u:=ρc x0) hd fun t h2 h1=>by simp [Builtin.len_,h1,aC h2,hu]) (.pv _ _ (.lit _))
  ·rename_i n e hd
   simp only [Option.some.injEq,Prod.mk.injEq] at hop
   obtain ⟨rfl,rfl⟩:=hop
   exact .same (goInt n) H (fin (u:=ρc x0) hd fun t h2 h1=>by simp [Builtin.len_,h1,aC h2]) (.pv _ _ (.lit _))
  ·cases hop
 ·
  rename_i x hx
  obtain ⟨x0,rfl,rfl⟩:=fV hx
  have hr:=hρ x0
  have hl:=rB hr
  have fin: ∀ {dd:TypeDesc} {n:Nat} {u:Value},(argTypes[0]?).bind P.underlying=some dd→(∀t,P.underlying t=some dd→argTypes[0]? =some t→(Builtin.cap_ argTypes o.type #[ρc x0]).run P w= .ok (goInt n) w)→
    (builtin .cap argTypes o.type consts (#[x0].map ρc)).run P w= .ok (.value (goInt n)) w:=by
   intro dd n u hb hrun
   obtain ⟨t,h1,h2⟩:=fi hb
   simp only [builtin]
   exact ay (by simpa using hrun t h2 h1)
  split at hop
  ·rename_i e k nl xs hd he
   split at hop
   ·simp only [Option.some.injEq,Prod.mk.injEq] at hop
    obtain ⟨rfl,rfl⟩:=hop
    obtain ⟨a,hu⟩:=hl.1 _ _ _ he
    exact .same (goInt xs.length) H (fin (u:=ρc x0) hd fun t h2 h1=>by simp [Builtin.cap_,h1,aC h2,hu]) (.pv _ _ (.lit _))
   ·cases hop
  ·rename_i e d1 s g off n hd he
   simp only [Option.some.injEq,Prod.mk.injEq] at hop
   obtain ⟨rfl,rfl⟩:=hop
   obtain ⟨a,hu⟩:=hl.2 _ _ _ _ _ he
   exact .same (goInt n) H (fin (u:=ρc x0) hd fun t h2 h1=>by simp [Builtin.cap_,h1,aC h2,hu]) (.pv _ _ (.lit _))
  ·cases hop
 ·
  rename_i x y hxy
  obtain ⟨x0,y0,rfl,rfl,rfl⟩:=kM hxy
  split at hop
  case h_2=>cases hop
  rename_i t0 t1 ht
  have hts:argTypes= #[t0,t1]:=by apply Array.ext';simpa using ht
  subst hts
  split at hop
  case h_2=>
   rename_i e hd0 hd1
   exact rc (t0:=t0) (tn:=t1) (ty:=o.type) hd0 hop (hρ x0) (hρ y0) H hg hB (by simp [builtin])
  case h_3=>cases hop
  rename_i e hd0 hd1
  simp only [Option.bind_eq_bind,Option.bind_eq_some_iff] at hop
  obtain ⟨size,hsz,bytes,hby,z,hz,ys,hys,hop⟩:=hop
  split at hop
  ·cases hop
  ·rename_i hne
   have hne1:size≠0:=fun e=>hne (.inl e)
   have hne2:z.cells.size=size:=by
    rcases Nat.decEq z.cells.size size with hh | hh
    ·exact absurd (.inr hh) hne
    ·exact hh
   obtain ⟨news,hE⟩:=fT (P:=P) hys (hρ y0) H
   refine rb (t0:=t0) (t1:=t1) (ty:=o.type) (z:=z) ⟨hd0,hd1,hsz,hby,hz,hne1,hne2⟩ hop (hρ x0) hE H hg hB ?_
   simp [builtin]
 ·
  rename_i x hx
  obtain ⟨x0,rfl,rfl⟩:=fV hx
  split at hop
  case h_2=>cases hop
  rename_i e d1 s g off n full hb he
  obtain ⟨t,ht,hd⟩:=fi hb
  simp only [Option.bind_eq_some_iff] at hop
  obtain ⟨z,hz,hop⟩:=hop
  have hclr: ∀ {w':World},(Builtin.clear_ argTypes o.type #[ρc x0]).run P w= .ok (.tuple #[]) w'→(builtin .clear argTypes o.type consts (#[x0].map ρc)).run P w= .ok (.value undef) w':=by
   intro w' hrun
   have h2:(Builtin.clear_ argTypes o.type #[ρc x0]).run P w= .ok undef w':=hrun
   simp only [builtin]
   exact ay (by simpa using h2)
  split at hop
  rotate_left
  ·rename_i k1 e1 xs hl
   have hr:=hρ x0
   rw [he] at hr
   generalize hu:ρc x0=u at hr
   cases hr with
   | msl _ _ _ _ _ _ b ob k cap ad had hs hn hfull hroom=>
   have hat:argTypes[0]? =some t:=ht
   split at hop
   ·rename_i hn0
    simp only [Option.some.injEq,Prod.mk.injEq] at hop
    obtain ⟨rfl,rfl⟩:=hop
    subst hn0
    refine .same undef H (hclr ?_) fS
    rw [hu]
    unfold Builtin.clear_
    simp [hat,aC hd]
   ·rename_i hn0
    split at hop
    ·rename_i hc
     obtain ⟨hok,hlen,hk0,hle⟩:=hc
     simp only [Option.some.injEq,Prod.mk.injEq] at hop
     obtain ⟨rfl,rfl⟩:=hop
     obtain ⟨_,_,_,hs1,_⟩:=H.live hl (by simp)
     have hkk:k=k1:=by rw [hs] at hs1;simp only [Option.some.injEq,Prod.mk.injEq] at hs1;exact hs1.2.2
     subst hkk
     have hzs:z.cells.size=k:=(jv (I:=I) (w:=w) hlen hok).1
     have had':ad=ob+off*k:=had (by omega)
     subst had'
     obtain ⟨H',E',e2,m2,hsh2,hle2,hfr2⟩:=rD H hl hs (kI (m:=n) hlen hok hk0 (Nat.le_refl n)) (by simp) (by simpa using hle)
     refine ⟨_,_,undef,σ,I,hclr ?_,.inl rfl,fS,H',E',fun _ _=>rfl⟩
     have hst:=kh (P:=P) hsh2 hle2 hfr2 (fun x hx=>by
      obtain ⟨i,hi,rfl⟩:=List.getElem_of_mem hx
      simp only [Array.getElem_toList,Array.getElem_map,Array.getElem_range]
      have hi':i<n*k:=by simpa using hi
      have hkpos:0<k:=by omega
      have hlt:i%z.cells.size<z.cells.size:=by rw [hzs];exact Nat.mod_lt _ hkpos
      rw [getElem!_pos z.cells _ hlt]
      exact (jv (I:=I) (w:=w) hlen hok).2.1 _ (Array.getElem_mem_toList _))
     have hzc:Builtin.zeroCells z.cells n=(Array.range (n*k)).map (z.cells[· %z.cells.size]!):=by
      unfold Builtin.zeroCells
      rw [hzs]
     rw [←hzc] at hst
     rw [hu,←hzc]
     unfold Builtin.clear_
     obtain ⟨n',rfl⟩: ∃n',n=n'+1:=⟨n-1,by omega⟩
     simp [hat,aC hd,ei hz,hst]
    ·cases hop
  ·cases hop
  rename_i v0 hl
  have hr:=hρ x0
  rw [he] at hr
  generalize hu:ρc x0=u at hr
  cases hr with
  | msl _ _ _ _ _ _ b ob k cap ad had hs hn hfull hroom=>
  have hat:argTypes[0]? =some t:=ht
  have fin: ∀ {w':World},(Builtin.clear_ argTypes o.type #[ρc x0]).run P w= .ok (.tuple #[]) w'→(builtin .clear argTypes o.type consts (#[x0].map ρc)).run P w= .ok (.value undef) w':=by
   intro w' hrun
   have h2:(Builtin.clear_ argTypes o.type #[ρc x0]).run P w= .ok undef w':=hrun
   simp only [builtin]
   exact ay (by simpa using h2)
  split at hop
  ·rename_i hc
   obtain ⟨hn0,hok,hag⟩:=hc
   simp only [Option.map_eq_some_iff,Prod.mk.injEq] at hop
   obtain ⟨v',hv',rfl,rfl⟩:=hop
   obtain ⟨c,hzc,hc1,hcr⟩:=rC hok hag
   obtain ⟨b0,k0,e0,u0,hs0,hsh,hok0,hru,hz0,hf,h1c,hszu,hcell⟩:=dU (H.live hl (by simp))
   rw [hs] at hs0
   simp only [Option.some.injEq,Prod.mk.injEq] at hs0
   obtain ⟨rfl,rfl,rfl⟩:=hs0
   subst hf
   have had':ad=off:=by have:=had (by omega);omega
   subst had'
   obtain ⟨H',E',e1,m1,hsh1,hle1,hfr1⟩:=kH (vs:=List.replicate n c) H hl hs (by simp) (fun x hx=>by rw [List.eq_of_mem_replicate hx];exact hc1)
    (fun j p u hp hu=>by
     rw [List.getElem?_replicate] at hp hu
     split at hp
     ·rename_i hj
      rw [if_pos hj] at hu
      simp only [Option.some.injEq] at hp hu
      subst hp;subst hu
      exact .pv _ _ (hcr I w)
     ·cases hp) (by simpa using hn0) hv'
   refine ⟨_,_,undef,σ,I,fin ?_,.inl rfl,fS,H',E',fun _ _=>rfl⟩
   have hst:=kh (P:=P) (vs:=List.replicate n c) hsh1 hle1 hfr1 (fun x hx=>by rw [List.eq_of_mem_replicate hx];exact hc1)
   have hzc2:(Builtin.zeroCells z.cells n).toList=List.replicate n c:=by
    unfold Builtin.zeroCells
    rw [hzc]
    apply List.ext_getElem
    ·simp
    ·intro i h1 h2
     simp [Nat.mod_one]
   rw [hu]
   unfold Builtin.clear_
   obtain ⟨n',rfl⟩: ∃n',n=n'+1:=⟨n-1,by omega⟩
   simp [hat,aC hd,ei hz,hzc2,hst]
  ·split at hop
   ·rename_i hn0
    simp only [Option.some.injEq,Prod.mk.injEq] at hop
    obtain ⟨rfl,rfl⟩:=hop
    subst hn0
    refine .same undef H (fin ?_) fS
    rw [hu]
    unfold Builtin.clear_
    simp [hat,aC hd]
   ·cases hop
 ·
  rename_i x hx
  obtain ⟨x0,rfl,rfl⟩:=fV hx
  have hr:=hρ x0
  split at hop
  ·rename_i k full xs he
   simp only [Option.some.injEq,Prod.mk.injEq] at hop
   obtain ⟨rfl,rfl⟩:=hop
   rw [he] at hr
   generalize hu:ρc x0=u at hr
   have hp:=aG hr
   cases hp
   exact .same _ H (by simp only [builtin];exact ay (by simp [hu];rfl)) (.pv _ _ (.lit _))
  ·rename_i d1 s g off n full he
   simp only [Option.some.injEq,Prod.mk.injEq] at hop
   obtain ⟨rfl,rfl⟩:=hop
   rw [he] at hr
   generalize hu:ρc x0=u at hr
   cases hr with
   | msl _ _ _ _ _ _ b o k cap ad had hs hn hfull hroom=>
    obtain ⟨c',rfl⟩: ∃c',cap=c'+1:=⟨cap-1,by omega⟩
    have:=ab.mptr (I:=I) (w:=w) d1 s g off 0 b o k hs
    refine .same (.pointer (some ⟨b,ad,none⟩)) H (by simp only [builtin];exact ay (by simp [hu];rfl)) ?_
    rw [had (by omega)]
    exact this
  ·cases hop
 ·
  rename_i p n hx
  obtain ⟨p0,n0,rfl,rfl,rfl⟩:=kM hx
  have hrp:=hρ p0
  have hrn:=hρ n0
  split at hop
  ·rename_i hp hn
   simp only [Option.map_eq_some_iff,Prod.mk.injEq] at hop
   obtain ⟨pt,hpt,rfl,rfl⟩:=hop
   rw [hp] at hrp
   rw [hn] at hrn
   have hup:=bl (aG hrp)
   have hun:=bl (aG hrn)
   have hdef:Builtin.unsafeString_ argTypes o.type #[.pointer none,.int .i64 0]=
    (do
     let n ←asInt (.int .i64 0)
     let some pt:=argTypes[0]? | stuck "unsafe.String: no argument types"
     if n<0 then runtimePanic (.error "unsafe.String: len out of range")
     if n>IntKind.i64.max then unsupported (.unsafePointer "String: a length above the largest int")
     if n=0 then pure (.string .empty)
     else runtimePanic (.error "unsafe.String: ptr is nil and len is not zero")):=rfl
   have hmax:IntKind.i64.max=9223372036854775807:=rfl
   refine .same (.string ⟨#[]⟩) H ?_ (.pv _ _ (.lit _))
   simp only [builtin]
   refine ay ?_
   have harr: #[p0,n0].map ρc= #[.pointer none,.int .i64 0]:=by simp [hup,hun]
   rw [harr,hdef]
   simp [asInt,asIntOf,hmax,hpt]
   rfl
  ·rename_i d1 s g off n hp hn
   rw [hp] at hrp
   rw [hn] at hrn
   have hun:=bl (aG hrn)
   split at hop
   ·rename_i e xs hl
    split at hop
    ·rename_i e' hat
     split at hop
     ·rename_i hc
      obtain ⟨h1,h63,h2,rfl,h4⟩:=hc
      simp only [Option.map_eq_some_iff,Prod.mk.injEq] at hop
      obtain ⟨bs,hbs,rfl,rfl⟩:=hop
      have hat: ∃pt,argTypes[0]? =some pt∧P.underlying pt=some (.pointer e'):=by simpa [Option.bind_eq_some_iff] using hat
      obtain ⟨w',I',hrun,H',E'⟩:=rG (ty:=o.type) H hl hrp hat h4 (by omega) h2 (by omega) hbs
      rw [Int.toNat_of_nonneg (by omega)] at hrun
      refine ⟨_,w',.string ⟨bs.toArray⟩,σ,I',?_,.inl rfl,.pv _ _ (.lit _),H',E',fun _ _=>rfl⟩
      simp only [builtin]
      refine ay ?_
      have harr: #[p0,n0].map ρc= #[ρc p0,.int .i64 n]:=by simp [hun]
      rw [harr]
      exact hrun
     ·cases hop
    ·cases hop
   ·cases hop
  ·cases hop
 ·
  simp only [Option.bind_eq_some_iff,Option.map_eq_some_iff,Prod.mk.injEq] at hop
  obtain ⟨vs,⟨ps,hps,hvs⟩,r,hr,rfl,rfl⟩:=hop
  have hus:args.toList.map ρc=vs:=mZ (σ:=σ) (I:=I) (w:=w) hps hvs (by simp) fun j p u hp hu=>by
   simp only [List.getElem?_map,Option.map_eq_some_iff] at hp hu
   obtain ⟨a,ha,rfl⟩:=hp
   obtain ⟨b,hb,rfl⟩:=hu
   rw [ha] at hb;injection hb with hb;subst hb
   exact hρ a
  have harr:args.map ρc=vs.toArray:=by apply Array.ext';simpa using hus
  refine .same r H ?_ (.pv _ _ (.lit r))
  simp only [builtin,harr]
  exact ay (gU hr)
 ·
  simp only [Option.bind_eq_some_iff,Option.map_eq_some_iff,Prod.mk.injEq] at hop
  obtain ⟨vs,⟨ps,hps,hvs⟩,r,hr,rfl,rfl⟩:=hop
  have hus:args.toList.map ρc=vs:=mZ (σ:=σ) (I:=I) (w:=w) hps hvs (by simp) fun j p u hp hu=>by
   simp only [List.getElem?_map,Option.map_eq_some_iff] at hp hu
   obtain ⟨a,ha,rfl⟩:=hp
   obtain ⟨b,hb,rfl⟩:=hu
   rw [ha] at hb;injection hb with hb;subst hb
   exact hρ a
  have harr:args.map ρc=vs.toArray:=by apply Array.ext';simpa using hus
  refine .same r H ?_ (.pv _ _ (.lit r))
  simp only [builtin,harr]
  exact ay (gU hr)
 ·cases hop
theorem nD {size n:Nat} {place:Nat→Option (Nat×Nat)} (hpl:place=fun i=>some (i*size,size)):
  ∀(qs:List (Nat×PV)) (pc:List (Nat×Value)) (xs:List PV) (arr:Array Value),cb I w size xs arr→xs.length=n→arr.size=n*size→pc.length=qs.length→
   (∀q∈qs,q.1<n∧q.2.cells.length=size∧q.2.ok=true)→(∀(j:Nat) (q:Nat×PV) (c:Nat×Value),qs[j]? =some q→pc[j]? =some c→q.1=c.1∧am I w q.2 c.2)→
   ∃arr',Instr.fill place arr pc=some arr'∧cb I w size (qs.foldl (fun l q=>l.set q.1 q.2) xs) arr'∧arr'.size=n*size
 | [],[],xs,arr,ha,hl,hs,_,_,_=>⟨arr,rfl,ha,hs⟩
 | (i,p)::qs,(i',u)::pc,xs,arr,ha,hl,hs,hlen,hq,hr=>by
  obtain ⟨hii,hpr⟩:=hr 0 (i,p) (i',u) rfl rfl
  have hii:i=i':=hii
  subst hii
  have hpr:am I w p u:=hpr
  obtain ⟨hi,hps,hpok⟩:=hq (i,p) (by simp)
  have hi:i<n:=hi
  have hps:p.cells.length=size:=hps
  obtain ⟨h1,h2,h3⟩:=hpr.cells hpok
  obtain ⟨hs1,hs2⟩:=nk (i*size) u arr
  have hin:i*size+size≤n*size:=by
   have:(i+1)*size≤n*size:=Nat.mul_le_mul_right size (by omega)
   rw [Nat.add_mul] at this
   omega
  have ha':cb I w size (xs.set i p) (u.cells.zipIdx.foldl (fun cs (x:Value×Nat)=>cs.setIfInBounds (i*size+x.2) x.1) arr):=by
   refine ⟨by rw [hs1,hs];simp [hl],fun x hx=> ?_,fun i2 x hx j c hc=> ?_⟩
   ·rcases List.mem_or_eq_of_mem_set hx with hx | rfl
    ·exact ha.elem x hx
    ·exact ⟨hps,hpok⟩
   ·rw [List.getElem?_set] at hx
    by_cases hi2:i=i2
    ·subst hi2
     rw [if_pos rfl,if_pos (by omega)] at hx
     injection hx with hx
     subst hx
     have hj:j<size:=by rw [←hps];exact (List.getElem?_eq_some_iff.1 hc).1
     have hjc:u.cells[j]? =some (u.cells[j]'(by omega)):=Array.getElem?_eq_getElem (by omega)
     refine ⟨u.cells[j]'(by omega),?_,h2 _ (by simp),h3 j c _ hc hjc⟩
     rw [hs2,if_pos (by omega),show i*size+j-i*size=j by omega]
     exact hjc
    ·rw [if_neg hi2] at hx
     obtain ⟨u2,g1,g2,g3⟩:=ha.rep i2 x hx j c hc
     have hj:j<size:=by rw [←(ha.elem x (List.mem_of_getElem? hx)).1];exact (List.getElem?_eq_some_iff.1 hc).1
     refine ⟨u2,?_,g2,g3⟩
     rw [hs2,if_neg]
     ·exact g1
     ·rcases Nat.lt_or_ge i2 i with hlt | hge
      ·have:(i2+1)*size≤i*size:=Nat.mul_le_mul_right size (by omega)
       rw [Nat.add_mul] at this
       omega
      ·have:(i+1)*size≤i2*size:=Nat.mul_le_mul_right size (by omega)
       rw [Nat.add_mul] at this
       omega
  obtain ⟨arr',hf,ha'',hsz⟩:=nD hpl qs pc (xs.set i p) _ ha' (by simpa using hl) (by rw [hs1];exact hs) (by simpa using hlen) (fun q hqm=>hq q (by simp [hqm])) fun j q c hqj hcj=>hr (j+1) q c (by simpa using hqj) (by simpa using hcj)
  refine ⟨arr',?_,ha'',hsz⟩
  simp only [Instr.fill,hpl]
  have e1:u.cells.size=size:=by omega
  have hcond: ¬((u.cells.size≠size||decide (i*size+u.cells.size>arr.size))=true):=by
   simp [e1];omega
  rw [if_neg (by simpa using hcond)]
  rw [←hpl]
  exact hf
theorem rJ {t:TypeId} {len:Nat} {parts:Array (Nat×Operand)} (ho:o.op= .buildSlice t len parts) (hop:ai P o ρ d gen h=some (v,h')) (hρ: ∀x,ab σ I w (ρ x) (ρc x)) (H:af σ I base w h) (hg:σ gen=none) (hB:aW base w.heap.size):
  aJ σ I base w gen ((execOp ρc o).run P w) v h':=by
 simp only [ai,ho] at hop
 split at hop
 case h_2=>cases hop
 rename_i e hd
 simp only [Option.bind_eq_bind,Option.bind_eq_some_iff] at hop
 obtain ⟨size,hsz,hop⟩:=hop
 split at hop
 ·rename_i h0
  obtain ⟨rfl,hp0⟩:=h0
  have hp0':parts= #[]:=Array.eq_empty_of_size_eq_zero hp0
  subst hp0'
  simp only [Option.some.injEq,Prod.mk.injEq] at hop
  obtain ⟨rfl,rfl⟩:=hop
  have hG:aZ w (w.alloc (.cells #[] e)) (.cells #[] e):=⟨rfl,rfl,rfl,rfl⟩
  have hk:=hG.keep H.lt
  refine ⟨_,w.alloc (.cells #[] e),.slice (some ⟨w.heap.size,0,none⟩) 0 0,σ,I,?_,.inl rfl,.pv _ _ (.emp size true _ 0 (fun _=>rfl)),H.keep (fun _ _ h=>h) (fun _ h=>h) hk (hk.inW H.inW) fun d s b hb=>⟨hG.old (aY (H.rows d s) hb).1,(aY (H.rows d s) hb).2.1⟩,
   ⟨fun _ _ h=>h,fun _ h=>h,fun _ h=> .inl h,hk,hG.below hB⟩,fun _ _=>rfl⟩
  simp only [execOp,ho]
  refine ay ?_
  simp [Instr.buildSlice,aC hd,cn hsz,Instr.fill,newRow]
  have h0:(Array.range 0).map (fun _=>(default:Value))= #[]:=by apply Array.ext';simp
  rw [h0]
 simp only [Option.bind_eq_some_iff] at hop
 obtain ⟨z,hz,slot,hslot,hop⟩:=hop
 split at hop
 case isFalse=>cases hop
 rename_i hc
 obtain ⟨hc1,hc2,hc3,hc4⟩:=hc
 simp only [Option.bind_eq_some_iff,Prod.exists] at hop
 obtain ⟨ps,h1,hps,hop⟩:=hop
 split at hop
 case isFalse=>cases hop
 rename_i hall
 simp only [Bool.and_eq_true,List.all_eq_true,beq_iff_eq,decide_eq_true_eq] at hall
 obtain ⟨hall1,hall2⟩:=hall
 simp only [Option.some.injEq,Prod.mk.injEq] at hop
 obtain ⟨rfl,rfl⟩:=hop
 obtain ⟨I1,hlen,hpr,H1,m1⟩:=je (σ:=σ) (w:=w) (base:=base) _ _ _ _ _ (parts.toList.map fun q=>ρc q.2) I hps (by simp)
  (fun j p u hp hu=>by
   simp only [List.getElem?_map,Option.map_eq_some_iff] at hp hu
   obtain ⟨a,ha,rfl⟩:=hp
   obtain ⟨b,hb,rfl⟩:=hu
   rw [ha] at hb;injection hb with hb;subst hb
   exact hρ a.2) H
 have hlenp:ps.length=parts.toList.length:=by simpa using hlen
 have hzero:(aA z).cells.length=z.cells.size:=((ej (I:=I) (w:=w) z).cells hc4).1.symm
 obtain ⟨arr,hf,hrow,hasz⟩:=nD (I:=I1) (w:=w) (size:=size) (n:=len) rfl ((parts.toList.map (·.1)).zip ps) (parts.map fun (i,x)=>(i,ρc x)).toList (List.replicate len (aA z))
  ((Array.range (len*size)).map (z.cells[· %z.cells.size]!)) (kI hc3 hc4 (by rintro rfl;simp at hc2) (Nat.le_refl _)) (by simp) (by simp) (by simp [hlenp])
  (fun q hq=>by
   obtain ⟨ha,hb⟩:=List.of_mem_zip hq
   obtain ⟨x,hx,hx2⟩:=List.mem_map.1 ha
   exact ⟨by rw [←hx2];exact hall2 x hx,(hall1 _ hb).1,(hall1 _ hb).2⟩)
  (fun j q c hq hc=>by
   simp only [List.zip,List.getElem?_zipWith,Option.bind_eq_some_iff] at hq
   simp only [Array.toList_map,List.getElem?_map,Option.map_eq_some_iff] at hc
   obtain ⟨x,hx,rfl⟩:=hc
   cases hpj:ps[j]? with
   | none=>simp [hpj,hx] at hq
   | some p=>
    simp [hpj,hx] at hq
    subst hq
    exact ⟨rfl,hpr j p (ρc x.2) hpj (by simp [hx])⟩)
 obtain ⟨ie,hie,hie2⟩: ∃ie,P.info? e=some ie∧ie.size=size:=by
  have:=hsz;unfold aF at this;simpa only [Option.map_eq_some_iff] using this
 have hiz:ie.zero=some z:=by
  have:=hz;unfold bA at this;simpa [hie] using this
 have hG:aZ w (w.alloc (.cells arr e)) (.cells arr e):=⟨rfl,rfl,rfl,rfl⟩
 have hrun:(execOp ρc o).run P w= .ok (.value (.slice (some ⟨w.heap.size,0,none⟩) len len)) (w.alloc (.cells arr e)):=by
  simp only [execOp,ho]
  refine ay ?_
  subst hie2
  exact run_buildSlice w t e len _ arr ie z hd hie hiz (by omega) hc2 hf
 have:=gX (d:=d) (s:=slot) (gen:=gen) (k:=size) (n:=len) (cap:=len) (full:=true) H1 hrow hg hB hG (fun j _=>hG.frozen j) (Nat.le_refl _) (fun _=>rfl) (by omega) hrun
 obtain ⟨nx,w',u,σ',I',g1,g2,g3,g4,g5,g6⟩:=this
 exact ⟨nx,w',u,σ',I',g1,g2,g3,g4,m1.ext.trans g5,g6⟩
theorem rK (hop:ai P o ρ d gen h=some (v,h')) (hρ: ∀x,ab σ I w (ρ x) (ρc x)) (H:af σ I base w h) (hg:σ gen=none) (hB:aW base w.heap.size):
  aJ σ I base w gen ((execOp ρc o).run P w) v h':=by
 cases ho:o.op with
 | move x=>exact m5 (.inl ho) hop hρ H
 | assign x=>exact m5 (.inr ho) hop hρ H
 | pick c a b=>exact qG ho hop hρ H
 | alloc e=>exact qI ho hop H hg hB
 | box e x=>exact qJ ho hop hρ H hg hB
 | build t parts=>exact q9 ho hop hρ H
 | buildSlice t len parts=>exact rJ ho hop hρ H hg hB
 | load t a=>exact qE ho hop hρ H
 | store t a x=>exact q6 ho hop hρ H
 | nilCheck x=>exact qH ho hop hρ H
 | binOp op t x y ty=>exact qM ho hop hρ H
 | unOp op t x=>exact qN ho hop hρ H
 | convert src dst x=>exact rg ho hop hρ H hg hB
 | makeInterface t x=>exact qO ho hop hρ H
 | makeFunc fn first captured=>exact qQ ho hop hρ H
 | makeSlice t l c=>exact ra ho hop hρ H hg hB
 | slice t x lo hi mx=>exact ri ho hop hρ H
 | fieldAddr st x f=>exact qR ho hop hρ H
 | indexAddr t x ix=>exact qS ho hop hρ H
 | index t x ix=>exact qV ho hop hρ H
 | field t x f=>exact qW ho hop hρ H
 | extract x i=>exact qX ho hop hρ H
 | typeAssert x xT aT ok=>exact qP ho hop hρ H
 | range t x=>exact rj ho hop hρ H hg hB
 | next it isS=>
  cases isS with
  | true=>exact rk ho hop hρ H
  | false=>exact ry ho hop hρ H
 | entry it=>exact rx ho hop hρ H
 | makeMap t r=>exact rt ho hop H hg hB
 | lookup t m k ok=>exact ru ho hop hρ H
 | mapUpdate t m k x=>exact nB (.inl ho) hop hρ H
 | insert t m k x=>exact nB (.inr ho) hop hρ H
 | call c=>
  obtain ⟨callee,args,argTypes⟩:=c
  cases callee with
  | builtin b=>exact rI ho hop hρ H hg hB
  | value f=>simp [ai,ho] at hop
  | invoke r m=>simp [ai,ho] at hop
 | _=>simp [ai,ho] at hop
end
def bE (P:Program) (f:FuncId) (args:Array Value) (w:World) (R:Value→World→Prop):Prop:=
 (∃v w',(callFunc f args).run P w= .ok (.value v) w'∧R v w')∨
 ((callFunc f args).run P w= .ok (.enter f args) w∧Calls P f args w fun | .returned v,w'=>R v w' | _,_=>False)∨
 (∃row as w1,(callFunc f args).run P w= .ok (.row row as) w1∧Rows P row as w1 R)
theorem bE.mono {P:Program} {f:FuncId} {args:Array Value} {w:World} {R R':Value→World→Prop} (h:bE P f args w R) (hr: ∀v w',R v w'→R' v w'):bE P f args w R':=by
 rcases h with ⟨v,w',h1,h2⟩ | ⟨h1,h2⟩ | ⟨row,as,w1,h1,h2⟩
 ·exact .inl ⟨v,w',h1,hr _ _ h2⟩
 ·exact .inr (.inl ⟨h1,h2.mono fun e w' he=>by cases e<;>first | exact hr _ _ he | exact he⟩)
 ·exact .inr (.inr ⟨row,as,w1,h1,h2.mono hr⟩)
structure nE (σ:aq) (I:ah) (base:ah) (w:World) (g:Nat) (h':aa) (g':Nat) (w':World) (σ':aq) (I':ah):Prop where
 heap:af σ' I' base w' h'
 ext:aB base σ I w σ' I' w'
 low: ∀k,k<g→σ' k=σ k
 high: ∀k,g'≤k→σ' k=none
 grow:g≤g'
structure dA (σ:aq) (I:ah) (base:ah) (w:World) (gen g:Nat) (v:AV) (h':aa) (g':Nat) (u:Value) (w':World) (σ':aq) (I':ah):Prop where
 rep:ab σ' I' w' v u
 heap:af σ' I' base w' h'
 ext:aB base σ I w σ' I' w'
 low: ∀k,k<g→k≠gen→σ' k=σ k
 high: ∀k,g'≤k→σ' k=none
 grow:g≤g'
def WF (r:Option Nat):Fence:= { Fence.wide with round:=r}
structure c8 (σ:aq) (I:ah) (w:World) (σ':aq) (I':ah) (w':World):Prop where
 sig: ∀g x,σ g=some x→σ' g=some x
 blk: ∀b,I b→I' b
 kp:aO I w w'
theorem c8.refl (σ:aq) (I:ah) (w:World):c8 σ I w σ I w:=⟨fun _ _ h=>h,fun _ h=>h,aO.refl I w⟩
theorem c8.trans {σ σ' σ'':aq} {I I' I'':ah} {w w' w'':World} (h:c8 σ I w σ' I' w') (k:c8 σ' I' w' σ'' I'' w''):c8 σ I w σ'' I'' w'':=
 ⟨fun g x hx=>k.sig g x (h.sig g x hx),fun b hb=>k.blk b (h.blk b hb),h.kp.trans h.blk k.kp⟩
theorem aB.later {base:ah} {σ σ':aq} {I I':ah} {w w':World} (h:aB base σ I w σ' I' w'):c8 σ I w σ' I' w':=⟨h.sig,h.blk,h.kp⟩
def hX (P:Program) (gl:Nat) (hd:gD) (σ:aq) (I:ah) (w:World):Prop:=
 ∃l o k,σ gl=some (l,o,k)∧ ∀(σ1:aq) (I1:ah) (w1:World),c8 σ I w σ1 I1 w1→ ∀(base:ah) (h:aa) (args:List AV) (us:List Value) (g:Nat) (b:Bool) (h':aa) (g':Nat),
  hd args h g=some (b,h',g')→af σ1 I1 base w1 h→aW base w1.heap.size→us.length=args.length→(∀(j:Nat) (p:AV) (u:Value),args[j]? =some p→us[j]? =some u→ab σ1 I1 w1 p u)→
  (∀k,g≤k→σ1 k=none)→
  ∃fn tmps assign body,(Instr.yield l us.toArray).run P w1= .ok (.round l fn tmps assign body) w1∧
   RoundIn (WF none) 0 P l fn tmps assign body w1 fun e w2=>e= .returned (.bool b)∧ ∃σ2 I2,nE σ1 I1 base w1 g h' g' w2 σ2 I2
theorem hX.later {P:Program} {gl:Nat} {hd:gD} {σ σ':aq} {I I':ah} {w w':World} (h:hX P gl hd σ I w) (k:c8 σ I w σ' I' w'):hX P gl hd σ' I' w':=by
 obtain ⟨l,o,n,hl,hh⟩:=h
 exact ⟨l,o,n,k.sig _ _ hl,fun σ1 I1 w1 h1=>hh σ1 I1 w1 (k.trans h1)⟩
def Gl (E:ap) (I:ah) (w:World):Prop:=E.gl I w
theorem Gl.mono {E:ap} {I I':ah} {w w':World} (h:Gl E I w) (hI: ∀b,I b→I' b) (hk: ∀b,I b→w'.heap[b]? =w.heap[b]?):Gl E I' w':=E.glm I I' w w' h hI hk
def bK (E:ap) (ys:Ys) (σ:aq) (I:ah) (w:World):Prop:=(∀gl hd,ys.get? gl=some hd→hX E.P gl hd σ I w)∧Gl E I w
theorem bK.later {E:ap} {ys:Ys} {σ σ':aq} {I I':ah} {w w':World} (h:bK E ys σ I w) (k:c8 σ I w σ' I' w'):bK E ys σ' I' w':=⟨fun gl hd hg=>(h.1 gl hd hg).later k,h.2.mono k.blk k.kp.keep⟩
theorem bK.nil {E:ap} {σ:aq} {I:ah} {w:World} (h:Gl E I w):bK E [] σ I w:=⟨fun gl hd hg=>by simp [Ys.get?] at hg,h⟩
def dB (E:ap) (call:bu):Prop:= ∀(ys:Ys) (σ:aq) (I:ah) (base:ah) (w:World) (h:aa) (f:FuncId) (args:List AV) (d slot gen g:Nat) (v:AV) (h':aa) (g':Nat) (us:List Value),
 call ys f args d slot gen h g=some (v,h',g')→bK E ys σ I w→af σ I base w h→aW base w.heap.size→us.length=args.length→(∀(j:Nat) (p:AV) (u:Value),args[j]? =some p→us[j]? =some u→ab σ I w p u)→
 σ gen=none→gen<g→(∀k,g≤k→σ k=none)→
 bE E.P f us.toArray w fun u w'=> ∃σ' I',dA σ I base w gen g v h' g' u w' σ' I'
structure Cx where
 n:Nat
 base:ah
 lo:Nat
 r:Option Nat
structure bB (C:Cx) (σ:aq) (I:ah) (w:World) (s:St) (a:Act):Prop where
 tmp: ∀i,ab σ I w (bz s.t i) (a.tmps.getD i undef)
 heap:af σ I C.base w s.h
 fresh: ∀k,s.g≤k→σ k=none
 hb:aW C.base w.heap.size
 hn:C.n≤a.tmps.size
 marks: ∀x∈a.defers,∃D,C.lo≤D∧x= { target:= .collected D,args:= #[]} ∧w.heap[D]? =some (Obj.deferred (some []))
 nodup:a.defers.Nodup
 around: ∀l,C.r=some l→ ∃x,w.heap[l]? =some (Obj.loop x)
 lob:aW C.base C.lo
 losz:C.lo≤w.heap.size
section
variable {E:ap} {call:bu} {ys:Ys} {st:Bool} {d gb:Nat} {C:Cx} {all:Array Oper} {σ:aq} {I:ah} {w:World} {s s':St} {a:Act}
theorem hY {x:AV} {u:Value} (hr:ab σ I w x u) (b:Bool):bS x=some b↔u= .bool b:=by
 cases hr with
 | pv p v h=>
  cases h with
  | lit=>cases u<;>simp [bS]
  | _=>simp [bS]
 | _=>simp [bS]
theorem jB (a:Array Value) (i:Nat):a.getD i undef=(a[i]?).getD undef:=by
 simp [Array.getD_eq_getD_getElem?]
theorem nF (H:bB C σ I w s a) (o:Oper):Region.wanted o (yielded all a.tmps)=bv all s.t o:=by
 unfold Region.wanted bv
 cases hg:o.guard with
 | none=>rfl
 | some gw=>
  obtain ⟨j,want⟩:=gw
  simp only []
  have key:yielded all a.tmps j=(((all[j]?).bind (·.dst)).bind fun i=>bS (bz s.t i)):=by
   unfold yielded
   cases hd:(all[j]?).bind (·.dst) with
   | none=>rfl
   | some i=>
    simp only [Option.bind_some]
    have hr:=H.tmp i
    rw [jB] at hr
    cases ht:a.tmps[i]? with
    | none=>
     rw [ht] at hr
     cases hb:bS (bz s.t i) with
     | none=>rfl
     | some b=>have:=(hY hr b).1 hb;simp [undef] at this
    | some v=>
     rw [ht] at hr
     simp only [Option.getD_some] at hr
     cases hb:bS (bz s.t i) with
     | some b=>have:=(hY hr b).1 hb;subst this;rfl
     | none=>
      cases v<;>try rfl
      rename_i b
      have:=(hY hr b).2 rfl
      rw [hb] at this
      cases this
  rw [key]
theorem nG (a:Array Value) (dd:Nat) (v:Value) (hdd:dd<a.size) (i:Nat):(a.setIfInBounds dd v).getD i undef=if dd=i then v else a.getD i undef:=by
 rw [jB,jB,Array.getElem?_setIfInBounds]
 by_cases e:dd=i
 ·subst e;simp [hdd]
 ·simp [e]
theorem bB.put {σ':aq} {I':ah} {w':World} {h':aa} {g':Nat} {v:AV} {u:Value} (H:bB C σ I w s a) {dst:Option Tmp} (hdst: ∀dd,dst=some dd→dd<C.n)
  (hx:aB C.base σ I w σ' I' w') (hv:ab σ' I' w' v u) (hh:af σ' I' C.base w' h') (hf: ∀k,g'≤k→σ' k=none):bB C σ' I' w' { t:=aP s.t dst v,h:=h',g:=g'} (a.put dst u):=by
 have hdef:(a.put dst u).defers=a.defers:=by cases dst<;>rfl
 refine ⟨fun i=> ?_,hh,hf,H.hb.mono hx.below.size,?_,?_,?_,?_,H.lob,Nat.le_trans H.losz hx.below.size⟩
 ·cases dst with
  | none=>exact hx.rep (H.tmp i)
  | some dd=>
   simp only [aP,Act.put]
   rw [i7,nG _ _ _ (Nat.lt_of_lt_of_le (hdst dd rfl) H.hn)]
   by_cases e:dd=i
   ·rw [if_pos e,if_pos e];exact hv
   ·rw [if_neg e,if_neg e];exact hx.rep (H.tmp i)
 ·cases dst with
  | none=>exact H.hn
  | some dd=>simp only [Act.put,Array.size_setIfInBounds];exact H.hn
 ·rw [hdef]
  intro x hx'
  obtain ⟨D,h1,h2,h3⟩:=H.marks x hx'
  exact ⟨D,h1,h2,hx.kp.dfr D h3⟩
 ·rw [hdef];exact H.nodup
 ·intro l hl
  obtain ⟨x,hx'⟩:=H.around l hl
  obtain ⟨x',h1,_⟩:=hx.kp.loop l x hx'
  exact ⟨x',h1⟩
structure kN (C:Cx) (i:Nat) (σ:aq) (I:ah) (w:World) (s:St) (σ':aq) (I':ah) (w':World) (s':St) (a':Act):Prop where
 rel:bB C σ' I' w' s' a'
 ext:aB C.base σ I w σ' I' w'
 low: ∀k,k<s.g→k≠i→σ' k=σ k
 grow:s.g≤s'.g
theorem nH {r:Option Nat} {o:Oper} {f:FuncId} {args:Array Value} {next:Act→World→Prop} {Q:Exit→Act→World→Prop} (hd:bE E.P f args w fun u w'=>next (a.put o.dst u) w'):
  o.uponIn (WF r) 0 E.P a next Q ((callFunc f args).run E.P w):=by
 rcases hd with ⟨v,w',h1,h2⟩ | ⟨h1,h2⟩ | ⟨row,as,w1,h1,h2⟩
 ·rw [h1];exact h2
 ·rw [h1]
  refine ⟨fun h=>by simp [WF,Fence.wide] at h,?_⟩
  exact callsIn_wide.2 (h2.mono fun e w' he=>by cases e<;>first | exact he | exact he.elim)
 ·rw [h1]
  refine ⟨fun h=>by simp [WF,Fence.wide] at h,fun c cs _=> ?_⟩
  obtain ⟨v,w',hR,hs⟩:=h2 c cs
  exact ⟨v,w',hR,stepsIn_wide.2 hs⟩
theorem nI {x:AV} {u:Value} (hr:ab σ I w x u) {f:FuncId} {b c:List AV} (hc:cP x=some (f,b,c)):
  ∃vb vc:List Value,u= .func (.func f) vb.toArray vc.toArray∧vb.length=b.length∧vc.length=c.length∧
   (∀(j:Nat) (p:AV) (v:Value),b[j]? =some p→vb[j]? =some v→ab σ I w p v)∧(∀(j:Nat) (p:AV) (v:Value),c[j]? =some p→vc[j]? =some v→ab σ I w p v):=by
 cases hr with
 | pv p v h=>
  cases h with
  | clo fn a b' va vb hla hlb hra hrb=>
   cases fn<;>simp [cP] at hc
   obtain ⟨rfl,rfl,rfl⟩:=hc
   refine ⟨va,vb,rfl,by simpa using hla,by simpa using hlb,fun j p v hp hv=> ?_,fun j p v hp hv=> ?_⟩
   ·simp only [List.getElem?_map,Option.map_eq_some_iff] at hp
    obtain ⟨q,hq,rfl⟩:=hp
    exact .pv _ _ (hra j q v hq hv)
   ·simp only [List.getElem?_map,Option.map_eq_some_iff] at hp
    obtain ⟨q,hq,rfl⟩:=hp
    exact .pv _ _ (hrb j q v hq hv)
  | _=>simp [cP] at hc
 | clo fn a b' va vb hla hlb hra hrb=>
  cases fn<;>simp [cP] at hc
  obtain ⟨rfl,rfl,rfl⟩:=hc
  exact ⟨va,vb,rfl,hla,hlb,hra,hrb⟩
 | _=>simp [cP] at hc
theorem hZ {b c:List AV} {vb vc:List Value} (hl:vb.length=b.length) (hb: ∀(j:Nat) (p:AV) (v:Value),b[j]? =some p→vb[j]? =some v→ab σ I w p v)
  (hc: ∀(j:Nat) (p:AV) (v:Value),c[j]? =some p→vc[j]? =some v→ab σ I w p v): ∀(j:Nat) (p:AV) (v:Value),(b++c)[j]? =some p→(vb++vc)[j]? =some v→ab σ I w p v:=by
 intro j p v hp hv
 rw [List.getElem?_append] at hp hv
 rw [hl] at hv
 split at hp
 ·rename_i hj;rw [if_pos hj] at hv;exact hb j p v hp hv
 ·rename_i hj;rw [if_neg hj] at hv;exact hc _ p v hp hv
theorem rL {P:Program} {x:AV} {u:Value} (hr:ab σ I w x u) {name:String} {f:FuncId} {rv:AV} (hm:gA P x name=some (f,rv)):
  ∃v,ab σ I w rv v∧ ∀(args:Array Value) (w':World),(callMethod u name args).run P w'=(callFunc f (#[v]++args)).run P w':=by
 unfold gA at hm
 split at hm
 ·rename_i t p
  cases hr;rename_i hp;cases hp;rename_i v hp
  simp only [Option.bind_eq_some_iff] at hm
  obtain ⟨m,⟨i,hi,hf⟩,hm⟩:=hm
  split at hm
  rotate_left
  ·cases hm
  rename_i hpath
  have hpl:m.path.toList=[]:=by simpa using hpath
  have key: ∀(d:TypeDesc) (b:Bool),m.func=some (f,b)→P.underlying t=some d→rv= .pv p→(∀nm w',(receiverAt t (.val v) b nm).run P w'= .ok v w')→
    ∃v',ab σ I w rv v'∧ ∀(args:Array Value) (w':World),(callMethod (.iface t v) name args).run P w'=(callFunc f (#[v']++args)).run P w':=by
   rintro d b hfn hd rfl hrec
   refine ⟨v,.pv _ _ hp,fun args w'=> ?_⟩
   unfold callMethod
   have hn:P.types.size+Made.depth=(P.types.size+99)+1:=rfl
   simp only [Sem.run_bind,show (program:Sem Program).run P w'= .ok P w' from rfl,Result.andThen_ok]
   rw [hn,method]
   simp only [Sem.run_bind,e9 hi,Result.andThen_ok,hf,hpl,follow,Sem.run_pure,hfn,hrec]
  split at hm
  ·rename_i f' e h1 h2
   simp only [Option.some.injEq,Prod.mk.injEq] at hm
   obtain ⟨rfl,rfl⟩:=hm
   refine key _ _ h1 h2 rfl fun nm w'=> ?_
   unfold receiverAt
   simp only [Sem.run_bind,aC h2,Result.andThen_ok]
   rfl
  ·cases hm
  ·rename_i f' d hne h1 h2
   simp only [Option.some.injEq,Prod.mk.injEq] at hm
   obtain ⟨rfl,rfl⟩:=hm
   refine key _ _ h1 h2 rfl fun nm w'=> ?_
   unfold receiverAt
   simp only [Sem.run_bind,aC h2,Result.andThen_ok]
   cases d<;>first | rfl | exact absurd rfl (hne _)
  ·cases hm
 ·cases hm
theorem rM {P:Program} {o:Oper} {ρ:Operand→AV} {d gen:Nat} {h:aa} {r:AV×aa} (hop:ai P o ρ d gen h=some r): ∀c,o.op≠ .defer c:=by
 intro c ho
 simp [ai,ho] at hop
theorem rN (hcall:dB E call) {i:Nat} {o:Oper} (hi:all[i]? =some o) (hdst:dT C.n o=true) (hs:bw E call ys st d gb all i o s=some s') (H:bB C σ I w s a) (hys:bK E ys σ I w)
  (hgen:σ (gb+i)=none) (hlt:gb+i<s.g) {Q:Exit→Act→World→Prop} {K:Act→World→Prop}
  (hK: ∀σ' I' w' a',kN C (gb+i) σ I w s σ' I' w' s' a'→K a' w'):wpOpIn (WF C.r) 0 E.P all Q i K a w:=by
 have hdst': ∀dd,o.dst=some dd→dd<C.n:=fun dd hd=>by simpa [dT,hd] using hdst
 unfold bw at hs
 simp only [Option.map_eq_some_iff] at hs
 obtain ⟨⟨v,h',g'⟩,hop,rfl⟩:=hs
 unfold cu at hop
 unfold wpOpIn
 rw [hi]
 simp only []
 rw [nF H o]
 cases hw:bv all s.t o with
 | false=>
  rw [hw] at hop
  simp only [Bool.false_eq_true,if_false,Option.some.injEq,Prod.mk.injEq] at hop ⊢
  obtain ⟨rfl,rfl,rfl⟩:=hop
  exact ⟨fun _ _=>trivial,hK σ I w _ ⟨H.put hdst' (aB.refl _ _ _ _) (.pv _ _ (.lit _)) H.heap H.fresh,aB.refl _ _ _ _,fun _ _ _=>rfl,Nat.le_refl _⟩⟩
 | true=>
  rw [hw] at hop
  simp only [if_true] at hop ⊢
  refine ⟨fun _ _=>trivial,?_⟩
  have hρ:=fun x=>gV H.tmp x
  unfold bx at hop
  split at hop
  ·rename_i f args ats ho
   rw [Oper.semAt_eq _ _ _ (fun c e=>by rw [ho] at e;cases e)]
   have hargs: ∀(j:Nat) (p:AV) (v:Value),(args.toList.map (aw s.t))[j]? =some p→(args.toList.map a.eval)[j]? =some v→ab σ I w p v:=by
    intro j p v hp hv
    simp only [List.getElem?_map,Option.map_eq_some_iff] at hp hv
    obtain ⟨x,hx,rfl⟩:=hp
    obtain ⟨y,hy,rfl⟩:=hv
    rw [hx] at hy
    injection hy with hy
    subst hy
    exact hρ x
   split at hop
   ·rename_i d' s' gl hyl
    simp only [Option.bind_eq_some_iff,Option.map_eq_some_iff,Prod.mk.injEq] at hop
    obtain ⟨hd,ac,⟨b,h1,g1⟩,hhd,rfl,rfl,rfl⟩:=hop
    have hu:=hρ f
    rw [hyl] at hu
    obtain ⟨l,ho',k',hl,hy⟩:=hys.1 gl hd ac
    cases hva:a.eval f<;>rw [hva] at hu<;>cases hu
    rename_i b' o' k'' hσ
    rw [hl] at hσ
    simp only [Option.some.injEq,Prod.mk.injEq] at hσ
    obtain ⟨rfl,rfl,rfl⟩:=hσ
    obtain ⟨fn,tmps,assign,body,hrun,hround⟩:=hy σ I w (c8.refl _ _ _) C.base s.h _ (args.toList.map a.eval) s.g b h1 g1 hhd H.heap H.hb (by simp) hargs H.fresh
    have hexec:(execOp a.eval o).run E.P w= .ok (.round l fn tmps assign body) w:=by
     have harr:args.map a.eval=(args.toList.map a.eval).toArray:=by apply Array.ext';simp
     rw [←hrun,←harr]
     simp [execOp,ho,resolve,hva,Deferred.ofValue,invoke]
    rw [hexec]
    refine ⟨fun h=>by simp [WF,Fence.wide] at h,RoundIn.mono hround ?_⟩
    rintro e w2 ⟨rfl,σ2,I2,hp⟩
    exact hK σ2 I2 w2 _ ⟨H.put hdst' hp.ext (.pv _ _ (.lit _)) hp.heap hp.high,hp.ext,fun k hk _=>hp.low k hk,hp.grow⟩
   ·simp only [Option.bind_eq_some_iff] at hop
    obtain ⟨⟨fid,b,c⟩,hcal,hop⟩:=hop
    split at hop
    ·cases hop
    ·obtain ⟨vb,vc,hu,hlb,hlc,hrb,hrc⟩:=nI (hρ f) hcal
     have hexec:(execOp a.eval o).run E.P w=(callFunc fid (vb++args.toList.map a.eval++vc).toArray).run E.P w:=by
      have harr:vb.toArray++args.map a.eval++vc.toArray=(vb++args.toList.map a.eval++vc).toArray:=by
       apply Array.ext'
       simp
      rw [←harr]
      simp [execOp,ho,resolve,hu,Deferred.ofValue,invoke]
     rw [hexec]
     refine nH (bE.mono (hcall ys σ I C.base w s.h fid _ d _ (gb+i) s.g v h' g' (vb++args.toList.map a.eval++vc) hop hys H.heap H.hb (by simp [hlb,hlc]) ?_ hgen hlt H.fresh) ?_)
     ·exact hZ (by simp [hlb]) (hZ hlb hrb hargs) hrc
     ·rintro u w' ⟨σ',I',hp⟩
      exact hK σ' I' w' _ ⟨H.put hdst' hp.ext hp.rep hp.heap hp.high,hp.ext,hp.low,hp.grow⟩
  ·rename_i r m args ats ho
   rw [Oper.semAt_eq _ _ _ (fun c e=>by rw [ho] at e;cases e)]
   simp only [Option.bind_eq_some_iff] at hop
   obtain ⟨⟨fid,rv⟩,hmth,hop⟩:=hop
   obtain ⟨v1,hrv,hrun⟩:=rL (hρ r) hmth
   have hargs: ∀(j:Nat) (p:AV) (v:Value),(args.toList.map (aw s.t))[j]? =some p→(args.toList.map a.eval)[j]? =some v→ab σ I w p v:=by
    intro j p v hp hv
    simp only [List.getElem?_map,Option.map_eq_some_iff] at hp hv
    obtain ⟨x,hx,rfl⟩:=hp
    obtain ⟨y,hy,rfl⟩:=hv
    rw [hx] at hy
    injection hy with hy
    subst hy
    exact hρ x
   have hexec:(execOp a.eval o).run E.P w=(callFunc fid ([v1]++args.toList.map a.eval).toArray).run E.P w:=by
    have harr: #[v1]++args.map a.eval=([v1]++args.toList.map a.eval).toArray:=by
     apply Array.ext'
     simp
    have h0: ∀(x:Value) (l:Array Value),(#[x]++l)[0]? =some x:=fun x l=>by
     rw [Array.getElem?_append_left (by simp)];rfl
    have h1: ∀(x:Value) (l:Array Value),(#[x]++l).extract 1 (#[x]++l).size=l:=fun x l=>by
     apply Array.ext'
     simp
    rw [←harr,←hrun]
    simp only [execOp,ho,resolve,Sem.run_bind,Sem.run_pure,Result.andThen_ok,invoke,h0,h1]
   rw [hexec]
   refine nH (bE.mono (hcall ys σ I C.base w s.h fid _ d _ (gb+i) s.g v h' g' ([v1]++args.toList.map a.eval) hop hys H.heap H.hb (by simp) ?_ hgen hlt H.fresh) ?_)
   ·refine hZ rfl (fun j p u hp hu=> ?_) hargs
    cases j with
    | zero=>simp at hp hu;subst hp;subst hu;exact hrv
    | succ j=>simp at hp
   ·rintro u w' ⟨σ',I',hp⟩
    exact hK σ' I' w' _ ⟨H.put hdst' hp.ext hp.rep hp.heap hp.high,hp.ext,hp.low,hp.grow⟩
  ·split at hop
   ·cases hop
   ·simp only [Option.map_eq_some_iff,Prod.mk.injEq] at hop
    obtain ⟨⟨v1,h1⟩,hop,rfl,rfl,rfl⟩:=hop
    rw [Oper.semAt_eq _ _ _ (rM hop)]
    obtain ⟨nx,w',u,σ',I',g1,g2,g3,g4,g5,g6⟩:=rK hop hρ H.heap hgen H.hb
    rw [g1]
    have hfr: ∀k,s.g≤k→σ' k=none:=fun k hk=>by rw [g6 k (by omega)];exact H.fresh k hk
    have:kN C (gb+i) σ I w s σ' I' w' { t:=aP s.t o.dst v1,h:=h1,g:=s.g} (a.put o.dst u):=⟨H.put hdst' g5 g3 g4 hfr,g5,fun k _ hk=>g6 k hk,Nat.le_refl _⟩
    rcases g2 with rfl | ⟨rfl,rfl⟩
    ·exact hK σ' I' w' _ this
    ·exact hK σ' I' w' _ this
end
def bp (l:List (K2×ak)) (h:aa):aa:=l.foldl (fun h p=>hput h p.1.1 p.1.2 p.2) h
theorem kO {k:K2} : ∀ {l:List (K2×ak)} {h:aa},(∀p∈l,p.1≠k)→ac (bp l h) k.1 k.2=ac h k.1 k.2
 | [],_,_=>rfl
 | p::l,h,hl=>by
  show ac (bp l (hput h p.1.1 p.1.2 p.2)) k.1 k.2=_
  rw [kO fun q hq=>hl q (by simp [hq]),bY,if_neg]
  rintro ⟨e1,e2⟩
  exact hl p (by simp) (Prod.ext e1 e2)
theorem nJ {d s:Nat} {r:ak} : ∀ {l:List (K2×ak)} {h:aa},(∀p∈l,p.1≠(d,s))→bp l (hput h d s r)=hput (bp l h) d s r
 | [],_,_=>rfl
 | p::l,h,hl=>by
  show bp l (hput (hput h d s r) p.1.1 p.1.2 p.2)=hput (bp l (hput h p.1.1 p.1.2 p.2)) d s r
  rw [jh h r p.2 (fun e=>hl p (by simp) (Prod.ext e.1.symm e.2.symm)),nJ fun q hq=>hl q (by simp [hq])]
theorem nK: ∀ {l l':List (K2×ak)} {h:aa},(∀p∈l,∀q∈l',p.1≠q.1)→bp l (bp l' h)=bp l' (bp l h)
 | [],_,_,_=>rfl
 | p::l,l',h,hl=>by
  show bp l (hput (bp l' h) p.1.1 p.1.2 p.2)=bp l' (bp l (hput h p.1.1 p.1.2 p.2))
  rw [←nJ (d:=p.1.1) (s:=p.1.2) fun q hq e=>hl p (by simp) q hq e.symm,nK fun q hq=>hl q (by simp [hq])]
theorem jC: ∀ {ks:List K2} {x:K2},(bZ ks x).isNone=true→x∉ks
 | [],x,_=>by simp
 | k::ks,x,h=>by
  unfold bZ at h
  split at h
  ·cases h
  ·rename_i hk
   simp only [Option.isNone_map] at h
   simp only [List.mem_cons,not_or]
   exact ⟨fun e=>hk (by subst e;simp),jC h⟩
def ep (R W:List K2) (F:aa→Nat→Option (AV×aa×Nat)):Prop:= ∀h g v h' g',F h g=some (v,h',g')→
 ∃l:List (K2×ak),(∀p∈l,p.1∈W)∧h'=bp l h∧g'=g∧ ∀h2 g2,(∀k∈R,ac h2 k.1 k.2=ac h k.1 k.2)→F h2 g2=some (v,bp l h2,g2)
theorem dW.loc {R W:List K2} {F} (hF:dW F):ep R W F:=fun h g v h' g' e=>by
 obtain ⟨h1,h2,h3⟩:=hF h g v h' g' e
 exact ⟨[],by simp,h1,h2,fun h2 g2 _=>h3 h2 g2⟩
theorem ku.loc {d s:Nat} {F} (hF:ku d s F):ep [(d,s)] [(d,s)] F:=fun h g v h' g' e=>by
 obtain ⟨r,h1,h2,h3,h4⟩:=hF h g v h' g' e
 exact ⟨[((d,s),r)],by simp,h2,h3,fun h2 g2 hk=>h4 h2 g2 (by rw [hk (d,s) (by simp)];exact h1)⟩
theorem rO {a b:bG} (h:iO a b=true):(∀k∈a.w,k∉b.r∧k∉b.w)∧ ∀k∈b.w,k∉a.r:=by
 simp only [iO,Bool.and_eq_true,List.all_eq_true] at h
 exact ⟨fun k hk=>⟨jC (h.1 k hk).1,jC (h.1 k hk).2⟩,fun k hk=>jC (h.2 k hk)⟩
theorem rP {Fx Fy:aa→Nat→Option (AV×aa×Nat)} {a b:bG} (hx:ep a.r a.w Fx) (hy:ep b.r b.w Fy) (hd:iO a b=true) {h hx' hy':aa} {g gx gy:Nat} {vx vy:AV}
  (ex:Fx h g=some (vx,hx',gx)) (ey:Fy hx' gx=some (vy,hy',gy)): ∃h' g',Fy h g=some (vy,h',g')∧Fx h' g'=some (vx,hy',gy):=by
 obtain ⟨d1,d2⟩:=rO hd
 obtain ⟨lx,x1,rfl,rfl,x4⟩:=hx _ _ _ _ _ ex
 obtain ⟨ly,y1,rfl,rfl,y4⟩:=hy _ _ _ _ _ ey
 refine ⟨_,_,y4 h _ fun k hk=>(kO fun p hp e=>(d1 _ (x1 p hp)).1 (e▸hk)).symm,?_⟩
 rw [x4 _ _ fun k hk=>kO fun p hp e=>d2 _ (y1 p hp) (e▸hk),nK fun p hp q hq e=>(d1 _ (x1 p hp)).2 (e▸y1 q hq)]
section
variable {E:ap} {call:bu} {ys:Ys} {st:Bool} {d gen gb:Nat} {all:Array Oper} {P:Program} {o:Oper} {ρ:Operand→AV} {h h' h2:aa} {v:AV}
theorem fX {R W:List K2} {F:aa→Option (AV×aa)} (hF: ∀h v h',F h=some (v,h')→ ∃l:List (K2×ak),(∀p∈l,p.1∈W)∧h'=bp l h∧ ∀h2,(∀k∈R,ac h2 k.1 k.2=ac h k.1 k.2)→F h2=some (v,bp l h2)):
  ep R W (fun h g=>(F h).map fun (v,h)=>(v,h,g)):=fun h g v h' g' e=>by
 simp only [Option.map_eq_some_iff,Prod.mk.injEq] at e
 obtain ⟨⟨a,ha⟩,he,rfl,rfl,rfl⟩:=e
 obtain ⟨l,k1,k2,k3⟩:=hF h a _ he
 exact ⟨l,k1,k2,rfl,fun h2 g2 hr=>by simp [k3 h2 hr]⟩
theorem kP {R W:List K2} {F:aa→Option (AV×aa)} (hF: ∀h v h' h2,(∀k∈R,ac h2 k.1 k.2=ac h k.1 k.2)→F h=some (v,h')→h'=h∧F h2=some (v,h2)):
  ep R W (fun h g=>(F h).map fun (v,h)=>(v,h,g)):=fX fun h v h' e=>⟨[],by simp,(hF h v h' h (fun _ _=>rfl) e).1,fun h2 hr=>(hF h v h' h2 hr e).2⟩
theorem eq {d s g:Nat} (h0:ac h2 d s=ac h d s):live h2 d s g=live h d s g:=by unfold live;rw [h0]
theorem er (h1: ∀f a t,o.op≠ .call { callee:= .value f,args:=a,argTypes:=t}) (h2: ∀r m a t,o.op≠ .call { callee:= .invoke r m,args:=a,argTypes:=t}) (hc:aN E o≠ .al):
  bx E call ys true d gen o ρ=fun h g=>(ai E.P o ρ d gen h).map fun (v,h)=>(v,h,g):=by
 funext h g
 unfold bx
 split
 ·rename_i ho;exact absurd ho (h1 _ _ _)
 ·rename_i ho;exact absurd ho (h2 _ _ _ _)
 ·have:(aN E o== .al)=false:=by cases hx:aN E o<;>first | rfl | exact absurd hx hc
  simp [this]
theorem kQ {l:List AV} {ps:List PV} (hl:aQ l=some ps) (n:Nat) (h:aa):bi (n+1) l h=some (ps,h):=by
 have key: ∀(l:List AV) (ps:List PV),aQ l=some ps→bQ (pk h (n+1)) l=some (ps,[]):=by
  intro l
  induction l with
  | nil=>intro ps hp;simp [aQ] at hp;subst hp;rfl
  | cons a l ih=>
   intro ps hp
   cases a<;>simp only [aQ,Option.map_eq_some_iff,reduceCtorEq] at hp
   obtain ⟨qs,hq,rfl⟩:=hp
   have h1: ∀p,pk h (n+1) (.pv p)=some (p,[]):=fun _=>rfl
   simp only [bQ,h1,ih _ hq,Option.bind_some,Option.map_some,List.append_nil]
 simp [bi,key l ps hl,marks]
theorem nL {x:AV} (hx:(aQ [x]).isSome=true): ∃p,x= .pv p:=by
 cases x<;>simp [aQ] at hx
 exact ⟨_,rfl⟩
theorem nM {p:PV} (n:Nat) (h:aa):frz (n+1) (.pv p) h=some (p,h):=rfl
theorem rQ {t:TypeId} {a:Operand} (ho:o.op= .load t a) (hr: ∀k∈aM (ρ a),ac h2 k.1 k.2=ac h k.1 k.2) (e:ai P o ρ d gen h=some (v,h')):h'=h∧ai P o ρ d gen h2=some (v,h2):=by
 simp only [ai,ho] at e ⊢
 refine bind_some e fun m e=>bind_some e fun ag e=> ?_
 split at e
 ·rename_i d1 s g i off hx
  rw [hx] at hr
  rw [eq (h:=h) (h2:=h2) (g:=g) (hr (d1,s) (by simp [aM]))]
  split at e
  ·rename_i w0 fz hl
   simp only [hl]
   split at e
   ·rename_i hi;simp only [hi,if_true];exact map_some e
   ·cases e
  ·rename_i k0 e0 xs0 fz hl
   simp only [hl]
   exact bind_some e fun x e=>map_some e
  ·cases e
 ·exact map_some e
 ·cases e
theorem rR {t:TypeId} {x ix:Operand} (ho:o.op= .indexAddr t x ix) (hr: ∀k∈aM (ρ x),ac h2 k.1 k.2=ac h k.1 k.2) (e:ai P o ρ d gen h=some (v,h')):
  h'=h∧ai P o ρ d gen h2=some (v,h2):=by
 simp only [ai,ho] at e ⊢
 refine bind_some e fun i e=> ?_
 split at e
 ·refine bind_some e fun size e=> ?_
  split at e
  ·rename_i hi;rw [if_pos hi];exact map_some e
  ·cases e
 ·rename_i d1 s g off n full hd hx
  rw [hx] at hr
  refine bind_some e fun size e=> ?_
  rw [eq (h:=h) (h2:=h2) (g:=g) (hr (d1,s) (by simp [aM]))]
  split at e
  ·rename_i k0 e0 xs0 fz hl
   simp only [hl]
   split at e
   ·rename_i hi;rw [if_pos hi];injection e with e;injection e with e1 e2;subst e1 e2;exact ⟨rfl,rfl⟩
   ·cases e
  ·cases e
 ·refine bind_some e fun size e=> ?_
  split at e
  ·rename_i hi;rw [if_pos hi];injection e with e;injection e with e1 e2;subst e1 e2;exact ⟨rfl,rfl⟩
  ·cases e
 ·refine bind_some e fun size e=> ?_
  split at e
  ·rename_i hi;rw [if_pos hi];injection e with e;injection e with e1 e2;subst e1 e2;exact ⟨rfl,rfl⟩
  ·cases e
 ·cases e
theorem rS {t:TypeId} {m k:Operand} {ok:Bool} (ho:o.op= .lookup t m k ok) (hr: ∀k∈aM (ρ m),ac h2 k.1 k.2=ac h k.1 k.2) (e:ai P o ρ d gen h=some (v,h')):h'=h∧ai P o ρ d gen h2=some (v,h2):=by
 simp only [ai,ho] at e ⊢
 split at e
 ·refine bind_some e fun kd e=> ?_
  exact map_some e
 ·rename_i d1 s g key hd hx hk
  rw [hx] at hr
  rw [eq (h:=h) (h2:=h2) (g:=g) (hr (d1,s) (by simp [aM]))]
  split at e
  ·rename_i c0 es0 hl
   simp only [hl]
   refine bind_some e fun kd e=> ?_
   split at e
   ·simp only [Option.some.injEq,Prod.mk.injEq] at e ⊢; exact ⟨e.2.symm,e.1,trivial⟩
   ·exact map_some e
   ·cases e
  ·cases e
 ·cases e
theorem rT {t:TypeId} {a x:Operand} (ho:o.op= .store t a x) (hpv:(aQ [ρ x]).isSome=true) (e:ai P o ρ d gen h=some (v,h')):
  ∃l:List (K2×ak),(∀p∈l,p.1∈aM (ρ a))∧h'=bp l h∧ ∀h2,(∀k∈aM (ρ a),ac h2 k.1 k.2=ac h k.1 k.2)→ai P o ρ d gen h2=some (v,bp l h2):=by
 obtain ⟨p,hp⟩:=nL hpv
 simp only [ai,ho,bind,Option.bind_eq_some_iff] at e ⊢
 obtain ⟨m,hm,e⟩:=e
 split at e
 rotate_left
 ·cases e
 rename_i hc
 split at e
 rotate_left
 ·cases e
 rename_i d1 s g i off hx
 split at e
 ·rename_i w hl
  split at e
  ·rename_i hi
   simp only [Option.map_eq_some_iff,Prod.mk.injEq] at e
   obtain ⟨v',hv',rfl,rfl⟩:=e
   refine ⟨[((d1,s),⟨g,.box v' false⟩)],by simp [hx,aM],rfl,fun h2 hr=>⟨m,hm,?_⟩⟩
   have:=eq (g:=g) (hr (d1,s) (by simp [hx,aM]))
   rw [if_pos hc]
   simp only [hx,this,hl,hi,if_true,hv',Option.map_some]
   rfl
  ·cases e
 ·rename_i k0 e0 xs0 hl
  rw [hp] at e
  have e:(frz ao (.pv p) h).bind _=_:=e
  simp only [nM 7 h,ao,Option.bind_some] at e
  split at e
  ·rename_i k e1 xs hl2
   have hh:=hl.symm.trans hl2
   injection hh with hh1 hh2 hh3
   subst hh1 hh2 hh3
   simp only [Option.bind_eq_some_iff] at e
   obtain ⟨y,hy,e⟩:=e
   split at e
   ·rename_i hle
    simp only [Option.map_eq_some_iff,Prod.mk.injEq] at e
    obtain ⟨y',hy',rfl,rfl⟩:=e
    refine ⟨[((d1,s),⟨g,.row k0 e0 (xs0.set i y') false⟩)],by simp [hx,aM],rfl,fun h2 hr=>⟨m,hm,?_⟩⟩
    have hlv:=eq (g:=g) (hr (d1,s) (by simp [hx,aM]))
    rw [hp] at hc
    rw [hp]
    rw [if_pos hc]
    simp only [hx,hlv,hl,ao,nM 7 h2,Option.bind_some,hy]
    rw [if_pos hle]
    simp only [hy',Option.map_some]
    rfl
   ·cases e
  ·cases e
 ·cases e
theorem nN {t:TypeId} {m k x:Operand} (ho:o.op= .mapUpdate t m k x∨o.op= .insert t m k x) (hpv:(aQ [ρ x]).isSome=true) (e:ai P o ρ d gen h=some (v,h')):
  ∃l:List (K2×ak),(∀p∈l,p.1∈aM (ρ m))∧h'=bp l h∧ ∀h2,(∀k∈aM (ρ m),ac h2 k.1 k.2=ac h k.1 k.2)→ai P o ρ d gen h2=some (v,bp l h2):=by
 obtain ⟨p,hp⟩:=nL hpv
 have hkp: ∀h:aa,gC h (.pv p)=some (.pv p,h):=fun h=>rfl
 have key: ∀h:aa,ai P o ρ d gen h=(match P.underlying t,ρ m,ρ k with
  | some (.map kt _),.mref d s g,.pv (.lit key)=>(dj P kt).bind fun kd=>match live h d s g with
   | .map clock es=>match dO kd key es 0 with
    | some (some (i,_))=>some (bb,hput h d s ⟨g,.map clock (es.set i ⟨((es[i]?).map (·.born)).getD 0,key,.pv p⟩)⟩)
    | some none=>some (bb,hput h d s ⟨g,.map (clock+1) (es++[⟨clock,key,.pv p⟩])⟩)
    | none=>none
   | _=>none
  | _,_,_=>none):=by
  intro h
  rcases ho with ho | ho<;>(simp only [ai,ho,hp,hkp,Option.bind_some];rfl)
 rw [key] at e
 split at e
 rotate_left
 ·cases e
 rename_i kt vt d1 s g ky hd hm hk
 simp only [Option.bind_eq_some_iff] at e
 obtain ⟨kd,hkd,e⟩:=e
 have fin: ∀(r:ak),(∀h2:aa,live h2 d1 s g=live h d1 s g→ai P o ρ d gen h2=some (bb,hput h2 d1 s r))→v=bb→h'=hput h d1 s r→
   ∃l:List (K2×ak),(∀p∈l,p.1∈aM (ρ m))∧h'=bp l h∧ ∀h2,(∀k∈aM (ρ m),ac h2 k.1 k.2=ac h k.1 k.2)→ai P o ρ d gen h2=some (v,bp l h2):=by
  intro r hr hv hh
  subst hv hh
  exact ⟨[((d1,s),r)],by simp [hm,aM],rfl,fun h2 hk2=>hr h2 (eq (hk2 (d1,s) (by simp [hm,aM])))⟩
 split at e
 rotate_left
 ·cases e
 rename_i clock es hl
 split at e
 ·rename_i i v0 hf
  simp only [Option.some.injEq,Prod.mk.injEq] at e
  refine fin ⟨g,.map clock (es.set i ⟨((es[i]?).map (·.born)).getD 0,ky,.pv p⟩)⟩ (fun h2 hlv=> ?_) e.1.symm e.2.symm
  rw [key]
  simp only [hd,hm,hk,hkd,Option.bind_some,hlv,hl,hf]
 ·rename_i hf
  simp only [Option.some.injEq,Prod.mk.injEq] at e
  refine fin ⟨g,.map (clock+1) (es++[⟨clock,ky,.pv p⟩])⟩ (fun h2 hlv=> ?_) e.1.symm e.2.symm
  rw [key]
  simp only [hd,hm,hk,hkd,Option.bind_some,hlv,hl,hf]
 ·cases e
theorem rU {t:TypeId} {len:Nat} {parts:Array (Nat×Operand)} (ho:o.op= .buildSlice t len parts) (hpv:(aQ (parts.toList.map fun q=>ρ q.2)).isSome=true) (e:ai P o ρ d gen h=some (v,h')):
  ∃l:List (K2×ak),(∀p∈l,p.1∈o.dst.toList.map fun s=>(d,s))∧h'=bp l h∧ ∀h2:aa,ai P o ρ d gen h2=some (v,bp l h2):=by
 obtain ⟨ps,hps⟩:=Option.isSome_iff_exists.1 hpv
 have hfz: ∀h:aa,bi ao (parts.toList.map fun q=>ρ q.2) h=some (ps,h):=fun h=>kQ hps 7 h
 simp only [ai,ho] at e ⊢
 split at e
 rotate_left
 ·cases e
 simp only [bind,Option.bind_eq_some_iff] at e ⊢
 obtain ⟨size,hsz,e⟩:=e
 split at e
 ·rename_i h0
  simp only [Option.some.injEq,Prod.mk.injEq] at e
  obtain ⟨rfl,rfl⟩:=e
  exact ⟨[],by simp,rfl,fun h2=>⟨size,hsz,by rw [if_pos h0];rfl⟩⟩
 ·rename_i h0
  simp only [Option.bind_eq_some_iff] at e
  obtain ⟨z,hz,s,hs,e⟩:=e
  split at e
  rotate_left
  ·cases e
  rename_i h1
  simp only [hfz,Option.bind_some] at e
  split at e
  rotate_left
  ·cases e
  rename_i h3
  simp only [Option.some.injEq,Prod.mk.injEq] at e
  obtain ⟨rfl,rfl⟩:=e
  refine ⟨[((d,s),_)],by simp [hs],rfl,fun h2=>⟨size,hsz,?_⟩⟩
  rw [if_neg h0]
  simp only [hz,hs,Option.bind_some]
  rw [if_pos h1]
  simp only [hfz,Option.bind_some]
  rw [if_pos h3]
  rfl
theorem rV {size:Nat} {x:AV} {ys:List PV} (hr: ∀k∈aM x,ac h2 k.1 k.2=ac h k.1 k.2) (e:ct size h x=some ys):ct size h2 x=some ys:=by
 unfold ct at e ⊢
 split at e
 ·exact e
 ·exact e
 ·rename_i d1 s g off n full
  rw [eq (hr (d1,s) (by simp [aM]))]
  exact e
 ·cases e
theorem rW {e size bytes slot:Nat} {tgt:AV} {ys:List PV} (he:dL e size bytes d slot gen h tgt ys=some (v,h')):
  ∃l:List (K2×ak),(∀p∈l,p.1=(d,slot)∨p.1∈aM tgt)∧h'=bp l h∧ ∀h2,(∀k∈aM tgt,ac h2 k.1 k.2=ac h k.1 k.2)→dL e size bytes d slot gen h2 tgt ys=some (v,bp l h2):=by
 unfold dL at he ⊢
 split at he
 ·rename_i k nl full xs
  split at he
  ·rename_i h0
   simp only [Option.some.injEq,Prod.mk.injEq] at he
   obtain ⟨rfl,rfl⟩:=he
   exact ⟨[],by simp,rfl,fun h2 _=>by rw [if_pos h0];rfl⟩
  ·rename_i h0
   split at he
   ·rename_i h1
    split at he
    ·rename_i h3
     simp only [Option.some.injEq,Prod.mk.injEq] at he
     obtain ⟨rfl,rfl⟩:=he
     exact ⟨[((d,slot),_)],by simp,rfl,fun h2 _=>by rw [if_neg h0,if_pos h1,if_pos h3];rfl⟩
    ·cases he
   ·rename_i h1
    split at he
    ·rename_i h3
     simp only [Option.some.injEq,Prod.mk.injEq] at he
     obtain ⟨rfl,rfl⟩:=he
     refine ⟨[((d,slot),_)],by simp,rfl,fun h2 _=> ?_⟩
     rw [if_neg h0,if_neg h1,if_pos h3]
     rfl
    ·cases he
 ·rename_i d1 s1 g1 off n full
  split at he
  rotate_left
  ·cases he
  rename_i k e' xs fz hl
  have hlv: ∀h2:aa,(∀k∈aM (.msl d1 s1 g1 off n full),ac h2 k.1 k.2=ac h k.1 k.2)→live h2 d1 s1 g1= .row k e' xs fz:=fun h2 hr=>by rw [eq (hr (d1,s1) (by simp [aM])),hl]
  split at he
  ·rename_i hfull
   split at he
   ·rename_i h0
    simp only [Option.some.injEq,Prod.mk.injEq] at he
    obtain ⟨rfl,rfl⟩:=he
    refine ⟨[],by simp,rfl,fun h2 hr=> ?_⟩
    simp only [hlv h2 hr]
    rw [if_pos hfull,if_pos h0]
    rfl
   ·rename_i h0
    split at he
    ·rename_i h3
     simp only [Option.some.injEq,Prod.mk.injEq] at he
     obtain ⟨rfl,rfl⟩:=he
     refine ⟨[((d,slot),_)],by simp,rfl,fun h2 hr=> ?_⟩
     simp only [hlv h2 hr]
     rw [if_pos hfull,if_neg h0,if_pos h3]
     rfl
    ·cases he
  ·rename_i hfull
   split at he
   ·rename_i h3
    simp only [Option.some.injEq,Prod.mk.injEq] at he
    obtain ⟨rfl,rfl⟩:=he
    refine ⟨[((d1,s1),_)],by simp [aM],rfl,fun h2 hr=> ?_⟩
    simp only [hlv h2 hr]
    rw [if_neg hfull,if_pos h3]
    rfl
   ·cases he
 ·cases he
theorem rX {args:Array Operand} {argTypes:Array TypeId} (ho:o.op= .call { callee:= .builtin .append,args,argTypes}) (e:ai P o ρ d gen h=some (v,h')):
  ∃l:List (K2×ak),(∀p∈l,p.1∈(d,o.dst.getD 0)::args.toList.flatMap (fun x=>aM (ρ x)))∧h'=bp l h∧
   ∀h2,(∀k∈(d,o.dst.getD 0)::args.toList.flatMap (fun x=>aM (ρ x)),ac h2 k.1 k.2=ac h k.1 k.2)→ai P o ρ d gen h2=some (v,bp l h2):=by
 have hm: ∀h:aa,∀l,bR P .append argTypes h l=none:=fun h l=>by unfold bR;split<;>first | rfl | contradiction
 simp only [ai,ho,hm] at e ⊢
 have hfm: ∀x y:AV,args.toList.map ρ=[x,y]→args.toList.flatMap (fun x=>aM (ρ x))=aM x++aM y:=by
  intro x y hxy
  rw [←List.flatMap_map,hxy]
  simp
 generalize hl:args.toList.map ρ=l at e ⊢
 match l,e,hl with
 | [],e,_=>cases e
 | [_],e,_=>cases e
 | _::_::_::_,e,_=>cases e
 | [x,y],e,hl=>
 have hr0:=hfm x y hl
 rw [hr0]
 simp only [cg] at e ⊢
 split at e
 rotate_left
 ·cases e
 rename_i t0 t1 hat
 split at e
 ·rename_i el hu ha
  simp only [bind,Option.bind_eq_some_iff] at e
  obtain ⟨size,h1,bytes,h2',z,h3,es,h4,e⟩:=e
  split at e
  ·cases e
  rename_i hc
  obtain ⟨l,k1,k2,k3⟩:=rW e
  refine ⟨l,fun p hp=> ?_,k2,fun h2 hr=> ?_⟩
  ·rcases k1 p hp with hq | hq
   ·simp [hq]
   ·simp [hq]
  ·simp only [hat,hu,ha,bind,h1,h2',h3,Option.bind_some,rV (h2:=h2) (fun k hk=>hr k (by simp [hk])) h4]
   rw [if_neg hc]
   exact k3 h2 fun k hk=>hr k (by simp [hk])
 ·rename_i el hu ha
  unfold eR at e
  split at e
  rotate_left
  ·cases e
  rename_i k0 n0 nl full xs k1' n hu1
  simp only [bind,Option.bind_eq_some_iff] at e
  obtain ⟨size,h1,bytes,h2',z,h3,e⟩:=e
  split at e
  ·cases e
  rename_i hc
  split at e
  ·rename_i hc2
   simp only [Option.some.injEq,Prod.mk.injEq] at e
   obtain ⟨rfl,rfl⟩:=e
   refine ⟨[((d,o.dst.getD 0),_)],by simp,rfl,fun h2 hr=> ?_⟩
   unfold eR
   simp only [hu1,bind,h1,h2',h3,Option.bind_some]
   rw [if_neg hc,if_pos hc2]
   rfl
  ·cases e
 ·cases e
theorem rY (hcall:cR E call) {t:List AV} {f:bG} (hf:fI E d o (aw t)=some f):ep f.r f.w (bx E call ys true d gen o (aw t)):=by
 have hcls:=mS (ys:=ys) (d:=d) (gen:=gen) hcall o t
 unfold fI at hf
 split at hf
 ·rename_i hc
  simp only [Option.some.injEq] at hf
  subst hf
  cases hcls with
  | pu h=>exact h.loc
  | fz hc' h=>rw [hc] at hc';rcases hc' with hc' | hc'<;>cases hc'
  | al s hc'=>rw [hc] at hc';cases hc'
  | eff hc'=>rw [hc] at hc';cases hc'
 ·rename_i hc
  simp only [Option.map_eq_some_iff] at hf
  obtain ⟨s,hs,rfl⟩:=hf
  cases hcls with
  | pu h=>exact h.loc
  | fz hc' h=>rw [hc] at hc';rcases hc' with hc' | hc'<;>cases hc'
  | al s' hc' hd h=>
   rw [hs] at hd
   injection hd with hd
   subst hd
   exact h.loc
  | eff hc'=>rw [hc] at hc';cases hc'
 ·rename_i hc
  split at hf
  ·rename_i ty a ho
   simp only [Option.some.injEq] at hf
   subst hf
   rw [er (by simp [ho]) (by simp [ho]) (by simp [hc])]
   exact kP fun h v h' h2 hr e=>rQ ho hr e
  ·rename_i ty a ix ho
   simp only [Option.some.injEq] at hf
   subst hf
   rw [er (by simp [ho]) (by simp [ho]) (by simp [hc])]
   exact kP fun h v h' h2 hr e=>rR ho hr e
  ·rename_i ty a k ok ho
   simp only [Option.some.injEq] at hf
   subst hf
   rw [er (by simp [ho]) (by simp [ho]) (by simp [hc])]
   exact kP fun h v h' h2 hr e=>rS ho hr e
  ·cases hf
 ·rename_i hc
  split at hf
  ·rename_i fid args ats ho
   split at hf
   ·rename_i hpv
    simp only [Option.some.injEq] at hf
    subst hf
    have hc':=hc
    simp only [aN,ho] at hc'
    split at hc'
    ·cases hc'
    rename_i hn
    simp only [Bool.or_eq_true,not_or,Bool.not_eq_true] at hn
    obtain ⟨ps,hps⟩:=Option.isSome_iff_exists.1 hpv
    have hF: ∀h g,bx E call ys true d gen o (aw t) h g=if (args.toList.map (aw t)).any (bc ao) then none else call ys fid (args.toList.map (aw t)) d (o.dst.getD 0) gen h g:=by
     intro h g
     unfold bx
     split
     ·rename_i f' args' ats' ho'
      rw [ho] at ho'
      injection ho' with ho'
      injection ho' with h1 h2 h3
      injection h1 with h1
      subst h1 h2
      simp [aw,cP,hc]
     ·rename_i hinv
      rw [ho] at hinv
      cases hinv
     ·rename_i hno _
      exact absurd ho (hno _ _ _)
    cases hm:(args.toList.map (aw t)).any (bc ao) with
    | true=>exact fun h g v h' g' e=>by rw [hF,hm] at e;cases e
    | false=>
     obtain ⟨r,hr⟩:=hcall fid _ hn.1.1 hn.1.2.1 hn.1.2.2 hm
     intro h g v h' g' e
     rw [hF,hm] at e
     simp only [Bool.false_eq_true,if_false,hr,ao,kQ hps 7,Option.bind_some,Option.map_eq_some_iff,Prod.mk.injEq] at e
     obtain ⟨p,hp,rfl,rfl,rfl⟩:=e
     refine ⟨[],by simp,rfl,rfl,fun h2 g2 _=> ?_⟩
     rw [hF,hm]
     simp only [Bool.false_eq_true,if_false,hr,ao,kQ hps 7,Option.bind_some,hp,Option.map_some]
     rfl
   ·cases hf
  ·cases hf
 ·rename_i hc
  split at hf
  ·rename_i ty a x ho
   split at hf
   ·rename_i hpv
    simp only [Option.some.injEq] at hf
    subst hf
    rw [er (by simp [ho]) (by simp [ho]) (by simp [hc])]
    exact fX fun h v h' e=>rT ho hpv e
   ·cases hf
  ·rename_i ty m k x ho
   split at hf
   ·rename_i hpv
    simp only [Option.some.injEq] at hf
    subst hf
    rw [er (by simp [ho]) (by simp [ho]) (by simp [hc])]
    exact fX fun h v h' e=>nN (.inl ho) hpv e
   ·cases hf
  ·rename_i ty m k x ho
   split at hf
   ·rename_i hpv
    simp only [Option.some.injEq] at hf
    subst hf
    rw [er (by simp [ho]) (by simp [ho]) (by simp [hc])]
    exact fX fun h v h' e=>nN (.inr ho) hpv e
   ·cases hf
  ·rename_i ty len parts ho
   split at hf
   ·rename_i hpv
    simp only [Option.some.injEq] at hf
    subst hf
    rw [er (by simp [ho]) (by simp [ho]) (by simp [hc])]
    refine fX fun h v h' e=> ?_
    obtain ⟨l,k1,k2,k3⟩:=rU ho hpv e
    exact ⟨l,k1,k2,fun h2 _=>k3 h2⟩
   ·cases hf
  ·rename_i args ats ho
   simp only [Option.some.injEq] at hf
   subst hf
   rw [er (by simp [ho]) (by simp [ho]) (by simp [hc])]
   exact fX fun h v h' e=>rX ho e
  ·cases hf
theorem nO (hcall:cR E call) {i:Nat} {t:List AV} {f:bG} (hf:dn E d all o t=some f):ep f.r f.w (cu E call ys true d gb all i o t):=by
 unfold dn at hf
 have hF:cu E call ys true d gb all i o t=fun h g=>if bv all t o then bx E call ys true d (gb+i) o (aw t) h g else some (bb,h,g):=rfl
 rw [hF]
 cases hw:bv all t o with
 | true=>
  rw [hw] at hf
  exact rY hcall hf
 | false=>
  simp only [Bool.false_eq_true,if_false]
  exact mQ.loc
theorem rZ {ρ ρ':Operand→AV} (hρ: ∀x∈o.op.operands,ρ x=ρ' x):fI E d o ρ=fI E d o ρ':=by
 have arr: ∀xs:Array Operand,(∀x∈xs,ρ x=ρ' x)→xs.toList.map ρ=xs.toList.map ρ':=fun xs hx=>List.map_congr_left fun x hm=>hx x (by simpa using hm)
 unfold fI
 split
 ·rfl
 ·rfl
 ·split
  ·rename_i ho;rw [ho] at hρ;rw [hρ _ (by simp [Op.operands])]
  ·rename_i ho;rw [ho] at hρ;rw [hρ _ (by simp [Op.operands])]
  ·rename_i ho;rw [ho] at hρ;rw [hρ _ (by simp [Op.operands])]
  ·rfl
 ·split
  ·rename_i args ats ho
   rw [ho] at hρ
   rw [arr args fun x hx=>hρ x (by simp [Op.operands,Call.operands,hx])]
  ·rfl
 ·split
  ·rename_i ty a x ho
   rw [ho] at hρ
   rw [hρ a (by simp [Op.operands]),hρ x (by simp [Op.operands])]
  ·rename_i ty m k x ho
   rw [ho] at hρ
   rw [hρ m (by simp [Op.operands]),hρ x (by simp [Op.operands])]
  ·rename_i ty m k x ho
   rw [ho] at hρ
   rw [hρ m (by simp [Op.operands]),hρ x (by simp [Op.operands])]
  ·rename_i ty len parts ho
   rw [ho] at hρ
   have:(parts.toList.map fun q=>ρ q.2)=(parts.toList.map fun q=>ρ' q.2):=List.map_congr_left fun p hm=>hρ p.2 (by
    simp only [Op.operands]
    have hm':p∈parts.toList:=hm
    simp
    exact ⟨p.1,by simpa using hm'⟩)
   rw [this]
  ·rename_i args ats ho
   rw [ho] at hρ
   have:args.toList.flatMap (fun x=>aM (ρ x))=args.toList.flatMap (fun x=>aM (ρ' x)):=by
    rw [←List.flatMap_map (f:=ρ) (g:=aM),←List.flatMap_map (f:=ρ') (g:=aM),arr args fun x hx=>hρ x (by simp [Op.operands,Call.operands,hx])]
   rw [this]
  ·rfl
theorem kR {t:List AV} {dst:Option Tmp} {v:AV} (h: ∀d,dst=some d→d∉o.looksAt all):dn E d all o (aP t dst v)=dn E d all o t:=by
 unfold dn
 rw [mP h,rZ (ρ':=aw t)]
 intro x hx
 exact mN fun d hd hxd=>h d hd (by
  subst hxd
  exact List.mem_append_left _ (List.mem_filterMap.2 ⟨.tmp d,by simpa using hx,rfl⟩))
def cF (L:Nat→St→Option St):List Nat→St→Option St
 | [],s=>some s
 | i::l,s=>(L i s).bind (cF L l)
def fY (L:Nat→St→Option St) (j i:Nat):Prop:= ∀s s1 s2,L j s=some s1→L i s1=some s2→ ∃s1',L i s=some s1'∧L j s1'=some s2
theorem nP: ∀(l:List Nat) (s:St),cF (cE E call ys st d gb all) l s=dz E call ys st d gb all l s
 | [],_=>rfl
 | i::l,s=>by
  simp only [cF,dz]
  congr 1
  funext s
  exact nP l s
theorem nQ {L:Nat→St→Option St} {i:Nat} : ∀(R1 R2:List Nat) (s s':St),(∀r∈R1,fY L r i)→cF L (R1++i::R2) s=some s'→cF L (i::(R1++R2)) s=some s'
 | [],_,_,_,_,h=>h
 | r::R1,R2,s,s',hs,h=>by
  simp only [List.cons_append,cF,Option.bind_eq_some_iff] at h ⊢
  obtain ⟨s1,h1,h2⟩:=h
  have:=nQ R1 R2 s1 s' (fun r hr=>hs r (by simp [hr])) h2
  simp only [cF,Option.bind_eq_some_iff] at this
  obtain ⟨s2,h3,h4⟩:=this
  obtain ⟨s1',g1,g2⟩:=hs r (by simp) s s1 s2 h1 h3
  exact ⟨s1',g1,s2,g2,h4⟩
theorem jp.swapL (hcall:cR E call) {j i:Nat} (h:jp E all j i):fY (cE E call ys true d gb all) j i:=fun s s1 s2 h1 h2=>by
 obtain ⟨x,y,hx,hy,hok⟩:=h
 simp only [cE,hx] at h1
 simp only [cE,hy] at h2
 obtain ⟨s1',g1,g2⟩:=mU hcall hok h1 h2
 exact ⟨s1',by simp only [cE,hy];exact g1,by simp only [cE,hx];exact g2⟩
open Classical in
noncomputable def dC (E:ap) (call:bu) (ys:Ys) (d gb:Nat) (all:Array Oper) (φ:List (Option bG)) (i:Nat) (s:St):Option St:=match all[i]? with
 | some o=>if φ[i]? =some (dn E d all o s.t) then bw E call ys true d gb all i o s else none
 | none=>some s
theorem r4 {φ:List (Option bG)} {i:Nat} {s s':St} (h:dC E call ys d gb all φ i s=some s'):cE E call ys true d gb all i s=some s':=by
 unfold dC at h
 unfold cE
 cases hi:all[i]? with
 | none=>rw [hi] at h;exact h
 | some o=>
  rw [hi] at h
  simp only [] at h
  split at h
  ·exact h
  ·cases h
theorem nR: ∀(os:List Oper) (i:Nat) (s:St) (q:St×List (Option bG)) (φ:List (Option bG)),(∀j,all[i+j]? =os[j]?)→gF E call ys d gb all os i s=some q→(∀j,j<os.length→φ[i+j]? =q.2[j]?)→
  cF (dC E call ys d gb all φ) (List.range' i os.length) s=some q.1
 | [],_,s,q,_,_,h,_=>by
  simp only [gF,Option.some.injEq] at h
  subst h
  rfl
 | o::os,i,s,q,φ,ha,h,hφ=>by
  have h0:all[i]? =some o:=by simpa using ha 0
  simp only [gF,Option.bind_eq_some_iff,Option.map_eq_some_iff] at h
  obtain ⟨s1,h1,q1,h2,rfl⟩:=h
  have e0:φ[i]? =some (dn E d all o s.t):=by simpa using hφ 0 (by simp)
  simp only [List.length_cons,List.range'_succ,cF,dC,h0,e0,if_true,h1,Option.bind_some]
  exact nR os (i+1) s1 q1 φ (fun j=>by have:=ha (j+1);rw [show i+(j+1)=i+1+j by omega] at this;simpa using this) h2 fun j hj=>by
   have:=hφ (j+1) (by simp;omega)
   rw [show i+(j+1)=i+1+j by omega] at this
   simpa using this
theorem r6 (hcall:cR E call) {φ:List (Option bG)} {j i:Nat} {x y:Oper} (hx:all[j]? =some x) (hy:all[i]? =some y) (hok:bX E all x y=true∨(x.apart all y=true∧iP (φ.getD j none) (φ.getD i none)=true)):
  fY (dC E call ys d gb all φ) j i:=fun s s1 s2 h1 h2=>by
 simp only [dC,hx] at h1
 simp only [dC,hy] at h2
 split at h1
 rotate_left
 ·cases h1
 rename_i fx
 split at h2
 rotate_left
 ·cases h2
 rename_i fy
 have hap:x.apart all y=true:=by
  rcases hok with hok | hok
  ·unfold bX at hok
   simp only [Bool.and_eq_true] at hok
   exact hok.1
  ·exact hok.1
 obtain ⟨a1,a2,a3⟩:=Oper.apart_spec hap
 have hcore: ∃s1',bw E call ys true d gb all i y s=some s1'∧bw E call ys true d gb all j x s1'=some s2:=by
  rcases hok with hok | ⟨_,hd⟩
  ·exact mU hcall hok h1 h2
  ·unfold bw at h1 h2
   simp only [Option.map_eq_some_iff] at h1
   obtain ⟨⟨vx,hx',gx⟩,ex,rfl⟩:=h1
   simp only [] at h2 fy
   rw [jm a1] at h2
   rw [kR a1] at fy
   simp only [Option.map_eq_some_iff] at h2
   obtain ⟨⟨vy,hy',gy⟩,ey,rfl⟩:=h2
   rw [List.getD_eq_getElem?_getD,List.getD_eq_getElem?_getD,fx,fy] at hd
   simp only [Option.getD_some] at hd
   cases hfx:dn E d all x s.t with
   | none=>rw [hfx] at hd;cases hd
   | some f=>
    cases hfy:dn E d all y s.t with
    | none=>rw [hfx,hfy] at hd;cases hd
    | some f'=>
     rw [hfx,hfy] at hd
     obtain ⟨h',g',e1,e2⟩:=rP (nO hcall hfx) (nO hcall hfy) hd ex ey
     refine ⟨{ t:=aP s.t y.dst vy,h:=h',g:=g'},by simp [bw,e1],?_⟩
     unfold bw
     simp only []
     rw [jm a3,e2]
     simp only [Option.map_some,mO s.t vx vy a2]
 obtain ⟨s1',g1,g2⟩:=hcore
 have ht1: ∃vx,s1.t=aP s.t x.dst vx:=by
  unfold bw at h1
  simp only [Option.map_eq_some_iff] at h1
  obtain ⟨⟨vx,hx',gx⟩,_,rfl⟩:=h1
  exact ⟨vx,rfl⟩
 have ht2: ∃vy,s1'.t=aP s.t y.dst vy:=by
  unfold bw at g1
  simp only [Option.map_eq_some_iff] at g1
  obtain ⟨⟨vx,hx',gx⟩,_,rfl⟩:=g1
  exact ⟨vx,rfl⟩
 obtain ⟨vx,ht1⟩:=ht1
 obtain ⟨vy,ht2⟩:=ht2
 refine ⟨s1',?_,?_⟩
 ·simp only [dC,hy]
  rw [ht1,kR a1] at fy
  rw [if_pos fy]
  exact g1
 ·simp only [dC,hx]
  rw [ht2,kR a3,if_pos fx]
  exact g2
end
inductive cc (ops:Array Oper):Nat→Nat→Prop
 | one {i:Nat} {o:Oper} {e:Edge} (ho:ops[i]? =some o) (he:e∈o.after) (hb:Region.binds .any e=true):cc ops i e.on
 | more {i j:Nat} {o:Oper} {e:Edge} (ho:ops[i]? =some o) (he:e∈o.after) (hb:Region.binds .any e=true) (h:cc ops e.on j):cc ops i j
theorem kS (look:Nat→Nat) (k:Nat): ∀(l:List Edge) (s:Nat),(l.foldl (fun s e=>if Region.binds .any e then s ||| 2^e.on ||| look e.on else s) s).testBit k=true→
  s.testBit k=true∨ ∃e∈l,Region.binds .any e=true∧(e.on=k∨(look e.on).testBit k=true)
 | [],s,h=> .inl h
 | e::l,s,h=>by
  rw [List.foldl_cons] at h
  rcases kS look k l _ h with h | ⟨e',he',h⟩
  ·by_cases hb:Region.binds .any e=true
   ·rw [if_pos hb,Nat.testBit_or,Nat.testBit_or] at h
    simp only [Bool.or_eq_true] at h
    rcases h with (h | h) | h
    ·exact .inl h
    ·rw [Nat.testBit_two_pow] at h
     exact .inr ⟨e,by simp,hb,.inl (by simpa using h)⟩
    ·exact .inr ⟨e,by simp,hb,.inr h⟩
   ·rw [if_neg hb] at h;exact .inl h
  ·exact .inr ⟨e',by simp [he'],h⟩
theorem nS {E:ap} {ops:Array Oper} {o:Oper} {v:Nat} : ∀(xs:List Oper) (j:Nat),iM E ops o v xs j=true→ ∀(m:Nat) (x:Oper),xs[m]? =some x→v.testBit (j+m)=true∨bX E ops x o=true
 | [],_,_,m,x,hx=>by simp at hx
 | y::ys,j,h,m,x,hx=>by
  simp only [iM,Bool.and_eq_true,Bool.or_eq_true] at h
  cases m with
  | zero=>simp at hx;subst hx;exact h.1
  | succ m=>
   have:=nS ys (j+1) h.2 m x (by simpa using hx)
   rwa [show j+1+m=j+(m+1) by omega] at this
theorem nT (i j v:Nat) (acc:List Nat):c2 (i+1) (v::acc) j=if j=i then v else c2 i acc j:=by
 unfold c2
 by_cases h:j=i
 ·subst h;simp
 ·rw [if_neg h]
  by_cases h2:j<i
  ·rw [if_pos h2,if_pos (by omega),show i+1-1-j=(i-1-j)+1 by omega];simp
  ·rw [if_neg h2,if_neg (by omega)]
theorem nU {E:ap} {ops:Array Oper} : ∀(rest:List Oper) (i:Nat) (acc:List Nat),iN E ops ops.toList rest i acc=true→(∀m,rest[m]? =ops[i+m]?)→
  (∀j k,(c2 i acc j).testBit k=true→cc ops j k)→ ∀(m:Nat) (o:Oper),i≤m→ops[m]? =some o→ed m o=true∧ ∀j,j<m→cc ops m j∨jp E ops j m
 | [],i,acc,_,hr,_,m,o,hm,ho=>by
  have:=hr (m-i)
  rw [show i+(m-i)=m by omega,ho] at this
  simp at this
 | x::rest,i,acc,h,hr,hacc,m,o,hm,ho=>by
  have hx:ops[i]? =some x:=by simpa using (hr 0).symm
  rw [iN,CheckFast.force_eq] at h
  simp only [Bool.and_eq_true] at h
  obtain ⟨⟨h1,h2⟩,h3⟩:=h
  have hmask: ∀k,(CheckFast.one (c2 i acc) x).testBit k=true→cc ops i k:=by
   intro k hk
   unfold CheckFast.one at hk
   rw [←Array.foldl_toList] at hk
   rcases kS _ k _ _ hk with h0 | ⟨e,he,hb,h0⟩
   ·simp at h0
   ·have he':e∈x.after:=by simpa using he
    rcases h0 with rfl | h0
    ·exact .one hx he' hb
    ·exact .more hx he' hb (hacc _ _ h0)
  rcases Nat.eq_or_lt_of_le hm with rfl | hlt
  ·rw [hx] at ho
   injection ho with ho
   subst ho
   refine ⟨h1,fun j hj=> ?_⟩
   have hjs:j<ops.toList.length:=by
    have:i<ops.size:=by
     rcases Nat.lt_or_ge i ops.size with h | h
     ·exact h
     ·rw [Array.getElem?_eq_none h] at hx;cases hx
    simpa using Nat.lt_trans hj this
   have hy:(ops.toList.take i)[j]? =some ops.toList[j]:=by
    rw [List.getElem?_take,if_pos hj,List.getElem?_eq_getElem hjs]
   rcases nS _ 0 h2 j _ hy with hb | hb
   ·rw [Nat.zero_add] at hb;exact .inl (hmask j hb)
   ·exact .inr ⟨_,_,by simp,hx,hb⟩
  ·refine nU rest (i+1) _ h3 (fun m=> ?_) ?_ m o hlt ho
   ·have:=hr (m+1)
    rw [show i+(m+1)=i+1+m by omega] at this
    simpa using this
   ·intro j k hjk
    rw [nT] at hjk
    split at hjk
    ·rename_i hji
     rw [hji]
     exact hmask k hjk
    ·exact hacc _ _ hjk
theorem nV {E:ap} {ops:Array Oper} (h:j5 E ops=true) (m:Nat) (o:Oper) (ho:ops[m]? =some o):ed m o=true∧ ∀j,j<m→cc ops m j∨jp E ops j m:=
 nU ops.toList 0 [] h (fun m=>by simp) (fun j k hk=>by simp [c2] at hk) m o (Nat.zero_le _) ho
def kT (ops:Array Oper) (listed:Array Bool):Prop:= ∀(i:Nat) (o:Oper) (e:Edge),listed.getD i false=true→ops[i]? =some o→e∈o.after→Region.binds .any e=true→listed.getD e.on false=true
theorem cc.listed {ops:Array Oper} {listed:Array Bool} (hc:kT ops listed) {i j:Nat} (hd:cc ops i j):listed.getD i false=true→listed.getD j false=true:=by
 induction hd with
 | one ho he hb=>exact fun hi=>hc _ _ _ hi ho he hb
 | more ho he hb _ ih=>exact fun hi=>ih (hc _ _ _ hi ho he hb)
theorem cc.ready {ops:Array Oper} {listed:Array Bool} (hc:kT ops listed) {i j:Nat} (hr: ∀(o:Oper) (e:Edge),ops[i]? =some o→e∈o.after→Region.binds .any e=true→listed.getD e.on false=true)
  (hd:cc ops i j):listed.getD j false=true:=by
 cases hd with
 | one ho he hb=>exact hr _ _ ho he hb
 | more ho he hb h=>exact h.listed hc (hr _ _ ho he hb)
section
variable {E:ap} {call:bu} {ys:Ys} {st:Bool} {d gb:Nat} {C:Cx} {all:Array Oper} {σ:aq} {I:ah} {w:World} {s s':St} {a:Act}
structure bL (C:Cx) (gb:Nat) (σ:aq) (I:ah) (w:World) (s':St) (σ':aq) (I':ah) (w':World) (a':Act):Prop where
 rel:bB C σ' I' w' s' a'
 ext:aB C.base σ I w σ' I' w'
 low: ∀k,k<gb→σ' k=σ k
 grow:gb≤s'.g
theorem nW (hcall:dB E call) (hwf: ∀o∈all,dT C.n o=true) {i:Nat} (hs:cE E call ys st d gb all i s=some s') (H:bB C σ I w s a) (hys:bK E ys σ I w)
  (hgen:σ (gb+i)=none) (hlt:gb+i<s.g) {Q:Exit→Act→World→Prop} {K:Act→World→Prop}
  (hK: ∀σ' I' w' a',kN C (gb+i) σ I w s σ' I' w' s' a'→K a' w'):wpOpIn (WF C.r) 0 E.P all Q i K a w:=by
 unfold cE at hs
 cases hi:all[i]? with
 | none=>
  rw [hi] at hs
  injection hs with hs
  subst hs
  unfold wpOpIn
  rw [hi]
  exact hK σ I w a ⟨H,aB.refl _ _ _ _,fun _ _ _=>rfl,Nat.le_refl _⟩
 | some o=>
  rw [hi] at hs
  exact rN hcall hi (hwf o (Array.mem_of_getElem? hi)) hs H hys hgen hlt hK
theorem kU (hcall:dB E call) (hwf: ∀o∈all,dT C.n o=true) {Q:Exit→Act→World→Prop} : ∀(L:List Nat) (σ:aq) (I:ah) (w:World) (s:St) (a:Act),L.Nodup→(∀i∈L,σ (gb+i)=none∧gb+i<s.g)→
  dz E call ys st d gb all L s=some s'→bB C σ I w s a→bK E ys σ I w→gb≤s.g→(∀σ' I' w' a',bL C gb σ I w s' σ' I' w' a'→Q .normal a' w')→wpOpsIn (WF C.r) 0 E.P all Q L a w
 | [],σ,I,w,s,a,_,_,h,H,_,hgb,hQ=>by
  simp only [dz,Option.some.injEq] at h
  subst h
  exact hQ σ I w a ⟨H,aB.refl _ _ _ _,fun _ _=>rfl,hgb⟩
 | i::L,σ,I,w,s,a,hnd,hg,h,H,hys,hgb,hQ=>by
  simp only [dz,Option.bind_eq_some_iff] at h
  obtain ⟨s1,h1,h2⟩:=h
  rw [wpOpsIn_cons]
  refine nW hcall hwf h1 H hys (hg i (by simp)).1 (hg i (by simp)).2 fun σ1 I1 w1 a1 hs1=> ?_
  have hnd':=List.nodup_cons.1 hnd
  refine kU hcall hwf L σ1 I1 w1 s1 a1 hnd'.2 (fun j hj=> ?_) h2 hs1.rel (hys.later hs1.ext.later) (Nat.le_trans hgb hs1.grow) fun σ' I' w' a' hd=>hQ σ' I' w' a' ⟨hd.rel,hs1.ext.trans hd.ext,fun k hk=> ?_,hd.grow⟩
  ·have hji:j≠i:=fun e=>hnd'.1 (e▸hj)
   have:=hg j (by simp [hj])
   exact ⟨by rw [hs1.low _ this.2 (by omega)];exact this.1,Nat.lt_of_lt_of_le this.2 hs1.grow⟩
  ·rw [hd.low k hk,hs1.low k (by omega) (by omega)]
theorem nX {ops:Array Oper} {o:Oper} {v:Nat} {fo:Option bG} : ∀(xs:List Oper) (φ:List (Option bG)) (j:Nat),iQ E ops o v fo xs φ j=true→ ∀m x,xs[m]? =some x→v.testBit (j+m)=true∨bX E ops x o=true∨(Oper.apart ops x o=true∧iP (φ.getD m none) fo=true)
 | [],_,_,_,m,x,hx=>by simp at hx
 | y::ys,φ,j,h,m,x,hx=>by
  simp only [iQ,Bool.and_eq_true,Bool.or_eq_true] at h
  cases m with
  | zero=>
   simp at hx
   subst hx
   have:φ.headD none=φ.getD 0 none:=by cases φ<;>rfl
   rw [←this]
   exact h.1
  | succ m=>
   have:=nX ys φ.tail (j+1) h.2 m x (by simpa using hx)
   rw [show j+1+m=j+(m+1) by omega] at this
   have e:φ.tail.getD m none=φ.getD (m+1) none:=by cases φ<;>rfl
   rwa [e] at this
theorem nY {ops:Array Oper} {φ:List (Option bG)} : ∀(rest:List Oper) (i:Nat) (acc:List Nat),iR E ops φ ops.toList rest i acc=true→(∀m,rest[m]? =ops[i+m]?)→
  (∀j k,(c2 i acc j).testBit k=true→cc ops j k)→ ∀(m:Nat) (o:Oper),i≤m→ops[m]? =some o→ed m o=true∧ ∀j,j<m→cc ops m j∨ ∃x,ops[j]? =some x∧(bX E ops x o=true∨(Oper.apart ops x o=true∧iP (φ.getD j none) (φ.getD m none)=true))
 | [],i,acc,_,hr,_,m,o,hm,ho=>by
  have:=hr (m-i)
  rw [show i+(m-i)=m by omega,ho] at this
  simp at this
 | x::rest,i,acc,h,hr,hacc,m,o,hm,ho=>by
  have hx:ops[i]? =some x:=by simpa using (hr 0).symm
  rw [iR,CheckFast.force_eq] at h
  simp only [Bool.and_eq_true] at h
  obtain ⟨⟨h1,h2⟩,h3⟩:=h
  have hmask: ∀k,(CheckFast.one (c2 i acc) x).testBit k=true→cc ops i k:=by
   intro k hk
   unfold CheckFast.one at hk
   rw [←Array.foldl_toList] at hk
   rcases kS _ k _ _ hk with h0 | ⟨e,he,hb,h0⟩
   ·simp at h0
   ·have he':e∈x.after:=by simpa using he
    rcases h0 with rfl | h0
    ·exact .one hx he' hb
    ·exact .more hx he' hb (hacc _ _ h0)
  rcases Nat.eq_or_lt_of_le hm with rfl | hlt
  ·rw [hx] at ho
   injection ho with ho
   subst ho
   refine ⟨h1,fun j hj=> ?_⟩
   have hjs:j<ops.toList.length:=by
    have:i<ops.size:=by
     rcases Nat.lt_or_ge i ops.size with h | h
     ·exact h
     ·rw [Array.getElem?_eq_none h] at hx;cases hx
    simpa using Nat.lt_trans hj this
   have hy:(ops.toList.take i)[j]? =some ops.toList[j]:=by
    rw [List.getElem?_take,if_pos hj,List.getElem?_eq_getElem hjs]
   rcases nX _ φ 0 h2 j _ hy with hb | hb
   ·rw [Nat.zero_add] at hb;exact .inl (hmask j hb)
   ·exact .inr ⟨_,by simp,hb⟩
  ·refine nY rest (i+1) _ h3 (fun m=> ?_) ?_ m o hlt ho
   ·have:=hr (m+1)
    rw [show i+(m+1)=i+1+m by omega] at this
    simpa using this
   ·intro j k hjk
    rw [nT] at hjk
    split at hjk
    ·rename_i hji
     rw [hji]
     exact hmask k hjk
    ·exact hacc _ _ hjk
theorem nZ (hcall:dB E call) {L:Nat→St→Option St} (hL: ∀i s s',L i s=some s'→cE E call ys true d gb all i s=some s') (hdr: ∀(m:Nat) (o:Oper),all[m]? =some o→ed m o=true∧ ∀j,j<m→cc all m j∨fY L j m) (hwf: ∀o∈all,dT C.n o=true) {Q:Exit→Act→World→Prop} :
  ∀(fuel:Nat) (R:List Nat) (listed:Array Bool) (σ:aq) (I:ah) (w:World) (s:St) (a:Act),R.length≤fuel→R.Pairwise (· < ·)→(∀i,i∈R↔i<all.size∧listed.getD i true=false)→listed.size=all.size→kT all listed→
  (∀i∈R,σ (gb+i)=none∧gb+i<s.g)→cF L R s=some s'→bB C σ I w s a→bK E ys σ I w→gb≤s.g→
  (∀σ' I' w' a',bL C gb σ I w s' σ' I' w' a'→Q .normal a' w')→wpAnyIn (WF C.r) 0 E.P .any all Q fuel listed a w:=by
 intro fuel
 induction fuel with
 | zero=>
  intro R listed σ I w s a hf hp hR hls hcl hg h H hys hgb hQ
  have:R=[]:=by cases R<;>simp at hf ⊢
  subst this
  simp only [cF,Option.some.injEq] at h
  subst h
  refine ⟨?_,hQ σ I w a ⟨H,aB.refl _ _ _ _,fun _ _=>rfl,hgb⟩⟩
  rw [List.eq_nil_iff_forall_not_mem]
  intro i hi
  rw [mem_ready] at hi
  obtain ⟨h0,o,ho,_⟩:=hi
  have:=(hR i).2 ⟨(Array.getElem?_eq_some_iff.1 ho).1,h0⟩
  simp at this
 | succ fuel ih=>
  intro R listed σ I w s a hf hp hR hls hcl hg h H hys hgb hQ
  have hlist: ∀i,i<all.size→i∉R→listed.getD i false=true:=by
   intro i hi hn
   have: ¬(listed.getD i true=false):=fun e=>hn ((hR i).2 ⟨hi,e⟩)
   have hi':i<listed.size:=by omega
   simp [hi'] at this ⊢
   exact this
  refine ⟨fun hnone=> ?_,fun i hi=> ?_⟩
  ·cases R with
   | nil=>
    simp only [cF,Option.some.injEq] at h
    subst h
    exact hQ σ I w a ⟨H,aB.refl _ _ _ _,fun _ _=>rfl,hgb⟩
   | cons i R=>
    exfalso
    have hiR:=(hR i).1 (by simp)
    have hio:all[i]? =some all[i]:=by simp [hiR.1]
    have hb:=(hdr i _ hio).1
    have:i∈Region.ready .any all listed:=by
     rw [mem_ready]
     refine ⟨hiR.2,_,hio,fun e he hbd=> ?_⟩
     have hlt:e.on<i:=by
      unfold ed at hb
      rw [Array.all_eq_true_iff_forall_mem] at hb
      have:=hb e he
      rw [hbd] at this
      simpa using this
     refine hlist e.on (by omega) fun hm=> ?_
     simp only [List.mem_cons] at hm
     rcases hm with hm | hm
     ·omega
     ·have:=(List.pairwise_cons.1 hp).1 _ hm
      omega
    rw [hnone] at this
    simp at this
  ·rw [mem_ready] at hi
   obtain ⟨h0,o,ho,hpre⟩:=hi
   have hisz:i<all.size:=(Array.getElem?_eq_some_iff.1 ho).1
   have hiR:i∈R:=(hR i).2 ⟨hisz,h0⟩
   obtain ⟨R1,R2,rfl⟩:=List.append_of_mem hiR
   have hpw:=List.pairwise_append.1 hp
   have hsw: ∀r∈R1,fY L r i:=by
    intro r hr
    have hri:r<i:=hpw.2.2 r hr i (by simp)
    rcases (hdr i o ho).2 r hri with hd | hd
    ·exfalso
     have:=hd.ready hcl fun o' e ho' he hb=>by
      rw [ho] at ho'
      injection ho' with ho'
      subst ho'
      exact hpre e he hb
     have hr2:=((hR r).1 (by simp [hr])).2
     have hr1:r<listed.size:=by omega
     simp [hr1] at this hr2
     rw [this] at hr2
     cases hr2
    ·exact hd
   have h2:=nQ R1 R2 s s' hsw h
   simp only [cF,Option.bind_eq_some_iff] at h2
   obtain ⟨s1,h3,h4⟩:=h2
   have hgi:=hg i hiR
   refine nW hcall hwf (hL _ _ _ h3) H hys hgi.1 hgi.2 fun σ1 I1 w1 a1 hs1=> ?_
   have hne: ∀j,j∈R1++R2→j≠i:=by
    intro j hj
    rw [List.mem_append] at hj
    rcases hj with hj | hj
    ·have:=hpw.2.2 j hj i (by simp);omega
    ·have:=(List.pairwise_cons.1 hpw.2.1).1 j hj;omega
   refine ih (R1++R2) (listed.setIfInBounds i true) σ1 I1 w1 s1 a1 ?_ ?_ ?_ ?_ ?_ ?_ h4 hs1.rel (hys.later hs1.ext.later) (Nat.le_trans hgb hs1.grow) fun σ' I' w' a' hd=>hQ σ' I' w' a' ⟨hd.rel,hs1.ext.trans hd.ext,fun k hk=> ?_,hd.grow⟩
   ·simp at hf ⊢; omega
   ·exact List.pairwise_append.2 ⟨hpw.1,(List.pairwise_cons.1 hpw.2.1).2,fun x hx y hy=>hpw.2.2 x hx y (by simp [hy])⟩
   ·intro j
    by_cases hji:j=i
    ·subst hji
     have:j<listed.size:=by omega
     simp only [Array.getD_eq_getD_getElem?,Array.getElem?_setIfInBounds_self_of_lt this,Option.getD_some]
     constructor
     ·intro hj;exact absurd rfl (hne j hj)
     ·simp
    ·rw [getD_set_ne true (Ne.symm hji),←hR j]
     simp [hji]
   ·simpa using hls
   ·intro j o' e hj ho' he hb
    by_cases hji:j=i
    ·subst hji
     rw [ho] at ho'
     injection ho' with ho'
     subst ho'
     exact getD_set_true (hpre e he hb)
    ·rw [getD_set_ne false (Ne.symm hji)] at hj
     exact getD_set_true (hcl j o' e hj ho' he hb)
   ·intro j hj
    have:=hg j (by rw [List.mem_append] at hj ⊢; rcases hj with hj | hj<;>simp [hj])
    exact ⟨by rw [hs1.low _ this.2 (by have:=hne j hj;omega)];exact this.1,Nat.lt_of_lt_of_le this.2 hs1.grow⟩
   ·rw [hd.low k hk,hs1.low k (by omega) (by omega)]
theorem kV {base:ah} {h:aa} (H:af σ I base w h): ∀(os:List Oper) (h:aa),af σ I base w h→af σ I base w (dm E d os h)
 | [],_,H=>H
 | o::os,h,H=>by
  unfold dm
  refine kV H os _ ?_
  split
  ·exact H.kill _ _
  ·exact H
theorem r7 (hcall:dB E call) (hfz:cR E call) {id:Nat} {ops:Array Oper} {draw:Bool} (hmix:draw=true→E.P.follows .mixedOrders=true) (hwf:bH E C.n (.region id ops draw)=true) {fuel:Nat} {x:av}
  (h:aK E call ys d fuel (.region id ops draw) s=some (x,s')) (H:bB C σ I w s a) (hys:bK E ys σ I w) {Q:Exit→Act→World→Prop}
  (hQ: ∀σ' I' w' a',bL C s.g σ I w s' σ' I' w' a'→Q .normal a' w'):(Code.region id ops draw).wpIn (WF C.r) 0 E.P Q a w:=by
 simp only [bH,Bool.and_eq_true,Bool.or_eq_true,Bool.not_eq_true'] at hwf
 have hdst: ∀o∈ops,dT C.n o=true:=by
  have:=hwf.1
  rw [Array.all_eq_true_iff_forall_mem] at this
  exact this
 simp only [aK] at h
 split at h
 ·rename_i hbad
  simp only [Bool.and_eq_true] at hbad
  obtain ⟨rfl,hbad⟩:=hbad
  simp only [Option.bind_eq_some_iff] at h
  obtain ⟨⟨s1,φ⟩,hphi,h⟩:=h
  simp only [] at h
  split at h
  rotate_left
  ·cases h
  rename_i hloose
  simp only [Option.some.injEq,Prod.mk.injEq] at h
  obtain ⟨rfl,rfl⟩:=h
  have hrun:=nR (φ:=φ) ops.toList 0 _ _ (fun j=>by simp) hphi fun j hj=>by simp
  rw [←List.range_eq_range',Array.length_toList] at hrun
  have hx:aB C.base σ I w σ I { w with drawn:=w.drawn+1} :=⟨fun _ _ h=>h,fun _ h=>h,fun _ h=> .inl h,⟨fun _ _=>rfl,fun _ _ _ h=>h,fun _ r h=>⟨r,h,bP.refl r⟩,fun _ h=>h⟩,⟨rfl,rfl,rfl,Nat.le_refl _,fun _ _=>rfl⟩⟩
  have H1:af σ I C.base { w with drawn:=w.drawn+1} (dm E d ops.toList s.h):=by
   have:=H.heap.keep (σ':=σ) (I':=I) (w':= { w with drawn:=w.drawn+1}) (fun _ _ h=>h) (fun _ h=>h) hx.kp H.heap.inW (fun d s b hb=>⟨rfl,(aY (H.heap.rows d s) hb).2.1⟩)
   exact kV this _ _ this
  have hdr: ∀(m:Nat) (o:Oper),ops[m]? =some o→ed m o=true∧ ∀j,j<m→cc ops m j∨fY (dC E call ys d s.g ops φ) j m:=fun m o ho=>by
   obtain ⟨h1,h2⟩:=nY ops.toList 0 [] hloose (fun m=>by simp) (fun j k hk=>by simp [c2] at hk) m o (Nat.zero_le _) ho
   exact ⟨h1,fun j hj=>(h2 j hj).imp (fun h=>h) fun ⟨x,hx,hp⟩=>r6 hfz hx ho hp⟩
  refine wpIn_region_any (hmix rfl) (nZ hcall (fun i s s' h=>r4 h) hdr hdst ops.size (List.range ops.size) _ σ I _ _ a (by simp) List.pairwise_lt_range (fun i=> ?_) (by simp) ?_ (fun i hi=> ?_) hrun
   ⟨fun i=>hx.rep (H.tmp i),H1,fun k hk=>H.fresh k (by simp at hk;omega),H.hb,H.hn,H.marks,H.nodup,H.around,H.lob,H.losz⟩ (hys.later hx.later) (by simp) fun σ' I' w' a' hd=>hQ σ' I' w' a' ⟨hd.rel,hx.trans hd.ext,hd.low,hd.grow⟩)
  ·rw [List.mem_range]
   constructor
   ·intro hi;exact ⟨hi,by simp [hi]⟩
   ·exact fun h=>h.1
  ·intro i o e hi
   exfalso
   revert hi
   simp only [Array.getD_eq_getD_getElem?,Array.getElem?_replicate]
   split<;>simp
  ·rw [List.mem_range] at hi
   exact ⟨H.fresh _ (by omega),by simp;omega⟩
 rename_i hbad
 simp only [Option.map_eq_some_iff,Prod.mk.injEq] at h
 obtain ⟨s1,h,rfl,rfl⟩:=h
 rw [qB] at h
 cases draw with
 | false=>
  simp only [Bool.false_eq_true,if_false] at h
  refine wpIn_region (kU hcall hdst _ σ I w _ a List.nodup_range (fun i hi=> ?_) h ⟨H.tmp,H.heap,fun k hk=>H.fresh k (by simp at hk;omega),H.hb,H.hn,H.marks,H.nodup,H.around,H.lob,H.losz⟩ hys (by simp) fun σ' I' w' a' hd=>hQ σ' I' w' a' hd)
  rw [List.mem_range] at hi
  exact ⟨H.fresh _ (by omega),by simp;omega⟩
 | true=>
  simp only [if_true] at h
  have hdr:j5 E ops=true:=(hwf.2.resolve_left (by simp)).resolve_left (by simpa using hbad)
  have hx:aB C.base σ I w σ I { w with drawn:=w.drawn+1} :=⟨fun _ _ h=>h,fun _ h=>h,fun _ h=> .inl h,⟨fun _ _=>rfl,fun _ _ _ h=>h,fun _ r h=>⟨r,h,bP.refl r⟩,fun _ h=>h⟩,⟨rfl,rfl,rfl,Nat.le_refl _,fun _ _=>rfl⟩⟩
  have H1:af σ I C.base { w with drawn:=w.drawn+1} (dm E d ops.toList s.h):=by
   have:=H.heap.keep (σ':=σ) (I':=I) (w':= { w with drawn:=w.drawn+1}) (fun _ _ h=>h) (fun _ h=>h) hx.kp H.heap.inW (fun d s b hb=>⟨rfl,(aY (H.heap.rows d s) hb).2.1⟩)
   exact kV this _ _ this
  rw [←nP] at h
  refine wpIn_region_any (hmix rfl) (nZ hcall (fun i s s' h=>h) (fun m o ho=>⟨(nV hdr m o ho).1,fun j hj=>((nV hdr m o ho).2 j hj).imp (fun h=>h) fun hs=>hs.swapL hfz⟩) hdst ops.size (List.range ops.size) _ σ I _ _ a (by simp) List.pairwise_lt_range (fun i=> ?_) (by simp) ?_ (fun i hi=> ?_) h
   ⟨fun i=>hx.rep (H.tmp i),H1,fun k hk=>H.fresh k (by simp at hk;omega),H.hb,H.hn,H.marks,H.nodup,H.around,H.lob,H.losz⟩ (hys.later hx.later) (by simp) fun σ' I' w' a' hd=>hQ σ' I' w' a' ⟨hd.rel,hx.trans hd.ext,hd.low,hd.grow⟩)
  ·rw [List.mem_range]
   constructor
   ·intro hi;exact ⟨hi,by simp [hi]⟩
   ·exact fun h=>h.1
  ·intro i o e hi
   exfalso
   revert hi
   simp only [Array.getD_eq_getD_getElem?,Array.getElem?_replicate]
   split<;>simp
  ·rw [List.mem_range] at hi
   exact ⟨H.fresh _ (by omega),by simp;omega⟩
end
section
variable {E:ap} {call:bu} {ys:Ys} {d:Nat} {base:ah} {C:Cx} {σ:aq} {I:ah} {w:World} {h:aa} {s s':St} {a:Act}
def fZ:av→Exit
 | .normal=> .normal
 | .exit id=> .exit id
 | .goto l=> .goto l
 | .ret=> .ret
theorem bL.refl (H:bB C σ I w s a):bL C s.g σ I w s σ I w a:=⟨H,aB.refl _ _ _ _,fun _ _=>rfl,Nat.le_refl _⟩
theorem bL.trans {σ1 σ2:aq} {I1 I2:ah} {w1 w2:World} {s1 s2:St} {a1 a2:Act} {gb:Nat} (h:bL C gb σ I w s1 σ1 I1 w1 a1) (k:bL C s1.g σ1 I1 w1 s2 σ2 I2 w2 a2):bL C gb σ I w s2 σ2 I2 w2 a2:=
 ⟨k.rel,h.ext.trans k.ext,fun x hx=>by rw [k.low x (Nat.lt_of_lt_of_le hx h.grow),h.low x hx],Nat.le_trans h.grow k.grow⟩
def fj (E:ap) (C:Cx) (ys:Ys) (c:Code) (s:St) (x:av) (s':St):Prop:= ∀(σ:aq) (I:ah) (w:World) (a:Act) (Q:Exit→Act→World→Prop),bB C σ I w s a→bK E ys σ I w→
 (∀σ' I' w' a',bL C s.g σ I w s' σ' I' w' a'→Q (fZ x) a' w')→c.wpIn (WF C.r) 0 E.P Q a w
theorem dD {p:Nat→Prop} (h: ∃n,p n): ∃n,p n∧ ∀m,p m→n≤m:=by
 obtain ⟨n,hn⟩:=h
 induction n using Nat.strongRecOn with
 | _ n ih=>
  by_cases hs: ∃m,m<n∧p m
  ·obtain ⟨m,hm,hp⟩:=hs
   exact ih m hm hp
  ·exact ⟨n,hn,fun m hm=>Nat.le_of_not_lt fun hlt=>hs ⟨m,hlt,hm⟩⟩
theorem r8 {c:Code} {body:St→Option (av×St)} (hbody: ∀s x s',body s=some (x,s')→fj E C ys c s x s') {m:Nat} {x:av} (hm:dl body m s=some (x,s')):fj E C ys (.loop c) s x s':=by
 intro σ I w a Q H hys hQ
 let J:Nat→Act→World→Prop:=fun k a1 w1=> ∃σ1 I1 s1,dl body k s1=some (x,s')∧bL C s.g σ I w s1 σ1 I1 w1 a1
 classical
 let μ:Act→World→Nat:=fun a1 w1=>if h: ∃k,J k a1 w1 then Classical.choose (dD h) else 0
 refine wpIn_loop (fun a1 w1=> ∃k,J k a1 w1) μ ⟨m,σ,I,s,hm,bL.refl H⟩ fun a1 w1 hex=> ?_
 have hμ:μ a1 w1=Classical.choose (dD hex):=dif_pos hex
 obtain ⟨⟨σ1,I1,s1,hk,hd⟩,_⟩:=Classical.choose_spec (dD hex)
 rw [←hμ] at hk
 cases hmu:μ a1 w1 with
 | zero=>rw [hmu] at hk;simp [dl] at hk
 | succ k=>
  rw [hmu] at hk
  simp only [dl] at hk
  cases hb:body s1 with
  | none=>simp [hb] at hk
  | some r=>
   obtain ⟨y,s2⟩:=r
   rw [hb] at hk
   refine hbody s1 y s2 hb σ1 I1 w1 a1 _ hd.rel (hys.later hd.ext.later) fun σ2 I2 w2 a2 hd2=> ?_
   cases y with
   | normal=>
    have hJ:J k a2 w2:=⟨σ2,I2,s2,hk,hd.trans hd2⟩
    refine ⟨⟨k,hJ⟩,?_⟩
    have hex2: ∃k,J k a2 w2:=⟨k,hJ⟩
    have:μ a2 w2=Classical.choose (dD hex2):=dif_pos hex2
    rw [this]
    have:=(Classical.choose_spec (dD hex2)).2 k hJ
    omega
   | _=>
    simp only [Option.some.injEq,Prod.mk.injEq] at hk
    obtain ⟨rfl,rfl⟩:=hk
    exact hQ σ2 I2 w2 a2 (hd.trans hd2)
theorem r9 {b:Nat} {r r':Loop} (hh:w.heap[b]? =some (Obj.loop r)) (hs:bP r r') (hI: ¬I b) (hb: ¬base b):aB base σ I w σ I (w.putObj b (.loop r')):=by
 have hlt:=cj hh
 have hoth: ∀x,x≠b→(w.putObj b (.loop r')).heap[x]? =w.heap[x]? :=fun x hx=>World.putObj_heap_other hx
 refine ⟨fun _ _ h=>h,fun _ h=>h,fun _ h=> .inl h,⟨fun x hx=>hoth x fun e=>hI (e▸hx),fun x e n hx=> ?_,fun x r0 hx=> ?_,fun x hx=> ?_⟩,⟨rfl,rfl,rfl,by simp [World.putObj],fun x hx=>hoth x (fun e=>hb (e▸hx))⟩⟩
 ·have:x≠b:=fun e'=>by subst e';unfold World.shape? at hx;rw [hh] at hx;cases hx
  rw [fN (hoth x this)];exact hx
 ·by_cases e:x=b
  ·subst e
   rw [hh] at hx
   injection hx with hx
   injection hx with hx
   subst hx
   exact ⟨r',World.putObj_heap_same hlt,hs⟩
  ·exact ⟨r0,by rw [hoth x e];exact hx,bP.refl r0⟩
 ·have:x≠b:=fun e'=>by subst e';rw [hh] at hx;cases hx
  rw [hoth x this];exact hx
theorem af.loopPut (H:af σ I base w h) {d s g b o k:Nat} {st:iA} (hl:Abs.live h d s g= .lp st) (hs:σ g=some (b,o,k)) {r':Loop} (row:ak) (hrow:row=ae∨ ∃st',row=⟨g,.lp st'⟩∧i8 st' r'):
  ∃r,w.heap[b]? =some (Obj.loop r)∧i8 st r∧(bP r r'→af σ I base (w.putObj b (.loop r')) (hput h d s row)∧aB base σ I w σ I (w.putObj b (.loop r'))):=by
 obtain ⟨b',k',hs',⟨r,hh,hr⟩,hI,hb⟩:=H.live hl (by simp)
 rw [hs] at hs'
 simp only [Option.some.injEq,Prod.mk.injEq] at hs'
 obtain ⟨rfl,rfl,rfl⟩:=hs'
 refine ⟨r,hh,hr,fun hsame=> ?_⟩
 have hx:aB base σ I w σ I (w.putObj b (.loop r')):=r9 hh hsame hI hb
 have hlr:=cQ hl (by simp)
 have hbk:aj σ (ac h d s)=some b:=by rw [hlr];simp [aj,hs]
 refine ⟨H.put (fun _ _ h=>h) (fun _ h=>h) hx.kp (hx.kp.inW H.inW) d s row ?_ ?_,hx⟩
 ·rcases hrow with rfl | ⟨st',rfl,hst'⟩
  ·trivial
  ·exact ⟨b,k,hs,⟨r',World.putObj_heap_same (cj hh),hst'⟩,hI,hb⟩
 ·intro d' s' b' hne hb'
  have hf:=aY (H.rows d' s') hb'
  have hneb:b'≠b:=fun e=>by
   subst e
   exact hne (H.apart d s d' s' _ hbk hb')
  refine ⟨World.putObj_heap_other hneb,hf.2.1,fun e=> ?_⟩
  rcases hrow with rfl | ⟨st',rfl,hst'⟩
  ·simp [aj,ae] at e
  ·simp [aj,hs] at e
   exact hneb e.symm
theorem n3: ∀(ps:List Tmp) (args:List AV) (us:List Value) (t:List AV) (tm:Array Value),us.length=args.length→(∀p∈ps,p<tm.size)→
  (∀(j:Nat) (p:AV) (u:Value),args[j]? =some p→us[j]? =some u→ab σ I w p u)→(∀i,ab σ I w (bz t i) (tm.getD i undef))→
  (∀i,ab σ I w (bz (eU ps args t) i) (((ps.zip us).foldl (fun x (p,v)=>x.setIfInBounds p v) tm).getD i undef))∧((ps.zip us).foldl (fun x (p,v)=>x.setIfInBounds p v) tm).size=tm.size
 | [],args,us,t,tm,_,_,_,ht=>by simpa [eU] using ht
 | p::ps,[],us,t,tm,hl,_,_,ht=>by
  have:us=[]:=by simpa using hl
  subst this
  simpa [eU] using ht
 | p::ps,v::args,[],t,tm,hl,_,_,_=>by simp at hl
 | p::ps,v::args,u::us,t,tm,hl,hp,hr,ht=>by
  simp only [eU,List.zip_cons_cons,List.foldl_cons]
  have:=n3 ps args us (iB t p v) (tm.setIfInBounds p u) (by simpa using hl) (fun q hq=>by simp;exact hp q (by simp [hq])) (fun j x y hx hy=>hr (j+1) x y (by simpa using hx) (by simpa using hy)) ?_
  ·exact ⟨this.1,by rw [this.2];simp⟩
  ·intro i
   rw [i7,nG _ _ _ (hp p (by simp))]
   by_cases e:p=i
   ·rw [if_pos e,if_pos e];exact hr 0 v u (by simp) (by simp)
   ·rw [if_neg e,if_neg e];exact ht i
theorem sa (H:bB C σ I w s a) {ps:Array Tmp} {assign body:Code} (fn:FuncId) (slot:Nat): ∃l mark w1 rec,(Instr.enterLoop fn a.tmps ps assign body C.r).run E.P w= .ok (l,mark) w1∧
  af (bf σ s.g (l,0,0)) I C.base w1 (hput s.h d slot ⟨s.g,.lp .ready⟩)∧aB C.base σ I w (bf σ s.g (l,0,0)) I w1∧w1.heap[l]? =some (Obj.loop rec)∧
  rec.tmps=a.tmps∧rec.params=ps∧rec.assign=assign∧rec.body=body∧
  (∀x∈mark++a.defers,∃D,C.lo≤D∧x= { target:= .collected D,args:= #[]} ∧w1.heap[D]? =some (Obj.deferred (some [])))∧(mark++a.defers).Nodup:=by
 have hg:=H.fresh s.g (Nat.le_refl _)
 cases hr:C.r with
 | some l0=>
  obtain ⟨x,hx⟩:=H.around l0 hr
  have hG:aZ w (w.alloc (.loop { state:= .ready,pending:=none,fn,tmps:=a.tmps,params:=ps,assign,body,defers:=x.defers})) _:=⟨rfl,rfl,rfl,rfl⟩
  have hext:=aB.push (x:=(w.heap.size,0,0)) H.heap H.hb hg hG
  refine ⟨_,_,_,_,run_enterLoop_inner hx fn a.tmps ps assign body,H.heap.push hg hG d slot ?_,hext,hG.new,rfl,rfl,rfl,rfl,?_,by simpa using H.nodup⟩
  ·exact ⟨w.heap.size,0,bj,⟨_,hG.new,rfl,rfl⟩,fun hb=>absurd (H.heap.lt _ hb) (by omega),H.hb.up⟩
  ·intro x hx
   obtain ⟨D,h1,h2,h3⟩:=H.marks x (by simpa using hx)
   exact ⟨D,h1,h2,hext.kp.dfr D h3⟩
 | none=>
  have hG1:aZ w (w.alloc (.deferred (some []))) _:=⟨rfl,rfl,rfl,rfl⟩
  have hx1:aB C.base σ I w σ I (w.alloc (.deferred (some []))):=⟨fun _ _ h=>h,fun _ h=>h,fun _ h=> .inl h,hG1.keep H.heap.lt,hG1.below H.hb⟩
  have H1:af σ I C.base (w.alloc (.deferred (some []))) s.h:=H.heap.keep (fun _ _ h=>h) (fun _ h=>h) hx1.kp (hx1.kp.inW H.heap.inW) fun d s b hb=>⟨hG1.old (aY (H.heap.rows d s) hb).1,(aY (H.heap.rows d s) hb).2.1⟩
  have hG:aZ (w.alloc (.deferred (some []))) ((w.alloc (.deferred (some []))).alloc (.loop { state:= .ready,pending:=none,fn,tmps:=a.tmps,params:=ps,assign,body,defers:=w.heap.size})) _:=⟨rfl,rfl,rfl,rfl⟩
  have hsz:(w.alloc (.deferred (some []))).heap.size=w.heap.size+1:=hG1.size
  have hB1:aW C.base (w.alloc (.deferred (some []))).heap.size:=H.hb.mono (by omega)
  have hext:=aB.push (x:=(w.heap.size+1,0,0)) H1 hB1 hg hG
  have hl:((w.alloc (.deferred (some []))).alloc (.loop { state:= .ready,pending:=none,fn,tmps:=a.tmps,params:=ps,assign,body,defers:=w.heap.size})).heap[w.heap.size+1]? =some (Obj.loop { state:= .ready,pending:=none,fn,tmps:=a.tmps,params:=ps,assign,body,defers:=w.heap.size}):=by
   rw [←hsz];exact hG.new
  have hpush:=H1.push (k:=0) (off:=0) hg hG d slot (b:= .lp .ready) ⟨(w.alloc (.deferred (some []))).heap.size,0,bj,⟨_,hG.new,rfl,rfl⟩,fun hb=>absurd (H1.lt _ hb) (by omega),hB1.up⟩
  rw [hsz] at hpush
  refine ⟨_,_,_,_,run_enterLoop_outer fn a.tmps ps assign body,hpush,hx1.trans hext,hl,rfl,rfl,rfl,rfl,?_,?_⟩
  ·intro x hx
   simp only [List.cons_append,List.nil_append,List.mem_cons] at hx
   rcases hx with rfl | hx
   ·exact ⟨w.heap.size,H.losz,rfl,by rw [hG.old (by omega)];exact hG1.new⟩
   ·obtain ⟨D,h1,h2,h3⟩:=H.marks x hx
    exact ⟨D,h1,h2,(hx1.trans hext).kp.dfr D h3⟩
  ·simp only [List.cons_append,List.nil_append]
   refine List.nodup_cons.2 ⟨fun hx=> ?_,H.nodup⟩
   obtain ⟨D,h1,h2,h3⟩:=H.marks _ hx
   have:=cj h3
   simp at h2
   omega
end
end Go.Proofs.YtdbjadjdljaobaaGreatDoor.Abs

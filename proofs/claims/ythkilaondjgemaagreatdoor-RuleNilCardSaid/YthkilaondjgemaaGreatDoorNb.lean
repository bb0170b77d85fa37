/-
  The abstract machine over the model, its soundness, walks of the program's functions and what they compute. Conditions: the values are of their types.
-/
import Derived.Test.YthkilaondjgemaaGreatDoorNa
import Derived.Deep.AppendSrc
import Derived.Deep.Upon
import Derived.Lib.AppendZeros
import Derived.MapKept
import Derived.CallsIn
import Derived.OrdersIn
import Derived.RangeFuncIn
import Derived.RangeFuncRecord
import Derived.RangeFuncNested
import Derived.RangeFuncLeaves

set_option linter.all false
set_option linter.unnecessarySimpa false

namespace Go.Proofs.YthkilaondjgemaaGreatDoor.Abs
open Go Go.RowKit
variable {σ σ':ak} {I I':af} {base:af} {w w':World} {h:aa} {P:Program}
theorem kr (s:ByteArray) (i:Nat):(cG s)[i]? =(s.data[i]?).map fun b=>PV.lit (.int .u8 b.toNat):=by
 unfold cG
 simp
structure c8 (I:af) (w:World) (P:Program) (size:Nat) (u:Value) (ys:List PV) (news:Array Value):Prop where
 len: ∀w':World,(Builtin.lenOf u).run P w'= .ok ys.length w'
 run:(Builtin.firstCells size ys.length u).run P w= .ok news w
 runD:(Builtin.firstCells size ys.length u).run P w.drew= .ok news w.drew
 arr:bH I w size ys news
 size_eq:news.size=ys.length*size
 one: ∀x∈news.toList,x.oneCell'=true
theorem iu {b o k:Nat} {xs:List PV} (hk: ∀x∈xs,x.cells.length=k∧x.ok=true) (hc: ∀i x,xs[i]? =some x→ ∀(j:Nat) (p:PV),x.cells[j]? =some p→
   ∃u,w.cell? ⟨b,o+i*k+j,none⟩=some u∧u.oneCell'=true∧aj I w p u):
  ∃arr:Array Value,(loadCells ⟨b,o,none⟩ (xs.length*k)).run P w= .ok arr w∧(loadCells ⟨b,o,none⟩ (xs.length*k)).run P w.drew= .ok arr w.drew∧bH I w k xs arr∧arr.size=xs.length*k∧ ∀x∈arr.toList,x.oneCell'=true:=by
 have hcell: ∀n,n<xs.length*k→ ∃u,w.cell? ⟨b,o+n,none⟩=some u∧u.oneCell'=true∧ ∀x p,xs[n/k]? =some x→x.cells[n%k]? =some p→aj I w p u:=by
  intro n hn
  have hk0:0<k:=by
   rcases Nat.eq_zero_or_pos k with h0 | h0
   ·subst h0;simp at hn
   ·exact h0
  have hi:n/k<xs.length:=Nat.div_lt_of_lt_mul (by rw [Nat.mul_comm];exact hn)
  have hj:n%k<k:=Nat.mod_lt _ hk0
  have hx:=List.getElem?_eq_getElem hi
  have hxk:=(hk _ (List.getElem_mem hi)).1
  obtain ⟨u,h1,h2,h3⟩:=hc (n/k) _ hx (n%k) _ (List.getElem?_eq_getElem (by omega))
  have e:o+n/k*k+n%k=o+n:=by
   have:=Nat.div_add_mod n k
   rw [Nat.mul_comm] at this
   omega
  rw [e] at h1
  refine ⟨u,h1,h2,fun x p hx' hp'=> ?_⟩
  rw [hx] at hx';injection hx' with hx';subst hx'
  rw [List.getElem?_eq_getElem (by omega)] at hp';injection hp' with hp';subst hp'
  exact h3
 obtain ⟨us,hl,hu⟩:=ga (P:=fun n u=>w.cell? ⟨b,o+n,none⟩=some u∧u.oneCell'=true∧ ∀x p,xs[n/k]? =some x→x.cells[n%k]? =some p→aj I w p u) (xs.length*k) hcell
 have hrun:=run_loadCells_list (P:=P) w ⟨b,o,none⟩ us fun j v hv=>by rw [cf];exact (hu j v hv).1
 have hrunD:=run_loadCells_list (P:=P) w.drew ⟨b,o,none⟩ us fun j v hv=>by rw [cf,World.cell?_drew];exact (hu j v hv).1
 rw [hl] at hrun hrunD
 refine ⟨us.toArray,hrun,hrunD,⟨by simp [hl],hk,fun i x hi j p hp=> ?_⟩,by simp [hl],fun x hx=> ?_⟩
 ·have hil:=(List.getElem?_eq_some_iff.1 hi).1
  have hjl:j<k:=by rw [←(hk x (List.mem_of_getElem? hi)).1];exact (List.getElem?_eq_some_iff.1 hp).1
  have hlt:=gq hil hjl
  have hg:us[i*k+j]? =some us[i*k+j]:=List.getElem?_eq_getElem (by omega)
  obtain ⟨_,h2,h3⟩:=hu _ _ hg
  refine ⟨us[i*k+j],by simpa using hg,h2,h3 x p ?_ ?_⟩
  ·rw [Nat.add_comm,Nat.add_mul_div_right _ _ (by omega),Nat.div_eq_of_lt hjl,Nat.zero_add];exact hi
  ·rw [kq hjl];exact hp
 ·obtain ⟨j,hj⟩:=e8 (l:=us) (by simpa using hx)
  exact (hu j x hj).2.1
theorem ed {size:Nat} {v:AV} {u:Value} {ys:List PV} (he:b9 size h v=some ys) (hr:ab σ I w v u) (H:ae σ I base w h):
  ∃news,c8 I w P size u ys news:=by
 unfold b9 at he
 split at he
 ·rename_i k nl full xs
  have hr':=aw hr
  cases hr' with
  | nil=>
   simp at he
   subst he
   exact ⟨#[],⟨fun _=>rfl,by simp [Builtin.firstCells],by simp [Builtin.firstCells],⟨by simp,by simp,fun i x hi=>by simp at hi⟩,by simp,by simp⟩⟩
  | emp k full a cap hfull=>
   simp at he
   obtain ⟨rfl,rfl⟩:=he
   exact ⟨#[],⟨fun _=>rfl,by simp [Builtin.firstCells,loadCells,loadCellsFrom],by simp [Builtin.firstCells,loadCells,loadCellsFrom],⟨by simp,by simp,fun i x hi=>by simp at hi⟩,by simp,by simp⟩⟩
  | sl k full xs b o cap vs hcap hfull hI hk hc hr2=>
   simp at he
   obtain ⟨rfl,rfl⟩:=he
   obtain ⟨arr,h1,h1D,h2,h3,h4⟩:=iu (P:=P) (I:=I) (w:=w) (b:=b) (o:=o) hk fun i x hi j p hp=>⟨vs i j,(hc i x hi j p hp).1,(hc i x hi j p hp).2,hr2 i x hi j p hp⟩
   exact ⟨arr,⟨fun _=>rfl,by simpa [Builtin.firstCells] using h1,by simpa [Builtin.firstCells] using h1D,h2,h3,h4⟩⟩
 ·rename_i s
  split at he
  ·rename_i hs
   subst hs
   injection he with he
   subst he
   have hu:=aQ (aw hr)
   subst hu
   have hlen:(cG s).length=s.size:=by simp [cG]
   refine ⟨s.data.map fun b=> .int .u8 b.toNat,⟨fun _=>by rw [hlen];rfl,?_,?_,⟨by simp [hlen],?_,?_⟩,by simp [hlen],?_⟩⟩
   ·rw [hlen]
    simp only [Builtin.firstCells,Sem.run_pure]
    congr 2
    have:(s.extract 0 s.size)=s:=by simp
    rw [this]
   ·rw [hlen]
    simp only [Builtin.firstCells,Sem.run_pure]
    congr 2
    have:(s.extract 0 s.size)=s:=by simp
    rw [this]
   ·intro x hx
    simp only [cG,List.mem_map] at hx
    obtain ⟨b,_,rfl⟩:=hx
    exact ⟨rfl,rfl⟩
   ·intro i x hi j p hp
    rw [kr] at hi
    simp only [Option.map_eq_some_iff] at hi
    obtain ⟨b,hb,rfl⟩:=hi
    cases j with
    | zero=>
     simp [PV.cells] at hp
     subst hp
     exact ⟨.int .u8 b.toNat,by simp [hb],rfl,.lit _⟩
    | succ j=>simp [PV.cells] at hp
   ·intro x hx
    simp only [Array.toList_map,List.mem_map] at hx
    obtain ⟨b,_,rfl⟩:=hx
    rfl
  ·cases he
 ·rename_i d s g off n full
  split at he
  ·rename_i k e xs fz hl
   split at he
   ·rename_i hc0
    obtain ⟨rfl,hle⟩:=hc0
    injection he with he
    subst he
    obtain ⟨b',o',n',hs',_,_,_,hn,hsh,hx,hc,_⟩:=cN (H.live hl (by simp))
    cases hr with
    | msl _ _ _ _ _ _ b ob k cap ad had hs hcap hfull hroom=>
     rw [hs] at hs'
     simp only [Option.some.injEq,Prod.mk.injEq] at hs'
     obtain ⟨rfl,rfl,rfl⟩:=hs'
     have hlen:((xs.drop off).take n).length=n:=by simp;omega
     by_cases h0:cap=0
     ·have hn0:n=0:=by omega
      subst hn0
      exact ⟨#[],⟨fun _=>by simp [Builtin.lenOf],by simp [Builtin.firstCells,loadCells,loadCellsFrom],by simp [Builtin.firstCells,loadCells,loadCellsFrom],⟨by simp,by simp,fun i x hi=>by simp at hi⟩,by simp,by simp⟩⟩
     ·rw [had h0]
      obtain ⟨arr,h1,h1D,h2,h3,h4⟩:=iu (P:=P) (I:=I) (w:=w) (b:=b) (o:=ob+off*k) (xs:=(xs.drop off).take n) (k:=k)
       (fun x hxm=>hx x (List.mem_of_mem_drop (List.mem_of_mem_take hxm))) fun i x hi j p hp=>by
        have:=hc (off+i) x (cQ hi).2 j p hp
        rw [show ob+off*k+i*k+j=ob+(off+i)*k+j by rw [Nat.add_mul];omega]
        exact this
      exact ⟨arr,⟨fun _=>by rw [hlen];rfl,by simpa [Builtin.firstCells] using h1,by simpa [Builtin.firstCells] using h1D,h2,h3,h4⟩⟩
   ·cases he
  ·rename_i v fz hl
   split at he
   ·rename_i hc0
    obtain ⟨rfl,hle⟩:=hc0
    simp only [Option.bind_eq_some_iff] at he
    obtain ⟨ps,hps,he⟩:=he
    split at he
    ·rename_i hall
     injection he with he
     subst he
     have hmap:=dI hps
     have hlenp:ps.length=n:=by
      have:=congrArg List.length hmap
      simp at this
      omega
     obtain ⟨b',e,hs',hsh,hok,hc,hz⟩:=H.live hl (by simp)
     have hcell1: ∀p∈ps,p.cells=[p]∧p.ok=true:=by
      intro p hp
      have:=List.all_eq_true.1 hall p hp
      simp only [Bool.and_eq_true,Bool.not_eq_true'] at this
      refine ⟨?_,this.1⟩
      cases p<;>first | rfl | (simp [PV.isAgg] at this)
     cases hr with
     | msl _ _ _ _ _ _ b ob k cap ad had hs hcap hfull hroom=>
      rw [hs] at hs'
      simp only [Option.some.injEq,Prod.mk.injEq] at hs'
      obtain ⟨rfl,rfl,rfl⟩:=hs'
      by_cases h0:cap=0
      ·have hn0:n=0:=by omega
       subst hn0
       have:ps=[]:=List.eq_nil_of_length_eq_zero hlenp
       subst this
       exact ⟨#[],⟨fun _=>by simp [Builtin.lenOf],by simp [Builtin.firstCells,loadCells,loadCellsFrom],by simp [Builtin.firstCells,loadCells,loadCellsFrom],⟨by simp,by simp,fun i x hi=>by simp at hi⟩,by simp,by simp⟩⟩
      ·rw [had h0]
       obtain ⟨arr,h1,h1D,h2,h3,h4⟩:=iu (P:=P) (I:=I) (w:=w) (b:=b) (o:=0+off*1) (xs:=ps) (k:=1)
        (fun x hxm=>⟨by rw [(hcell1 x hxm).1];rfl,(hcell1 x hxm).2⟩) fun i x hi j p hp=>by
         have hxm:=List.mem_of_getElem? hi
         rw [(hcell1 x hxm).1] at hp
         cases j with
         | succ j=>simp at hp
         | zero=>
          simp at hp
          subst hp
          have hv:v.cells[off+i]? =some (.pv x):=by
           have:((v.cells.drop off).take n)[i]? =some (.pv x):=by rw [hmap];simp [hi]
           exact (cQ this).2
          obtain ⟨u,g1,g2,g3⟩:=hc (off+i) _ hv
          exact ⟨u,by rw [show 0+off*1+i*1+0=off+i by omega];exact g1,g2,aw g3⟩
       rw [←hlenp]
       exact ⟨arr,⟨fun _=>rfl,by simpa [Builtin.firstCells] using h1,by simpa [Builtin.firstCells] using h1D,h2,h3,h4⟩⟩
    ·cases he
   ·cases he
  ·cases he
 ·cases he
theorem c8.src {size:Nat} {u:Value} {ys:List PV} {news:Array Value} {t1:TypeId} (hE:c8 I w P size u ys news) (ht:fH P t1=true):Src P size t1 u ys.length news.toList w:=by
 refine ⟨?_,hE.len,by simpa using hE.run,by simpa using hE.runD,by simpa using hE.size_eq,hE.one⟩
 unfold fH at ht
 split at ht
 ·rename_i e' hh;exact .inl ⟨e',hh⟩
 ·rename_i hh;exact .inr hh
 ·cases ht
theorem ku {n bytes:Nat} (hf:cp n bytes=true):n*bytes≤140737488355328∧n≤9223372036854775807:=by
 unfold cp gN fE at hf
 simpa only [Bool.and_eq_true,decide_eq_true_eq] using hf
theorem bH.append {k:Nat} {xs ys:List PV} {a b:Array Value} (ha:bH I w k xs a) (hb:bH I w k ys b) (hs:a.size=xs.length*k) (rest:Array Value):bH I w k (xs++ys) ((a.toList++b.toList).toArray++rest):=by
 refine ⟨?_,fun x hx=>(List.mem_append.1 hx).elim (ha.elem x) (hb.elem x),fun i x hi j p hp=> ?_⟩
 ·have:=hb.size
  simp [Nat.add_mul]
  omega
 ·have hj: ∀ {zs:List PV} {c:Array Value},bH I w k zs c→x∈zs→j<k:=fun hz hm=>by rw [←(hz.elem x hm).1];exact (List.getElem?_eq_some_iff.1 hp).1
  rcases Nat.lt_or_ge i xs.length with hlt | hge
  ·rw [List.getElem?_append_left hlt] at hi
   obtain ⟨u,h1,h2,h3⟩:=ha.rep i x hi j p hp
   have hb1:=(Array.getElem?_eq_some_iff.1 h1).1
   refine ⟨u,?_,h2,h3⟩
   rw [Array.getElem?_append_left (by simp;omega)]
   simp only [List.getElem?_toArray]
   rw [List.getElem?_append_left (by simpa using hb1)]
   simpa using h1
  ·rw [List.getElem?_append_right hge] at hi
   obtain ⟨u,h1,h2,h3⟩:=hb.rep (i-xs.length) x hi j p hp
   have hb1:=(Array.getElem?_eq_some_iff.1 h1).1
   have e:i*k+j=xs.length*k+((i-xs.length)*k+j):=by
    have:i*k=xs.length*k+(i-xs.length)*k:=by rw [←Nat.add_mul];congr 1;omega
    omega
   refine ⟨u,?_,h2,h3⟩
   rw [Array.getElem?_append_left (by simp;omega)]
   simp only [List.getElem?_toArray]
   rw [List.getElem?_append_right (by simp;omega)]
   simp only [Array.length_toList,Array.getElem?_toList]
   rw [show i*k+j-a.size=(i-xs.length)*k+j by omega]
   exact h1
variable {σ σ':ak} {I I':af} {base:af} {w w':World} {h:aa} {P:Program}
section
variable {d gen:Nat} {t0 t1 ty e:TypeId} {size bytes:Nat} {z:Value}
structure fc (P:Program) (t0 t1 e:TypeId) (size bytes:Nat) (z:Value):Prop where
 d0:P.underlying t0=some (.slice e)
 d1:fH P t1=true
 sz:aK P e=some size
 by_:cW P e=some bytes
 z_:bo P e=some z
 ne:size≠0
 zs:z.cells.size=size
theorem fc.info (T:fc P t0 t1 e size bytes z): ∃i,P.info? e=some i∧i.size=size∧i.bytes=bytes∧i.zero=some z:=by
 have h1:=T.sz
 have h2:=T.by_
 have h3:=T.z_
 unfold aK at h1
 unfold cW at h2
 unfold bo at h3
 simp only [Option.map_eq_some_iff,Option.bind_eq_some_iff] at h1 h2 h3
 obtain ⟨i,hi,rfl⟩:=h1
 obtain ⟨i2,hi2,rfl⟩:=h2
 obtain ⟨i3,hi3,hz⟩:=h3
 rw [hi] at hi2 hi3
 injection hi2 with hi2
 injection hi3 with hi3
 subst hi2;subst hi3
 exact ⟨i,hi,rfl,rfl,hz⟩
theorem gt (T:fc P t0 t1 e size bytes z) {bs:Option Addr} {n cap:Nat} {x:Value} {news:Array Value} (hle:n≤cap) (hx:c8 I w P size x [] news):
  (Builtin.append_ #[t0,t1] ty #[.slice bs n cap,x]).run P w= .ok (.slice bs n cap) w:=by
 obtain ⟨i,hi,hs,hb,hz⟩:=T.info
 have hsrc:=hx.src T.d1
 have hn:news.toList=[]:=List.eq_nil_of_length_eq_zero (by simpa using hx.size_eq)
 rw [hn] at hsrc
 subst hs
 exact run_append_nothing w t0 t1 ty e i T.d0 hi bs n cap hle x (by simpa using hsrc)
theorem fe (T:fc P t0 t1 e size bytes z) (H:ae σ I base w h) (hg:σ gen=none) (hB:aG base w.heap.size) {d s:Nat} {bs:Option Addr} {cap:Nat} {x:Value} {xs ys:List PV} {olds news:Array Value}
  (hs:c8 I w P size (.slice bs xs.length cap) xs olds) (hx:c8 I w P size x ys news) (hlt:cap<xs.length+ys.length) (hfit:cp (xs.length+ys.length) bytes=true)
  {run:Result Next} (hrun:run=((Builtin.append_ #[t0,t1] ty #[.slice bs xs.length cap,x]).run P w).andThen fun v w'=> .ok (.value v) w'):
  ay σ I base w gen run (.msl d s gen 0 (xs.length+ys.length) false) (hput h d s ⟨gen,.row size e (xs++ys) false⟩):=by
 obtain ⟨i,hi,hsi,hb,hz⟩:=T.info
 subst hsi
 obtain ⟨hf1,hf2⟩:=ku hfit
 have hr:=run_append_grow_src (P:=P) w t0 t1 ty e i z T.d0 hi hz bs xs.length cap olds.toList (by simpa using hs.runD) x ys.length news.toList (hx.src T.d1) hlt (by omega)
  (growslice_fits hlt (by rw [hb];exact hf1))
 rw [hr] at hrun
 have hG:aJ w (w.drew.alloc (.cells ((olds.toList++news.toList).toArray++Builtin.zeroCells z.cells (grownCap w (xs.length+ys.length) cap e-(xs.length+ys.length))) e))
   (.cells ((olds.toList++news.toList).toArray++Builtin.zeroCells z.cells (grownCap w (xs.length+ys.length) cap e-(xs.length+ys.length))) e):=⟨rfl,rfl,rfl,rfl⟩
 have hge:=grownCap_ge w (xs.length+ys.length) cap e
 refine e9 H (hs.arr.append hx.arr hs.size_eq _) hg hB hG (fun j _=>hG.frozen j) hge (by simp) ?_ hrun
 have e1:(Builtin.zeroCells z.cells (grownCap w (xs.length+ys.length) cap e-(xs.length+ys.length))).size=(grownCap w (xs.length+ys.length) cap e-(xs.length+ys.length))*i.size:=by
  rw [size_zeroCells,T.zs]
 have e2:=hs.size_eq
 have e3:=hx.size_eq
 simp only [Array.size_append,List.size_toArray,List.length_append,Array.length_toList,e1,e2,e3]
 rw [←Nat.add_mul,←Nat.add_mul]
 exact Nat.mul_le_mul_right _ (by omega)
theorem nv {tgt v:AV} {h':aa} {u x:Value} {slot:Nat} {ys:List PV} {news:Array Value} (T:fc P t0 t1 e size bytes z) (hop:dT e size bytes d slot gen h tgt ys=some (v,h')) (hu:ab σ I w tgt u)
  (hx:c8 I w P size x ys news) (H:ae σ I base w h) (hg:σ gen=none) (hB:aG base w.heap.size)
  {run:Result Next} (hrun:run=((Builtin.append_ #[t0,t1] ty #[u,x]).run P w).andThen fun v w'=> .ok (.value v) w'):ay σ I base w gen run v h':=by
 unfold dT at hop
 split at hop
 ·rename_i k nl full xs
  split at hop
  ·
   rename_i hys
   have hys:ys=[]:=by simpa using hys
   subst hys
   simp only [Option.some.injEq,Prod.mk.injEq] at hop
   obtain ⟨rfl,rfl⟩:=hop
   refine .same u H ?_ hu
   have hu':=aw hu
   cases hu' with
   | nil=>rw [hrun,gt T (Nat.le_refl _) hx];rfl
   | emp=>rw [hrun,gt T (Nat.zero_le _) hx];rfl
   | sl _ _ _ b o cap vs hcap=>rw [hrun,gt T hcap hx];rfl
  ·rename_i hys
   have hys:ys≠[]:=by simpa using hys
   have hpos:0<ys.length:=by
    cases ys with
    | nil=>exact absurd rfl hys
    | cons a l=>simp
   split at hop
   ·rename_i hnl
    subst hnl
    split at hop
    ·rename_i hc
     simp only [Option.some.injEq,Prod.mk.injEq] at hop
     obtain ⟨rfl,rfl⟩:=hop
     have hu':=aw hu
     cases hu' with
     | nil=>
      obtain ⟨olds,hs⟩:=ed (P:=P) (size:=size) (ys:=[]) (by simp [b9]) hu H
      have:=fe (ty:=ty) T H hg hB (d:=d) (s:=slot) (xs:=[]) hs hx (by simpa using hpos) (by simpa using hc.2) hrun
      simpa using this
    ·cases hop
   ·rename_i hnl
    have hnl:nl=false:=by simpa using hnl
    subst hnl
    split at hop
    ·rename_i hc
     obtain ⟨rfl,rfl,hfit⟩:=hc
     simp only [Option.some.injEq,Prod.mk.injEq] at hop
     obtain ⟨rfl,rfl⟩:=hop
     obtain ⟨olds,hs⟩:=ed (P:=P) (size:=k) (ys:=xs) (by simp [b9]) hu H
     have hu':=aw hu
     cases hu' with
     | emp _ _ a cap hfull=>
      have:=hfull rfl
      subst this
      exact fe (ty:=ty) T H hg hB (d:=d) (s:=slot) (xs:=[]) hs hx (by simpa using hpos) hfit hrun
     | sl _ _ _ b o cap vs hcap hfull=>
      have:=hfull rfl
      subst this
      exact fe (ty:=ty) T H hg hB (d:=d) (s:=slot) hs hx (by omega) hfit hrun
    ·cases hop
 ·rename_i d' s' g' off n full
  split at hop
  case h_2=>cases hop
  rename_i k e' xs fz hl
  have hu0:=hu
  cases hu with
  | msl _ _ _ _ _ _ b o k2 cap ad had hs hn hfull hroom=>
   obtain ⟨b',o',n',hs',hbl,hbase,hfr,hxn,hsh,hxk,hc,hz⟩:=cN (H.live hl (by simp))
   rw [hs] at hs'
   simp only [Option.some.injEq,Prod.mk.injEq] at hs'
   obtain ⟨rfl,rfl,rfl⟩:=hs'
   split at hop
   ·rename_i hfl
    subst hfl
    have hcn:=hfull rfl
    subst hcn
    split at hop
    ·rename_i hys
     have hys:ys=[]:=by simpa using hys
     subst hys
     simp only [Option.some.injEq,Prod.mk.injEq] at hop
     obtain ⟨rfl,rfl⟩:=hop
     exact .same _ H (by rw [hrun,gt T hn hx];rfl) hu0
    ·rename_i hys
     have hys:ys≠[]:=by simpa using hys
     have hpos:0<ys.length:=by
      cases ys with
      | nil=>exact absurd rfl hys
      | cons a l=>simp
     split at hop
     ·rename_i hcc
      obtain ⟨rfl,hle,hfit⟩:=hcc
      simp only [Option.some.injEq,Prod.mk.injEq] at hop
      obtain ⟨rfl,rfl⟩:=hop
      obtain ⟨olds,hso⟩:=ed (P:=P) (size:=k2) (ys:=(xs.drop off).take cap) (by simp [b9,hl,hle]) hu0 H
      have hlen:((xs.drop off).take cap).length=cap:=by simp;omega
      have hso':c8 I w P k2 (.slice (some ⟨b,ad,none⟩) ((xs.drop off).take cap).length cap) ((xs.drop off).take cap) olds:=by rw [hlen];exact hso
      have:=fe (run:=run) (ty:=ty) (cap:=cap) T H hg hB (d:=d) (s:=slot) hso' hx (by omega) (by rw [hlen];exact hfit) (by rw [hlen];exact hrun)
      rw [hlen] at this
      exact this
     ·cases hop
   ·rename_i hfl
    split at hop
    case isFalse=>cases hop
    rename_i hcc
    obtain ⟨rfl,rfl,rfl,hle,hfit⟩:=hcc
    simp only [Option.some.injEq,Prod.mk.injEq] at hop
    obtain ⟨rfl,rfl⟩:=hop
    have hdrop:(xs.drop off).take n=xs.drop off:=List.take_of_length_le (by simp;omega)
    have hlenD:(xs.drop off).length=n:=by simp;omega
    by_cases hroomy:n+ys.length≤cap
    ·
     obtain ⟨i,hi,hsi,hb,hzz⟩:=T.info
     subst hsi
     obtain ⟨ee,mm,hsh2,hroom2⟩:=hroom
     rw [hsh] at hsh2
     simp only [Option.some.injEq,Prod.mk.injEq] at hsh2
     obtain ⟨rfl,rfl⟩:=hsh2
     have hnews:news.toList.length=ys.length*i.size:=by simpa using hx.size_eq
     have hcells:(n+ys.length)*i.size≤cap*i.size:=Nat.mul_le_mul_right _ hroomy
     rw [Nat.add_mul] at hcells
     rw [Nat.add_mul] at hroom2
     have hin: ∀j,j<news.toList.length→cap≠0∧ad+n*i.size+j<n':=by
      intro j hj
      have hc0:cap≠0:=by
       intro h0
       subst h0
       have:ys.length=0:=by omega
       rw [this] at hnews
       omega
      have:=had hc0
      exact ⟨hc0,by omega⟩
     have hr:=run_append_room_src (P:=P) w t0 t1 ty _ i T.d0 hi b ad n cap x ys.length news.toList (hx.src T.d1) hroomy
      (fun j hj=>by obtain ⟨u,hu⟩:=g9 hsh (hin j hj).2;rw [hu];rfl) (fun j hj=>hz.2.2 _ (hin j hj).2)
     rw [hr] at hrun
     have hkeep:aD I w (w.setCells b (ad+n*i.size) news.toList):=d6 hz.1
     have hxsl:xs.length*i.size=off*i.size+n*i.size:=by rw [←hle,Nat.add_mul]
     have had':news.toList.length≠0→ad=o+off*i.size:=fun hh=>had (hin 0 (by omega)).1
     have hE:ar base σ I w (aN σ gen (b,o+off*i.size,i.size)) I (w.setCells b (ad+n*i.size) news.toList):=
      ⟨bO hg,fun _ h=>h,fun _ h=> .inl h,hkeep,jG hz.2.1⟩
     have hrowl:=b8 hl (by simp)
     refine ⟨_,_,_,aN σ gen (b,o+off*i.size,i.size),I,hrun,.inl rfl,?_,?_,hE,fun g hne=>bV hne⟩
     ·exact .msl d' s' gen 0 _ false b _ _ cap ad (fun hc0=>by rw [had hc0];simp) aP hroomy (by simp) ⟨_,n',by rw [c5];exact hsh,by rw [Nat.zero_add];omega⟩
     ·refine H.put (bO hg) (fun _ h=>h) hkeep (hkeep.inW H.inW) d' s' _ ?_ ?_
      ·refine ⟨b,o+off*i.size,n',aP,by rw [c5];exact hsh,?_,?_,?_,⟨hz.1,hz.2.1,fun j hj=>by rw [World.frozen?_setCells];exact hz.2.2 j hj⟩⟩
       ·rw [List.length_append,hlenD,Nat.add_mul]
        by_cases h0:ys.length=0
        ·rw [h0];omega
        ·have:cap≠0:=by omega
         omega
       ·intro y hy
        rcases List.mem_append.1 hy with hy | hy
        ·exact hxk y (List.mem_of_mem_drop hy)
        ·exact hx.arr.elem y hy
       ·intro i' y hy j p hp
        have hyk:y.cells.length=i.size:=by
         rcases List.mem_append.1 (List.mem_of_getElem? hy) with hy | hy
         ·exact (hxk y (List.mem_of_mem_drop hy)).1
         ·exact (hx.arr.elem y hy).1
        have hjk:j<i.size:=by rw [←hyk];exact (List.getElem?_eq_some_iff.1 hp).1
        rcases Nat.lt_or_ge i' n with hlt | hge
        ·rw [List.getElem?_append_left (by omega),List.getElem?_drop] at hy
         obtain ⟨u,h1,h2,h3⟩:=hc (off+i') y hy j p hp
         refine ⟨u,?_,h2,h3.mono (fun _ h=>h) hkeep.keep⟩
         have e1:o+off*i.size+i'*i.size+j=o+(off+i')*i.size+j:=by rw [Nat.add_mul];omega
         rw [e1]
         by_cases hnl:news.toList.length=0
         ·have:news.toList=[]:=List.eq_nil_of_length_eq_zero hnl
          rw [this]
          exact h1
         ·rw [d7]
          ·exact h1
          ·left
           have:=gq (k:=i.size) hlt hjk
           rw [had' hnl,Nat.add_mul]
           omega
        ·rw [List.getElem?_append_right (by omega),hlenD] at hy
         obtain ⟨u,h1,h2,h3⟩:=hx.arr.rep (i'-n) y hy j p hp
         have hlt:=(Array.getElem?_eq_some_iff.1 h1).1
         have hnl:news.toList.length≠0:=by rw [Array.length_toList];omega
         refine ⟨u,?_,h2,h3.mono (fun _ h=>h) hkeep.keep⟩
         have:=eW (w:=w) (b:=b) (o:=ad+n*i.size) (vs:=news.toList) hsh (by have:=(hin 0 (by omega)).1;have:=had this;omega) (j:=(i'-n)*i.size+j) (by simpa using hlt)
         have e1:ad+n*i.size+((i'-n)*i.size+j)=o+off*i.size+i'*i.size+j:=by
          have:i'*i.size=n*i.size+(i'-n)*i.size:=by rw [←Nat.add_mul];congr 1;omega
          have:=had' hnl
          omega
         rw [e1] at this
         rw [this]
         have h1':news.toList[(i'-n)*i.size+j]? =some u:=by simpa using h1
         rw [List.getElem?_eq_getElem (by simpa using hlt)] at h1'
         exact h1'
      ·intro d2 s2 b2 hne hb2
       have hf':=aM (H.rows d2 s2) hb2
       have hbb:b2≠b:=fun e=>hne (H.apart d' s' d2 s2 b (by rw [hrowl];simp [ai,hs]) (e▸hb2))
       exact ⟨eV b _ _ w b2 hbb,hf'.2.1,by simp [ai,aP];exact Ne.symm hbb⟩
    ·obtain ⟨olds,hso⟩:=ed (P:=P) (size:=k2) (ys:=xs.drop off) (by simp [b9,hl,hdrop];omega) hu0 H
     rw [←hlenD] at hso hfit hroomy hrun
     have:=fe (ty:=ty) T H hg hB (d:=d') (s:=s') hso hx (by omega) hfit hrun
     rw [hlenD] at this
     exact this
 ·cases hop
theorem nw {tn:TypeId} {x y v:AV} {h':aa} {u uy:Value} {slot:Nat} (hd0:P.underlying t0=some (.slice e)) (hop:eH P e tn d slot gen h x y=some (v,h')) (hu:ab σ I w x u) (hy:ab σ I w y uy)
  (H:ae σ I base w h) (hg:σ gen=none) (hB:aG base w.heap.size)
  {run:Result Next} (hrun:run=((Builtin.append_ #[t0,tn] ty #[u,uy]).run P w).andThen fun v w'=> .ok (.value v) w'):ay σ I base w gen run v h':=by
 unfold eH at hop
 split at hop
 ·rename_i kn k nl fl xs ki n htn
  simp only [Option.bind_eq_bind,Option.bind_eq_some_iff] at hop
  obtain ⟨size,hsz,bytes,hby,z,hz,hop⟩:=hop
  split at hop
  ·cases hop
  ·rename_i hne
   split at hop
   ·rename_i hc
    obtain ⟨rfl,hx0,hn1,hfit⟩:=hc
    have hx0:xs=[]:=List.length_eq_zero_iff.1 hx0
    subst hx0
    simp only [Option.some.injEq,Prod.mk.injEq] at hop
    obtain ⟨rfl,rfl⟩:=hop
    have hne1:size≠0:=fun e=>hne (.inl e)
    have hne2:z.cells.size=size:=by
     rcases Nat.decEq z.cells.size size with hh | hh
     ·exact absurd (.inr hh) hne
     ·exact hh
    have hu':=aw hu
    have huy:=aQ (aw hy)
    subst huy
    unfold aK at hsz
    unfold cW at hby
    unfold bo at hz
    simp only [Option.map_eq_some_iff,Option.bind_eq_some_iff] at hsz hby hz
    obtain ⟨i,hi,rfl⟩:=hsz
    obtain ⟨i2,hi2,rfl⟩:=hby
    obtain ⟨i3,hi3,hz⟩:=hz
    rw [hi] at hi2 hi3
    injection hi2 with hi2
    injection hi3 with hi3
    subst hi2;subst hi3
    obtain ⟨hf1,hf2⟩:=ku hfit
    obtain ⟨m,rfl⟩: ∃m:Nat,n=(m:Int):=⟨n.toNat,by omega⟩
    simp only [Int.toNat_natCast] at*
    have hgrow: ∀A:Array Value,A.size=(m+(grownCap w m 0 e-m))*i.size→
      ((Builtin.append_ #[t0,tn] ty #[.slice none 0 0,.int ki (m:Int)]).run P w)= .ok (.slice (some ⟨w.heap.size,0,none⟩) m (grownCap w m 0 e)) (w.drew.alloc (.cells A e))→
      u= .slice none 0 0→ay σ I base w gen run (.msl d slot gen 0 m false) (hput h d slot ⟨gen,.row i.size e [] false⟩):=by
     intro A hA hr hu0
     rw [hu0,hr] at hrun
     have hG:aJ w (w.drew.alloc (.cells A e)) (.cells A e):=⟨rfl,rfl,rfl,rfl⟩
     have hge:=grownCap_ge w m 0 e
     refine e9 H ⟨by simp,by simp,fun i x hi=>by simp at hi⟩ hg hB hG (fun j _=>hG.frozen j) hge (by simp) ?_ hrun
     rw [hA]
     exact Nat.mul_le_mul_right _ (by omega)
    have hr:=Go.Lib.run_append_nil_zeros (P:=P) w t0 tn ty e i z ki kn hd0 htn hi hz m (by omega) (by omega) (by omega) (by omega)
    cases hu' with
    | nil=>
     refine hgrow _ ?_ hr rfl
     rw [Array.size_append,size_zeroCells,size_zeroCells,hne2,Nat.add_mul]
   ·cases hop
 ·cases hop
end
variable {σ σ':ak} {I I':af} {base:af} {w w':World} {h:aa} {P:Program}
section
variable {ρ:Operand→AV} {ρc:Operand→Value} {d gen:Nat} {o:Oper} {v:AV} {h':aa}
theorem ny (w:World) (arr:Array Value) (e:TypeId):((w.drew.alloc (.cells arr e)).freeze ⟨w.heap.size,arr.size,none⟩ 1).heap=w.heap.push (.cells arr e (arr.size,arr.size+1)):=by
 unfold World.freeze
 rw [if_neg (by decide)]
 apply Array.ext_getElem?
 intro i
 simp only [World.drew,World.alloc,Array.getElem?_modify,Array.getElem?_push]
 by_cases hi:i=w.heap.size
 ·subst hi;simp
 ·rw [if_neg (fun e=>hi e.symm),if_neg hi,if_neg hi]
theorem iv: ∀ {l:List PV} {bs:List UInt8},du l=some bs→ ∃ns:List Int,l=ns.map (fun n=>PV.lit (.int .u8 n))∧bs=ns.map fun n=>UInt8.ofNat n.toNat
 | [],bs,hl=>by simp only [du,Option.some.injEq] at hl;subst hl;exact ⟨[],rfl,rfl⟩
 | p::l,bs,hl=>by
  unfold du at hl
  split at hl
  ·rename_i hh;cases hh
  ·rename_i n l' hh
   injection hh with h1 h2
   subst h1;subst h2
   simp only [Option.map_eq_some_iff] at hl
   obtain ⟨bs',hb,rfl⟩:=hl
   obtain ⟨ns,rfl,rfl⟩:=iv hb
   exact ⟨n::ns,rfl,rfl⟩
  ·cases hl
theorem nz (ns:List Int): ∀(s:ByteArray),ns.foldl (fun r n=>r.push (UInt8.ofNat n.toNat)) s=⟨s.data++(ns.map fun n=>UInt8.ofNat n.toNat).toArray⟩:=by
 induction ns with
 | nil=>intro s;simp
 | cons n ns ih=>
  intro s
  rw [List.foldl_cons,ih]
  have:(s.push (UInt8.ofNat n.toNat)).data=s.data.push (UInt8.ofNat n.toNat):=rfl
  rw [this]
  congr 1
  apply Array.ext'
  simp
theorem nA {src dst:TypeId} {x:Operand} (ho:o.op= .convert src dst x) (hop:ah P o ρ d gen h=some (v,h')) (hρ: ∀x,ab σ I w (ρ x) (ρc x)) (H:ae σ I base w h) (hg:σ gen=none) (hB:aG base w.heap.size):
  ay σ I base w gen ((execOp ρc o).run P w) v h':=by
 have hr:=hρ x
 simp only [ah,ho] at hop
 split at hop
 ·rename_i e s hsrc hdst hx
  rw [hx] at hr
  have hu:=aQ (aw hr)
  split at hop
  ·rename_i slot he hslot
   split at hop
   ·rename_i hsz
    simp only [Option.some.injEq,Prod.mk.injEq] at hop
    obtain ⟨rfl,rfl⟩:=hop
    have hcut:s.size≤(Question.appendCap s.size 0 e).cut (w.tape w.drawn (Question.appendCap s.size 0 e)):=by simp [Question.cut]
    generalize hc:(Question.appendCap s.size 0 e).cut (w.tape w.drawn (Question.appendCap s.size 0 e))=cap at hcut
    have hsize:(s.data.map (fun b=>Value.int .u8 b.toNat)++Array.replicate (cap-s.size) (Value.int .u8 0)).size=cap:=by
     have:s.data.size=s.size:=rfl
     simp;omega
    have hG:aJ w ((w.drew.alloc (.cells (s.data.map (fun b=>Value.int .u8 b.toNat)++Array.replicate (cap-s.size) (.int .u8 0)) e)).freeze
      ⟨w.heap.size,(s.data.map (fun b=>Value.int .u8 b.toNat)++Array.replicate (cap-s.size) (Value.int .u8 0)).size,none⟩ 1)
      (.cells (s.data.map (fun b=>Value.int .u8 b.toNat)++Array.replicate (cap-s.size) (.int .u8 0)) e
       ((s.data.map (fun b=>Value.int .u8 b.toNat)++Array.replicate (cap-s.size) (Value.int .u8 0)).size,(s.data.map (fun b=>Value.int .u8 b.toNat)++Array.replicate (cap-s.size) (Value.int .u8 0)).size+1)):=by
     refine ⟨ny w _ e,?_,?_,?_⟩<;>(unfold World.freeze;rw [if_neg (by decide)];rfl)
    refine e9 (k:=1) (n:=s.size) (cap:=cap) (full:=false) H ?_ hg hB hG ?_ hcut (by simp) (by rw [hsize];omega) ?_
    ·refine ⟨by rw [hsize];simp [cG];omega,?_,?_⟩
     ·intro y hy
      simp only [cG,List.mem_map] at hy
      obtain ⟨b,_,rfl⟩:=hy
      exact ⟨rfl,rfl⟩
     ·intro i y hi j p hp
      rw [kr] at hi
      simp only [Option.map_eq_some_iff] at hi
      obtain ⟨b,hb,rfl⟩:=hi
      cases j with
      | zero=>
       simp [PV.cells] at hp
       subst hp
       refine ⟨.int .u8 b.toNat,?_,rfl,.lit _⟩
       have hlt:=(Array.getElem?_eq_some_iff.1 hb).1
       have hds:s.data.size=s.size:=rfl
       rw [Array.getElem?_append_left (by simp;omega)]
       simp [hb]
      | succ j=>simp [PV.cells] at hp
    ·intro j hj
     unfold World.frozen?
     simp only [hG.new]
     simp
     omega
    ·simp only [execOp,ho]
     refine ap ?_
     have hs2:(w.drew.alloc (.cells (s.data.map (fun b=>Value.int .u8 b.toNat)++Array.replicate (cap-s.size) (.int .u8 0)) e)).shape? w.heap.size=
       some (e,(s.data.map (fun b=>Value.int .u8 b.toNat)++Array.replicate (cap-s.size) (Value.int .u8 0)).size):=by
      unfold World.shape? World.alloc World.drew
      simp
     simp only [convert,Sem.run_bind,aq hsrc,aq hdst,Result.andThen_ok,hu,aq he,Conv.stringToBytes,run_choose,Question.forced,Bool.false_eq_true,if_false,newRow,run_newObj,Sem.run_pure,markStringish,run_shape]
     rw [hc]
     dsimp only [World.alloc,World.drew] at hs2
     rw [hs2]
     rfl
   ·cases hop
  ·cases hop
 ·rename_i e hsrc hdst
  split at hop
  ·rename_i he
   split at hop
   case isFalse=>cases hop
   rename_i hsl
   simp only [Option.bind_eq_some_iff,Option.map_eq_some_iff,Prod.mk.injEq] at hop
   obtain ⟨l,hl,bs,hbs,rfl,rfl⟩:=hop
   obtain ⟨news,hE⟩:=ed (P:=P) hl hr H
   obtain ⟨ns,rfl,rfl⟩:=iv hbs
   have hsz:=hE.size_eq
   have hnews:news=(ns.map (Value.int .u8)).toArray:=by
    apply Array.ext_getElem?
    intro j
    simp only [List.getElem?_toArray,List.getElem?_map]
    cases hj:ns[j]? with
    | none=>
     simp only [Option.map_none]
     rw [Array.getElem?_eq_none]
     have:=List.getElem?_eq_none_iff.1 hj
     simp at hsz
     omega
    | some n=>
     obtain ⟨u,h1,_,h3⟩:=hE.arr.rep j (.lit (.int .u8 n)) (by simp [hj]) 0 (.lit (.int .u8 n)) rfl
     rw [aQ h3] at h1
     simpa using h1
   refine .same (.string (ns.foldl (fun r n=>r.push (UInt8.ofNat n.toNat)) ByteArray.empty)) H ?_ ?_
   ·simp only [execOp,ho]
    refine ap ?_
    have hrun:=hE.run
    have hlen:=hE.len w
    generalize hu:ρc x=u at hr hrun hlen
    generalize hxv:ρ x=xx at hr hl hsl
    have hkind: ∃a n c,u= .slice a n c:=by
     cases hr with
     | pv p _ hp=>
      cases hp with
      | nil=>exact ⟨_,_,_,rfl⟩
      | emp=>exact ⟨_,_,_,rfl⟩
      | sl=>exact ⟨_,_,_,rfl⟩
      | _=>cases hsl
     | msl=>exact ⟨_,_,_,rfl⟩
     | _=>cases hsl
    obtain ⟨a,n,c,rfl⟩:=hkind
    rw [run_convert_bytes_string w src dst e a n c hsrc he hdst]
    have hn:n=(ns.map fun n=>PV.lit (.int .u8 n)).length:=by
     simp [Builtin.lenOf] at hlen
     simpa using hlen
    cases a with
    | none=>
     simp [Builtin.firstCells] at hrun
     rw [hnews] at hrun
     have:ns=[]:=by simpa using hrun.symm
     subst this
     simp [Conv.bytesToString]
    | some a=>
     refine run_bytesToString w a n c ns ?_
     rw [←hnews,hn]
     simpa [Builtin.firstCells] using hrun
   ·rw [nz]
    exact .pv _ _ (by simpa using aj.lit _)
  ·cases hop
 ·simp only [Option.bind_eq_some_iff,Option.map_eq_some_iff,Prod.mk.injEq] at hop
  obtain ⟨a,ha,r,hrr,rfl,rfl⟩:=hop
  refine .same r H ?_ (.pv _ _ (.lit r))
  simp only [execOp,ho]
  rw [gm ha hr]
  exact ap (e7 hrr)
end
variable {σ σ':ak} {I I':af} {base:af} {w w':World} {h:aa} {P:Program}
section
variable {ρ:Operand→AV} {ρc:Operand→Value} {d gen:Nat} {o:Oper} {v:AV} {h':aa}
theorem nB {u:Value} {k:IntKind} {i:Int} {y:Nat} {code:BoundsCode} (hu:u= .int k i) (h0:0≤i) (h1:i≤y):(Instr.sliceBound u y code).run P w= .ok i.toNat w:=by
 subst hu
 simp [Instr.sliceBound,asIntOf,h0,h1]
theorem gu {x:Operand} {dflt top n:Nat} (hn:dv (some (ρ x)) dflt top=some n) (hρ: ∀x,ab σ I w (ρ x) (ρc x)):
  n≤top∧ ∀(y:Nat) (code:BoundsCode),top≤y→(Instr.sliceBound (ρc x) y code).run P w= .ok n w:=by
 simp only [dv,Option.bind_eq_some_iff] at hn
 obtain ⟨i,hi,hn⟩:=hn
 split at hn
 ·rename_i hc
  injection hn with hn
  subst hn
  obtain ⟨k,hk⟩:=gn hi (hρ x)
  exact ⟨by omega,fun y code hy=>nB hk hc.1 (by omega)⟩
 ·cases hn
theorem gv {n l r:Nat} {m:Option Nat} {lo hi mx:Option Operand} (hb:dU n (lo.map ρ) (hi.map ρ) (mx.map ρ)=some (l,r,m)) (hρ: ∀x,ab σ I w (ρ x) (ρc x)) (isS:Bool) {cap:Nat} (hn:n≤cap):
  (Instr.sliceBounds isS n cap (lo.map ρc) (hi.map ρc) (mx.map ρc)).run P w= .ok (l,r,m.getD cap) w∧l≤r∧r≤n∧r≤m.getD cap∧m.getD cap≤cap∧(∀m',m=some m'→m'≤n)∧m.isSome=mx.isSome:=by
 simp only [dU,Option.bind_eq_some_iff] at hb
 obtain ⟨m0,hm0,r0,hr0,l0,hl0,hb⟩:=hb
 split at hb
 ·cases hb
 ·rename_i hmh
  simp only [Option.some.injEq,Prod.mk.injEq] at hb
  obtain ⟨rfl,rfl,rfl⟩:=hb
  have hl: ∀(code:BoundsCode) (C:Nat),l0≤r0∧(match lo.map ρc with
    | some v=>(do let l ←Instr.sliceBound v r0 code;pure (l,r0,C):Sem (Nat×Nat×Nat))
    | none=>(do let l ←pure 0;pure (l,r0,C))).run P w= .ok (l0,r0,C) w:=by
   intro code C
   cases lo with
   | none=>simp [dv] at hl0;subst hl0;exact ⟨Nat.zero_le _,rfl⟩
   | some x=>
    obtain ⟨h1,h2⟩:=gu (P:=P) hl0 hρ
    exact ⟨h1,by simp [h2 r0 code (Nat.le_refl _)]⟩
  cases mx with
  | none=>
   simp at hm0
   subst hm0
   cases hi with
   | none=>
    simp [dv] at hr0
    subst hr0
    refine ⟨?_,(hl .sliceB cap).1,Nat.le_refl _,by simpa using hn,by simp,by simp,rfl⟩
    have:=(hl .sliceB cap).2
    simp only [Instr.sliceBounds,Option.map_none,Sem.run_bind,Sem.run_pure,Result.andThen_ok,Option.isSome_none,Bool.false_eq_true,if_false,Option.getD_none]
    exact this
   | some x=>
    obtain ⟨h1,h2⟩:=gu (P:=P) hr0 hρ
    simp only [Option.getD_none] at h1 h2
    refine ⟨?_,(hl .sliceB cap).1,h1,by simp;omega,by simp,by simp,rfl⟩
    have:=(hl .sliceB cap).2
    simp only [Instr.sliceBounds,Option.map_none,Option.map_some,Sem.run_bind,Sem.run_pure,Result.andThen_ok,Option.isSome_none,Bool.false_eq_true,if_false,Option.getD_none,h2 cap _ hn]
    exact this
  | some y=>
   cases hi with
   | none=>simp at hmh
   | some x=>
    simp only [Option.map_some,Option.map_eq_some_iff] at hm0
    obtain ⟨m1,hm1,rfl⟩:=hm0
    obtain ⟨h1,h2⟩:=gu (P:=P) hm1 hρ
    simp only [Option.map_some,Option.getD_some] at hr0
    obtain ⟨h3,h4⟩:=gu (P:=P) hr0 hρ
    refine ⟨?_,(hl .slice3C m1).1,by omega,by simpa using h3,by simp;omega,by simpa using h1,rfl⟩
    have:=(hl .slice3C m1).2
    simp only [Instr.sliceBounds,Option.map_some,Sem.run_bind,Sem.run_pure,Result.andThen_ok,Option.isSome_some,if_true,Option.getD_some,h2 cap _ hn,h4 m1 _ (Nat.le_refl _)]
    exact this
theorem nC {t:TypeId} {x:Operand} {lo hi mx:Option Operand} (ho:o.op= .slice t x lo hi mx) (hop:ah P o ρ d gen h=some (v,h')) (hρ: ∀x,ab σ I w (ρ x) (ρc x)) (H:ae σ I base w h):
  ay σ I base w gen ((execOp ρc o).run P w) v h':=by
 simp only [ah,ho,Option.map_eq_some_iff,Prod.mk.injEq] at hop
 obtain ⟨v',hv,rfl,rfl⟩:=hop
 have hr:=hρ x
 have fin: ∀ {u:Value},(Instr.sliceAt t (ρc x) (lo.map ρc) (hi.map ρc) (mx.map ρc)).run P w= .ok u w→(execOp ρc o).run P w= .ok (.value u) w:=by
  intro u hu
  simp only [execOp,ho]
  exact ap hu
 unfold eF at hv
 split at hv
 ·rename_i s hd he
  rw [he] at hr
  have hu:=aQ (aw hr)
  simp only [Option.bind_eq_bind,Option.bind_eq_some_iff] at hv
  obtain ⟨⟨l,r,m⟩,hb,hv⟩:=hv
  dsimp only at hv
  split at hv
  ·cases hv
  ·rename_i hm
   injection hv with hv
   subst hv
   obtain ⟨hrun,hlr,hrn,_,_,_,hms⟩:=gv (P:=P) hb hρ false (cap:=s.size) (Nat.le_refl _)
   have hmx:mx=none:=by
    cases mx with
    | none=>rfl
    | some y=>simp at hms;rw [hms] at hm;exact absurd rfl hm
   subst hmx
   refine .same (.string (s.extract l r)) H (fin ?_) (.pv _ _ (.lit _))
   simp only [Option.map_none] at hrun
   simp [Instr.sliceAt,Instr.slice,aq hd,hu,hrun]
 ·rename_i e k nl full xs hd he
  rw [he] at hr
  simp only [Option.bind_eq_bind,Option.bind_eq_some_iff] at hv
  obtain ⟨⟨l,r,m⟩,hb,size,hsz,hv⟩:=hv
  dsimp only at hv
  split at hv
  case isFalse=>cases hv
  rename_i hk
  injection hv with hv
  subst hv
  have hr':=aw hr
  generalize hu:ρc x=u at hr'
  have hat: ∀ {a:Option Addr} {n cap:Nat},u= .slice a n cap→n=xs.length→n≤cap→
    (Instr.sliceAt t u (lo.map ρc) (hi.map ρc) (mx.map ρc)).run P w= .ok (.slice (if m.getD cap=l then a else a.map (·.add (l*size))) (r-l) (m.getD cap-l)) w∧
    l≤r∧r≤n∧r≤m.getD cap∧m.getD cap≤cap∧(∀m',m=some m'→m'≤n):=by
   intro a n cap hu hn hcap
   subst hu
   obtain ⟨hrun,h1,h2,h3,h4,h5,_⟩:=gv (P:=P) hb hρ true (cap:=cap) (by omega)
   refine ⟨?_,h1,by omega,h3,h4,fun m' hm'=>by rw [hn];exact h5 m' hm'⟩
   rw [←hn] at hrun
   simp [Instr.sliceAt,Instr.slice,aq hd,hrun,bQ hsz]
  cases hr' with
  | nil=>
   obtain ⟨h0,h1,h2,h3,h4,h5⟩:=hat rfl (by simp) (Nat.le_refl _)
   refine .same _ H (fin (hu▸h0)) ?_
   have hr0:r=0:=by simpa using h2
   have hl0:l=0:=by omega
   subst hr0;subst hl0
   have hm0:m.getD 0=0:=by omega
   rw [hm0]
   simp only [if_true,List.drop_nil,List.take_nil,Nat.sub_self]
   exact .pv _ _ (.nil k _)
  | emp _ _ a cap hfull=>
   obtain ⟨h0,h1,h2,h3,h4,h5⟩:=hat rfl (by simp) (Nat.zero_le _)
   refine .same _ H (fin (hu▸h0)) ?_
   have hr0:r=0:=by simpa using h2
   have hl0:l=0:=by omega
   subst hr0;subst hl0
   simp only [List.drop_nil,List.take_nil,Nat.sub_self]
   have:(if m.getD cap=0 then some a else Option.map (fun x=>x.add (0*size)) (some a))=some a:=by
    split
    ·rfl
    ·simp [Addr.add]
   rw [this]
   refine .pv _ _ (.emp k _ a _ fun hf=> ?_)
   cases m with
   | none=>
    simp at hf
    have:=hfull hf
    simp;omega
   | some m'=>
    simp at hf
    simpa using hf
  | sl _ _ _ b ob cap vs hcap hfull hI hkk hcl hr2=>
   obtain ⟨h0,h1,h2,h3,h4,h5⟩:=hat rfl rfl hcap
   refine .same _ H (fin (hu▸h0)) ?_
   have hk:k=size:=by simpa using hk
   subst hk
   have hlen:((xs.drop l).take (r-l)).length=r-l:=by simp;omega
   have hful:(match m with | some m=>m==r | none=>full&&r==xs.length)=true→m.getD cap=r:=by
    intro hf
    cases m with
    | none=>
     simp at hf
     have:=hfull hf.1
     simp;omega
    | some m'=>simpa using hf
   by_cases hml:m.getD cap=l
   ·rw [if_pos hml]
    have hrl:r=l:=by omega
    subst hrl
    rw [hml]
    simp only [Nat.sub_self,List.take_zero]
    exact .pv _ _ (.emp k _ _ 0 fun _=>rfl)
   ·rw [if_neg hml]
    have:=aj.sl (I:=I) (w:=w) k (match m with | some m=>m==r | none=>full&&r==xs.length) ((xs.drop l).take (r-l)) b (ob+l*k) (m.getD cap-l) (fun i j=>vs (l+i) j)
     (by omega) (fun hf=>by have:=hful hf;omega) hI (fun x hx=>hkk x (List.mem_of_mem_drop (List.mem_of_mem_take hx)))
     (fun i x hi j p hp=>by
      have:=hcl (l+i) x (cQ hi).2 j p hp
      rw [show ob+l*k+i*k+j=ob+(l+i)*k+j by rw [Nat.add_mul];omega]
      exact this)
     (fun i x hi j p hp=>hr2 (l+i) x (cQ hi).2 j p hp)
    rw [hlen] at this
    simp only [Option.map_some,cf]
    exact .pv _ _ this
 ·rename_i e d1 s g off n full hd he
  rw [he] at hr
  simp only [Option.bind_eq_bind,Option.bind_eq_some_iff] at hv
  obtain ⟨⟨l,r,m⟩,hb,size,hsz,hv⟩:=hv
  dsimp only at hv
  split at hv
  case h_2=>cases hv
  rename_i k0 e0 xs fz hl
  split at hv
  case isFalse=>cases hv
  rename_i hk
  subst hk
  injection hv with hv
  subst hv
  obtain ⟨b',o',n',hs',_⟩:=cN (H.live hl (by simp))
  generalize hu:ρc x=u at hr
  cases hr with
  | msl _ _ _ _ _ _ b ob k cap ad had hs hn hfull hroom=>
   rw [hs] at hs'
   simp only [Option.some.injEq,Prod.mk.injEq] at hs'
   obtain ⟨rfl,rfl,rfl⟩:=hs'
   obtain ⟨hrun,h1,h2,h3,h4,h5,_⟩:=gv (P:=P) hb hρ true (cap:=cap) hn
   have hrun':(Instr.sliceAt t (ρc x) (lo.map ρc) (hi.map ρc) (mx.map ρc)).run P w=
     .ok (.slice (if m.getD cap=l then some ⟨b,ad,none⟩ else (some ⟨b,ad,none⟩:Option Addr).map (·.add (l*k))) (r-l) (m.getD cap-l)) w:=by
    rw [hu]
    simp [Instr.sliceAt,Instr.slice,aq hd,hrun,bQ hsz]
   have hful:(match m with | some m=>m==r | none=>full&&r==n)=true→m.getD cap=r:=by
    intro hf
    cases m with
    | none=>
     simp at hf
     have:=hfull hf.1
     simp;omega
    | some m'=>simpa using hf
   obtain ⟨ee,mm,hsh,hrm⟩:=hroom
   have hmul:(off+l+(m.getD cap-l))*k≤(off+cap)*k:=Nat.mul_le_mul_right k (by omega)
   have hroom': ∃e m',w.shape? b=some (e,m')∧ob+(off+l+(m.getD cap-l))*k≤m':=⟨ee,mm,hsh,by omega⟩
   by_cases hml:m.getD cap=l
   ·rw [if_pos hml] at hrun'
    refine .same _ H (fin hrun') ?_
    exact .msl d1 s g (off+l) (r-l) _ b ob k _ ad (fun hc=>absurd hml (by omega)) hs (by omega) (fun hf=>by have:=hful hf;omega) hroom'
   ·rw [if_neg hml] at hrun'
    simp only [Option.map_some,cf] at hrun'
    refine .same _ H (fin hrun') ?_
    exact .msl d1 s g (off+l) (r-l) _ b ob k _ _ (fun hc=>by rw [had (by omega),Nat.add_mul];omega) hs (by omega) (fun hf=>by have:=hful hf;omega) hroom'
 ·rename_i n e d1 s g i off hd he
  rw [he] at hr
  obtain ⟨b,ob,k,hs,hu⟩:=bW hr
  simp only [Option.bind_eq_bind,Option.bind_eq_some_iff] at hv
  obtain ⟨⟨l,r,m⟩,hb,size,hsz,hv⟩:=hv
  dsimp only at hv
  split at hv
  case h_2=>cases hv
  rename_i v0 fz hl
  split at hv
  case isFalse=>cases hv
  rename_i hc
  obtain ⟨rfl,rfl,hlen⟩:=hc
  injection hv with hv
  subst hv
  obtain ⟨b0,k0,e0,u0,hs0,hsh,hok0,hru,hz,hf,h1c,hszu,hcell⟩:=cM (H.live hl (by simp))
  rw [hs] at hs0
  simp only [Option.some.injEq,Prod.mk.injEq] at hs0
  obtain ⟨rfl,rfl,rfl⟩:=hs0
  subst hf
  obtain ⟨hrun,hlr,hrn,hrc,hcn,_,_⟩:=gv (P:=P) hb hρ false (cap:=n) (Nat.le_refl _)
  simp only [Nat.zero_mul,Nat.add_zero,Nat.zero_add] at hu
  have hrun':(Instr.sliceAt t (ρc x) (lo.map ρc) (hi.map ρc) (mx.map ρc)).run P w= .ok (.slice (some (if m.getD n=l then ⟨b,off,none⟩ else (⟨b,off,none⟩:Addr).add (l*1))) (r-l) (m.getD n-l)) w:=by
   simp [Instr.sliceAt,Instr.sureAddr,aq hd,hu,hrun,bQ hsz]
  have hroom': ∃e m',w.shape? b=some (e,m')∧0+(off+l+(m.getD n-l))*1≤m':=⟨_,_,hsh,by omega⟩
  have hful:(m.getD n==r)=true→m.getD n-l=r-l:=fun h=>by simp at h;rw [h]
  by_cases hml:m.getD n=l
  ·rw [if_pos hml] at hrun'
   refine .same _ H (fin hrun') ?_
   exact .msl d1 s g (off+l) (r-l) _ b 0 1 _ off (fun hc=>absurd hml (by omega)) hs (by omega) hful hroom'
  ·rw [if_neg hml] at hrun'
   simp only [cf] at hrun'
   refine .same _ H (fin hrun') ?_
   exact .msl d1 s g (off+l) (r-l) _ b 0 1 _ _ (fun hc=>by omega) hs (by omega) hful hroom'
 ·cases hv
theorem nD {t:TypeId} {x:Operand} (ho:o.op= .range t x) (hop:ah P o ρ d gen h=some (v,h')) (hρ: ∀x,ab σ I w (ρ x) (ρc x)) (H:ae σ I base w h) (hg:σ gen=none) (hB:aG base w.heap.size):
  ay σ I base w gen ((execOp ρc o).run P w) v h':=by
 have hr:=hρ x
 simp only [ah,ho] at hop
 split at hop
 ·rename_i s slot hd he hslot
  rw [he] at hr
  have hu:=aQ (aw hr)
  simp only [Option.some.injEq,Prod.mk.injEq] at hop
  obtain ⟨rfl,rfl⟩:=hop
  have hG:aJ w (w.alloc (.stringIter s 0)) (.stringIter s 0):=⟨rfl,rfl,rfl,rfl⟩
  have hE:=ar.push (x:=(w.heap.size,0,0)) H hB hg hG
  refine ⟨_,_,.pointer (some ⟨w.heap.size,0,none⟩),_,I,?_,.inl rfl,?_,H.push hg hG d slot (k:=0) (off:=0) ?_,hE,fun g hne=>bV hne⟩
  ·simp only [execOp,ho]
   exact ap (by simp [Instr.range,aq hd,hu])
  ·have:=ab.mptr (σ:=aN σ gen (w.heap.size,0,0)) (I:=I) (w:=w.alloc (.stringIter s 0)) d slot gen 0 0 w.heap.size 0 0 aP
   simpa using this
  ·exact ⟨w.heap.size,0,aP,hG.new,fun hb=>absurd (H.lt _ hb) (by omega),hB.up⟩
 ·rename_i kt vt slot hd he hslot
  rw [he] at hr
  have hu:=aQ (aw hr)
  simp only [Option.some.injEq,Prod.mk.injEq] at hop
  obtain ⟨rfl,rfl⟩:=hop
  have hG:aJ w (w.alloc (.mapIter none 0 #[] 0)) (.mapIter none 0 #[] 0):=⟨rfl,rfl,rfl,rfl⟩
  have hE:=ar.push (x:=(w.heap.size,0,0)) H hB hg hG
  refine ⟨_,_,.pointer (some ⟨w.heap.size,0,none⟩),_,I,?_,.inl rfl,?_,H.push hg hG d slot (k:=0) (off:=0) ?_,hE,fun g hne=>bV hne⟩
  ·simp only [execOp,ho]
   exact ap (by simp [Instr.range,aq hd,hu])
  ·have:=ab.mptr (σ:=aN σ gen (w.heap.size,0,0)) (I:=I) (w:=w.alloc (.mapIter none 0 #[] 0)) d slot gen 0 0 w.heap.size 0 0 aP
   simpa using this
  ·exact ⟨w.heap.size,0,aP,⟨none,hG.new,rfl⟩,fun hb=>absurd (H.lt _ hb) (by omega),hB.up⟩
 ·rename_i kt vt d1 s1 g1 slot hd he hslot
  rw [he] at hr
  generalize hcx:ρc x=u at hr
  cases hr with
  | mref _ _ _ b o1 k hs=>
  split at hop
  ·rename_i clock es hl
   simp only [Option.some.injEq,Prod.mk.injEq] at hop
   obtain ⟨rfl,rfl⟩:=hop
   obtain ⟨b',k',hs',⟨a,hh,hent⟩,hnI,hbb⟩:=H.live hl (by simp)
   rw [hs] at hs'
   simp only [Option.some.injEq,Prod.mk.injEq] at hs'
   obtain ⟨rfl,rfl,rfl⟩:=hs'
   have ac:(getObj b).run P w= .ok (.map a clock) w:=by simp [getObj,Sem.run,hh]
   have hG:aJ w (w.alloc (.mapIter (some b) clock #[] clock)) (.mapIter (some b) clock #[] clock):=⟨rfl,rfl,rfl,rfl⟩
   have hE:=ar.push (x:=(w.heap.size,0,0)) H hB hg hG
   refine ⟨_,_,.pointer (some ⟨w.heap.size,0,none⟩),_,I,?_,.inl rfl,?_,H.push hg hG d slot (k:=0) (off:=0) ?_,hE,fun g hne=>bV hne⟩
   ·simp only [execOp,ho]
    exact ap (by simp [Instr.range,aq hd,hcx,ac])
   ·have:=ab.mptr (σ:=aN σ gen (w.heap.size,0,0)) (I:=I) (w:=w.alloc (.mapIter (some b) clock #[] clock)) d slot gen 0 0 w.heap.size 0 0 aP
    simpa using this
   ·exact ⟨w.heap.size,0,aP,⟨some b,hG.new,b,0,k,bO hg _ _ hs,rfl⟩,fun hb=>absurd (H.lt _ hb) (by omega),hB.up⟩
  ·cases hop
 ·cases hop
theorem nE {it:Operand} (ho:o.op= .next it true) (hop:ah P o ρ d gen h=some (v,h')) (hρ: ∀x,ab σ I w (ρ x) (ρc x)) (H:ae σ I base w h):
  ay σ I base w gen ((execOp ρc o).run P w) v h':=by
 have hr:=hρ it
 ·simp only [ah,ho] at hop
  split at hop
  case h_2=>cases hop
  rename_i d1 s g he
  rw [he] at hr
  obtain ⟨b,ob,k,hs,hu⟩:=bW hr
  split at hop
  case h_2=>cases hop
  rename_i bs pos hl
  obtain ⟨b',k',hs',hh,hnI,hbb⟩:=H.live hl (by simp)
  rw [hs] at hs'
  simp only [Option.some.injEq,Prod.mk.injEq] at hs'
  obtain ⟨rfl,rfl,rfl⟩:=hs'
  simp only [Nat.zero_mul,Nat.add_zero] at hu
  have ac:(getObj b).run P w= .ok (.stringIter bs pos) w:=by simp [getObj,Sem.run,hh]
  split at hop
  ·rename_i hpos
   simp only [Option.some.injEq,Prod.mk.injEq] at hop
   obtain ⟨rfl,rfl⟩:=hop
   have hset: ∀o:Obj,(setObj b o).run P w= .ok () { w with heap:=w.heap.setIfInBounds b o} :=by intro o;simp [setObj,Sem.run,hh]
   let w':World:= { w with heap:=w.heap.setIfInBounds b (.stringIter bs (pos+(Utf8.decode bs pos).2))}
   have hoth: ∀b2,b2≠b→w'.heap[b2]? =w.heap[b2]? :=fun b2 hne=>by simp [w',Array.getElem?_setIfInBounds,Ne.symm hne]
   have hlt:=bN hh
   have hsame:w'.heap[b]? =some (.stringIter bs (pos+(Utf8.decode bs pos).2)):=by simp [w',hlt]
   have hk:aD I w w':=by
    refine ⟨fun b2 hb2=>hoth b2 fun e=>hnI (e▸hb2),fun b2 e n hsh=> ?_,fun b2 r hr=>⟨r,by rw [hoth b2 (fun e=>by subst e;rw [hh] at hr;cases hr)];exact hr,bt.refl r⟩,
     fun b2 hr=>by rw [hoth b2 (fun e=>by subst e;rw [hh] at hr;cases hr)];exact hr⟩
    by_cases e2:b2=b
    ·subst e2
     unfold World.shape? at hsh
     rw [hh] at hsh
     cases hsh
    ·rw [d5 (hoth b2 e2)];exact hsh
   refine ⟨_,w',.tuple #[.bool true,goInt pos,.int .i32 (Utf8.decode bs pos).1],σ,I,?_,.inl rfl,?_,H.put (fun _ _ h=>h) (fun _ h=>h) hk (hk.inW H.inW) d1 s _ ⟨b,k,hs,hsame,hnI,hbb⟩ ?_,
    ⟨fun _ _ h=>h,fun _ h=>h,fun _ h=> .inl h,hk,⟨rfl,rfl,rfl,by simp [w'],fun k2 hk2=>hoth k2 (fun e=>hbb (e▸hk2))⟩⟩,fun _ _=>rfl⟩
   ·simp only [execOp,ho]
    refine ap ?_
    simp [Instr.next,hu,ac,hpos,hset,w']
   ·refine .pv _ _ ?_
    have:=aj.tup (I:=I) (w:=w') [.lit (.bool true),.lit (.int .i64 pos),.lit (.int .i32 (Utf8.decode bs pos).1)] [.bool true,.int .i64 pos,.int .i32 (Utf8.decode bs pos).1] rfl fun j p v hp hv=>by
     match j with
     | 0=>simp at hp hv;subst hp;subst hv;exact .lit _
     | 1=>simp at hp hv;subst hp;subst hv;exact .lit _
     | 2=>simp at hp hv;subst hp;subst hv;exact .lit _
     | j+3=>simp at hp
    exact this
   ·intro d2 s2 b2 hne hb2
    have hf':=aM (H.rows d2 s2) hb2
    have hrowl:=b8 hl (by simp)
    have hbb':b2≠b:=fun e=>hne (H.apart d1 s d2 s2 b (by rw [hrowl];simp [ai,hs]) (e▸hb2))
    exact ⟨hoth b2 hbb',hf'.2.1,by simp [ai,hs];exact Ne.symm hbb'⟩
  ·rename_i hpos
   simp only [Option.some.injEq,Prod.mk.injEq] at hop
   obtain ⟨rfl,rfl⟩:=hop
   refine .same (.tuple #[.bool false]) H ?_ (.pv _ _ ?_)
   ·simp only [execOp,ho]
    refine ap ?_
    simp [Instr.next,hu,ac,hpos]
   ·have:=aj.tup (I:=I) (w:=w) [.lit (.bool false)] [.bool false] rfl fun j p v hp hv=>by
     match j with
     | 0=>simp at hp hv;subst hp;subst hv;exact .lit _
     | j+1=>simp at hp
    exact this
end
variable {σ σ':ak} {I I':af} {base:af} {w w':World} {h:aa} {P:Program}
theorem ef {b:Nat} {ob:Obj} (ob':Obj) (hh:w.heap[b]? =some ob) (h1: ∀c e fr,ob≠ .cells c e fr) (h2: ∀r,ob≠ .loop r) (h3:ob≠ .deferred (some [])) (hnI: ¬I b) (hbb: ¬base b):
  ∃w':World,w'.heap[b]? =some ob'∧(∀b2,b2≠b→w'.heap[b2]? =w.heap[b2]?)∧aD I w w'∧bu base w w'∧ ∀P,(setObj b ob').run P w= .ok () w':=by
 refine ⟨{ w with heap:=w.heap.setIfInBounds b ob'},?_,?_,?_,?_,?_⟩
 ·simp [bN hh]
 ·intro b2 hne
  simp [Array.getElem?_setIfInBounds,Ne.symm hne]
 ·have hoth: ∀b2,b2≠b→({ w with heap:=w.heap.setIfInBounds b ob'} :World).heap[b2]? =w.heap[b2]? :=fun b2 hne=>by simp [Array.getElem?_setIfInBounds,Ne.symm hne]
  refine ⟨fun b2 hb2=>hoth b2 fun e=>hnI (e▸hb2),fun b2 e n hsh=> ?_,fun b2 r hr=>⟨r,by rw [hoth b2 (fun e=>by subst e;rw [hh] at hr;injection hr with hr;exact h2 _ hr)];exact hr,bt.refl r⟩,
   fun b2 hr=>by rw [hoth b2 (fun e=>by subst e;rw [hh] at hr;injection hr with hr;exact h3 hr)];exact hr⟩
  by_cases e2:b2=b
  ·subst e2
   unfold World.shape? at hsh
   rw [hh] at hsh
   cases ob
   case cells=>exact absurd rfl (h1 _ _ _)
   all_goals cases hsh
  ·rw [d5 (hoth b2 e2)];exact hsh
 ·exact ⟨rfl,rfl,rfl,by simp,fun k2 hk2=>by simp [Array.getElem?_setIfInBounds,show ¬b=k2 from fun e=>hbb (e▸hk2)]⟩
 ·intro P
  simp [setObj,Sem.run,hh]
theorem ae.setPut (H:ae σ I base w h) {d s g b:Nat} {bd:aW} (bd':aW) (hl:Abs.live h d s g=bd) (hne:bd≠ .dead) (hb:ai σ ⟨g,bd⟩=some b) (hb':ai σ ⟨g,bd'⟩=some b) (hk:aD I w w')
  (hoth: ∀b2,b2≠b→w'.heap[b2]? =w.heap[b2]?) (hr:aL σ I base w' ⟨g,bd'⟩):ae σ I base w' (hput h d s ⟨g,bd'⟩):=by
 refine H.put (fun _ _ h=>h) (fun _ h=>h) hk.zero (hk.inW H.inW) d s _ hr fun d2 s2 b2 hn hb2=> ?_
 have hf:=aM (H.rows d2 s2) hb2
 have hrow:=b8 hl hne
 have hbb:b2≠b:=fun e=>hn (H.apart d s d2 s2 b (by rw [hrow];exact hb) (e▸hb2))
 exact ⟨hoth b2 hbb,hf.2.1,by rw [hb'];simpa using Ne.symm hbb⟩
theorem az.append {es fs:List ME} {xs ys:List MapEntry} (h:az σ I w es xs) (k:az σ I w fs ys):az σ I w (es++fs) (xs++ys):=by
 induction h with
 | nil=>exact k
 | cons e x es xs hb hk hv h ih=>exact .cons e x _ _ hb hk hv ih
theorem az.len {es:List ME} {xs:List MapEntry} (h:az σ I w es xs):xs.length=es.length:=by
 induction h with
 | nil=>rfl
 | cons e x es xs hb hk hv h ih=>simp [ih]
theorem az.get {es:List ME} {xs:List MapEntry} (h:az σ I w es xs): ∀(i:Nat) (e:ME),es[i]? =some e→ ∃x,xs[i]? =some x∧x.born=e.born∧x.key=e.key∧ab σ I w e.val x.val:=by
 induction h with
 | nil=>intro i e he;simp at he
 | cons e x es xs hb hk hv h ih=>
  intro i e' he
  cases i with
  | zero=>simp at he;subst he;exact ⟨x,rfl,hb,hk,hv⟩
  | succ i=>simpa using ih i e' (by simpa using he)
theorem az.filter {p:Nat→Bool} {es:List ME} {xs:List MapEntry} (h:az σ I w es xs):az σ I w (es.filter fun e=>p e.born) (xs.filter fun e=>p e.born):=by
 induction h with
 | nil=>exact .nil
 | cons e x es xs hb hk hv h ih=>
  simp only [List.filter_cons,hb]
  split
  ·exact .cons e x _ _ hb hk hv ih
  ·exact ih
theorem az.all {p:Nat→Bool} {es:List ME} {xs:List MapEntry} (h:az σ I w es xs):xs.all (fun e=>p e.born)=es.all (fun e=>p e.born):=by
 induction h with
 | nil=>rfl
 | cons e x es xs hb hk hv h ih=>simp only [List.all_cons,hb,ih]
theorem az.empty {es:List ME} {xs:List MapEntry} (h:az σ I w es xs):xs.isEmpty=es.isEmpty:=by
 cases h<;>rfl
theorem az.erase {es:List ME} {xs:List MapEntry} (h:az σ I w es xs): ∀(i:Nat),az σ I w (es.eraseIdx i) (xs.eraseIdx i):=by
 induction h with
 | nil=>intro i;exact .nil
 | cons e x es xs hb hk hv h ih=>
  intro i
  cases i with
  | zero=>exact h
  | succ i=>exact .cons e x _ _ hb hk hv (ih i)
theorem az.set {es:List ME} {xs:List MapEntry} (h:az σ I w es xs) {key:Value} {v:AV} {u:Value} (hv:ab σ I w v u): ∀(i:Nat),az σ I w (es.set i ⟨((es[i]?).map (·.born)).getD 0,key,v⟩) (xs.modify i fun e=> { e with key:=key,val:=u}):=by
 induction h with
 | nil=>intro i;simpa using az.nil
 | cons e x es xs hb hk hv' h ih=>
  intro i
  cases i with
  | zero=>exact .cons _ _ _ _ hb rfl hv h
  | succ i=>simpa using az.cons e x _ _ hb hk hv' (ih i)
theorem az.arr_nil {a:Array MapEntry} (h:az σ I w [] a.toList):a= #[]:=by
 cases a with
 | mk l=>cases h;rfl
theorem az.arr_one {a:Array MapEntry} {e:ME} (h:az σ I w [e] a.toList): ∃x,a= #[x]∧x.born=e.born∧x.key=e.key∧ab σ I w e.val x.val:=by
 cases a with
 | mk l=>
  cases h with
  | cons _ x _ xs hb hk hv h=>cases h;exact ⟨x,rfl,hb,hk,hv⟩
theorem iw {since last:Nat} {seen:List Nat} {es:List ME} {r:Option ME} (h:fG since seen last es=some r):
  (!seen.isEmpty&& !es.isEmpty&&es.all (fun e=>decide (last≤e.born)))=false∧fF since seen es=[]∧(match r with
   | none=>eG since seen es=[]
   | some e=>eG since seen es=[e]):=by
 unfold fG at h
 split at h
 ·cases h
 ·rename_i ht
  refine ⟨by simpa using ht,?_⟩
  split at h
  ·rename_i e1 e2;injection h with h;subst h;exact ⟨e2,e1⟩
  ·rename_i e e1 e2;injection h with h;subst h;exact ⟨e2,e1⟩
  ·cases h
theorem kv {kt:TypeId} {kd:TypeDesc} (hk:cq P kt=some kd):P.underlying kt=some kd∧((∃k,kd= .int k)∨kd= .string∨kd= .bool):=by
 unfold cq at hk
 split at hk
 ·rename_i hu;injection hk with hk;subst hk;exact ⟨hu,by simp⟩
 ·rename_i hu;injection hk with hk;subst hk;exact ⟨hu,by simp⟩
 ·rename_i hu;injection hk with hk;subst hk;exact ⟨hu,by simp⟩
 ·cases hk
theorem dL {kt:TypeId} {kd:TypeDesc} (hk:cq P kt=some kd) (e:Bool) (v:Value):(Instr.checkKey e 10000 kt v).run P w= .ok () w:=by
 obtain ⟨hu,hk⟩:=kv hk
 have h0:(10000:Nat)=9999+1:=rfl
 rw [h0]
 unfold Instr.checkKey
 rcases hk with ⟨k,rfl⟩ | rfl | rfl<;>simp [aq hu]
theorem dM {kt:TypeId} {kd:TypeDesc} {key:Value} {xs:List MapEntry} {r:Option (Nat×Value)} (hk:cq P kt=some kd) (hf:Instr.findNow kd key xs 0=some r):(Instr.findKey kt key xs).run P w= .ok r w:=by
 simp [Instr.findKey,aq (kv hk).1,hf]
theorem nF {kd:TypeDesc} {a b:Value} (h:Instr.sameNow kd a b=some true):a=b:=by
 unfold Instr.sameNow at h
 split at h
 ·split at h
  ·rename_i hk
   subst hk
   simp at h
   rw [h]
  ·cases h
 ·injection h with h;rw [(MapKept.bytes_beq _ _).1 h]
 ·simp at h;rw [h]
 ·cases h
theorem nG {kd:TypeDesc} {a b:Value} (h:Instr.sameNow kd a b=some true):(Instr.keyThatStays b a).run P w= .ok a w:=by
 have hab:=nF h
 subst hab
 unfold Instr.sameNow at h
 unfold Instr.keyThatStays
 split at h
 ·simp [Instr.sameBits]
 ·simp [Instr.sameBits,(MapKept.bytes_beq _ _).2 rfl]
 ·simp [Instr.sameBits]
 ·cases h
theorem eh {kd:TypeDesc} {key:Value} {es:List ME} {xs:List MapEntry} (h:az σ I w es xs): ∀(i:Nat) (r:Option (Nat×AV)),cH kd key es i=some r→
  (r=none→Instr.findNow kd key xs i=some none)∧ ∀j v,r=some (j,v)→ ∃e x u,Instr.findNow kd key xs i=some (some (j,u))∧ab σ I w v u∧i≤j∧es[j-i]? =some e∧xs[j-i]? =some x∧x.key=e.key∧Instr.sameNow kd key e.key=some true:=by
 induction h with
 | nil=>intro i r hr;simp [cH] at hr;subst hr;simp [Instr.findNow]
 | cons e x es xs hb hk hv h ih=>
  intro i r hr
  unfold cH at hr
  split at hr
  ·rename_i hs
   injection hr with hr
   subst hr
   refine ⟨(fun h=>nomatch h),fun j v hj=> ?_⟩
   simp only [Option.some.injEq,Prod.mk.injEq] at hj
   obtain ⟨rfl,rfl⟩:=hj
   exact ⟨e,x,x.val,by simp [Instr.findNow,hk,hs],hv,Nat.le_refl _,by simp,by simp,hk,hs⟩
  ·rename_i hs
   obtain ⟨h1,h2⟩:=ih (i+1) r hr
   refine ⟨fun hn=>by simp [Instr.findNow,hk,hs,h1 hn],fun j v hj=> ?_⟩
   obtain ⟨e',x',u,g1,g2,g3,g4,g5,g6,g7⟩:=h2 j v hj
   refine ⟨e',x',u,by simp [Instr.findNow,hk,hs,g1],g2,by omega,?_,?_,g6,g7⟩
   ·rw [show j-i=(j-(i+1))+1 by omega];simpa using g4
   ·rw [show j-i=(j-(i+1))+1 by omega];simpa using g5
  ·cases hr
theorem kw {cs:List AV} {vs:List Value} (hl:vs.length=cs.length)
  (hr: ∀(j:Nat) (p:AV) (v:Value),cs[j]? =some p→vs[j]? =some v→ab σ I w p v):ab σ I w (dw cs) (.tuple vs.toArray):=by
 unfold dw
 cases ha:aF cs with
 | none=>exact .tup cs vs hl hr
 | some ps=>
  have hcs:=dI ha
  subst hcs
  refine .pv _ _ (.tup ps vs (by simpa using hl) fun j p v hp hv=> ?_)
  exact aw (hr j (.pv p) v (by simp [hp]) hv)
theorem kz {x y:AV} {u v:Value} (hx:ab σ I w x u) (hy:ab σ I w y v):ab σ I w (dw [x,y]) (.tuple #[u,v]):=
 kw (vs:=[u,v]) rfl fun j p q hp hq=>by
  match j with
  | 0=>simp at hp hq;subst hp;subst hq;exact hx
  | 1=>simp at hp hq;subst hp;subst hq;exact hy
  | j+2=>simp at hp
theorem nH {x y z:AV} {u v t:Value} (hx:ab σ I w x u) (hy:ab σ I w y v) (hz:ab σ I w z t):ab σ I w (dw [x,y,z]) (.tuple #[u,v,t]):=
 kw (vs:=[u,v,t]) rfl fun j p q hp hq=>by
  match j with
  | 0=>simp at hp hq;subst hp;subst hq;exact hx
  | 1=>simp at hp hq;subst hp;subst hq;exact hy
  | 2=>simp at hp hq;subst hp;subst hq;exact hz
  | j+3=>simp at hp
theorem ff (ρ:K2→K2): ∀(n:Nat) (v:AV) (u:Value),ab σ I w v u→ab σ I w (aX ρ n v) u
 | 0,v,u,h=>h
 | n+1,v,u,h=>by
  have lst: ∀ {l:List AV} {vs:List Value},(∀(j:Nat) (p:AV) (v:Value),l[j]? =some p→vs[j]? =some v→ab σ I w p v)→ ∀(j:Nat) (p:AV) (v:Value),(l.map (aX ρ n))[j]? =some p→vs[j]? =some v→ab σ I w p v:=by
   intro l vs hr j p v hp hv
   rw [List.getElem?_map,Option.map_eq_some_iff] at hp
   obtain ⟨q,hq,rfl⟩:=hp
   exact ff ρ n q v (hr j q v hq hv)
  cases h with
  | pv p _ h=>exact .pv p _ h
  | mptr d s g i off b o k h=>exact .mptr _ _ g i off b o k h
  | msl d s g off m full b o k cap ad had h hn hfull hroom=>exact .msl _ _ g off m full b o k cap ad had h hn hfull hroom
  | agg cs vs hl h1 hr=>exact .agg _ vs (by simpa using hl) h1 (lst hr)
  | tup cs vs hl hr=>exact .tup _ vs (by simpa using hl) (lst hr)
  | clo f a b va vb hla hlb hra hrb=>exact .clo f _ _ va vb (by simpa using hla) (by simpa using hlb) (lst hra) (lst hrb)
  | yld d s g b o k h=>exact .yld d s g b o k h
  | ifc t _ _ h=>exact .ifc t _ _ (ff ρ n _ _ h)
  | btag t=>exact .btag t
  | mref d s g b o k h=>exact .mref _ _ g b o k h
theorem nI (ρ:K2→K2) (n:Nat) (v:AV):
  (aX ρ (n+1) v).cells.length=v.cells.length∧(aX ρ (n+1) v).ok=v.ok∧a8 (aX ρ (n+1) v)=a8 v∧ ∀(j:Nat) (p:AV),(aX ρ (n+1) v).cells[j]? =some p→ ∃q m,v.cells[j]? =some q∧p=aX ρ m q:=by
 have tag: ∀(m:Nat) (x:AV),dq (some (aX ρ m x))=dq (some x):=by
  intro m x
  cases m with
  | zero=>rfl
  | succ m=>cases x<;>rfl
 have one: ∀ {x:AV},x.cells=[x]→(aX ρ (n+1) x).cells=[aX ρ (n+1) x]→(aX ρ (n+1) x).cells.length=x.cells.length∧a8 (aX ρ (n+1) x)=a8 x∧ ∀(j:Nat) (p:AV),(aX ρ (n+1) x).cells[j]? =some p→ ∃q m,x.cells[j]? =some q∧p=aX ρ m q:=by
  intro x h1 h2
  rw [h1,h2]
  refine ⟨rfl,?_,fun j p hp=> ?_⟩
  ·unfold a8;rw [h1,h2];exact tag (n+1) x
  ·cases j with
   | zero=>simp at hp;subst hp;exact ⟨x,n+1,rfl,rfl⟩
   | succ j=>simp at hp
 cases v with
 | pv p=>exact ⟨rfl,rfl,rfl,fun j q hq=>⟨q,0,hq,rfl⟩⟩
 | mptr d s g i off=>exact ⟨rfl,rfl,(one rfl rfl).2.1,(one rfl rfl).2.2⟩
 | msl d s g off m full=>exact ⟨rfl,rfl,(one rfl rfl).2.1,(one rfl rfl).2.2⟩
 | tup l=>exact ⟨rfl,rfl,(one rfl rfl).2.1,(one rfl rfl).2.2⟩
 | clo f a b=>exact ⟨rfl,rfl,(one rfl rfl).2.1,(one rfl rfl).2.2⟩
 | yld d s g=>exact ⟨rfl,rfl,(one rfl rfl).2.1,(one rfl rfl).2.2⟩
 | ifc t v=>exact ⟨rfl,rfl,(one rfl rfl).2.1,(one rfl rfl).2.2⟩
 | btag t=>exact ⟨rfl,rfl,(one rfl rfl).2.1,(one rfl rfl).2.2⟩
 | mref d s g=>exact ⟨rfl,rfl,(one rfl rfl).2.1,(one rfl rfl).2.2⟩
 | agg l=>
  refine ⟨by simp [aX,AV.cells],rfl,?_,fun j p hp=> ?_⟩
  ·unfold a8
   simp only [aX,AV.cells]
   cases l with
   | nil=>rfl
   | cons x l=>exact tag n x
  ·simp only [aX,AV.cells,List.getElem?_map,Option.map_eq_some_iff] at hp
   obtain ⟨q,hq,rfl⟩:=hp
   exact ⟨q,n,hq,rfl⟩
theorem nJ (ρ:K2→K2) {es:List ME} {xs:List MapEntry} (h:az σ I w es xs):az σ I w (es.map fun e=> { e with val:=aX ρ an e.val}) xs:=by
 induction h with
 | nil=>exact .nil
 | cons e x es xs hb hk hv h ih=>exact .cons _ x _ xs hb hk (ff ρ _ _ _ hv) ih
theorem nK (ρ:K2→K2) {g:Nat} {b:aW} (h:aL σ I base w ⟨g,b⟩):aL σ I base w ⟨g,gP ρ b⟩∧ai σ ⟨g,gP ρ b⟩=ai σ ⟨g,b⟩:=by
 cases b with
 | box v fz=>
  obtain ⟨b,e,hs,hsh,hok,hc,hz⟩:=h
  obtain ⟨k1,k2,k3,k4⟩:=nI ρ 7 v
  refine ⟨⟨b,e,hs,by rw [show (aX ρ an v).cells.length=v.cells.length from k1];exact hsh,f8 hok (k2.trans (fZ hok)) (.inl k3),fun j p hp=> ?_,by rw [show (aX ρ an v).cells.length=v.cells.length from k1];exact hz⟩,by cases fz<;>rfl⟩
  obtain ⟨q,m,hq,rfl⟩:=k4 j p hp
  obtain ⟨u,h1,h2,h3⟩:=hc j q hq
  exact ⟨u,h1,h2,ff ρ m q u h3⟩
 | map c es=>
  obtain ⟨b,k,hs,⟨a,hh,hent⟩,h1,h2⟩:=h
  exact ⟨⟨b,k,hs,⟨a,hh,nJ ρ hent⟩,h1,h2⟩,rfl⟩
 | dead=>exact ⟨h,rfl⟩
 | row k e xs fz=>exact ⟨h,rfl⟩
 | iter s p=>exact ⟨h,rfl⟩
 | lp st=>exact ⟨h,rfl⟩
 | mit m a b c=>exact ⟨h,rfl⟩
theorem kA (ρ:K2→K2): ∀(ks:List K2) (n:Nat) {h:aa},ae σ I base w h→ae σ I base w (fJ ρ ks n h)
 | [],_,_,H=>H
 | k::ks,n,h,H=>by
  unfold fJ
  refine kA ρ ks (n+1) ?_
  have hrow:=H.rows k.1 k.2
  obtain ⟨h1,h2⟩:=nK (σ:=σ) (I:=I) (base:=base) (w:=w) ρ (g:=(ac h k.1 k.2).g) (b:=(ac h k.1 k.2).b) hrow
  refine (H.kill k.1 k.2).put (fun _ _ h=>h) (fun _ h=>h) (aD.refl I w).zero H.inW 0 n _ h1 fun d' s' b' hne hb'=> ?_
  rw [bz] at hb'
  split at hb'
  ·simp [ai,aC] at hb'
  ·rename_i hk
   refine ⟨rfl,(aM (H.rows d' s') hb').2.1,fun he=> ?_⟩
   rw [h2] at he
   exact hk (H.apart k.1 k.2 d' s' b' he hb')
theorem kB (ks:List K2) {v:AV} {u:Value} (hr:ab σ I w v u) (H:ae σ I base w h):ab σ I w (dW ks h v).1 u∧ae σ I base w (dW ks h v).2:=
 ⟨ff _ _ _ _ hr,kA _ _ _ H⟩
theorem nL {v v1:AV} {h1:aa} {u:Value} (he:eJ h v=some (v1,h1)) (hr:ab σ I w v u) (H:ae σ I base w h): ∃I',ab σ I' w v1 u∧ae σ I' base w h1∧bv I I' base:=by
 have mv: ∀(ks:List K2) (v0:AV),v0=v→some (dW ks h v0)=some (v1,h1)→ ∃I',ab σ I' w v1 u∧ae σ I' base w h1∧bv I I' base:=by
  intro ks v0 hv0 hm
  subst hv0
  have:=kB ks hr H
  injection hm with hm
  rw [hm] at this
  exact ⟨I,this.1,this.2,bv.refl⟩
 unfold eJ at he
 split at he
 ·exact mv _ _ rfl he
 ·exact mv _ _ rfl he
 ·exact mv _ _ rfl he
 ·simp only [Option.map_eq_some_iff,Prod.mk.injEq] at he
  obtain ⟨⟨p,h2⟩,hf,rfl,rfl⟩:=he
  obtain ⟨I',h1,h2,h3⟩:=d8 _ _ _ _ _ u I hf hr H
  exact ⟨I',.pv _ _ h1,h2,h3⟩
section
variable {ρ:Operand→AV} {ρc:Operand→Value} {d gen:Nat} {o:Oper} {v:AV} {h':aa}
theorem dN (H:ae σ I base w h) {d s g clock b o1 k:Nat} {es:List ME} (hl:Abs.live h d s g= .map clock es) (hs:σ g=some (b,o1,k)):
  ∃a:Array MapEntry,w.heap[b]? =some (Obj.map a clock)∧az σ I w es a.toList∧ ¬I b∧ ¬base b∧o1=0∧ai σ ⟨g,.map clock es⟩=some b∧ ∀P,(getObj b).run P w= .ok (.map a clock) w:=by
 obtain ⟨b',k',hs',⟨a,hh,hent⟩,hnI,hbb⟩:=H.live hl (by simp)
 rw [hs] at hs'
 simp only [Option.some.injEq,Prod.mk.injEq] at hs'
 obtain ⟨rfl,rfl,rfl⟩:=hs'
 exact ⟨a,hh,hent,hnI,hbb,rfl,by simp [ai,hs],fun P=>by simp [getObj,Sem.run,hh]⟩
theorem fg {d s g:Nat} {u:Value} (hr:ab σ I w (.mref d s g) u): ∃b o k,σ g=some (b,o,k)∧u= .map (some b):=by
 cases hr with
 | mref _ _ _ b o k h=>exact ⟨b,o,k,h,rfl⟩
theorem nM {t:TypeId} {r:Option Operand} (ho:o.op= .makeMap t r) (hop:ah P o ρ d gen h=some (v,h')) (H:ae σ I base w h) (hg:σ gen=none) (hB:aG base w.heap.size):
  ay σ I base w gen ((execOp ρc o).run P w) v h':=by
 cases r with
 | some r=>simp [ah,ho] at hop
 | none=>
  simp only [ah,ho,Option.map_eq_some_iff,Prod.mk.injEq] at hop
  obtain ⟨s,hs,rfl,rfl⟩:=hop
  have hG:aJ w (w.alloc (.map #[] 0)) (.map #[] 0):=⟨rfl,rfl,rfl,rfl⟩
  have hE:=ar.push (x:=(w.heap.size,0,0)) H hB hg hG
  refine ⟨_,_,.map (some w.heap.size),_,I,?_,.inl rfl,.mref _ _ _ w.heap.size 0 0 aP,H.push hg hG d s (k:=0) (off:=0) ?_,hE,fun g hne=>bV hne⟩
  ·simp only [execOp,ho]
   exact ap (by simp [Instr.makeMap])
  ·exact ⟨w.heap.size,0,aP,⟨#[],hG.new,.nil⟩,fun hb=>absurd (H.lt _ hb) (by omega),hB.up⟩
theorem nN {t:TypeId} {m k:Operand} {ok:Bool} (ho:o.op= .lookup t m k ok) (hop:ah P o ρ d gen h=some (v,h')) (hρ: ∀x,ab σ I w (ρ x) (ρc x)) (H:ae σ I base w h):
  ay σ I base w gen ((execOp ρc o).run P w) v h':=by
 have hrm:=hρ m
 have hrk:=hρ k
 have zero: ∀(z:Value),ab σ I w (if ok then .pv (.tup [av z,.lit (.bool false)]) else .pv (av z)) (if ok then .tuple #[z,.bool false] else z):=by
  intro z
  cases ok with
  | false=>exact .pv _ _ (c7 z)
  | true=>
   refine .pv _ _ (.tup [av z,.lit (.bool false)] [z,.bool false] rfl fun j p v hp hv=> ?_)
   match j with
   | 0=>simp at hp hv;subst hp;subst hv;exact c7 z
   | 1=>simp at hp hv;subst hp;subst hv;exact .lit _
   | j+2=>simp at hp
 simp only [ah,ho] at hop
 split at hop
 ·rename_i kt vt key hd hm hk
  rw [hm] at hrm
  have hu:=aQ (aw hrm)
  simp only [Option.bind_eq_some_iff,Option.map_eq_some_iff,Prod.mk.injEq] at hop
  obtain ⟨kd,hkd,z,hz,rfl,rfl⟩:=hop
  refine .same _ H ?_ (zero z)
  simp only [execOp,ho]
  refine ap ?_
  simp [Instr.lookup,aq hd,hu,dL hkd,dM (key:=ρc k) hkd (show Instr.findNow kd (ρc k) [] 0=some none from rfl),c6 hz]
 ·rename_i kt vt d1 s g key hd hm hk
  rw [hm] at hrm
  rw [hk] at hrk
  obtain ⟨b,o1,k1,hs,hu⟩:=fg hrm
  have huk:=aQ (aw hrk)
  split at hop
  ·rename_i clock es hl
   obtain ⟨a,hh,hent,hnI,hbb,_,_,ac⟩:=dN H hl hs
   simp only [Option.bind_eq_some_iff] at hop
   obtain ⟨kd,hkd,hop⟩:=hop
   split at hop
   ·rename_i j v1 hf
    simp only [Option.some.injEq,Prod.mk.injEq] at hop
    obtain ⟨rfl,rfl⟩:=hop
    obtain ⟨e,x,u,g1,g2,_⟩:=(eh hent 0 _ hf).2 j v1 rfl
    refine .same (if ok then .tuple #[u,.bool true] else u) H ?_ ?_
    ·simp only [execOp,ho]
     refine ap ?_
     simp [Instr.lookup,aq hd,hu,huk,ac,dL hkd,dM hkd g1]
    ·cases ok with
     | false=>exact g2
     | true=>exact kz g2 (.pv _ _ (.lit _))
   ·rename_i hf
    simp only [Option.map_eq_some_iff,Prod.mk.injEq] at hop
    obtain ⟨z,hz,rfl,rfl⟩:=hop
    have g1:=(eh hent 0 _ hf).1 rfl
    refine .same _ H ?_ (zero z)
    simp only [execOp,ho]
    refine ap ?_
    simp [Instr.lookup,aq hd,hu,huk,ac,dL hkd,dM hkd g1,c6 hz]
   ·cases hop
  ·cases hop
 ·cases hop
theorem kC {t:TypeId} {m k x:Operand} (ho:o.op= .mapUpdate t m k x∨o.op= .insert t m k x) (hop:ah P o ρ d gen h=some (v,h')) (hρ: ∀x,ab σ I w (ρ x) (ρc x)) (H:ae σ I base w h):
  ay σ I base w gen ((execOp ρc o).run P w) v h':=by
 have hrm:=hρ m
 have hrk:=hρ k
 have hex:execOp ρc o=(do Instr.mapUpdate t (ρc m) (ρc k) (ρc x);pure Next.skip):=by rcases ho with ho | ho<;>simp only [execOp,ho]
 have hop:(match P.underlying t,ρ m,ρ k with
  | some (.map kt _),.mref d s g,.pv (.lit key)=>(cq P kt).bind fun kd=>(eJ h (ρ x)).bind fun (v,h1)=>match Abs.live h1 d s g with
   | .map clock es=>match cH kd key es 0 with
    | some (some (i,_))=>some (a6,hput h1 d s ⟨g,.map clock (es.set i ⟨((es[i]?).map (·.born)).getD 0,key,v⟩)⟩)
    | some none=>some (a6,hput h1 d s ⟨g,.map (clock+1) (es++[⟨clock,key,v⟩])⟩)
    | none=>none
   | _=>none
  | _,_,_=>none)=some (v,h'):=by
  rcases ho with ho | ho<;>(simp only [ah,ho] at hop;exact hop)
 split at hop
 ·rename_i kt vt d1 s g key hd hm hk
  rw [hm] at hrm
  rw [hk] at hrk
  obtain ⟨b,o1,k1,hs,hu⟩:=fg hrm
  have huk:=aQ (aw hrk)
  simp only [Option.bind_eq_some_iff,Prod.exists] at hop
  obtain ⟨kd,hkd,v1,h1,hkp,hop⟩:=hop
  obtain ⟨I1,hrv,H1,hmore⟩:=nL hkp (hρ x) H
  split at hop
  ·rename_i clock es hl
   obtain ⟨a,hh,hent,hnI,hbb,rfl,hblk,ac⟩:=dN H1 hl hs
   split at hop
   ·rename_i j v0 hf
    simp only [Option.some.injEq,Prod.mk.injEq] at hop
    obtain ⟨rfl,rfl⟩:=hop
    obtain ⟨e,y,u,g1,g2,_,g4,g5,g6,g7⟩:=(eh hent 0 _ hf).2 j v0 rfl
    simp only [Nat.sub_zero] at g4 g5
    obtain ⟨w1,f1,f2,f3,f4,f5⟩:=ef (I:=I1) (base:=base) (.map (a.modify j fun e=> { e with key:=key,val:=ρc x}) clock) hh (by simp) (by simp) (by simp) hnI hbb
    refine ⟨_,w1,undef,σ,I1,?_,.inr ⟨rfl,rfl⟩,.pv _ _ (.lit _),H1.setPut _ hl (by simp) hblk (by simp [ai,hs]) f3 f2 ?_,⟨fun _ _ h=>h,hmore.1,hmore.2,⟨fun b hb=>f3.keep b (hmore.1 b hb),f3.shape,f3.loop,f3.dfr⟩,f4⟩,fun _ _=>rfl⟩
    ·rw [hex]
     refine ig ?_
     have g5':a[j]? =some y:=by simpa using g5
     simp [Instr.mapUpdate,aq hd,hu,huk,ac,dL hkd,dM hkd g1,g5',g6,nG g7,f5]
    ·refine ⟨b,k1,hs,⟨_,f1,?_⟩,hnI,hbb⟩
     rw [Array.toList_modify]
     exact (hent.mono (fun _ _ h=>h) (fun _ h=>h) f3.zero).set (hrv.mono (fun _ _ h=>h) (fun _ h=>h) f3.zero) j
   ·rename_i hf
    simp only [Option.some.injEq,Prod.mk.injEq] at hop
    obtain ⟨rfl,rfl⟩:=hop
    have g1:=(eh hent 0 _ hf).1 rfl
    obtain ⟨w1,f1,f2,f3,f4,f5⟩:=ef (I:=I1) (base:=base) (.map (a.push { key:=key,val:=ρc x,born:=clock}) (clock+1)) hh (by simp) (by simp) (by simp) hnI hbb
    refine ⟨_,w1,undef,σ,I1,?_,.inr ⟨rfl,rfl⟩,.pv _ _ (.lit _),H1.setPut _ hl (by simp) hblk (by simp [ai,hs]) f3 f2 ?_,⟨fun _ _ h=>h,hmore.1,hmore.2,⟨fun b hb=>f3.keep b (hmore.1 b hb),f3.shape,f3.loop,f3.dfr⟩,f4⟩,fun _ _=>rfl⟩
    ·rw [hex]
     refine ig ?_
     simp [Instr.mapUpdate,aq hd,hu,huk,ac,dL hkd,dM hkd g1,f5]
    ·refine ⟨b,k1,hs,⟨_,f1,?_⟩,hnI,hbb⟩
     rw [Array.toList_push]
     exact (hent.mono (fun _ _ h=>h) (fun _ h=>h) f3.zero).append (.cons _ _ _ _ rfl rfl (hrv.mono (fun _ _ h=>h) (fun _ h=>h) f3.zero) .nil)
   ·cases hop
  ·cases hop
 ·cases hop
theorem az.find {p:Nat→Bool} {es:List ME} {xs:List MapEntry} (h:az σ I w es xs): ∀e,es.find? (fun e=>p e.born)=some e→ ∃x,xs.find? (fun e=>p e.born)=some x∧x.key=e.key∧ab σ I w e.val x.val:=by
 induction h with
 | nil=>intro e he;simp at he
 | cons e x es xs hb hk hv h ih=>
  intro e' he
  rw [List.find?_cons] at he ⊢
  rw [hb]
  split at he
  ·injection he with he;subst he;exact ⟨x,rfl,hk,hv⟩
  ·exact ih e' he
theorem nO {it:Operand} (ho:o.op= .entry it) (hop:ah P o ρ d gen h=some (v,h')) (hρ: ∀x,ab σ I w (ρ x) (ρc x)) (H:ae σ I base w h):
  ay σ I base w gen ((execOp ρc o).run P w) v h':=by
 have hr:=hρ it
 simp only [ah,ho] at hop
 split at hop
 case h_2=>cases hop
 rename_i d1 s g he
 rw [he] at hr
 obtain ⟨b,ob,k,hs,hu⟩:=bW hr
 split at hop
 case h_2=>cases hop
 rename_i d2 s2 g2 since seen last hl
 obtain ⟨b',k',hs',⟨bm,hh,b2,o2,k2,hs2,hbm⟩,hnI,hbb⟩:=H.live hl (by simp)
 rw [hs] at hs'
 simp only [Option.some.injEq,Prod.mk.injEq] at hs'
 obtain ⟨rfl,rfl,rfl⟩:=hs'
 subst hbm
 simp only [Nat.zero_mul,Nat.add_zero] at hu
 have ac:(getObj b).run P w= .ok (.mapIter (some b2) since seen.toArray last) w:=by simp [getObj,Sem.run,hh]
 split at hop
 case h_2=>cases hop
 rename_i clock es hl2
 obtain ⟨a,hh2,hent,_,_,_,_,hget2⟩:=dN H hl2 hs2
 split at hop
 case h_2=>cases hop
 rename_i stamp hst
 split at hop
 case isFalse=>cases hop
 rename_i hcl
 simp only [Option.map_eq_some_iff,Prod.mk.injEq] at hop
 obtain ⟨e,hfe,rfl,rfl⟩:=hop
 obtain ⟨x,hfx,hxk,hxv⟩:=hent.find (p:=fun n=>n==stamp) e hfe
 have hfa:a.find? (fun e=>e.born==stamp)=some x:=by rw [←Array.find?_toList];exact hfx
 have hback:seen.toArray.back?=some stamp:=by rw [List.back?_toArray];exact hst
 refine .same (.tuple #[x.key,x.val]) H ?_ (kz (by rw [hxk];exact .pv _ _ (.lit _)) hxv)
 simp only [execOp,ho]
 refine ap ?_
 simp only [Instr.entry,hu,Sem.run_bind,ac,Result.andThen_ok,hback,hget2,hcl,bne_self_eq_false,Bool.false_eq_true,if_false,hfa]
 rfl
theorem nP {it:Operand} (ho:o.op= .next it false) (hop:ah P o ρ d gen h=some (v,h')) (hρ: ∀x,ab σ I w (ρ x) (ρc x)) (H:ae σ I base w h):
  ay σ I base w gen ((execOp ρc o).run P w) v h':=by
 have hr:=hρ it
 have over: ∀(w:World),ab σ I w (.pv (.tup [.lit (.bool false)])) (.tuple #[.bool false]):=fun w=> .pv _ _ (.tup [.lit (.bool false)] [.bool false] rfl fun j p v hp hv=>by
  match j with
  | 0=>simp at hp hv;subst hp;subst hv;exact .lit _
  | j+1=>simp at hp)
 simp only [ah,ho] at hop
 split at hop
 case h_2=>cases hop
 rename_i d1 s g he
 rw [he] at hr
 obtain ⟨b,ob,k,hs,hu⟩:=bW hr
 split at hop
 ·rename_i s1 s2 l1 hl
  obtain ⟨b',k',hs',⟨bm,hh,hbm⟩,hnI,hbb⟩:=H.live hl (by simp)
  rw [hs] at hs'
  simp only [Option.some.injEq,Prod.mk.injEq] at hs'
  obtain ⟨rfl,rfl,rfl⟩:=hs'
  simp only at hbm
  subst hbm
  simp only [Nat.zero_mul,Nat.add_zero] at hu
  simp only [Option.some.injEq,Prod.mk.injEq] at hop
  obtain ⟨rfl,rfl⟩:=hop
  have ac:(getObj b).run P w= .ok (.mapIter none s1 s2.toArray l1) w:=by simp [getObj,Sem.run,hh]
  refine .same (.tuple #[.bool false]) H ?_ (over w)
  simp only [execOp,ho]
  refine ap ?_
  simp [Instr.next,hu,ac]
 ·rename_i d2 s2 g2 since seen last hl
  obtain ⟨b',k',hs',⟨bm,hh,b2,o2,k2,hs2,hbm⟩,hnI,hbb⟩:=H.live hl (by simp)
  rw [hs] at hs'
  simp only [Option.some.injEq,Prod.mk.injEq] at hs'
  obtain ⟨rfl,rfl,rfl⟩:=hs'
  subst hbm
  simp only [Nat.zero_mul,Nat.add_zero] at hu
  have ac:(getObj b).run P w= .ok (.mapIter (some b2) since seen.toArray last) w:=by simp [getObj,Sem.run,hh]
  split at hop
  ·rename_i clock es hl2
   obtain ⟨a,hh2,hent,_,_,_,_,hget2⟩:=dN H hl2 hs2
   have hold:az σ I w (eG since seen es) ((a.filter fun e=> !seen.toArray.contains e.born).filter (fun e=>decide (e.born<since))).toList:=by
    have:=hent.filter (p:=fun n=> !seen.contains n&&decide (n<since))
    simpa [eG,Bool.and_comm] using this
   have hnew:az σ I w (fF since seen es) ((a.filter fun e=> !seen.toArray.contains e.born).filter (fun e=>decide (e.born≥since))).toList:=by
    have:=hent.filter (p:=fun n=> !seen.contains n&&decide (since≤n))
    simpa [fF,Bool.and_comm] using this
   have htest: ∀ {r},fG since seen last es=some r→(!seen.toArray.isEmpty&& !a.isEmpty&&a.all (fun e=>decide (e.born≥last)))=false:=by
    intro r hx
    have h1:=(iw hx).1
    have h2:a.all (fun e=>decide (e.born≥last))=es.all (fun e=>decide (last≤e.born)):=by
     rw [←Array.all_toList];exact hent.all (p:=fun n=>decide (last≤n))
    have h3:a.isEmpty=es.isEmpty:=by rw [←hent.empty];cases a;simp
    rw [h2,h3]
    simpa using h1
   split at hop
   ·rename_i hx
    simp only [Option.some.injEq,Prod.mk.injEq] at hop
    obtain ⟨rfl,rfl⟩:=hop
    obtain ⟨_,e2,e1⟩:=iw hx
    simp only at e1
    rw [e1] at hold
    rw [e2] at hnew
    have f1:=hold.arr_nil
    have f2:=hnew.arr_nil
    refine .same (.tuple #[.bool false]) H ?_ (over w)
    simp only [execOp,ho]
    refine ap ?_
    simp only [Instr.next,hu,Sem.run_bind,ac,Result.andThen_ok,hget2,htest hx,Bool.false_eq_true,if_false,f1,f2]
    simp [choose,Sem.run,Question.forced]
   ·rename_i e hx
    simp only [Option.some.injEq,Prod.mk.injEq] at hop
    obtain ⟨rfl,rfl⟩:=hop
    obtain ⟨_,e2,e1⟩:=iw hx
    simp only at e1
    rw [e1] at hold
    rw [e2] at hnew
    obtain ⟨x,f1,hxb,hxk,hxv⟩:=hold.arr_one
    have f2:=hnew.arr_nil
    obtain ⟨w1,g1,g2,g3,g4,g5⟩:=ef (I:=I) (base:=base) (.mapIter (some b2) since (seen++[x.born]).toArray clock) hh (by simp) (by simp) (by simp) hnI hbb
    refine ⟨_,w1,.tuple #[.bool true,x.key,x.val],σ,I,?_,.inl rfl,nH (.pv _ _ (.lit _)) (by rw [hxk];exact .pv _ _ (.lit _)) (hxv.mono (fun _ _ h=>h) (fun _ h=>h) g3.zero),
     H.setPut _ hl (by simp) (by simp [ai,hs]) (by simp [ai,hs]) g3 g2 ⟨b,k,hs,⟨some b2,?_,b2,o2,k2,hs2,rfl⟩,hnI,hbb⟩,⟨fun _ _ h=>h,fun _ h=>h,fun _ h=> .inl h,g3,g4⟩,fun _ _=>rfl⟩
    ·simp only [execOp,ho]
     refine ap ?_
     simp only [Instr.next,hu,Sem.run_bind,ac,Result.andThen_ok,hget2,htest hx,Bool.false_eq_true,if_false,f1,f2]
     simp [choose,Sem.run,Question.forced,g5]
    ·rw [g1,←hxb]
   ·cases hop
  ·cases hop
 ·cases hop
end
variable {σ σ':ak} {I I':af} {base:af} {w w':World} {h:aa} {P:Program}
section
variable {ρ:Operand→AV} {ρc:Operand→Value} {d gen:Nat} {o:Oper} {v:AV} {h':aa}
theorem ei {α β:Type} {f:α→β} {l:Array α} {y:β} (hm:l.toList.map f=[y]): ∃x,l= #[x]∧f x=y:=by
 cases l with
 | mk l=>
  match l,hm with
  | [x],hm=>simp at hm;exact ⟨x,rfl,hm⟩
theorem iy {α β:Type} {f:α→β} {l:Array α} {y z:β} (hm:l.toList.map f=[y,z]): ∃x x',l= #[x,x']∧f x=y∧f x'=z:=by
 cases l with
 | mk l=>
  match l,hm with
  | [x,x'],hm=>simp at hm;exact ⟨x,x',rfl,hm.1,hm.2⟩
theorem nQ {b:Builtin} {args:Array Operand} {argTypes:Array TypeId} (ho:o.op= .call { callee:= .builtin b,args,argTypes}):
  ∃consts,(execOp ρc o).run P w=(builtin b argTypes o.type consts (args.map ρc)).run P w:=by
 refine ⟨args.map fun | .const _=>true | _=>false,?_⟩
 simp only [execOp,ho,resolve,Sem.run_bind,Sem.run_pure,Result.andThen_ok,invoke]
 rfl
theorem nR {x:AV} {u:Value} (hr:ab σ I w x u):(∀k nl full xs,x= .pv (.sl k nl full xs)→ ∃a c,u= .slice a xs.length c)∧(∀d s g off n full,x= .msl d s g off n full→ ∃a c,u= .slice a n c):=by
 refine ⟨?_,?_⟩
 ·rintro k nl full xs rfl
  have:=aw hr
  cases this with
  | nil=>exact ⟨_,_,rfl⟩
  | emp=>exact ⟨_,_,rfl⟩
  | sl=>exact ⟨_,_,rfl⟩
 ·rintro d s g off n full rfl
  cases hr with
  | msl=>exact ⟨_,_,rfl⟩
theorem nS {x:AV} {u:Value} (hr:ab σ I w x u):(∀k nl xs,x= .pv (.sl k nl true xs)→ ∃a,u= .slice a xs.length xs.length)∧(∀d s g off n,x= .msl d s g off n true→ ∃a,u= .slice a n n):=by
 refine ⟨?_,?_⟩
 ·rintro k nl xs rfl
  have:=aw hr
  cases this with
  | nil=>exact ⟨_,rfl⟩
  | emp _ _ a cap hf=>rw [hf rfl];exact ⟨_,rfl⟩
  | sl _ _ _ b o cap vs hc hf=>rw [hf rfl];exact ⟨_,rfl⟩
 ·rintro d s g off n rfl
  cases hr with
  | msl _ _ _ _ _ _ b o k cap ad had hs hn hf=>rw [hf rfl];exact ⟨_,rfl⟩
theorem dO {argTypes:Array TypeId} {dd:TypeDesc} (hb:(argTypes[0]?).bind P.underlying=some dd): ∃t,argTypes[0]? =some t∧P.underlying t=some dd:=by
 simpa only [Option.bind_eq_some_iff] using hb
theorem nT {z:Value} (hok:(av z).ok=true) (hag:(av z).isAgg=false): ∃c,z.cells= #[c]∧c.oneCell'=true∧ ∀(I:af) (w:World),aj I w (av z) c:=by
 have hc:(av z).cells=[av z]:=by
  cases he:av z<;>rw [he] at hag<;>first | rfl | (simp [PV.isAgg] at hag)
 have h1:=fun (I:af) (w:World)=>(c7 (I:=I) (w:=w) z).cells hok
 have hs:z.cells.size=1:=by
  have:=(h1 (fun _=>False) { (default:World) with}).1
  rw [hc] at this;simpa using this
 obtain ⟨c,hcz⟩: ∃c,z.cells= #[c]:=by
  refine ⟨z.cells[0],?_⟩
  apply Array.ext
  ·simpa using hs
  ·intro i hi1 hi2
   have:i=0:=by simp at hi2;omega
   subst this;rfl
 refine ⟨c,hcz,(h1 (fun _=>False) { (default:World) with}).2.1 c (by rw [hcz];simp),fun I w=> ?_⟩
 exact (h1 I w).2.2 0 _ _ (by rw [hc];rfl) (by rw [hcz];rfl)
theorem nU {d s g k e b o1 i0:Nat} {xs ys:List PV} {arr:Array Value} (H:ae σ I base w h) (hl:Abs.live h d s g= .row k e xs false) (hs:σ g=some (b,o1,k)) (hra:bH I w k ys arr) (hsz:arr.size=ys.length*k) (hle:i0+ys.length≤xs.length):
  ae σ I base (w.setCells b (o1+i0*k) arr.toList) (hput h d s ⟨g,.row k e (bq xs i0 ys) false⟩)∧ar base σ I w σ I (w.setCells b (o1+i0*k) arr.toList)∧ ∃e1 m,w.shape? b=some (e1,m)∧o1+i0*k+arr.toList.length≤m∧Fr w m b:=by
 obtain ⟨b',o',n',hs',hsh,hn,hx,hc,hz⟩:=H.live hl (by simp)
 rw [hs] at hs'
 simp only [Option.some.injEq,Prod.mk.injEq] at hs'
 obtain ⟨rfl,rfl,_⟩:=hs'
 have hroom:i0*k+ys.length*k≤xs.length*k:=by rw [←Nat.add_mul];exact Nat.mul_le_mul_right k hle
 have hal:arr.toList.length=ys.length*k:=by simpa using hsz
 have hkeep:aD I w (w.setCells b (o1+i0*k) arr.toList):=d6 hz.1
 obtain ⟨H',E'⟩:=H.store (us:=arr.toList) (off:=o1+i0*k) (bd':= .row k e (bq xs i0 ys) false) hl (by simp) hs (by simp [ai,hs]) (by simp [ai,hs]) (by
  refine ⟨b,o1,n',hs,by rw [c5];exact hsh,by rw [dK hle];exact hn,fun y hy=> ?_,fun i y hy j p hp=> ?_,⟨hz.1,hz.2.1,fun j hj=>by rw [World.frozen?_setCells];exact hz.2.2 j hj⟩⟩
  ·obtain ⟨i,hi⟩:=List.mem_iff_getElem?.1 hy
   rw [dJ hle] at hi
   split at hi
   ·exact hra.elem y (List.mem_of_getElem? hi)
   ·exact hx y (List.mem_of_getElem? hi)
  ·have hyk:y.cells.length=k:=by
    rw [dJ hle] at hy
    split at hy
    ·exact (hra.elem y (List.mem_of_getElem? hy)).1
    ·exact (hx y (List.mem_of_getElem? hy)).1
   have hjk:j<k:=by rw [←hyk];exact (List.getElem?_eq_some_iff.1 hp).1
   rw [dJ hle] at hy
   split at hy
   ·rename_i hin
    obtain ⟨u,h1,h2,h3⟩:=hra.rep (i-i0) y hy j p hp
    have hlt:=(Array.getElem?_eq_some_iff.1 h1).1
    refine ⟨u,?_,h2,h3.mono (fun _ h=>h) hkeep.keep⟩
    have:=eW (w:=w) (b:=b) (o:=o1+i0*k) (vs:=arr.toList) hsh (by omega) (j:=(i-i0)*k+j) (by simpa using hlt)
    have e1:o1+i0*k+((i-i0)*k+j)=o1+i*k+j:=by
     have:i*k=i0*k+(i-i0)*k:=by rw [←Nat.add_mul];congr 1;omega
     omega
    rw [e1] at this
    rw [this]
    have h1':arr.toList[(i-i0)*k+j]? =some u:=by simpa using h1
    rw [List.getElem?_eq_getElem (by simpa using hlt)] at h1'
    exact h1'
   ·rename_i hout
    obtain ⟨u,h1,h2,h3⟩:=hc i y hy j p hp
    refine ⟨u,?_,h2,h3.mono (fun _ h=>h) hkeep.keep⟩
    rw [d7]
    ·exact h1
    ·rcases Nat.lt_or_ge i i0 with hi | hi
     ·left
      have:=gq (k:=k) hi hjk
      omega
     ·right
      have h5:i0+ys.length≤i:=by omega
      have:=Nat.mul_le_mul_right k h5
      rw [Nat.add_mul] at this
      rw [hal]
      omega)
 exact ⟨H',E',_,n',hsh,by omega,hz.2.2⟩
theorem nV {e:TypeId} (hc:P.cellsOf e=1) (count off n:Nat) (hn:off+n≤count):liesAt P P.depth e count off e n=true:=by
 have hd:P.depth=(2*(P.types.size+Made.depth)+1)+1:=rfl
 rw [hd]
 simp only [liesAt,Bool.or_eq_true]
 left
 rw [hd]
 simp [rowAt,hc,hn,sameLayout,Nat.mod_one]
theorem kD: ∀(l:List Int) (a:Addr) (acc:ByteArray),(∀j x,l[j]? =some x→w.cell? (a.add j)=some (.int .u8 x))→
  (loadBytes a acc l.length).run P w= .ok ⟨acc.data++(l.map fun x=>UInt8.ofNat x.toNat).toArray⟩ w
 | [],a,acc,_=>by simp [loadBytes]
 | x::l,a,acc,h=>by
  have h0:w.cell? a=some (.int .u8 x):=by
   have:=h 0 x rfl
   simpa [Addr.add] using this
  have ih:=kD l (a.add 1) (acc.push (UInt8.ofNat x.toNat)) (fun j y hy=>by
   have:=h (j+1) y (by simpa using hy)
   have e:(a.add 1).add j=a.add (j+1):=by
    unfold Addr.add
    by_cases hj:j=0
    ·subst hj;simp
    ·simp [hj];omega
   rw [e];exact this)
  simp only [List.length_cons,loadBytes,Sem.run_bind,run_load,h0,Result.andThen]
  refine ih.trans ?_
  have e:(acc.push (UInt8.ofNat x.toNat)).data++(l.map fun x=>UInt8.ofNat x.toNat).toArray=acc.data++((x::l).map fun x=>UInt8.ofNat x.toNat).toArray:=by
   apply Array.ext'
   simp [ByteArray.push]
  rw [e]
theorem ej {b o n k:Nat} (hk:k≠b):(w.freeze ⟨b,o,none⟩ n).heap[k]? =w.heap[k]? :=by
 unfold World.freeze
 split
 ·rfl
 ·simp only [Array.getElem?_modify]
  rw [if_neg (Ne.symm hk)]
theorem nW {b o n:Nat} {c:Array Value} {e:TypeId} {fr:Nat×Nat} (hb:w.heap[b]? =some (.cells c e fr)): ∃fr',(w.freeze ⟨b,o,none⟩ n).heap[b]? =some (.cells c e fr'):=by
 unfold World.freeze
 split
 ·exact ⟨fr,hb⟩
 ·obtain ⟨lo,hi⟩:=fr
  simp [Array.getElem?_modify,hb]
theorem nX {argTypes:Array TypeId} {e ty:TypeId} {d1 s g off m:Nat} {xs:List PV} {bs:List UInt8} {u:Value} (H:ae σ I base w h) (hl:Abs.live h d1 s g= .row 1 e xs false) (hr:ab σ I w (.mptr d1 s g off 0) u)
  (hat: ∃pt,argTypes[0]? =some pt∧P.underlying pt=some (.pointer e)) (hc:P.cellsOf e=1) (h1:1≤m) (hm:off+m≤xs.length) (h63:m≤9223372036854775807) (hbs:du ((xs.drop off).take m)=some bs):
  ∃w' I',(Builtin.unsafeString_ argTypes ty #[u,.int .i64 m]).run P w= .ok (.string ⟨bs.toArray⟩) w'∧ae σ I' base w' (hput h d1 s ⟨g,.row 1 e xs true⟩)∧ar base σ I w σ I' w':=by
 obtain ⟨b,ob,k,hs,rfl⟩:=bW hr
 obtain ⟨b0,o,n,hs0,hsh,hn,hx,hcell,hz⟩:=H.live hl (by simp)
 simp only [] at hs0
 rw [hs] at hs0
 simp only [Option.some.injEq,Prod.mk.injEq] at hs0
 obtain ⟨rfl,rfl,rfl⟩:=hs0
 obtain ⟨pt,hpt,hpu⟩:=hat
 obtain ⟨ns,hns,rfl⟩:=iv hbs
 have hlen:ns.length=m:=by
  have:=congrArg List.length hns
  simp at this
  omega
 have hcells: ∀j x,ns[j]? =some x→w.cell? ((⟨b,ob+off*1+0,none⟩:Addr).add j)=some (.int .u8 x):=by
  intro j x hj
  have hjm:j<m:=by rw [←hlen];exact (List.getElem?_eq_some_iff.1 hj).1
  have h2:xs[off+j]? =some (.lit (.int .u8 x)):=by
   have:((xs.drop off).take m)[j]? =some (.lit (.int .u8 x)):=by rw [hns];simp [hj]
   rw [List.getElem?_take,if_pos hjm,List.getElem?_drop] at this
   exact this
  obtain ⟨v,h3,_,h4⟩:=hcell (off+j) _ h2 0 (.lit (.int .u8 x)) rfl
  have:=aQ h4
  subst this
  have e1:(⟨b,ob+off*1+0,none⟩:Addr).add j=⟨b,ob+(off+j)*1+0,none⟩:=by
   unfold Addr.add
   by_cases hj0:j=0
   ·subst hj0;simp
   ·simp [hj0];omega
  rw [e1]
  exact h3
 have hlb:=kD (P:=P) (w:=w) ns ⟨b,ob+off*1+0,none⟩ .empty hcells
 have hlies:=nV (P:=P) hc (n/P.cellsOf e) (ob+off*1+0) m (by rw [hc];simp;omega)
 have hrun:(Builtin.unsafeString_ argTypes ty #[.pointer (some ⟨b,ob+off*1+0,none⟩),.int .i64 m]).run P w= .ok (.string ⟨(ns.map fun x=>UInt8.ofNat x.toNat).toArray⟩) (w.freeze ⟨b,ob+off*1+0,none⟩ m):=by
  have hmax:IntKind.i64.max=9223372036854775807:=rfl
  have hneg: ¬(m:Int)<0:=by omega
  have h63': ¬(9223372036854775807:Int)<(m:Int):=by omega
  have hm0:m≠0:=by omega
  have hdef: ∀a:Addr,Builtin.unsafeString_ argTypes ty #[.pointer (some a),.int .i64 m]=
   (do
    let n ←asInt (.int .i64 m)
    let some pt:=argTypes[0]? | stuck "unsafe.String: no argument types"
    if n<0 then runtimePanic (.error "unsafe.String: len out of range")
    if n>IntKind.i64.max then unsupported (.unsafePointer "String: a length above the largest int")
    if n=0 then pure (.string .empty)
    else if ←variablesAt a (←elemOf pt) n.toNat then do
     let s ←loadBytes a .empty n.toNat
     freeze a n.toNat
     pure (.string s)
    else unsupported (.unsafePointer "String: not so many bytes at ptr")):=fun _=>rfl
  rw [hlen] at hlb
  generalize ob+off*1+0=oo at hlies hlb ⊢
  rw [hdef]
  simp [asInt,asIntOf,hmax,h63',hneg,hm0,variablesAt,hsh,elemOf,run_underlying hpu,hpt,hlies,hlb]
 refine ⟨_,fun x=>I x∨x=b,hrun,?_⟩
 generalize ob+off*1+0=oo
 have hnb: ¬I b:=hz.1
 obtain ⟨c,fr,hbk⟩: ∃c fr,w.heap[b]? =some (.cells c e fr):=by
  unfold World.shape? at hsh
  split at hsh
  ·rename_i c e' fr hh
   simp only [Option.some.injEq,Prod.mk.injEq] at hsh
   obtain ⟨rfl,_⟩:=hsh
   exact ⟨c,fr,hh⟩
  ·cases hsh
 obtain ⟨fr',hbk'⟩:=nW (o:=oo) (n:=m) hbk
 have hcl: ∀j,(w.freeze ⟨b,oo,none⟩ m).cell? ⟨b,j,none⟩=w.cell? ⟨b,j,none⟩:=fun j=>by simp [World.cell?,hbk,hbk']
 have hshp: ∀k,(w.freeze ⟨b,oo,none⟩ m).shape? k=w.shape? k:=fun k=>by
  by_cases hk:k=b
  ·subst hk;simp [World.shape?,hbk,hbk']
  ·simp [World.shape?,ej hk]
 have hsz:(w.freeze ⟨b,oo,none⟩ m).heap.size=w.heap.size:=by unfold World.freeze;split<;>simp
 have hk:aD I w (w.freeze ⟨b,oo,none⟩ m):=⟨fun k hk=>ej (fun e=>hnb (e▸hk)),fun k e' n' h'=>by rw [hshp];exact h',
  fun k r hr'=>⟨r,by rw [ej (fun e=>by subst e;rw [hbk] at hr';cases hr')];exact hr',bt.refl r⟩,fun k hk'=>by rw [ej (fun e=>by subst e;rw [hbk] at hk';cases hk')];exact hk'⟩
 have hin: ∀x,(I x∨x=b)→aO (w.freeze ⟨b,oo,none⟩ m) x:=by
  rintro x (hx' | rfl)
  ·exact hk.inW H.inW x hx'
  ·exact ⟨_,hbk',by simp⟩
 refine ⟨H.put (fun _ _ h=>h) (fun _ h=> .inl h) hk hin d1 s _ ⟨b,ob,n,hs,by rw [hshp];exact hsh,hn,hx,fun i x hi j p hp=> ?_,.inr rfl⟩ fun d' s' b' hne' hb'=> ?_,⟨fun _ _ h=>h,fun _ h=> .inl h,?_,hk,?_⟩⟩
 ·obtain ⟨v,h2,h3,h4⟩:=hcell i x hi j p hp
  exact ⟨v,by rw [hcl];exact h2,h3,h4.mono (fun _ h=> .inl h) hk.keep⟩
 ·have hf:=aM (H.rows d' s') hb'
  have hbb:b'≠b:=fun e=>hne' (H.apart d1 s d' s' b (by rw [b8 hl (by simp)];simp [ai,hs]) (e▸hb'))
  exact ⟨ej hbb,fun h=>h.elim hf.2.1 hbb,by simp [ai]⟩
 ·rintro x (hx' | rfl)
  ·exact .inl hx'
  ·exact .inr hz.2.1
 ·have hst:(w.freeze ⟨b,oo,none⟩ m).os=w.os∧(w.freeze ⟨b,oo,none⟩ m).tape=w.tape∧(w.freeze ⟨b,oo,none⟩ m).output=w.output:=by unfold World.freeze;split<;>exact ⟨rfl,rfl,rfl⟩
  exact ⟨hst.1,hst.2.1,hst.2.2,by rw [hsz];exact Nat.le_refl _,fun k hk'=>ej (fun e=>hz.2.1 (e▸hk'))⟩
theorem nY {b:Builtin} {args:Array Operand} {argTypes:Array TypeId} {type:TypeId} {consts:Array Bool} (hop:bG P b argTypes h (args.toList.map ρ)=some (v,h')) (hρ: ∀x,ab σ I w (ρ x) (ρc x))
  (H:ae σ I base w h):ay σ I base w gen ((builtin b argTypes type consts (args.map ρc)).run P w) v h':=by
 unfold bG at hop
 split at hop
 ·rename_i x hx
  obtain ⟨x0,rfl,rfl⟩:=ei hx
  have hr:=hρ x0
  split at hop
  ·rename_i kt vt hd he
   rw [he] at hr
   have hu:=aQ (aw hr)
   simp only [Option.some.injEq,Prod.mk.injEq] at hop
   obtain ⟨rfl,rfl⟩:=hop
   obtain ⟨t,h1,h2⟩:=dO hd
   refine .same (goInt 0) H ?_ (.pv _ _ (.lit _))
   simp only [builtin]
   exact ap (by simp [Builtin.len_,h1,aq h2,hu])
  ·rename_i kt vt d1 s g hd he
   rw [he] at hr
   obtain ⟨b,o1,k1,hs,hu⟩:=fg hr
   split at hop
   ·rename_i clock es hl
    obtain ⟨a,hh,hent,hnI,hbb,_,_,ac⟩:=dN H hl hs
    simp only [Option.some.injEq,Prod.mk.injEq] at hop
    obtain ⟨rfl,rfl⟩:=hop
    obtain ⟨t,h1,h2⟩:=dO hd
    refine .same (goInt es.length) H ?_ (.pv _ _ (.lit _))
    simp only [builtin]
    have hlen:a.size=es.length:=by simpa using hent.len
    exact ap (by simp [Builtin.len_,h1,aq h2,hu,ac,hlen])
   ·cases hop
  ·cases hop
 ·rename_i m k hx
  obtain ⟨m0,k0,rfl,rfl,rfl⟩:=iy hx
  have hrm:=hρ m0
  have hrk:=hρ k0
  split at hop
  ·rename_i kt vt d1 s g key hd hm hk
   rw [hm] at hrm
   rw [hk] at hrk
   obtain ⟨b,o1,k1,hs,hu⟩:=fg hrm
   have huk:=aQ (aw hrk)
   obtain ⟨t,h1,h2⟩:=dO hd
   split at hop
   ·rename_i clock es hl
    obtain ⟨a,hh,hent,hnI,hbb,rfl,hblk,ac⟩:=dN H hl hs
    simp only [Option.bind_eq_some_iff] at hop
    obtain ⟨kd,hkd,hop⟩:=hop
    split at hop
    ·rename_i j v0 hf
     simp only [Option.some.injEq,Prod.mk.injEq] at hop
     obtain ⟨rfl,rfl⟩:=hop
     obtain ⟨e,y,u,g1,g2,_,g4,g5,g6,g7⟩:=(eh hent 0 _ hf).2 j v0 rfl
     obtain ⟨w1,f1,f2,f3,f4,f5⟩:=ef (I:=I) (base:=base) (.map (a.eraseIdxIfInBounds j) clock) hh (by simp) (by simp) (by simp) hnI hbb
     refine ⟨_,w1,.tuple #[],σ,I,?_,.inl rfl,.pv _ _ (.tup [] [] rfl fun j p v hp=>by simp at hp),H.setPut _ hl (by simp) hblk (by simp [ai,hs]) f3 f2 ?_,⟨fun _ _ h=>h,fun _ h=>h,fun _ h=> .inl h,f3,f4⟩,fun _ _=>rfl⟩
     ·simp only [builtin]
      exact ap (by simp [Builtin.delete_,h1,aq h2,hu,huk,ac,dL hkd,dM hkd g1,f5])
     ·refine ⟨b,k1,hs,⟨_,f1,?_⟩,hnI,hbb⟩
      have:(a.eraseIdxIfInBounds j).toList=a.toList.eraseIdx j:=by
       unfold Array.eraseIdxIfInBounds
       split
       ·simp
       ·rw [List.eraseIdx_of_length_le];simpa using by omega
      rw [this]
      exact (hent.mono (fun _ _ h=>h) (fun _ h=>h) f3.zero).erase j
    ·rename_i hf
     simp only [Option.some.injEq,Prod.mk.injEq] at hop
     obtain ⟨rfl,rfl⟩:=hop
     have g1:=(eh hent 0 _ hf).1 rfl
     obtain ⟨w1,f1,f2,f3,f4,f5⟩:=ef (I:=I) (base:=base) (.map a clock) hh (by simp) (by simp) (by simp) hnI hbb
     have hrow:=b8 hl (by simp)
     refine ⟨_,w1,.tuple #[],σ,I,?_,.inl rfl,.pv _ _ (.tup [] [] rfl fun j p v hp=>by simp at hp),H.keep (fun _ _ h=>h) (fun _ h=>h) f3.zero (f3.inW H.inW) (fun d2 s2 b2 hb2=>⟨?_,(aM (H.rows d2 s2) hb2).2.1⟩),⟨fun _ _ h=>h,fun _ h=>h,fun _ h=> .inl h,f3,f4⟩,fun _ _=>rfl⟩
     ·simp only [builtin]
      exact ap (by simp [Builtin.delete_,h1,aq h2,hu,huk,ac,dL hkd,dM hkd g1,f5])
     ·by_cases e:b2=b
      ·subst e;rw [f1,hh]
      ·exact f2 b2 e
    ·cases hop
   ·cases hop
  ·cases hop
 ·rename_i x hx
  obtain ⟨x0,rfl,rfl⟩:=ei hx
  have hr:=hρ x0
  split at hop
  ·rename_i kt vt d1 s g hd he
   rw [he] at hr
   obtain ⟨b,o1,k1,hs,hu⟩:=fg hr
   obtain ⟨t,h1,h2⟩:=dO hd
   split at hop
   ·rename_i clock es hl
    obtain ⟨a,hh,hent,hnI,hbb,rfl,hblk,ac⟩:=dN H hl hs
    simp only [Option.some.injEq,Prod.mk.injEq] at hop
    obtain ⟨rfl,rfl⟩:=hop
    obtain ⟨w1,f1,f2,f3,f4,f5⟩:=ef (I:=I) (base:=base) (.map #[] clock) hh (by simp) (by simp) (by simp) hnI hbb
    refine ⟨_,w1,.tuple #[],σ,I,?_,.inl rfl,.pv _ _ (.tup [] [] rfl fun j p v hp=>by simp at hp),H.setPut _ hl (by simp) hblk (by simp [ai,hs]) f3 f2 ⟨b,k1,hs,⟨_,f1,.nil⟩,hnI,hbb⟩,⟨fun _ _ h=>h,fun _ h=>h,fun _ h=> .inl h,f3,f4⟩,fun _ _=>rfl⟩
    simp only [builtin]
    exact ap (by simp [Builtin.clear_,h1,aq h2,hu,ac,f5])
   ·cases hop
  ·cases hop
 ·cases hop
theorem nZ {b:Builtin} {args:Array Operand} {argTypes:Array TypeId} (ho:o.op= .call { callee:= .builtin b,args,argTypes}) (hop:ah P o ρ d gen h=some (v,h')) (hρ: ∀x,ab σ I w (ρ x) (ρc x))
  (H:ae σ I base w h) (hg:σ gen=none) (hB:aG base w.heap.size):ay σ I base w gen ((execOp ρc o).run P w) v h':=by
 obtain ⟨consts,hex⟩:=nQ (P:=P) (ρc:=ρc) (w:=w) ho
 rw [hex]
 simp only [ah,ho] at hop
 split at hop
 ·rename_i r hm
  simp only [Option.some.injEq] at hop
  subst hop
  exact nY hm hρ H
 rename_i hmn
 clear hmn
 unfold cb at hop
 split at hop
 ·
  rename_i x hx
  obtain ⟨x0,rfl,rfl⟩:=ei hx
  have hr:=hρ x0
  have hl:=nR hr
  have fin: ∀ {dd:TypeDesc} {n:Nat} {u:Value},(argTypes[0]?).bind P.underlying=some dd→(∀t,P.underlying t=some dd→argTypes[0]? =some t→(Builtin.len_ argTypes o.type #[ρc x0]).run P w= .ok (goInt n) w)→
    (builtin .len argTypes o.type consts (#[x0].map ρc)).run P w= .ok (.value (goInt n)) w:=by
   intro dd n u hb hrun
   obtain ⟨t,h1,h2⟩:=dO hb
   simp only [builtin]
   exact ap (by simpa using hrun t h2 h1)
  split at hop
  ·rename_i e k nl full xs hd he
   simp only [Option.some.injEq,Prod.mk.injEq] at hop
   obtain ⟨rfl,rfl⟩:=hop
   obtain ⟨a,c,hu⟩:=hl.1 _ _ _ _ he
   exact .same (goInt xs.length) H (fin (u:=ρc x0) hd fun t h2 h1=>by simp [Builtin.len_,h1,aq h2,hu]) (.pv _ _ (.lit _))
  ·rename_i e d1 s g off n full hd he
   simp only [Option.some.injEq,Prod.mk.injEq] at hop
   obtain ⟨rfl,rfl⟩:=hop
   obtain ⟨a,c,hu⟩:=hl.2 _ _ _ _ _ _ he
   exact .same (goInt n) H (fin (u:=ρc x0) hd fun t h2 h1=>by simp [Builtin.len_,h1,aq h2,hu]) (.pv _ _ (.lit _))
  ·rename_i s hd he
   simp only [Option.some.injEq,Prod.mk.injEq] at hop
   obtain ⟨rfl,rfl⟩:=hop
   rw [he] at hr
   have hu:=aQ (aw hr)
   exact .same (goInt s.size) H (fin (u:=ρc x0) hd fun t h2 h1=>by simp [Builtin.len_,h1,aq h2,hu]) (.pv _ _ (.lit _))
  ·rename_i n e hd
   simp only [Option.some.injEq,Prod.mk.injEq] at hop
   obtain ⟨rfl,rfl⟩:=hop
   exact .same (goInt n) H (fin (u:=ρc x0) hd fun t h2 h1=>by simp [Builtin.len_,h1,aq h2]) (.pv _ _ (.lit _))
  ·cases hop
 ·
  rename_i x hx
  obtain ⟨x0,rfl,rfl⟩:=ei hx
  have hr:=hρ x0
  have hl:=nS hr
  have fin: ∀ {dd:TypeDesc} {n:Nat} {u:Value},(argTypes[0]?).bind P.underlying=some dd→(∀t,P.underlying t=some dd→argTypes[0]? =some t→(Builtin.cap_ argTypes o.type #[ρc x0]).run P w= .ok (goInt n) w)→
    (builtin .cap argTypes o.type consts (#[x0].map ρc)).run P w= .ok (.value (goInt n)) w:=by
   intro dd n u hb hrun
   obtain ⟨t,h1,h2⟩:=dO hb
   simp only [builtin]
   exact ap (by simpa using hrun t h2 h1)
  split at hop
  ·rename_i e k nl xs hd he
   split at hop
   ·simp only [Option.some.injEq,Prod.mk.injEq] at hop
    obtain ⟨rfl,rfl⟩:=hop
    obtain ⟨a,hu⟩:=hl.1 _ _ _ he
    exact .same (goInt xs.length) H (fin (u:=ρc x0) hd fun t h2 h1=>by simp [Builtin.cap_,h1,aq h2,hu]) (.pv _ _ (.lit _))
   ·cases hop
  ·rename_i e d1 s g off n hd he
   simp only [Option.some.injEq,Prod.mk.injEq] at hop
   obtain ⟨rfl,rfl⟩:=hop
   obtain ⟨a,hu⟩:=hl.2 _ _ _ _ _ he
   exact .same (goInt n) H (fin (u:=ρc x0) hd fun t h2 h1=>by simp [Builtin.cap_,h1,aq h2,hu]) (.pv _ _ (.lit _))
  ·cases hop
 ·
  rename_i x y hxy
  obtain ⟨x0,y0,rfl,rfl,rfl⟩:=iy hxy
  split at hop
  case h_2=>cases hop
  rename_i t0 t1 ht
  have hts:argTypes= #[t0,t1]:=by apply Array.ext';simpa using ht
  subst hts
  split at hop
  case h_2=>
   rename_i e hd0 hd1
   exact nw (t0:=t0) (tn:=t1) (ty:=o.type) hd0 hop (hρ x0) (hρ y0) H hg hB (by simp [builtin])
  case h_3=>cases hop
  rename_i e hd0 hd1
  simp only [Option.bind_eq_bind,Option.bind_eq_some_iff] at hop
  obtain ⟨size,hsz,bytes,hby,z,hz,ys,hys,hop⟩:=hop
  split at hop
  ·cases hop
  ·rename_i hne
   have hne1:size≠0:=fun e=>hne (.inl e)
   have hne2:z.cells.size=size:=by
    rcases Nat.decEq z.cells.size size with hh | hh
    ·exact absurd (.inr hh) hne
    ·exact hh
   obtain ⟨news,hE⟩:=ed (P:=P) hys (hρ y0) H
   refine nv (t0:=t0) (t1:=t1) (ty:=o.type) (z:=z) ⟨hd0,hd1,hsz,hby,hz,hne1,hne2⟩ hop (hρ x0) hE H hg hB ?_
   simp [builtin]
 ·
  rename_i x hx
  obtain ⟨x0,rfl,rfl⟩:=ei hx
  split at hop
  case h_2=>cases hop
  rename_i e d1 s g off n full hb he
  obtain ⟨t,ht,hd⟩:=dO hb
  simp only [Option.bind_eq_some_iff] at hop
  obtain ⟨z,hz,hop⟩:=hop
  have hclr: ∀ {w':World},(Builtin.clear_ argTypes o.type #[ρc x0]).run P w= .ok (.tuple #[]) w'→(builtin .clear argTypes o.type consts (#[x0].map ρc)).run P w= .ok (.value undef) w':=by
   intro w' hrun
   have h2:(Builtin.clear_ argTypes o.type #[ρc x0]).run P w= .ok undef w':=hrun
   simp only [builtin]
   exact ap (by simpa using h2)
  split at hop
  rotate_left
  ·rename_i k1 e1 xs hl
   have hr:=hρ x0
   rw [he] at hr
   generalize hu:ρc x0=u at hr
   cases hr with
   | msl _ _ _ _ _ _ b ob k cap ad had hs hn hfull hroom=>
   have hat:argTypes[0]? =some t:=ht
   split at hop
   ·rename_i hn0
    simp only [Option.some.injEq,Prod.mk.injEq] at hop
    obtain ⟨rfl,rfl⟩:=hop
    subst hn0
    refine .same undef H (hclr ?_) ec
    rw [hu]
    unfold Builtin.clear_
    simp [hat,aq hd]
   ·rename_i hn0
    split at hop
    ·rename_i hc
     obtain ⟨hok,hlen,hk0,hle⟩:=hc
     simp only [Option.some.injEq,Prod.mk.injEq] at hop
     obtain ⟨rfl,rfl⟩:=hop
     obtain ⟨_,_,_,hs1,_⟩:=H.live hl (by simp)
     have hkk:k=k1:=by rw [hs] at hs1;simp only [Option.some.injEq,Prod.mk.injEq] at hs1;exact hs1.2.2
     subst hkk
     have hzs:z.cells.size=k:=(gp (I:=I) (w:=w) hlen hok).1
     have had':ad=ob+off*k:=had (by omega)
     subst had'
     obtain ⟨H',E',e2,m2,hsh2,hle2,hfr2⟩:=nU H hl hs (ir (m:=n) hlen hok hk0 (Nat.le_refl n)) (by simp) (by simpa using hle)
     refine ⟨_,_,undef,σ,I,hclr ?_,.inl rfl,ec,H',E',fun _ _=>rfl⟩
     have hst:=hO (P:=P) hsh2 hle2 hfr2 (fun x hx=>by
      obtain ⟨i,hi,rfl⟩:=List.getElem_of_mem hx
      simp only [Array.getElem_toList,Array.getElem_map,Array.getElem_range]
      have hi':i<n*k:=by simpa using hi
      have hkpos:0<k:=by omega
      have hlt:i%z.cells.size<z.cells.size:=by rw [hzs];exact Nat.mod_lt _ hkpos
      rw [getElem!_pos z.cells _ hlt]
      exact (gp (I:=I) (w:=w) hlen hok).2.1 _ (Array.getElem_mem_toList _))
     have hzc:Builtin.zeroCells z.cells n=(Array.range (n*k)).map (z.cells[· %z.cells.size]!):=by
      unfold Builtin.zeroCells
      rw [hzs]
     rw [←hzc] at hst
     rw [hu,←hzc]
     unfold Builtin.clear_
     obtain ⟨n',rfl⟩: ∃n',n=n'+1:=⟨n-1,by omega⟩
     simp [hat,aq hd,c6 hz,hst]
    ·cases hop
  ·cases hop
  rename_i v0 hl
  have hr:=hρ x0
  rw [he] at hr
  generalize hu:ρc x0=u at hr
  cases hr with
  | msl _ _ _ _ _ _ b ob k cap ad had hs hn hfull hroom=>
  have hat:argTypes[0]? =some t:=ht
  have fin: ∀ {w':World},(Builtin.clear_ argTypes o.type #[ρc x0]).run P w= .ok (.tuple #[]) w'→(builtin .clear argTypes o.type consts (#[x0].map ρc)).run P w= .ok (.value undef) w':=by
   intro w' hrun
   have h2:(Builtin.clear_ argTypes o.type #[ρc x0]).run P w= .ok undef w':=hrun
   simp only [builtin]
   exact ap (by simpa using h2)
  split at hop
  ·rename_i hc
   obtain ⟨hn0,hok,hag⟩:=hc
   simp only [Option.map_eq_some_iff,Prod.mk.injEq] at hop
   obtain ⟨v',hv',rfl,rfl⟩:=hop
   obtain ⟨c,hzc,hc1,hcr⟩:=nT hok hag
   obtain ⟨b0,k0,e0,u0,hs0,hsh,hok0,hru,hz0,hf,h1c,hszu,hcell⟩:=cM (H.live hl (by simp))
   rw [hs] at hs0
   simp only [Option.some.injEq,Prod.mk.injEq] at hs0
   obtain ⟨rfl,rfl,rfl⟩:=hs0
   subst hf
   have had':ad=off:=by have:=had (by omega);omega
   subst had'
   obtain ⟨H',E',e1,m1,hsh1,hle1,hfr1⟩:=iq (vs:=List.replicate n c) H hl hs (by simp) (fun x hx=>by rw [List.eq_of_mem_replicate hx];exact hc1)
    (fun j p u hp hu=>by
     rw [List.getElem?_replicate] at hp hu
     split at hp
     ·rename_i hj
      rw [if_pos hj] at hu
      simp only [Option.some.injEq] at hp hu
      subst hp;subst hu
      exact .pv _ _ (hcr I w)
     ·cases hp) (by simpa using hn0) hv'
   refine ⟨_,_,undef,σ,I,fin ?_,.inl rfl,ec,H',E',fun _ _=>rfl⟩
   have hst:=hO (P:=P) (vs:=List.replicate n c) hsh1 hle1 hfr1 (fun x hx=>by rw [List.eq_of_mem_replicate hx];exact hc1)
   have hzc2:(Builtin.zeroCells z.cells n).toList=List.replicate n c:=by
    unfold Builtin.zeroCells
    rw [hzc]
    apply List.ext_getElem
    ·simp
    ·intro i h1 h2
     simp [Nat.mod_one]
   rw [hu]
   unfold Builtin.clear_
   obtain ⟨n',rfl⟩: ∃n',n=n'+1:=⟨n-1,by omega⟩
   simp [hat,aq hd,c6 hz,hzc2,hst]
  ·split at hop
   ·rename_i hn0
    simp only [Option.some.injEq,Prod.mk.injEq] at hop
    obtain ⟨rfl,rfl⟩:=hop
    subst hn0
    refine .same undef H (fin ?_) ec
    rw [hu]
    unfold Builtin.clear_
    simp [hat,aq hd]
   ·cases hop
 ·
  rename_i x hx
  obtain ⟨x0,rfl,rfl⟩:=ei hx
  have hr:=hρ x0
  split at hop
  ·rename_i k full xs he
   simp only [Option.some.injEq,Prod.mk.injEq] at hop
   obtain ⟨rfl,rfl⟩:=hop
   rw [he] at hr
   generalize hu:ρc x0=u at hr
   have hp:=aw hr
   cases hp
   exact .same _ H (by simp only [builtin];exact ap (by simp [hu];rfl)) (.pv _ _ (.lit _))
  ·rename_i d1 s g off n full he
   simp only [Option.some.injEq,Prod.mk.injEq] at hop
   obtain ⟨rfl,rfl⟩:=hop
   rw [he] at hr
   generalize hu:ρc x0=u at hr
   cases hr with
   | msl _ _ _ _ _ _ b o k cap ad had hs hn hfull hroom=>
    obtain ⟨c',rfl⟩: ∃c',cap=c'+1:=⟨cap-1,by omega⟩
    have:=ab.mptr (I:=I) (w:=w) d1 s g off 0 b o k hs
    refine .same (.pointer (some ⟨b,ad,none⟩)) H (by simp only [builtin];exact ap (by simp [hu];rfl)) ?_
    rw [had (by omega)]
    exact this
  ·cases hop
 ·
  rename_i p n hx
  obtain ⟨p0,n0,rfl,rfl,rfl⟩:=iy hx
  have hrp:=hρ p0
  have hrn:=hρ n0
  split at hop
  ·rename_i hp hn
   simp only [Option.map_eq_some_iff,Prod.mk.injEq] at hop
   obtain ⟨pt,hpt,rfl,rfl⟩:=hop
   rw [hp] at hrp
   rw [hn] at hrn
   have hup:=aQ (aw hrp)
   have hun:=aQ (aw hrn)
   have hdef:Builtin.unsafeString_ argTypes o.type #[.pointer none,.int .i64 0]=
    (do
     let n ←asInt (.int .i64 0)
     let some pt:=argTypes[0]? | stuck "unsafe.String: no argument types"
     if n<0 then runtimePanic (.error "unsafe.String: len out of range")
     if n>IntKind.i64.max then unsupported (.unsafePointer "String: a length above the largest int")
     if n=0 then pure (.string .empty)
     else runtimePanic (.error "unsafe.String: ptr is nil and len is not zero")):=rfl
   have hmax:IntKind.i64.max=9223372036854775807:=rfl
   refine .same (.string ⟨#[]⟩) H ?_ (.pv _ _ (.lit _))
   simp only [builtin]
   refine ap ?_
   have harr: #[p0,n0].map ρc= #[.pointer none,.int .i64 0]:=by simp [hup,hun]
   rw [harr,hdef]
   simp [asInt,asIntOf,hmax,hpt]
   rfl
  ·rename_i d1 s g off n hp hn
   rw [hp] at hrp
   rw [hn] at hrn
   have hun:=aQ (aw hrn)
   split at hop
   ·rename_i e xs hl
    split at hop
    ·rename_i e' hat
     split at hop
     ·rename_i hc
      obtain ⟨h1,h63,h2,rfl,h4⟩:=hc
      simp only [Option.map_eq_some_iff,Prod.mk.injEq] at hop
      obtain ⟨bs,hbs,rfl,rfl⟩:=hop
      have hat: ∃pt,argTypes[0]? =some pt∧P.underlying pt=some (.pointer e'):=by simpa [Option.bind_eq_some_iff] using hat
      obtain ⟨w',I',hrun,H',E'⟩:=nX (ty:=o.type) H hl hrp hat h4 (by omega) h2 (by omega) hbs
      rw [Int.toNat_of_nonneg (by omega)] at hrun
      refine ⟨_,w',.string ⟨bs.toArray⟩,σ,I',?_,.inl rfl,.pv _ _ (.lit _),H',E',fun _ _=>rfl⟩
      simp only [builtin]
      refine ap ?_
      have harr: #[p0,n0].map ρc= #[ρc p0,.int .i64 n]:=by simp [hun]
      rw [harr]
      exact hrun
     ·cases hop
    ·cases hop
   ·cases hop
  ·cases hop
 ·
  simp only [Option.bind_eq_some_iff,Option.map_eq_some_iff,Prod.mk.injEq] at hop
  obtain ⟨vs,⟨ps,hps,hvs⟩,r,hr,rfl,rfl⟩:=hop
  have hus:args.toList.map ρc=vs:=j5 (σ:=σ) (I:=I) (w:=w) hps hvs (by simp) fun j p u hp hu=>by
   simp only [List.getElem?_map,Option.map_eq_some_iff] at hp hu
   obtain ⟨a,ha,rfl⟩:=hp
   obtain ⟨b,hb,rfl⟩:=hu
   rw [ha] at hb;injection hb with hb;subst hb
   exact hρ a
  have harr:args.map ρc=vs.toArray:=by apply Array.ext';simpa using hus
  refine .same r H ?_ (.pv _ _ (.lit r))
  simp only [builtin,harr]
  exact ap (e7 hr)
 ·
  simp only [Option.bind_eq_some_iff,Option.map_eq_some_iff,Prod.mk.injEq] at hop
  obtain ⟨vs,⟨ps,hps,hvs⟩,r,hr,rfl,rfl⟩:=hop
  have hus:args.toList.map ρc=vs:=j5 (σ:=σ) (I:=I) (w:=w) hps hvs (by simp) fun j p u hp hu=>by
   simp only [List.getElem?_map,Option.map_eq_some_iff] at hp hu
   obtain ⟨a,ha,rfl⟩:=hp
   obtain ⟨b,hb,rfl⟩:=hu
   rw [ha] at hb;injection hb with hb;subst hb
   exact hρ a
  have harr:args.map ρc=vs.toArray:=by apply Array.ext';simpa using hus
  refine .same r H ?_ (.pv _ _ (.lit r))
  simp only [builtin,harr]
  exact ap (e7 hr)
 ·cases hop
theorem kE {size n:Nat} {place:Nat→Option (Nat×Nat)} (hpl:place=fun i=>some (i*size,size)):
  ∀(qs:List (Nat×PV)) (pc:List (Nat×Value)) (xs:List PV) (arr:Array Value),bH I w size xs arr→xs.length=n→arr.size=n*size→pc.length=qs.length→
   (∀q∈qs,q.1<n∧q.2.cells.length=size∧q.2.ok=true)→(∀(j:Nat) (q:Nat×PV) (c:Nat×Value),qs[j]? =some q→pc[j]? =some c→q.1=c.1∧aj I w q.2 c.2)→
   ∃arr',Instr.fill place arr pc=some arr'∧bH I w size (qs.foldl (fun l q=>l.set q.1 q.2) xs) arr'∧arr'.size=n*size
 | [],[],xs,arr,ha,hl,hs,_,_,_=>⟨arr,rfl,ha,hs⟩
 | (i,p)::qs,(i',u)::pc,xs,arr,ha,hl,hs,hlen,hq,hr=>by
  obtain ⟨hii,hpr⟩:=hr 0 (i,p) (i',u) rfl rfl
  have hii:i=i':=hii
  subst hii
  have hpr:aj I w p u:=hpr
  obtain ⟨hi,hps,hpok⟩:=hq (i,p) (by simp)
  have hi:i<n:=hi
  have hps:p.cells.length=size:=hps
  obtain ⟨h1,h2,h3⟩:=hpr.cells hpok
  obtain ⟨hs1,hs2⟩:=km (i*size) u arr
  have hin:i*size+size≤n*size:=by
   have:(i+1)*size≤n*size:=Nat.mul_le_mul_right size (by omega)
   rw [Nat.add_mul] at this
   omega
  have ha':bH I w size (xs.set i p) (u.cells.zipIdx.foldl (fun cs (x:Value×Nat)=>cs.setIfInBounds (i*size+x.2) x.1) arr):=by
   refine ⟨by rw [hs1,hs];simp [hl],fun x hx=> ?_,fun i2 x hx j c hc=> ?_⟩
   ·rcases List.mem_or_eq_of_mem_set hx with hx | rfl
    ·exact ha.elem x hx
    ·exact ⟨hps,hpok⟩
   ·rw [List.getElem?_set] at hx
    by_cases hi2:i=i2
    ·subst hi2
     rw [if_pos rfl,if_pos (by omega)] at hx
     injection hx with hx
     subst hx
     have hj:j<size:=by rw [←hps];exact (List.getElem?_eq_some_iff.1 hc).1
     have hjc:u.cells[j]? =some (u.cells[j]'(by omega)):=Array.getElem?_eq_getElem (by omega)
     refine ⟨u.cells[j]'(by omega),?_,h2 _ (by simp),h3 j c _ hc hjc⟩
     rw [hs2,if_pos (by omega),show i*size+j-i*size=j by omega]
     exact hjc
    ·rw [if_neg hi2] at hx
     obtain ⟨u2,g1,g2,g3⟩:=ha.rep i2 x hx j c hc
     have hj:j<size:=by rw [←(ha.elem x (List.mem_of_getElem? hx)).1];exact (List.getElem?_eq_some_iff.1 hc).1
     refine ⟨u2,?_,g2,g3⟩
     rw [hs2,if_neg]
     ·exact g1
     ·rcases Nat.lt_or_ge i2 i with hlt | hge
      ·have:(i2+1)*size≤i*size:=Nat.mul_le_mul_right size (by omega)
       rw [Nat.add_mul] at this
       omega
      ·have:(i+1)*size≤i2*size:=Nat.mul_le_mul_right size (by omega)
       rw [Nat.add_mul] at this
       omega
  obtain ⟨arr',hf,ha'',hsz⟩:=kE hpl qs pc (xs.set i p) _ ha' (by simpa using hl) (by rw [hs1];exact hs) (by simpa using hlen) (fun q hqm=>hq q (by simp [hqm])) fun j q c hqj hcj=>hr (j+1) q c (by simpa using hqj) (by simpa using hcj)
  refine ⟨arr',?_,ha'',hsz⟩
  simp only [Instr.fill,hpl]
  have e1:u.cells.size=size:=by omega
  have hcond: ¬((u.cells.size≠size||decide (i*size+u.cells.size>arr.size))=true):=by
   simp [e1];omega
  rw [if_neg (by simpa using hcond)]
  rw [←hpl]
  exact hf
theorem n1 {t:TypeId} {len:Nat} {parts:Array (Nat×Operand)} (ho:o.op= .buildSlice t len parts) (hop:ah P o ρ d gen h=some (v,h')) (hρ: ∀x,ab σ I w (ρ x) (ρc x)) (H:ae σ I base w h) (hg:σ gen=none) (hB:aG base w.heap.size):
  ay σ I base w gen ((execOp ρc o).run P w) v h':=by
 simp only [ah,ho] at hop
 split at hop
 case h_2=>cases hop
 rename_i e hd
 simp only [Option.bind_eq_bind,Option.bind_eq_some_iff] at hop
 obtain ⟨size,hsz,hop⟩:=hop
 split at hop
 ·rename_i h0
  obtain ⟨rfl,hp0⟩:=h0
  have hp0':parts= #[]:=Array.eq_empty_of_size_eq_zero hp0
  subst hp0'
  simp only [Option.some.injEq,Prod.mk.injEq] at hop
  obtain ⟨rfl,rfl⟩:=hop
  have hG:aJ w (w.alloc (.cells #[] e)) (.cells #[] e):=⟨rfl,rfl,rfl,rfl⟩
  have hk:=hG.keep H.lt
  refine ⟨_,w.alloc (.cells #[] e),.slice (some ⟨w.heap.size,0,none⟩) 0 0,σ,I,?_,.inl rfl,.pv _ _ (.emp size true _ 0 (fun _=>rfl)),H.keep (fun _ _ h=>h) (fun _ h=>h) hk (hk.inW H.inW) fun d s b hb=>⟨hG.old (aM (H.rows d s) hb).1,(aM (H.rows d s) hb).2.1⟩,
   ⟨fun _ _ h=>h,fun _ h=>h,fun _ h=> .inl h,hk,hG.below hB⟩,fun _ _=>rfl⟩
  simp only [execOp,ho]
  refine ap ?_
  simp [Instr.buildSlice,aq hd,bQ hsz,Instr.fill,newRow]
  have h0:(Array.range 0).map (fun _=>(default:Value))= #[]:=by apply Array.ext';simp
  rw [h0]
 simp only [Option.bind_eq_some_iff] at hop
 obtain ⟨z,hz,slot,hslot,hop⟩:=hop
 split at hop
 case isFalse=>cases hop
 rename_i hc
 obtain ⟨hc1,hc2,hc3,hc4⟩:=hc
 simp only [Option.bind_eq_some_iff,Prod.exists] at hop
 obtain ⟨ps,h1,hps,hop⟩:=hop
 split at hop
 case isFalse=>cases hop
 rename_i hall
 simp only [Bool.and_eq_true,List.all_eq_true,beq_iff_eq,decide_eq_true_eq] at hall
 obtain ⟨hall1,hall2⟩:=hall
 simp only [Option.some.injEq,Prod.mk.injEq] at hop
 obtain ⟨rfl,rfl⟩:=hop
 obtain ⟨I1,hlen,hpr,H1,m1⟩:=gc (σ:=σ) (w:=w) (base:=base) _ _ _ _ _ (parts.toList.map fun q=>ρc q.2) I hps (by simp)
  (fun j p u hp hu=>by
   simp only [List.getElem?_map,Option.map_eq_some_iff] at hp hu
   obtain ⟨a,ha,rfl⟩:=hp
   obtain ⟨b,hb,rfl⟩:=hu
   rw [ha] at hb;injection hb with hb;subst hb
   exact hρ a.2) H
 have hlenp:ps.length=parts.toList.length:=by simpa using hlen
 have hzero:(av z).cells.length=z.cells.size:=((c7 (I:=I) (w:=w) z).cells hc4).1.symm
 obtain ⟨arr,hf,hrow,hasz⟩:=kE (I:=I1) (w:=w) (size:=size) (n:=len) rfl ((parts.toList.map (·.1)).zip ps) (parts.map fun (i,x)=>(i,ρc x)).toList (List.replicate len (av z))
  ((Array.range (len*size)).map (z.cells[· %z.cells.size]!)) (ir hc3 hc4 (by rintro rfl;simp at hc2) (Nat.le_refl _)) (by simp) (by simp) (by simp [hlenp])
  (fun q hq=>by
   obtain ⟨ha,hb⟩:=List.of_mem_zip hq
   obtain ⟨x,hx,hx2⟩:=List.mem_map.1 ha
   exact ⟨by rw [←hx2];exact hall2 x hx,(hall1 _ hb).1,(hall1 _ hb).2⟩)
  (fun j q c hq hc=>by
   simp only [List.zip,List.getElem?_zipWith,Option.bind_eq_some_iff] at hq
   simp only [Array.toList_map,List.getElem?_map,Option.map_eq_some_iff] at hc
   obtain ⟨x,hx,rfl⟩:=hc
   cases hpj:ps[j]? with
   | none=>simp [hpj,hx] at hq
   | some p=>
    simp [hpj,hx] at hq
    subst hq
    exact ⟨rfl,hpr j p (ρc x.2) hpj (by simp [hx])⟩)
 obtain ⟨ie,hie,hie2⟩: ∃ie,P.info? e=some ie∧ie.size=size:=by
  have:=hsz;unfold aK at this;simpa only [Option.map_eq_some_iff] using this
 have hiz:ie.zero=some z:=by
  have:=hz;unfold bo at this;simpa [hie] using this
 have hG:aJ w (w.alloc (.cells arr e)) (.cells arr e):=⟨rfl,rfl,rfl,rfl⟩
 have hrun:(execOp ρc o).run P w= .ok (.value (.slice (some ⟨w.heap.size,0,none⟩) len len)) (w.alloc (.cells arr e)):=by
  simp only [execOp,ho]
  refine ap ?_
  subst hie2
  exact run_buildSlice w t e len _ arr ie z hd hie hiz (by omega) hc2 hf
 have:=e9 (d:=d) (s:=slot) (gen:=gen) (k:=size) (n:=len) (cap:=len) (full:=true) H1 hrow hg hB hG (fun j _=>hG.frozen j) (Nat.le_refl _) (fun _=>rfl) (by omega) hrun
 obtain ⟨nx,w',u,σ',I',g1,g2,g3,g4,g5,g6⟩:=this
 exact ⟨nx,w',u,σ',I',g1,g2,g3,g4,m1.ext.trans g5,g6⟩
theorem n2 (hop:ah P o ρ d gen h=some (v,h')) (hρ: ∀x,ab σ I w (ρ x) (ρc x)) (H:ae σ I base w h) (hg:σ gen=none) (hB:aG base w.heap.size):
  ay σ I base w gen ((execOp ρc o).run P w) v h':=by
 cases ho:o.op with
 | move x=>exact j6 (.inl ho) hop hρ H
 | assign x=>exact j6 (.inr ho) hop hρ H
 | pick c a b=>exact mT ho hop hρ H
 | alloc e=>exact mV ho hop H hg hB
 | box e x=>exact mW ho hop hρ H hg hB
 | build t parts=>exact nr ho hop hρ H
 | buildSlice t len parts=>exact n1 ho hop hρ H hg hB
 | load t a=>exact mR ho hop hρ H
 | store t a x=>exact nn ho hop hρ H
 | nilCheck x=>exact mU ho hop hρ H
 | binOp op t x y ty=>exact mZ ho hop hρ H
 | unOp op t x=>exact m5 ho hop hρ H
 | convert src dst x=>exact nA ho hop hρ H hg hB
 | makeInterface t x=>exact m6 ho hop hρ H
 | makeFunc fn first captured=>exact m8 ho hop hρ H
 | makeSlice t l c=>exact nu ho hop hρ H hg hB
 | slice t x lo hi mx=>exact nC ho hop hρ H
 | fieldAddr st x f=>exact m9 ho hop hρ H
 | indexAddr t x ix=>exact na ho hop hρ H
 | index t x ix=>exact nf ho hop hρ H
 | field t x f=>exact ng ho hop hρ H
 | extract x i=>exact nh ho hop hρ H
 | typeAssert x xT aT ok=>exact m7 ho hop hρ H
 | range t x=>exact nD ho hop hρ H hg hB
 | next it isS=>
  cases isS with
  | true=>exact nE ho hop hρ H
  | false=>exact nP ho hop hρ H
 | entry it=>exact nO ho hop hρ H
 | makeMap t r=>exact nM ho hop H hg hB
 | lookup t m k ok=>exact nN ho hop hρ H
 | mapUpdate t m k x=>exact kC (.inl ho) hop hρ H
 | insert t m k x=>exact kC (.inr ho) hop hρ H
 | call c=>
  obtain ⟨callee,args,argTypes⟩:=c
  cases callee with
  | builtin b=>exact nZ ho hop hρ H hg hB
  | value f=>simp [ah,ho] at hop
  | invoke r m=>simp [ah,ho] at hop
 | _=>simp [ah,ho] at hop
end
def bl (P:Program) (f:FuncId) (args:Array Value) (w:World) (R:Value→World→Prop):Prop:=
 (∃v w',(callFunc f args).run P w= .ok (.value v) w'∧R v w')∨
 ((callFunc f args).run P w= .ok (.enter f args) w∧Calls P f args w fun | .returned v,w'=>R v w' | _,_=>False)∨
 (∃row as w1,(callFunc f args).run P w= .ok (.row row as) w1∧Rows P row as w1 R)
theorem bl.mono {P:Program} {f:FuncId} {args:Array Value} {w:World} {R R':Value→World→Prop} (h:bl P f args w R) (hr: ∀v w',R v w'→R' v w'):bl P f args w R':=by
 rcases h with ⟨v,w',h1,h2⟩ | ⟨h1,h2⟩ | ⟨row,as,w1,h1,h2⟩
 ·exact .inl ⟨v,w',h1,hr _ _ h2⟩
 ·exact .inr (.inl ⟨h1,h2.mono fun e w' he=>by cases e<;>first | exact hr _ _ he | exact he⟩)
 ·exact .inr (.inr ⟨row,as,w1,h1,h2.mono hr⟩)
structure kF (σ:ak) (I:af) (base:af) (w:World) (g:Nat) (h':aa) (g':Nat) (w':World) (σ':ak) (I':af):Prop where
 heap:ae σ' I' base w' h'
 ext:ar base σ I w σ' I' w'
 low: ∀k,k<g→σ' k=σ k
 high: ∀k,g'≤k→σ' k=none
 grow:g≤g'
structure ek (σ:ak) (I:af) (base:af) (w:World) (gen g:Nat) (v:AV) (h':aa) (g':Nat) (u:Value) (w':World) (σ':ak) (I':af):Prop where
 rep:ab σ' I' w' v u
 heap:ae σ' I' base w' h'
 ext:ar base σ I w σ' I' w'
 low: ∀k,k<g→k≠gen→σ' k=σ k
 high: ∀k,g'≤k→σ' k=none
 grow:g≤g'
def WF (r:Option Nat):Fence:= { Fence.wide with round:=r}
structure cj (σ:ak) (I:af) (w:World) (σ':ak) (I':af) (w':World):Prop where
 sig: ∀g x,σ g=some x→σ' g=some x
 blk: ∀b,I b→I' b
 kp:aD I w w'
theorem cj.refl (σ:ak) (I:af) (w:World):cj σ I w σ I w:=⟨fun _ _ h=>h,fun _ h=>h,aD.refl I w⟩
theorem cj.trans {σ σ' σ'':ak} {I I' I'':af} {w w' w'':World} (h:cj σ I w σ' I' w') (k:cj σ' I' w' σ'' I'' w''):cj σ I w σ'' I'' w'':=
 ⟨fun g x hx=>k.sig g x (h.sig g x hx),fun b hb=>k.blk b (h.blk b hb),h.kp.trans h.blk k.kp⟩
theorem ar.later {base:af} {σ σ':ak} {I I':af} {w w':World} (h:ar base σ I w σ' I' w'):cj σ I w σ' I' w':=⟨h.sig,h.blk,h.kp⟩
def fh (P:Program) (gl:Nat) (hd:eK) (σ:ak) (I:af) (w:World):Prop:=
 ∃l o k,σ gl=some (l,o,k)∧ ∀(σ1:ak) (I1:af) (w1:World),cj σ I w σ1 I1 w1→ ∀(base:af) (h:aa) (args:List AV) (us:List Value) (g:Nat) (b:Bool) (h':aa) (g':Nat),
  hd args h g=some (b,h',g')→ae σ1 I1 base w1 h→aG base w1.heap.size→us.length=args.length→(∀(j:Nat) (p:AV) (u:Value),args[j]? =some p→us[j]? =some u→ab σ1 I1 w1 p u)→
  (∀k,g≤k→σ1 k=none)→
  ∃fn tmps assign body,(Instr.yield l us.toArray).run P w1= .ok (.round l fn tmps assign body) w1∧
   RoundIn (WF none) 0 P l fn tmps assign body w1 fun e w2=>e= .returned (.bool b)∧ ∃σ2 I2,kF σ1 I1 base w1 g h' g' w2 σ2 I2
theorem fh.later {P:Program} {gl:Nat} {hd:eK} {σ σ':ak} {I I':af} {w w':World} (h:fh P gl hd σ I w) (k:cj σ I w σ' I' w'):fh P gl hd σ' I' w':=by
 obtain ⟨l,o,n,hl,hh⟩:=h
 exact ⟨l,o,n,k.sig _ _ hl,fun σ1 I1 w1 h1=>hh σ1 I1 w1 (k.trans h1)⟩
def Gl (E:ao) (I:af) (w:World):Prop:=E.gl I w
theorem Gl.mono {E:ao} {I I':af} {w w':World} (h:Gl E I w) (hI: ∀b,I b→I' b) (hk: ∀b,I b→w'.heap[b]? =w.heap[b]?):Gl E I' w':=E.glm I I' w w' h hI hk
def bA (E:ao) (ys:Ys) (σ:ak) (I:af) (w:World):Prop:=(∀gl hd,ys.get? gl=some hd→fh E.P gl hd σ I w)∧Gl E I w
theorem bA.later {E:ao} {ys:Ys} {σ σ':ak} {I I':af} {w w':World} (h:bA E ys σ I w) (k:cj σ I w σ' I' w'):bA E ys σ' I' w':=⟨fun gl hd hg=>(h.1 gl hd hg).later k,h.2.mono k.blk k.kp.keep⟩
theorem bA.nil {E:ao} {σ:ak} {I:af} {w:World} (h:Gl E I w):bA E [] σ I w:=⟨fun gl hd hg=>by simp [Ys.get?] at hg,h⟩
def c9 (E:ao) (call:bi):Prop:= ∀(ys:Ys) (σ:ak) (I:af) (base:af) (w:World) (h:aa) (f:FuncId) (args:List AV) (d slot gen g:Nat) (v:AV) (h':aa) (g':Nat) (us:List Value),
 call ys f args d slot gen h g=some (v,h',g')→bA E ys σ I w→ae σ I base w h→aG base w.heap.size→us.length=args.length→(∀(j:Nat) (p:AV) (u:Value),args[j]? =some p→us[j]? =some u→ab σ I w p u)→
 σ gen=none→gen<g→(∀k,g≤k→σ k=none)→
 bl E.P f us.toArray w fun u w'=> ∃σ' I',ek σ I base w gen g v h' g' u w' σ' I'
structure Cx where
 n:Nat
 base:af
 lo:Nat
 r:Option Nat
structure be (C:Cx) (σ:ak) (I:af) (w:World) (s:St) (a:Act):Prop where
 tmp: ∀i,ab σ I w (a7 s.t i) (a.tmps.getD i undef)
 heap:ae σ I C.base w s.h
 fresh: ∀k,s.g≤k→σ k=none
 hb:aG C.base w.heap.size
 hn:C.n≤a.tmps.size
 marks: ∀x∈a.defers,∃D,C.lo≤D∧x= { target:= .collected D,args:= #[]} ∧w.heap[D]? =some (Obj.deferred (some []))
 nodup:a.defers.Nodup
 around: ∀l,C.r=some l→ ∃x,w.heap[l]? =some (Obj.loop x)
 lob:aG C.base C.lo
 losz:C.lo≤w.heap.size
section
variable {E:ao} {call:bi} {ys:Ys} {st:Bool} {d gb:Nat} {C:Cx} {all:Array Oper} {σ:ak} {I:af} {w:World} {s s':St} {a:Act}
theorem gz {x:AV} {u:Value} (hr:ab σ I w x u) (b:Bool):cr x=some b↔u= .bool b:=by
 cases hr with
 | pv p v h=>
  cases h with
  | lit=>cases u<;>simp [cr]
  | _=>simp [cr]
 | _=>simp [cr]
theorem gA (a:Array Value) (i:Nat):a.getD i undef=(a[i]?).getD undef:=by
 simp [Array.getD_eq_getD_getElem?]
theorem n3 (H:be C σ I w s a) (o:Oper):Region.wanted o (yielded all a.tmps)=cc all s.t o:=by
 unfold Region.wanted cc
 cases hg:o.guard with
 | none=>rfl
 | some gw=>
  obtain ⟨j,want⟩:=gw
  simp only []
  have key:yielded all a.tmps j=(((all[j]?).bind (·.dst)).bind fun i=>cr (a7 s.t i)):=by
   unfold yielded
   cases hd:(all[j]?).bind (·.dst) with
   | none=>rfl
   | some i=>
    simp only [Option.bind_some]
    have hr:=H.tmp i
    rw [gA] at hr
    cases ht:a.tmps[i]? with
    | none=>
     rw [ht] at hr
     cases hb:cr (a7 s.t i) with
     | none=>rfl
     | some b=>have:=(gz hr b).1 hb;simp [undef] at this
    | some v=>
     rw [ht] at hr
     simp only [Option.getD_some] at hr
     cases hb:cr (a7 s.t i) with
     | some b=>have:=(gz hr b).1 hb;subst this;rfl
     | none=>
      cases v<;>try rfl
      rename_i b
      have:=(gz hr b).2 rfl
      rw [hb] at this
      cases this
  rw [key]
theorem kG (a:Array Value) (dd:Nat) (v:Value) (hdd:dd<a.size) (i:Nat):(a.setIfInBounds dd v).getD i undef=if dd=i then v else a.getD i undef:=by
 rw [gA,gA,Array.getElem?_setIfInBounds]
 by_cases e:dd=i
 ·subst e;simp [hdd]
 ·simp [e]
theorem be.put {σ':ak} {I':af} {w':World} {h':aa} {g':Nat} {v:AV} {u:Value} (H:be C σ I w s a) {dst:Option Tmp} (hdst: ∀dd,dst=some dd→dd<C.n)
  (hx:ar C.base σ I w σ' I' w') (hv:ab σ' I' w' v u) (hh:ae σ' I' C.base w' h') (hf: ∀k,g'≤k→σ' k=none):be C σ' I' w' { t:=bw s.t dst v,h:=h',g:=g'} (a.put dst u):=by
 have hdef:(a.put dst u).defers=a.defers:=by cases dst<;>rfl
 refine ⟨fun i=> ?_,hh,hf,H.hb.mono hx.below.size,?_,?_,?_,?_,H.lob,Nat.le_trans H.losz hx.below.size⟩
 ·cases dst with
  | none=>exact hx.rep (H.tmp i)
  | some dd=>
   simp only [bw,Act.put]
   rw [fX,kG _ _ _ (Nat.lt_of_lt_of_le (hdst dd rfl) H.hn)]
   by_cases e:dd=i
   ·rw [if_pos e,if_pos e];exact hv
   ·rw [if_neg e,if_neg e];exact hx.rep (H.tmp i)
 ·cases dst with
  | none=>exact H.hn
  | some dd=>simp only [Act.put,Array.size_setIfInBounds];exact H.hn
 ·rw [hdef]
  intro x hx'
  obtain ⟨D,h1,h2,h3⟩:=H.marks x hx'
  exact ⟨D,h1,h2,hx.kp.dfr D h3⟩
 ·rw [hdef];exact H.nodup
 ·intro l hl
  obtain ⟨x,hx'⟩:=H.around l hl
  obtain ⟨x',h1,_⟩:=hx.kp.loop l x hx'
  exact ⟨x',h1⟩
structure iz (C:Cx) (i:Nat) (σ:ak) (I:af) (w:World) (s:St) (σ':ak) (I':af) (w':World) (s':St) (a':Act):Prop where
 rel:be C σ' I' w' s' a'
 ext:ar C.base σ I w σ' I' w'
 low: ∀k,k<s.g→k≠i→σ' k=σ k
 grow:s.g≤s'.g
theorem kH {r:Option Nat} {o:Oper} {f:FuncId} {args:Array Value} {next:Act→World→Prop} {Q:Exit→Act→World→Prop} (hd:bl E.P f args w fun u w'=>next (a.put o.dst u) w'):
  o.uponIn (WF r) 0 E.P a next Q ((callFunc f args).run E.P w):=by
 rcases hd with ⟨v,w',h1,h2⟩ | ⟨h1,h2⟩ | ⟨row,as,w1,h1,h2⟩
 ·rw [h1];exact h2
 ·rw [h1]
  refine ⟨fun h=>by simp [WF,Fence.wide] at h,?_⟩
  exact callsIn_wide.2 (h2.mono fun e w' he=>by cases e<;>first | exact he | exact he.elim)
 ·rw [h1]
  refine ⟨fun h=>by simp [WF,Fence.wide] at h,fun c cs _=> ?_⟩
  obtain ⟨v,w',hR,hs⟩:=h2 c cs
  exact ⟨v,w',hR,stepsIn_wide.2 hs⟩
theorem kI {x:AV} {u:Value} (hr:ab σ I w x u) {f:FuncId} {b c:List AV} (hc:cJ x=some (f,b,c)):
  ∃vb vc:List Value,u= .func (.func f) vb.toArray vc.toArray∧vb.length=b.length∧vc.length=c.length∧
   (∀(j:Nat) (p:AV) (v:Value),b[j]? =some p→vb[j]? =some v→ab σ I w p v)∧(∀(j:Nat) (p:AV) (v:Value),c[j]? =some p→vc[j]? =some v→ab σ I w p v):=by
 cases hr with
 | pv p v h=>
  cases h with
  | clo fn a b' va vb hla hlb hra hrb=>
   cases fn<;>simp [cJ] at hc
   obtain ⟨rfl,rfl,rfl⟩:=hc
   refine ⟨va,vb,rfl,by simpa using hla,by simpa using hlb,fun j p v hp hv=> ?_,fun j p v hp hv=> ?_⟩
   ·simp only [List.getElem?_map,Option.map_eq_some_iff] at hp
    obtain ⟨q,hq,rfl⟩:=hp
    exact .pv _ _ (hra j q v hq hv)
   ·simp only [List.getElem?_map,Option.map_eq_some_iff] at hp
    obtain ⟨q,hq,rfl⟩:=hp
    exact .pv _ _ (hrb j q v hq hv)
  | _=>simp [cJ] at hc
 | clo fn a b' va vb hla hlb hra hrb=>
  cases fn<;>simp [cJ] at hc
  obtain ⟨rfl,rfl,rfl⟩:=hc
  exact ⟨va,vb,rfl,hla,hlb,hra,hrb⟩
 | _=>simp [cJ] at hc
theorem fi {b c:List AV} {vb vc:List Value} (hl:vb.length=b.length) (hb: ∀(j:Nat) (p:AV) (v:Value),b[j]? =some p→vb[j]? =some v→ab σ I w p v)
  (hc: ∀(j:Nat) (p:AV) (v:Value),c[j]? =some p→vc[j]? =some v→ab σ I w p v): ∀(j:Nat) (p:AV) (v:Value),(b++c)[j]? =some p→(vb++vc)[j]? =some v→ab σ I w p v:=by
 intro j p v hp hv
 rw [List.getElem?_append] at hp hv
 rw [hl] at hv
 split at hp
 ·rename_i hj;rw [if_pos hj] at hv;exact hb j p v hp hv
 ·rename_i hj;rw [if_neg hj] at hv;exact hc _ p v hp hv
theorem n4 {P:Program} {x:AV} {u:Value} (hr:ab σ I w x u) {name:String} {f:FuncId} {rv:AV} (hm:gO P x name=some (f,rv)):
  ∃v,ab σ I w rv v∧ ∀(args:Array Value) (w':World),(callMethod u name args).run P w'=(callFunc f (#[v]++args)).run P w':=by
 unfold gO at hm
 split at hm
 ·rename_i t p
  cases hr;rename_i hp;cases hp;rename_i v hp
  simp only [Option.bind_eq_some_iff] at hm
  obtain ⟨m,⟨i,hi,hf⟩,hm⟩:=hm
  split at hm
  rotate_left
  ·cases hm
  rename_i hpath
  have hpl:m.path.toList=[]:=by simpa using hpath
  have key: ∀(d:TypeDesc) (b:Bool),m.func=some (f,b)→P.underlying t=some d→rv= .pv p→(∀nm w',(receiverAt t (.val v) b nm).run P w'= .ok v w')→
    ∃v',ab σ I w rv v'∧ ∀(args:Array Value) (w':World),(callMethod (.iface t v) name args).run P w'=(callFunc f (#[v']++args)).run P w':=by
   rintro d b hfn hd rfl hrec
   refine ⟨v,.pv _ _ hp,fun args w'=> ?_⟩
   unfold callMethod
   have hn:P.types.size+Made.depth=(P.types.size+99)+1:=rfl
   simp only [Sem.run_bind,show (program:Sem Program).run P w'= .ok P w' from rfl,Result.andThen_ok]
   rw [hn,method]
   simp only [Sem.run_bind,dH hi,Result.andThen_ok,hf,hpl,follow,Sem.run_pure,hfn,hrec]
  split at hm
  ·rename_i f' e h1 h2
   simp only [Option.some.injEq,Prod.mk.injEq] at hm
   obtain ⟨rfl,rfl⟩:=hm
   refine key _ _ h1 h2 rfl fun nm w'=> ?_
   unfold receiverAt
   simp only [Sem.run_bind,aq h2,Result.andThen_ok]
   rfl
  ·cases hm
  ·rename_i f' d hne h1 h2
   simp only [Option.some.injEq,Prod.mk.injEq] at hm
   obtain ⟨rfl,rfl⟩:=hm
   refine key _ _ h1 h2 rfl fun nm w'=> ?_
   unfold receiverAt
   simp only [Sem.run_bind,aq h2,Result.andThen_ok]
   cases d<;>first | rfl | exact absurd rfl (hne _)
  ·cases hm
 ·cases hm
theorem n5 {P:Program} {o:Oper} {ρ:Operand→AV} {d gen:Nat} {h:aa} {r:AV×aa} (hop:ah P o ρ d gen h=some r): ∀c,o.op≠ .defer c:=by
 intro c ho
 simp [ah,ho] at hop
theorem n6 (hcall:c9 E call) {i:Nat} {o:Oper} (hi:all[i]? =some o) (hdst:dE C.n o=true) (hs:bp E call ys st d gb all i o s=some s') (H:be C σ I w s a) (hys:bA E ys σ I w)
  (hgen:σ (gb+i)=none) (hlt:gb+i<s.g) {Q:Exit→Act→World→Prop} {K:Act→World→Prop}
  (hK: ∀σ' I' w' a',iz C (gb+i) σ I w s σ' I' w' s' a'→K a' w'):wpOpIn (WF C.r) 0 E.P all Q i K a w:=by
 have hdst': ∀dd,o.dst=some dd→dd<C.n:=fun dd hd=>by simpa [dE,hd] using hdst
 unfold bp at hs
 simp only [Option.map_eq_some_iff] at hs
 obtain ⟨⟨v,h',g'⟩,hop,rfl⟩:=hs
 unfold cK at hop
 unfold wpOpIn
 rw [hi]
 simp only []
 rw [n3 H o]
 cases hw:cc all s.t o with
 | false=>
  rw [hw] at hop
  simp only [Bool.false_eq_true,if_false,Option.some.injEq,Prod.mk.injEq] at hop ⊢
  obtain ⟨rfl,rfl,rfl⟩:=hop
  exact ⟨fun _ _=>trivial,hK σ I w _ ⟨H.put hdst' (ar.refl _ _ _ _) (.pv _ _ (.lit _)) H.heap H.fresh,ar.refl _ _ _ _,fun _ _ _=>rfl,Nat.le_refl _⟩⟩
 | true=>
  rw [hw] at hop
  simp only [if_true] at hop ⊢
  refine ⟨fun _ _=>trivial,?_⟩
  have hρ:=fun x=>il H.tmp x
  unfold bj at hop
  split at hop
  ·rename_i f args ats ho
   rw [Oper.semAt_eq _ _ _ (fun c e=>by rw [ho] at e;cases e)]
   have hargs: ∀(j:Nat) (p:AV) (v:Value),(args.toList.map (aB s.t))[j]? =some p→(args.toList.map a.eval)[j]? =some v→ab σ I w p v:=by
    intro j p v hp hv
    simp only [List.getElem?_map,Option.map_eq_some_iff] at hp hv
    obtain ⟨x,hx,rfl⟩:=hp
    obtain ⟨y,hy,rfl⟩:=hv
    rw [hx] at hy
    injection hy with hy
    subst hy
    exact hρ x
   split at hop
   ·rename_i d' s' gl hyl
    simp only [Option.bind_eq_some_iff,Option.map_eq_some_iff,Prod.mk.injEq] at hop
    obtain ⟨hd,ac,⟨b,h1,g1⟩,hhd,rfl,rfl,rfl⟩:=hop
    have hu:=hρ f
    rw [hyl] at hu
    obtain ⟨l,ho',k',hl,hy⟩:=hys.1 gl hd ac
    cases hva:a.eval f<;>rw [hva] at hu<;>cases hu
    rename_i b' o' k'' hσ
    rw [hl] at hσ
    simp only [Option.some.injEq,Prod.mk.injEq] at hσ
    obtain ⟨rfl,rfl,rfl⟩:=hσ
    obtain ⟨fn,tmps,assign,body,hrun,hround⟩:=hy σ I w (cj.refl _ _ _) C.base s.h _ (args.toList.map a.eval) s.g b h1 g1 hhd H.heap H.hb (by simp) hargs H.fresh
    have hexec:(execOp a.eval o).run E.P w= .ok (.round l fn tmps assign body) w:=by
     have harr:args.map a.eval=(args.toList.map a.eval).toArray:=by apply Array.ext';simp
     rw [←hrun,←harr]
     simp [execOp,ho,resolve,hva,Deferred.ofValue,invoke]
    rw [hexec]
    refine ⟨fun h=>by simp [WF,Fence.wide] at h,RoundIn.mono hround ?_⟩
    rintro e w2 ⟨rfl,σ2,I2,hp⟩
    exact hK σ2 I2 w2 _ ⟨H.put hdst' hp.ext (.pv _ _ (.lit _)) hp.heap hp.high,hp.ext,fun k hk _=>hp.low k hk,hp.grow⟩
   ·simp only [Option.bind_eq_some_iff] at hop
    obtain ⟨⟨fid,b,c⟩,hcal,hop⟩:=hop
    split at hop
    ·cases hop
    ·obtain ⟨vb,vc,hu,hlb,hlc,hrb,hrc⟩:=kI (hρ f) hcal
     have hexec:(execOp a.eval o).run E.P w=(callFunc fid (vb++args.toList.map a.eval++vc).toArray).run E.P w:=by
      have harr:vb.toArray++args.map a.eval++vc.toArray=(vb++args.toList.map a.eval++vc).toArray:=by
       apply Array.ext'
       simp
      rw [←harr]
      simp [execOp,ho,resolve,hu,Deferred.ofValue,invoke]
     rw [hexec]
     refine kH (bl.mono (hcall ys σ I C.base w s.h fid _ d _ (gb+i) s.g v h' g' (vb++args.toList.map a.eval++vc) hop hys H.heap H.hb (by simp [hlb,hlc]) ?_ hgen hlt H.fresh) ?_)
     ·exact fi (by simp [hlb]) (fi hlb hrb hargs) hrc
     ·rintro u w' ⟨σ',I',hp⟩
      exact hK σ' I' w' _ ⟨H.put hdst' hp.ext hp.rep hp.heap hp.high,hp.ext,hp.low,hp.grow⟩
  ·rename_i r m args ats ho
   rw [Oper.semAt_eq _ _ _ (fun c e=>by rw [ho] at e;cases e)]
   simp only [Option.bind_eq_some_iff] at hop
   obtain ⟨⟨fid,rv⟩,hmth,hop⟩:=hop
   obtain ⟨v1,hrv,hrun⟩:=n4 (hρ r) hmth
   have hargs: ∀(j:Nat) (p:AV) (v:Value),(args.toList.map (aB s.t))[j]? =some p→(args.toList.map a.eval)[j]? =some v→ab σ I w p v:=by
    intro j p v hp hv
    simp only [List.getElem?_map,Option.map_eq_some_iff] at hp hv
    obtain ⟨x,hx,rfl⟩:=hp
    obtain ⟨y,hy,rfl⟩:=hv
    rw [hx] at hy
    injection hy with hy
    subst hy
    exact hρ x
   have hexec:(execOp a.eval o).run E.P w=(callFunc fid ([v1]++args.toList.map a.eval).toArray).run E.P w:=by
    have harr: #[v1]++args.map a.eval=([v1]++args.toList.map a.eval).toArray:=by
     apply Array.ext'
     simp
    have h0: ∀(x:Value) (l:Array Value),(#[x]++l)[0]? =some x:=fun x l=>by
     rw [Array.getElem?_append_left (by simp)];rfl
    have h1: ∀(x:Value) (l:Array Value),(#[x]++l).extract 1 (#[x]++l).size=l:=fun x l=>by
     apply Array.ext'
     simp
    rw [←harr,←hrun]
    simp only [execOp,ho,resolve,Sem.run_bind,Sem.run_pure,Result.andThen_ok,invoke,h0,h1]
   rw [hexec]
   refine kH (bl.mono (hcall ys σ I C.base w s.h fid _ d _ (gb+i) s.g v h' g' ([v1]++args.toList.map a.eval) hop hys H.heap H.hb (by simp) ?_ hgen hlt H.fresh) ?_)
   ·refine fi rfl (fun j p u hp hu=> ?_) hargs
    cases j with
    | zero=>simp at hp hu;subst hp;subst hu;exact hrv
    | succ j=>simp at hp
   ·rintro u w' ⟨σ',I',hp⟩
    exact hK σ' I' w' _ ⟨H.put hdst' hp.ext hp.rep hp.heap hp.high,hp.ext,hp.low,hp.grow⟩
  ·split at hop
   ·cases hop
   ·simp only [Option.map_eq_some_iff,Prod.mk.injEq] at hop
    obtain ⟨⟨v1,h1⟩,hop,rfl,rfl,rfl⟩:=hop
    rw [Oper.semAt_eq _ _ _ (n5 hop)]
    obtain ⟨nx,w',u,σ',I',g1,g2,g3,g4,g5,g6⟩:=n2 hop hρ H.heap hgen H.hb
    rw [g1]
    have hfr: ∀k,s.g≤k→σ' k=none:=fun k hk=>by rw [g6 k (by omega)];exact H.fresh k hk
    have:iz C (gb+i) σ I w s σ' I' w' { t:=bw s.t o.dst v1,h:=h1,g:=s.g} (a.put o.dst u):=⟨H.put hdst' g5 g3 g4 hfr,g5,fun k _ hk=>g6 k hk,Nat.le_refl _⟩
    rcases g2 with rfl | ⟨rfl,rfl⟩
    ·exact hK σ' I' w' _ this
    ·exact hK σ' I' w' _ this
end
def aV (l:List (K2×am)) (h:aa):aa:=l.foldl (fun h p=>hput h p.1.1 p.1.2 p.2) h
theorem iA {k:K2} : ∀ {l:List (K2×am)} {h:aa},(∀p∈l,p.1≠k)→ac (aV l h) k.1 k.2=ac h k.1 k.2
 | [],_,_=>rfl
 | p::l,h,hl=>by
  show ac (aV l (hput h p.1.1 p.1.2 p.2)) k.1 k.2=_
  rw [iA fun q hq=>hl q (by simp [hq]),bz,if_neg]
  rintro ⟨e1,e2⟩
  exact hl p (by simp) (Prod.ext e1 e2)
theorem kJ {d s:Nat} {r:am} : ∀ {l:List (K2×am)} {h:aa},(∀p∈l,p.1≠(d,s))→aV l (hput h d s r)=hput (aV l h) d s r
 | [],_,_=>rfl
 | p::l,h,hl=>by
  show aV l (hput (hput h d s r) p.1.1 p.1.2 p.2)=hput (aV l (hput h p.1.1 p.1.2 p.2)) d s r
  rw [ge h r p.2 (fun e=>hl p (by simp) (Prod.ext e.1.symm e.2.symm)),kJ fun q hq=>hl q (by simp [hq])]
theorem kK: ∀ {l l':List (K2×am)} {h:aa},(∀p∈l,∀q∈l',p.1≠q.1)→aV l (aV l' h)=aV l' (aV l h)
 | [],_,_,_=>rfl
 | p::l,l',h,hl=>by
  show aV l (hput (aV l' h) p.1.1 p.1.2 p.2)=aV l' (aV l (hput h p.1.1 p.1.2 p.2))
  rw [←kJ (d:=p.1.1) (s:=p.1.2) fun q hq e=>hl p (by simp) q hq e.symm,kK fun q hq=>hl q (by simp [hq])]
theorem gB: ∀ {ks:List K2} {x:K2},(bC ks x).isNone=true→x∉ks
 | [],x,_=>by simp
 | k::ks,x,h=>by
  unfold bC at h
  split at h
  ·cases h
  ·rename_i hk
   simp only [Option.isNone_map] at h
   simp only [List.mem_cons,not_or]
   exact ⟨fun e=>hk (by subst e;simp),gB h⟩
def da (R W:List K2) (F:aa→Nat→Option (AV×aa×Nat)):Prop:= ∀h g v h' g',F h g=some (v,h',g')→
 ∃l:List (K2×am),(∀p∈l,p.1∈W)∧h'=aV l h∧g'=g∧ ∀h2 g2,(∀k∈R,ac h2 k.1 k.2=ac h k.1 k.2)→F h2 g2=some (v,aV l h2,g2)
theorem cO.loc {R W:List K2} {F} (hF:cO F):da R W F:=fun h g v h' g' e=>by
 obtain ⟨h1,h2,h3⟩:=hF h g v h' g' e
 exact ⟨[],by simp,h1,h2,fun h2 g2 _=>h3 h2 g2⟩
theorem ia.loc {d s:Nat} {F} (hF:ia d s F):da [(d,s)] [(d,s)] F:=fun h g v h' g' e=>by
 obtain ⟨r,h1,h2,h3,h4⟩:=hF h g v h' g' e
 exact ⟨[((d,s),r)],by simp,h2,h3,fun h2 g2 hk=>h4 h2 g2 (by rw [hk (d,s) (by simp)];exact h1)⟩
theorem n7 {a b:bg} (h:fN a b=true):(∀k∈a.w,k∉b.r∧k∉b.w)∧ ∀k∈b.w,k∉a.r:=by
 simp only [fN,Bool.and_eq_true,List.all_eq_true] at h
 exact ⟨fun k hk=>⟨gB (h.1 k hk).1,gB (h.1 k hk).2⟩,fun k hk=>gB (h.2 k hk)⟩
theorem n9 {Fx Fy:aa→Nat→Option (AV×aa×Nat)} {a b:bg} (hx:da a.r a.w Fx) (hy:da b.r b.w Fy) (hd:fN a b=true) {h hx' hy':aa} {g gx gy:Nat} {vx vy:AV}
  (ex:Fx h g=some (vx,hx',gx)) (ey:Fy hx' gx=some (vy,hy',gy)): ∃h' g',Fy h g=some (vy,h',g')∧Fx h' g'=some (vx,hy',gy):=by
 obtain ⟨d1,d2⟩:=n7 hd
 obtain ⟨lx,x1,rfl,rfl,x4⟩:=hx _ _ _ _ _ ex
 obtain ⟨ly,y1,rfl,rfl,y4⟩:=hy _ _ _ _ _ ey
 refine ⟨_,_,y4 h _ fun k hk=>(iA fun p hp e=>(d1 _ (x1 p hp)).1 (e▸hk)).symm,?_⟩
 rw [x4 _ _ fun k hk=>iA fun p hp e=>d2 _ (y1 p hp) (e▸hk),kK fun p hp q hq e=>(d1 _ (x1 p hp)).2 (e▸y1 q hq)]
section
variable {E:ao} {call:bi} {ys:Ys} {st:Bool} {d gen gb:Nat} {all:Array Oper} {P:Program} {o:Oper} {ρ:Operand→AV} {h h' h2:aa} {v:AV}
theorem em {R W:List K2} {F:aa→Option (AV×aa)} (hF: ∀h v h',F h=some (v,h')→ ∃l:List (K2×am),(∀p∈l,p.1∈W)∧h'=aV l h∧ ∀h2,(∀k∈R,ac h2 k.1 k.2=ac h k.1 k.2)→F h2=some (v,aV l h2)):
  da R W (fun h g=>(F h).map fun (v,h)=>(v,h,g)):=fun h g v h' g' e=>by
 simp only [Option.map_eq_some_iff,Prod.mk.injEq] at e
 obtain ⟨⟨a,ha⟩,he,rfl,rfl,rfl⟩:=e
 obtain ⟨l,k1,k2,k3⟩:=hF h a _ he
 exact ⟨l,k1,k2,rfl,fun h2 g2 hr=>by simp [k3 h2 hr]⟩
theorem iB {R W:List K2} {F:aa→Option (AV×aa)} (hF: ∀h v h' h2,(∀k∈R,ac h2 k.1 k.2=ac h k.1 k.2)→F h=some (v,h')→h'=h∧F h2=some (v,h2)):
  da R W (fun h g=>(F h).map fun (v,h)=>(v,h,g)):=em fun h v h' e=>⟨[],by simp,(hF h v h' h (fun _ _=>rfl) e).1,fun h2 hr=>(hF h v h' h2 hr e).2⟩
theorem db {d s g:Nat} (h0:ac h2 d s=ac h d s):live h2 d s g=live h d s g:=by unfold live;rw [h0]
theorem de (h1: ∀f a t,o.op≠ .call { callee:= .value f,args:=a,argTypes:=t}) (h2: ∀r m a t,o.op≠ .call { callee:= .invoke r m,args:=a,argTypes:=t}) (hc:aY E o≠ .al):
  bj E call ys true d gen o ρ=fun h g=>(ah E.P o ρ d gen h).map fun (v,h)=>(v,h,g):=by
 funext h g
 unfold bj
 split
 ·rename_i ho;exact absurd ho (h1 _ _ _)
 ·rename_i ho;exact absurd ho (h2 _ _ _ _)
 ·have:(aY E o== .al)=false:=by cases hx:aY E o<;>first | rfl | exact absurd hx hc
  simp [this]
theorem iC {l:List AV} {ps:List PV} (hl:aF l=some ps) (n:Nat) (h:aa):bn (n+1) l h=some (ps,h):=by
 have key: ∀(l:List AV) (ps:List PV),aF l=some ps→bF (pk h (n+1)) l=some (ps,[]):=by
  intro l
  induction l with
  | nil=>intro ps hp;simp [aF] at hp;subst hp;rfl
  | cons a l ih=>
   intro ps hp
   cases a<;>simp only [aF,Option.map_eq_some_iff,reduceCtorEq] at hp
   obtain ⟨qs,hq,rfl⟩:=hp
   have h1: ∀p,pk h (n+1) (.pv p)=some (p,[]):=fun _=>rfl
   simp only [bF,h1,ih _ hq,Option.bind_some,Option.map_some,List.append_nil]
 simp [bn,key l ps hl,marks]
theorem kL {x:AV} (hx:(aF [x]).isSome=true): ∃p,x= .pv p:=by
 cases x<;>simp [aF] at hx
 exact ⟨_,rfl⟩
theorem kM {p:PV} (n:Nat) (h:aa):frz (n+1) (.pv p) h=some (p,h):=rfl
theorem oa {t:TypeId} {a:Operand} (ho:o.op= .load t a) (hr: ∀k∈aA (ρ a),ac h2 k.1 k.2=ac h k.1 k.2) (e:ah P o ρ d gen h=some (v,h')):h'=h∧ah P o ρ d gen h2=some (v,h2):=by
 simp only [ah,ho] at e ⊢
 refine bind_some e fun m e=>bind_some e fun ag e=> ?_
 split at e
 ·rename_i d1 s g i off hx
  rw [hx] at hr
  rw [db (h:=h) (h2:=h2) (g:=g) (hr (d1,s) (by simp [aA]))]
  split at e
  ·rename_i w0 fz hl
   simp only [hl]
   split at e
   ·rename_i hi;simp only [hi,if_true];exact map_some e
   ·cases e
  ·rename_i k0 e0 xs0 fz hl
   simp only [hl]
   exact bind_some e fun x e=>map_some e
  ·cases e
 ·exact map_some e
 ·cases e
theorem oc {t:TypeId} {x ix:Operand} (ho:o.op= .indexAddr t x ix) (hr: ∀k∈aA (ρ x),ac h2 k.1 k.2=ac h k.1 k.2) (e:ah P o ρ d gen h=some (v,h')):
  h'=h∧ah P o ρ d gen h2=some (v,h2):=by
 simp only [ah,ho] at e ⊢
 refine bind_some e fun i e=> ?_
 split at e
 ·refine bind_some e fun size e=> ?_
  split at e
  ·rename_i hi;rw [if_pos hi];exact map_some e
  ·cases e
 ·rename_i d1 s g off n full hd hx
  rw [hx] at hr
  refine bind_some e fun size e=> ?_
  rw [db (h:=h) (h2:=h2) (g:=g) (hr (d1,s) (by simp [aA]))]
  split at e
  ·rename_i k0 e0 xs0 fz hl
   simp only [hl]
   split at e
   ·rename_i hi;rw [if_pos hi];injection e with e;injection e with e1 e2;subst e1 e2;exact ⟨rfl,rfl⟩
   ·cases e
  ·cases e
 ·refine bind_some e fun size e=> ?_
  split at e
  ·rename_i hi;rw [if_pos hi];injection e with e;injection e with e1 e2;subst e1 e2;exact ⟨rfl,rfl⟩
  ·cases e
 ·refine bind_some e fun size e=> ?_
  split at e
  ·rename_i hi;rw [if_pos hi];injection e with e;injection e with e1 e2;subst e1 e2;exact ⟨rfl,rfl⟩
  ·cases e
 ·cases e
theorem od {t:TypeId} {m k:Operand} {ok:Bool} (ho:o.op= .lookup t m k ok) (hr: ∀k∈aA (ρ m),ac h2 k.1 k.2=ac h k.1 k.2) (e:ah P o ρ d gen h=some (v,h')):h'=h∧ah P o ρ d gen h2=some (v,h2):=by
 simp only [ah,ho] at e ⊢
 split at e
 ·refine bind_some e fun kd e=> ?_
  exact map_some e
 ·rename_i d1 s g key hd hx hk
  rw [hx] at hr
  rw [db (h:=h) (h2:=h2) (g:=g) (hr (d1,s) (by simp [aA]))]
  split at e
  ·rename_i c0 es0 hl
   simp only [hl]
   refine bind_some e fun kd e=> ?_
   split at e
   ·simp only [Option.some.injEq,Prod.mk.injEq] at e ⊢; exact ⟨e.2.symm,e.1,trivial⟩
   ·exact map_some e
   ·cases e
  ·cases e
 ·cases e
theorem oe {t:TypeId} {a x:Operand} (ho:o.op= .store t a x) (hpv:(aF [ρ x]).isSome=true) (e:ah P o ρ d gen h=some (v,h')):
  ∃l:List (K2×am),(∀p∈l,p.1∈aA (ρ a))∧h'=aV l h∧ ∀h2,(∀k∈aA (ρ a),ac h2 k.1 k.2=ac h k.1 k.2)→ah P o ρ d gen h2=some (v,aV l h2):=by
 obtain ⟨p,hp⟩:=kL hpv
 simp only [ah,ho,bind,Option.bind_eq_some_iff] at e ⊢
 obtain ⟨m,hm,e⟩:=e
 split at e
 rotate_left
 ·cases e
 rename_i hc
 split at e
 rotate_left
 ·cases e
 rename_i d1 s g i off hx
 split at e
 ·rename_i w hl
  split at e
  ·rename_i hi
   simp only [Option.map_eq_some_iff,Prod.mk.injEq] at e
   obtain ⟨v',hv',rfl,rfl⟩:=e
   refine ⟨[((d1,s),⟨g,.box v' false⟩)],by simp [hx,aA],rfl,fun h2 hr=>⟨m,hm,?_⟩⟩
   have:=db (g:=g) (hr (d1,s) (by simp [hx,aA]))
   rw [if_pos hc]
   simp only [hx,this,hl,hi,if_true,hv',Option.map_some]
   rfl
  ·cases e
 ·rename_i k0 e0 xs0 hl
  rw [hp] at e
  have e:(frz an (.pv p) h).bind _=_:=e
  simp only [kM 7 h,an,Option.bind_some] at e
  split at e
  ·rename_i k e1 xs hl2
   have hh:=hl.symm.trans hl2
   injection hh with hh1 hh2 hh3
   subst hh1 hh2 hh3
   simp only [Option.bind_eq_some_iff] at e
   obtain ⟨y,hy,e⟩:=e
   split at e
   ·rename_i hle
    simp only [Option.map_eq_some_iff,Prod.mk.injEq] at e
    obtain ⟨y',hy',rfl,rfl⟩:=e
    refine ⟨[((d1,s),⟨g,.row k0 e0 (xs0.set i y') false⟩)],by simp [hx,aA],rfl,fun h2 hr=>⟨m,hm,?_⟩⟩
    have hlv:=db (g:=g) (hr (d1,s) (by simp [hx,aA]))
    rw [hp] at hc
    rw [hp]
    rw [if_pos hc]
    simp only [hx,hlv,hl,an,kM 7 h2,Option.bind_some,hy]
    rw [if_pos hle]
    simp only [hy',Option.map_some]
    rfl
   ·cases e
  ·cases e
 ·cases e
theorem kN {t:TypeId} {m k x:Operand} (ho:o.op= .mapUpdate t m k x∨o.op= .insert t m k x) (hpv:(aF [ρ x]).isSome=true) (e:ah P o ρ d gen h=some (v,h')):
  ∃l:List (K2×am),(∀p∈l,p.1∈aA (ρ m))∧h'=aV l h∧ ∀h2,(∀k∈aA (ρ m),ac h2 k.1 k.2=ac h k.1 k.2)→ah P o ρ d gen h2=some (v,aV l h2):=by
 obtain ⟨p,hp⟩:=kL hpv
 have hkp: ∀h:aa,eJ h (.pv p)=some (.pv p,h):=fun h=>rfl
 have key: ∀h:aa,ah P o ρ d gen h=(match P.underlying t,ρ m,ρ k with
  | some (.map kt _),.mref d s g,.pv (.lit key)=>(cq P kt).bind fun kd=>match live h d s g with
   | .map clock es=>match cH kd key es 0 with
    | some (some (i,_))=>some (a6,hput h d s ⟨g,.map clock (es.set i ⟨((es[i]?).map (·.born)).getD 0,key,.pv p⟩)⟩)
    | some none=>some (a6,hput h d s ⟨g,.map (clock+1) (es++[⟨clock,key,.pv p⟩])⟩)
    | none=>none
   | _=>none
  | _,_,_=>none):=by
  intro h
  rcases ho with ho | ho<;>(simp only [ah,ho,hp,hkp,Option.bind_some];rfl)
 rw [key] at e
 split at e
 rotate_left
 ·cases e
 rename_i kt vt d1 s g ky hd hm hk
 simp only [Option.bind_eq_some_iff] at e
 obtain ⟨kd,hkd,e⟩:=e
 have fin: ∀(r:am),(∀h2:aa,live h2 d1 s g=live h d1 s g→ah P o ρ d gen h2=some (a6,hput h2 d1 s r))→v=a6→h'=hput h d1 s r→
   ∃l:List (K2×am),(∀p∈l,p.1∈aA (ρ m))∧h'=aV l h∧ ∀h2,(∀k∈aA (ρ m),ac h2 k.1 k.2=ac h k.1 k.2)→ah P o ρ d gen h2=some (v,aV l h2):=by
  intro r hr hv hh
  subst hv hh
  exact ⟨[((d1,s),r)],by simp [hm,aA],rfl,fun h2 hk2=>hr h2 (db (hk2 (d1,s) (by simp [hm,aA])))⟩
 split at e
 rotate_left
 ·cases e
 rename_i clock es hl
 split at e
 ·rename_i i v0 hf
  simp only [Option.some.injEq,Prod.mk.injEq] at e
  refine fin ⟨g,.map clock (es.set i ⟨((es[i]?).map (·.born)).getD 0,ky,.pv p⟩)⟩ (fun h2 hlv=> ?_) e.1.symm e.2.symm
  rw [key]
  simp only [hd,hm,hk,hkd,Option.bind_some,hlv,hl,hf]
 ·rename_i hf
  simp only [Option.some.injEq,Prod.mk.injEq] at e
  refine fin ⟨g,.map (clock+1) (es++[⟨clock,ky,.pv p⟩])⟩ (fun h2 hlv=> ?_) e.1.symm e.2.symm
  rw [key]
  simp only [hd,hm,hk,hkd,Option.bind_some,hlv,hl,hf]
 ·cases e
theorem og {t:TypeId} {len:Nat} {parts:Array (Nat×Operand)} (ho:o.op= .buildSlice t len parts) (hpv:(aF (parts.toList.map fun q=>ρ q.2)).isSome=true) (e:ah P o ρ d gen h=some (v,h')):
  ∃l:List (K2×am),(∀p∈l,p.1∈o.dst.toList.map fun s=>(d,s))∧h'=aV l h∧ ∀h2:aa,ah P o ρ d gen h2=some (v,aV l h2):=by
 obtain ⟨ps,hps⟩:=Option.isSome_iff_exists.1 hpv
 have hfz: ∀h:aa,bn an (parts.toList.map fun q=>ρ q.2) h=some (ps,h):=fun h=>iC hps 7 h
 simp only [ah,ho] at e ⊢
 split at e
 rotate_left
 ·cases e
 simp only [bind,Option.bind_eq_some_iff] at e ⊢
 obtain ⟨size,hsz,e⟩:=e
 split at e
 ·rename_i h0
  simp only [Option.some.injEq,Prod.mk.injEq] at e
  obtain ⟨rfl,rfl⟩:=e
  exact ⟨[],by simp,rfl,fun h2=>⟨size,hsz,by rw [if_pos h0];rfl⟩⟩
 ·rename_i h0
  simp only [Option.bind_eq_some_iff] at e
  obtain ⟨z,hz,s,hs,e⟩:=e
  split at e
  rotate_left
  ·cases e
  rename_i h1
  simp only [hfz,Option.bind_some] at e
  split at e
  rotate_left
  ·cases e
  rename_i h3
  simp only [Option.some.injEq,Prod.mk.injEq] at e
  obtain ⟨rfl,rfl⟩:=e
  refine ⟨[((d,s),_)],by simp [hs],rfl,fun h2=>⟨size,hsz,?_⟩⟩
  rw [if_neg h0]
  simp only [hz,hs,Option.bind_some]
  rw [if_pos h1]
  simp only [hfz,Option.bind_some]
  rw [if_pos h3]
  rfl
theorem oh {size:Nat} {x:AV} {ys:List PV} (hr: ∀k∈aA x,ac h2 k.1 k.2=ac h k.1 k.2) (e:b9 size h x=some ys):b9 size h2 x=some ys:=by
 unfold b9 at e ⊢
 split at e
 ·exact e
 ·exact e
 ·rename_i d1 s g off n full
  rw [db (hr (d1,s) (by simp [aA]))]
  exact e
 ·cases e
theorem oi {e size bytes slot:Nat} {tgt:AV} {ys:List PV} (he:dT e size bytes d slot gen h tgt ys=some (v,h')):
  ∃l:List (K2×am),(∀p∈l,p.1=(d,slot)∨p.1∈aA tgt)∧h'=aV l h∧ ∀h2,(∀k∈aA tgt,ac h2 k.1 k.2=ac h k.1 k.2)→dT e size bytes d slot gen h2 tgt ys=some (v,aV l h2):=by
 unfold dT at he ⊢
 split at he
 ·rename_i k nl full xs
  split at he
  ·rename_i h0
   simp only [Option.some.injEq,Prod.mk.injEq] at he
   obtain ⟨rfl,rfl⟩:=he
   exact ⟨[],by simp,rfl,fun h2 _=>by rw [if_pos h0];rfl⟩
  ·rename_i h0
   split at he
   ·rename_i h1
    split at he
    ·rename_i h3
     simp only [Option.some.injEq,Prod.mk.injEq] at he
     obtain ⟨rfl,rfl⟩:=he
     exact ⟨[((d,slot),_)],by simp,rfl,fun h2 _=>by rw [if_neg h0,if_pos h1,if_pos h3];rfl⟩
    ·cases he
   ·rename_i h1
    split at he
    ·rename_i h3
     simp only [Option.some.injEq,Prod.mk.injEq] at he
     obtain ⟨rfl,rfl⟩:=he
     refine ⟨[((d,slot),_)],by simp,rfl,fun h2 _=> ?_⟩
     rw [if_neg h0,if_neg h1,if_pos h3]
     rfl
    ·cases he
 ·rename_i d1 s1 g1 off n full
  split at he
  rotate_left
  ·cases he
  rename_i k e' xs fz hl
  have hlv: ∀h2:aa,(∀k∈aA (.msl d1 s1 g1 off n full),ac h2 k.1 k.2=ac h k.1 k.2)→live h2 d1 s1 g1= .row k e' xs fz:=fun h2 hr=>by rw [db (hr (d1,s1) (by simp [aA])),hl]
  split at he
  ·rename_i hfull
   split at he
   ·rename_i h0
    simp only [Option.some.injEq,Prod.mk.injEq] at he
    obtain ⟨rfl,rfl⟩:=he
    refine ⟨[],by simp,rfl,fun h2 hr=> ?_⟩
    simp only [hlv h2 hr]
    rw [if_pos hfull,if_pos h0]
    rfl
   ·rename_i h0
    split at he
    ·rename_i h3
     simp only [Option.some.injEq,Prod.mk.injEq] at he
     obtain ⟨rfl,rfl⟩:=he
     refine ⟨[((d,slot),_)],by simp,rfl,fun h2 hr=> ?_⟩
     simp only [hlv h2 hr]
     rw [if_pos hfull,if_neg h0,if_pos h3]
     rfl
    ·cases he
  ·rename_i hfull
   split at he
   ·rename_i h3
    simp only [Option.some.injEq,Prod.mk.injEq] at he
    obtain ⟨rfl,rfl⟩:=he
    refine ⟨[((d1,s1),_)],by simp [aA],rfl,fun h2 hr=> ?_⟩
    simp only [hlv h2 hr]
    rw [if_neg hfull,if_pos h3]
    rfl
   ·cases he
 ·cases he
theorem oj {args:Array Operand} {argTypes:Array TypeId} (ho:o.op= .call { callee:= .builtin .append,args,argTypes}) (e:ah P o ρ d gen h=some (v,h')):
  ∃l:List (K2×am),(∀p∈l,p.1∈(d,o.dst.getD 0)::args.toList.flatMap (fun x=>aA (ρ x)))∧h'=aV l h∧
   ∀h2,(∀k∈(d,o.dst.getD 0)::args.toList.flatMap (fun x=>aA (ρ x)),ac h2 k.1 k.2=ac h k.1 k.2)→ah P o ρ d gen h2=some (v,aV l h2):=by
 have hm: ∀h:aa,∀l,bG P .append argTypes h l=none:=fun h l=>by unfold bG;split<;>first | rfl | contradiction
 simp only [ah,ho,hm] at e ⊢
 have hfm: ∀x y:AV,args.toList.map ρ=[x,y]→args.toList.flatMap (fun x=>aA (ρ x))=aA x++aA y:=by
  intro x y hxy
  rw [←List.flatMap_map,hxy]
  simp
 generalize hl:args.toList.map ρ=l at e ⊢
 match l,e,hl with
 | [],e,_=>cases e
 | [_],e,_=>cases e
 | _::_::_::_,e,_=>cases e
 | [x,y],e,hl=>
 have hr0:=hfm x y hl
 rw [hr0]
 simp only [cb] at e ⊢
 split at e
 rotate_left
 ·cases e
 rename_i t0 t1 hat
 split at e
 ·rename_i el hu ha
  simp only [bind,Option.bind_eq_some_iff] at e
  obtain ⟨size,h1,bytes,h2',z,h3,es,h4,e⟩:=e
  split at e
  ·cases e
  rename_i hc
  obtain ⟨l,k1,k2,k3⟩:=oi e
  refine ⟨l,fun p hp=> ?_,k2,fun h2 hr=> ?_⟩
  ·rcases k1 p hp with hq | hq
   ·simp [hq]
   ·simp [hq]
  ·simp only [hat,hu,ha,bind,h1,h2',h3,Option.bind_some,oh (h2:=h2) (fun k hk=>hr k (by simp [hk])) h4]
   rw [if_neg hc]
   exact k3 h2 fun k hk=>hr k (by simp [hk])
 ·rename_i el hu ha
  unfold eH at e
  split at e
  rotate_left
  ·cases e
  rename_i k0 n0 nl full xs k1' n hu1
  simp only [bind,Option.bind_eq_some_iff] at e
  obtain ⟨size,h1,bytes,h2',z,h3,e⟩:=e
  split at e
  ·cases e
  rename_i hc
  split at e
  ·rename_i hc2
   simp only [Option.some.injEq,Prod.mk.injEq] at e
   obtain ⟨rfl,rfl⟩:=e
   refine ⟨[((d,o.dst.getD 0),_)],by simp,rfl,fun h2 hr=> ?_⟩
   unfold eH
   simp only [hu1,bind,h1,h2',h3,Option.bind_some]
   rw [if_neg hc,if_pos hc2]
   rfl
  ·cases e
 ·cases e
theorem ol (hcall:ci E call) {t:List AV} {f:bg} (hf:dY E d o (aB t)=some f):da f.r f.w (bj E call ys true d gen o (aB t)):=by
 have hcls:=jX (ys:=ys) (d:=d) (gen:=gen) hcall o t
 unfold dY at hf
 split at hf
 ·rename_i hc
  simp only [Option.some.injEq] at hf
  subst hf
  cases hcls with
  | pu h=>exact h.loc
  | fz hc' h=>rw [hc] at hc';rcases hc' with hc' | hc'<;>cases hc'
  | al s hc'=>rw [hc] at hc';cases hc'
  | eff hc'=>rw [hc] at hc';cases hc'
 ·rename_i hc
  simp only [Option.map_eq_some_iff] at hf
  obtain ⟨s,hs,rfl⟩:=hf
  cases hcls with
  | pu h=>exact h.loc
  | fz hc' h=>rw [hc] at hc';rcases hc' with hc' | hc'<;>cases hc'
  | al s' hc' hd h=>
   rw [hs] at hd
   injection hd with hd
   subst hd
   exact h.loc
  | eff hc'=>rw [hc] at hc';cases hc'
 ·rename_i hc
  split at hf
  ·rename_i ty a ho
   simp only [Option.some.injEq] at hf
   subst hf
   rw [de (by simp [ho]) (by simp [ho]) (by simp [hc])]
   exact iB fun h v h' h2 hr e=>oa ho hr e
  ·rename_i ty a ix ho
   simp only [Option.some.injEq] at hf
   subst hf
   rw [de (by simp [ho]) (by simp [ho]) (by simp [hc])]
   exact iB fun h v h' h2 hr e=>oc ho hr e
  ·rename_i ty a k ok ho
   simp only [Option.some.injEq] at hf
   subst hf
   rw [de (by simp [ho]) (by simp [ho]) (by simp [hc])]
   exact iB fun h v h' h2 hr e=>od ho hr e
  ·cases hf
 ·rename_i hc
  split at hf
  ·rename_i fid args ats ho
   split at hf
   ·rename_i hpv
    simp only [Option.some.injEq] at hf
    subst hf
    have hc':=hc
    simp only [aY,ho] at hc'
    split at hc'
    ·cases hc'
    rename_i hn
    simp only [Bool.or_eq_true,not_or,Bool.not_eq_true] at hn
    obtain ⟨ps,hps⟩:=Option.isSome_iff_exists.1 hpv
    have hF: ∀h g,bj E call ys true d gen o (aB t) h g=if (args.toList.map (aB t)).any (bT an) then none else call ys fid (args.toList.map (aB t)) d (o.dst.getD 0) gen h g:=by
     intro h g
     unfold bj
     split
     ·rename_i f' args' ats' ho'
      rw [ho] at ho'
      injection ho' with ho'
      injection ho' with h1 h2 h3
      injection h1 with h1
      subst h1 h2
      simp [aB,cJ,hc]
     ·rename_i hinv
      rw [ho] at hinv
      cases hinv
     ·rename_i hno _
      exact absurd ho (hno _ _ _)
    cases hm:(args.toList.map (aB t)).any (bT an) with
    | true=>exact fun h g v h' g' e=>by rw [hF,hm] at e;cases e
    | false=>
     obtain ⟨r,hr⟩:=hcall fid _ hn.1.1 hn.1.2.1 hn.1.2.2 hm
     intro h g v h' g' e
     rw [hF,hm] at e
     simp only [Bool.false_eq_true,if_false,hr,an,iC hps 7,Option.bind_some,Option.map_eq_some_iff,Prod.mk.injEq] at e
     obtain ⟨p,hp,rfl,rfl,rfl⟩:=e
     refine ⟨[],by simp,rfl,rfl,fun h2 g2 _=> ?_⟩
     rw [hF,hm]
     simp only [Bool.false_eq_true,if_false,hr,an,iC hps 7,Option.bind_some,hp,Option.map_some]
     rfl
   ·cases hf
  ·cases hf
 ·rename_i hc
  split at hf
  ·rename_i ty a x ho
   split at hf
   ·rename_i hpv
    simp only [Option.some.injEq] at hf
    subst hf
    rw [de (by simp [ho]) (by simp [ho]) (by simp [hc])]
    exact em fun h v h' e=>oe ho hpv e
   ·cases hf
  ·rename_i ty m k x ho
   split at hf
   ·rename_i hpv
    simp only [Option.some.injEq] at hf
    subst hf
    rw [de (by simp [ho]) (by simp [ho]) (by simp [hc])]
    exact em fun h v h' e=>kN (.inl ho) hpv e
   ·cases hf
  ·rename_i ty m k x ho
   split at hf
   ·rename_i hpv
    simp only [Option.some.injEq] at hf
    subst hf
    rw [de (by simp [ho]) (by simp [ho]) (by simp [hc])]
    exact em fun h v h' e=>kN (.inr ho) hpv e
   ·cases hf
  ·rename_i ty len parts ho
   split at hf
   ·rename_i hpv
    simp only [Option.some.injEq] at hf
    subst hf
    rw [de (by simp [ho]) (by simp [ho]) (by simp [hc])]
    refine em fun h v h' e=> ?_
    obtain ⟨l,k1,k2,k3⟩:=og ho hpv e
    exact ⟨l,k1,k2,fun h2 _=>k3 h2⟩
   ·cases hf
  ·rename_i args ats ho
   simp only [Option.some.injEq] at hf
   subst hf
   rw [de (by simp [ho]) (by simp [ho]) (by simp [hc])]
   exact em fun h v h' e=>oj ho e
  ·cases hf
theorem kO (hcall:ci E call) {i:Nat} {t:List AV} {f:bg} (hf:ct E d all o t=some f):da f.r f.w (cK E call ys true d gb all i o t):=by
 unfold ct at hf
 have hF:cK E call ys true d gb all i o t=fun h g=>if cc all t o then bj E call ys true d (gb+i) o (aB t) h g else some (a6,h,g):=rfl
 rw [hF]
 cases hw:cc all t o with
 | true=>
  rw [hw] at hf
  exact ol hcall hf
 | false=>
  simp only [Bool.false_eq_true,if_false]
  exact jV.loc
theorem om {ρ ρ':Operand→AV} (hρ: ∀x∈o.op.operands,ρ x=ρ' x):dY E d o ρ=dY E d o ρ':=by
 have arr: ∀xs:Array Operand,(∀x∈xs,ρ x=ρ' x)→xs.toList.map ρ=xs.toList.map ρ':=fun xs hx=>List.map_congr_left fun x hm=>hx x (by simpa using hm)
 unfold dY
 split
 ·rfl
 ·rfl
 ·split
  ·rename_i ho;rw [ho] at hρ;rw [hρ _ (by simp [Op.operands])]
  ·rename_i ho;rw [ho] at hρ;rw [hρ _ (by simp [Op.operands])]
  ·rename_i ho;rw [ho] at hρ;rw [hρ _ (by simp [Op.operands])]
  ·rfl
 ·split
  ·rename_i args ats ho
   rw [ho] at hρ
   rw [arr args fun x hx=>hρ x (by simp [Op.operands,Call.operands,hx])]
  ·rfl
 ·split
  ·rename_i ty a x ho
   rw [ho] at hρ
   rw [hρ a (by simp [Op.operands]),hρ x (by simp [Op.operands])]
  ·rename_i ty m k x ho
   rw [ho] at hρ
   rw [hρ m (by simp [Op.operands]),hρ x (by simp [Op.operands])]
  ·rename_i ty m k x ho
   rw [ho] at hρ
   rw [hρ m (by simp [Op.operands]),hρ x (by simp [Op.operands])]
  ·rename_i ty len parts ho
   rw [ho] at hρ
   have:(parts.toList.map fun q=>ρ q.2)=(parts.toList.map fun q=>ρ' q.2):=List.map_congr_left fun p hm=>hρ p.2 (by
    simp only [Op.operands]
    have hm':p∈parts.toList:=hm
    simp
    exact ⟨p.1,by simpa using hm'⟩)
   rw [this]
  ·rename_i args ats ho
   rw [ho] at hρ
   have:args.toList.flatMap (fun x=>aA (ρ x))=args.toList.flatMap (fun x=>aA (ρ' x)):=by
    rw [←List.flatMap_map (f:=ρ) (g:=aA),←List.flatMap_map (f:=ρ') (g:=aA),arr args fun x hx=>hρ x (by simp [Op.operands,Call.operands,hx])]
   rw [this]
  ·rfl
theorem iD {t:List AV} {dst:Option Tmp} {v:AV} (h: ∀d,dst=some d→d∉o.looksAt all):ct E d all o (bw t dst v)=ct E d all o t:=by
 unfold ct
 rw [jU h,om (ρ':=aB t)]
 intro x hx
 exact jS fun d hd hxd=>h d hd (by
  subst hxd
  exact List.mem_append_left _ (List.mem_filterMap.2 ⟨.tmp d,by simpa using hx,rfl⟩))
def b3 (L:Nat→St→Option St):List Nat→St→Option St
 | [],s=>some s
 | i::l,s=>(L i s).bind (b3 L l)
def ep (L:Nat→St→Option St) (j i:Nat):Prop:= ∀s s1 s2,L j s=some s1→L i s1=some s2→ ∃s1',L i s=some s1'∧L j s1'=some s2
theorem kP: ∀(l:List Nat) (s:St),b3 (bZ E call ys st d gb all) l s=cP E call ys st d gb all l s
 | [],_=>rfl
 | i::l,s=>by
  simp only [b3,cP]
  congr 1
  funext s
  exact kP l s
theorem kQ {L:Nat→St→Option St} {i:Nat} : ∀(R1 R2:List Nat) (s s':St),(∀r∈R1,ep L r i)→b3 L (R1++i::R2) s=some s'→b3 L (i::(R1++R2)) s=some s'
 | [],_,_,_,_,h=>h
 | r::R1,R2,s,s',hs,h=>by
  simp only [List.cons_append,b3,Option.bind_eq_some_iff] at h ⊢
  obtain ⟨s1,h1,h2⟩:=h
  have:=kQ R1 R2 s1 s' (fun r hr=>hs r (by simp [hr])) h2
  simp only [b3,Option.bind_eq_some_iff] at this
  obtain ⟨s2,h3,h4⟩:=this
  obtain ⟨s1',g1,g2⟩:=hs r (by simp) s s1 s2 h1 h3
  exact ⟨s1',g1,s2,g2,h4⟩
theorem gj.swapL (hcall:ci E call) {j i:Nat} (h:gj E all j i):ep (bZ E call ys true d gb all) j i:=fun s s1 s2 h1 h2=>by
 obtain ⟨x,y,hx,hy,hok⟩:=h
 simp only [bZ,hx] at h1
 simp only [bZ,hy] at h2
 obtain ⟨s1',g1,g2⟩:=jZ hcall hok h1 h2
 exact ⟨s1',by simp only [bZ,hy];exact g1,by simp only [bZ,hx];exact g2⟩
open Classical in
noncomputable def cA (E:ao) (call:bi) (ys:Ys) (d gb:Nat) (all:Array Oper) (φ:List (Option bg)) (i:Nat) (s:St):Option St:=match all[i]? with
 | some o=>if φ[i]? =some (ct E d all o s.t) then bp E call ys true d gb all i o s else none
 | none=>some s
theorem oq {φ:List (Option bg)} {i:Nat} {s s':St} (h:cA E call ys d gb all φ i s=some s'):bZ E call ys true d gb all i s=some s':=by
 unfold cA at h
 unfold bZ
 cases hi:all[i]? with
 | none=>rw [hi] at h;exact h
 | some o=>
  rw [hi] at h
  simp only [] at h
  split at h
  ·exact h
  ·cases h
theorem kR: ∀(os:List Oper) (i:Nat) (s:St) (q:St×List (Option bg)) (φ:List (Option bg)),(∀j,all[i+j]? =os[j]?)→eO E call ys d gb all os i s=some q→(∀j,j<os.length→φ[i+j]? =q.2[j]?)→
  b3 (cA E call ys d gb all φ) (List.range' i os.length) s=some q.1
 | [],_,s,q,_,_,h,_=>by
  simp only [eO,Option.some.injEq] at h
  subst h
  rfl
 | o::os,i,s,q,φ,ha,h,hφ=>by
  have h0:all[i]? =some o:=by simpa using ha 0
  simp only [eO,Option.bind_eq_some_iff,Option.map_eq_some_iff] at h
  obtain ⟨s1,h1,q1,h2,rfl⟩:=h
  have e0:φ[i]? =some (ct E d all o s.t):=by simpa using hφ 0 (by simp)
  simp only [List.length_cons,List.range'_succ,b3,cA,h0,e0,if_true,h1,Option.bind_some]
  exact kR os (i+1) s1 q1 φ (fun j=>by have:=ha (j+1);rw [show i+(j+1)=i+1+j by omega] at this;simpa using this) h2 fun j hj=>by
   have:=hφ (j+1) (by simp;omega)
   rw [show i+(j+1)=i+1+j by omega] at this
   simpa using this
theorem ot (hcall:ci E call) {φ:List (Option bg)} {j i:Nat} {x y:Oper} (hx:all[j]? =some x) (hy:all[i]? =some y) (hok:bx E all x y=true∨(x.apart all y=true∧fO (φ.getD j none) (φ.getD i none)=true)):
  ep (cA E call ys d gb all φ) j i:=fun s s1 s2 h1 h2=>by
 simp only [cA,hx] at h1
 simp only [cA,hy] at h2
 split at h1
 rotate_left
 ·cases h1
 rename_i fx
 split at h2
 rotate_left
 ·cases h2
 rename_i fy
 have hap:x.apart all y=true:=by
  rcases hok with hok | hok
  ·unfold bx at hok
   simp only [Bool.and_eq_true] at hok
   exact hok.1
  ·exact hok.1
 obtain ⟨a1,a2,a3⟩:=Oper.apart_spec hap
 have hcore: ∃s1',bp E call ys true d gb all i y s=some s1'∧bp E call ys true d gb all j x s1'=some s2:=by
  rcases hok with hok | ⟨_,hd⟩
  ·exact jZ hcall hok h1 h2
  ·unfold bp at h1 h2
   simp only [Option.map_eq_some_iff] at h1
   obtain ⟨⟨vx,hx',gx⟩,ex,rfl⟩:=h1
   simp only [] at h2 fy
   rw [gh a1] at h2
   rw [iD a1] at fy
   simp only [Option.map_eq_some_iff] at h2
   obtain ⟨⟨vy,hy',gy⟩,ey,rfl⟩:=h2
   rw [List.getD_eq_getElem?_getD,List.getD_eq_getElem?_getD,fx,fy] at hd
   simp only [Option.getD_some] at hd
   cases hfx:ct E d all x s.t with
   | none=>rw [hfx] at hd;cases hd
   | some f=>
    cases hfy:ct E d all y s.t with
    | none=>rw [hfx,hfy] at hd;cases hd
    | some f'=>
     rw [hfx,hfy] at hd
     obtain ⟨h',g',e1,e2⟩:=n9 (kO hcall hfx) (kO hcall hfy) hd ex ey
     refine ⟨{ t:=bw s.t y.dst vy,h:=h',g:=g'},by simp [bp,e1],?_⟩
     unfold bp
     simp only []
     rw [gh a3,e2]
     simp only [Option.map_some,jT s.t vx vy a2]
 obtain ⟨s1',g1,g2⟩:=hcore
 have ht1: ∃vx,s1.t=bw s.t x.dst vx:=by
  unfold bp at h1
  simp only [Option.map_eq_some_iff] at h1
  obtain ⟨⟨vx,hx',gx⟩,_,rfl⟩:=h1
  exact ⟨vx,rfl⟩
 have ht2: ∃vy,s1'.t=bw s.t y.dst vy:=by
  unfold bp at g1
  simp only [Option.map_eq_some_iff] at g1
  obtain ⟨⟨vx,hx',gx⟩,_,rfl⟩:=g1
  exact ⟨vx,rfl⟩
 obtain ⟨vx,ht1⟩:=ht1
 obtain ⟨vy,ht2⟩:=ht2
 refine ⟨s1',?_,?_⟩
 ·simp only [cA,hy]
  rw [ht1,iD a1] at fy
  rw [if_pos fy]
  exact g1
 ·simp only [cA,hx]
  rw [ht2,iD a3,if_pos fx]
  exact g2
end
inductive bI (ops:Array Oper):Nat→Nat→Prop
 | one {i:Nat} {o:Oper} {e:Edge} (ho:ops[i]? =some o) (he:e∈o.after) (hb:Region.binds .any e=true):bI ops i e.on
 | more {i j:Nat} {o:Oper} {e:Edge} (ho:ops[i]? =some o) (he:e∈o.after) (hb:Region.binds .any e=true) (h:bI ops e.on j):bI ops i j
theorem iE (look:Nat→Nat) (k:Nat): ∀(l:List Edge) (s:Nat),(l.foldl (fun s e=>if Region.binds .any e then s ||| 2^e.on ||| look e.on else s) s).testBit k=true→
  s.testBit k=true∨ ∃e∈l,Region.binds .any e=true∧(e.on=k∨(look e.on).testBit k=true)
 | [],s,h=> .inl h
 | e::l,s,h=>by
  rw [List.foldl_cons] at h
  rcases iE look k l _ h with h | ⟨e',he',h⟩
  ·by_cases hb:Region.binds .any e=true
   ·rw [if_pos hb,Nat.testBit_or,Nat.testBit_or] at h
    simp only [Bool.or_eq_true] at h
    rcases h with (h | h) | h
    ·exact .inl h
    ·rw [Nat.testBit_two_pow] at h
     exact .inr ⟨e,by simp,hb,.inl (by simpa using h)⟩
    ·exact .inr ⟨e,by simp,hb,.inr h⟩
   ·rw [if_neg hb] at h;exact .inl h
  ·exact .inr ⟨e',by simp [he'],h⟩
theorem kS {E:ao} {ops:Array Oper} {o:Oper} {v:Nat} : ∀(xs:List Oper) (j:Nat),fL E ops o v xs j=true→ ∀(m:Nat) (x:Oper),xs[m]? =some x→v.testBit (j+m)=true∨bx E ops x o=true
 | [],_,_,m,x,hx=>by simp at hx
 | y::ys,j,h,m,x,hx=>by
  simp only [fL,Bool.and_eq_true,Bool.or_eq_true] at h
  cases m with
  | zero=>simp at hx;subst hx;exact h.1
  | succ m=>
   have:=kS ys (j+1) h.2 m x (by simpa using hx)
   rwa [show j+1+m=j+(m+1) by omega] at this
theorem kT (i j v:Nat) (acc:List Nat):cd (i+1) (v::acc) j=if j=i then v else cd i acc j:=by
 unfold cd
 by_cases h:j=i
 ·subst h;simp
 ·rw [if_neg h]
  by_cases h2:j<i
  ·rw [if_pos h2,if_pos (by omega),show i+1-1-j=(i-1-j)+1 by omega];simp
  ·rw [if_neg h2,if_neg (by omega)]
theorem kU {E:ao} {ops:Array Oper} : ∀(rest:List Oper) (i:Nat) (acc:List Nat),fM E ops ops.toList rest i acc=true→(∀m,rest[m]? =ops[i+m]?)→
  (∀j k,(cd i acc j).testBit k=true→bI ops j k)→ ∀(m:Nat) (o:Oper),i≤m→ops[m]? =some o→cY m o=true∧ ∀j,j<m→bI ops m j∨gj E ops j m
 | [],i,acc,_,hr,_,m,o,hm,ho=>by
  have:=hr (m-i)
  rw [show i+(m-i)=m by omega,ho] at this
  simp at this
 | x::rest,i,acc,h,hr,hacc,m,o,hm,ho=>by
  have hx:ops[i]? =some x:=by simpa using (hr 0).symm
  rw [fM,CheckFast.force_eq] at h
  simp only [Bool.and_eq_true] at h
  obtain ⟨⟨h1,h2⟩,h3⟩:=h
  have hmask: ∀k,(CheckFast.one (cd i acc) x).testBit k=true→bI ops i k:=by
   intro k hk
   unfold CheckFast.one at hk
   rw [←Array.foldl_toList] at hk
   rcases iE _ k _ _ hk with h0 | ⟨e,he,hb,h0⟩
   ·simp at h0
   ·have he':e∈x.after:=by simpa using he
    rcases h0 with rfl | h0
    ·exact .one hx he' hb
    ·exact .more hx he' hb (hacc _ _ h0)
  rcases Nat.eq_or_lt_of_le hm with rfl | hlt
  ·rw [hx] at ho
   injection ho with ho
   subst ho
   refine ⟨h1,fun j hj=> ?_⟩
   have hjs:j<ops.toList.length:=by
    have:i<ops.size:=by
     rcases Nat.lt_or_ge i ops.size with h | h
     ·exact h
     ·rw [Array.getElem?_eq_none h] at hx;cases hx
    simpa using Nat.lt_trans hj this
   have hy:(ops.toList.take i)[j]? =some ops.toList[j]:=by
    rw [List.getElem?_take,if_pos hj,List.getElem?_eq_getElem hjs]
   rcases kS _ 0 h2 j _ hy with hb | hb
   ·rw [Nat.zero_add] at hb;exact .inl (hmask j hb)
   ·exact .inr ⟨_,_,by simp,hx,hb⟩
  ·refine kU rest (i+1) _ h3 (fun m=> ?_) ?_ m o hlt ho
   ·have:=hr (m+1)
    rw [show i+(m+1)=i+1+m by omega] at this
    simpa using this
   ·intro j k hjk
    rw [kT] at hjk
    split at hjk
    ·rename_i hji
     rw [hji]
     exact hmask k hjk
    ·exact hacc _ _ hjk
theorem kV {E:ao} {ops:Array Oper} (h:gS E ops=true) (m:Nat) (o:Oper) (ho:ops[m]? =some o):cY m o=true∧ ∀j,j<m→bI ops m j∨gj E ops j m:=
 kU ops.toList 0 [] h (fun m=>by simp) (fun j k hk=>by simp [cd] at hk) m o (Nat.zero_le _) ho
def iF (ops:Array Oper) (listed:Array Bool):Prop:= ∀(i:Nat) (o:Oper) (e:Edge),listed.getD i false=true→ops[i]? =some o→e∈o.after→Region.binds .any e=true→listed.getD e.on false=true
theorem bI.listed {ops:Array Oper} {listed:Array Bool} (hc:iF ops listed) {i j:Nat} (hd:bI ops i j):listed.getD i false=true→listed.getD j false=true:=by
 induction hd with
 | one ho he hb=>exact fun hi=>hc _ _ _ hi ho he hb
 | more ho he hb _ ih=>exact fun hi=>ih (hc _ _ _ hi ho he hb)
theorem bI.ready {ops:Array Oper} {listed:Array Bool} (hc:iF ops listed) {i j:Nat} (hr: ∀(o:Oper) (e:Edge),ops[i]? =some o→e∈o.after→Region.binds .any e=true→listed.getD e.on false=true)
  (hd:bI ops i j):listed.getD j false=true:=by
 cases hd with
 | one ho he hb=>exact hr _ _ ho he hb
 | more ho he hb h=>exact h.listed hc (hr _ _ ho he hb)
section
variable {E:ao} {call:bi} {ys:Ys} {st:Bool} {d gb:Nat} {C:Cx} {all:Array Oper} {σ:ak} {I:af} {w:World} {s s':St} {a:Act}
structure bB (C:Cx) (gb:Nat) (σ:ak) (I:af) (w:World) (s':St) (σ':ak) (I':af) (w':World) (a':Act):Prop where
 rel:be C σ' I' w' s' a'
 ext:ar C.base σ I w σ' I' w'
 low: ∀k,k<gb→σ' k=σ k
 grow:gb≤s'.g
theorem kW (hcall:c9 E call) (hwf: ∀o∈all,dE C.n o=true) {i:Nat} (hs:bZ E call ys st d gb all i s=some s') (H:be C σ I w s a) (hys:bA E ys σ I w)
  (hgen:σ (gb+i)=none) (hlt:gb+i<s.g) {Q:Exit→Act→World→Prop} {K:Act→World→Prop}
  (hK: ∀σ' I' w' a',iz C (gb+i) σ I w s σ' I' w' s' a'→K a' w'):wpOpIn (WF C.r) 0 E.P all Q i K a w:=by
 unfold bZ at hs
 cases hi:all[i]? with
 | none=>
  rw [hi] at hs
  injection hs with hs
  subst hs
  unfold wpOpIn
  rw [hi]
  exact hK σ I w a ⟨H,ar.refl _ _ _ _,fun _ _ _=>rfl,Nat.le_refl _⟩
 | some o=>
  rw [hi] at hs
  exact n6 hcall hi (hwf o (Array.mem_of_getElem? hi)) hs H hys hgen hlt hK
theorem kX (hcall:c9 E call) (hwf: ∀o∈all,dE C.n o=true) {Q:Exit→Act→World→Prop} : ∀(L:List Nat) (σ:ak) (I:af) (w:World) (s:St) (a:Act),L.Nodup→(∀i∈L,σ (gb+i)=none∧gb+i<s.g)→
  cP E call ys st d gb all L s=some s'→be C σ I w s a→bA E ys σ I w→gb≤s.g→(∀σ' I' w' a',bB C gb σ I w s' σ' I' w' a'→Q .normal a' w')→wpOpsIn (WF C.r) 0 E.P all Q L a w
 | [],σ,I,w,s,a,_,_,h,H,_,hgb,hQ=>by
  simp only [cP,Option.some.injEq] at h
  subst h
  exact hQ σ I w a ⟨H,ar.refl _ _ _ _,fun _ _=>rfl,hgb⟩
 | i::L,σ,I,w,s,a,hnd,hg,h,H,hys,hgb,hQ=>by
  simp only [cP,Option.bind_eq_some_iff] at h
  obtain ⟨s1,h1,h2⟩:=h
  rw [wpOpsIn_cons]
  refine kW hcall hwf h1 H hys (hg i (by simp)).1 (hg i (by simp)).2 fun σ1 I1 w1 a1 hs1=> ?_
  have hnd':=List.nodup_cons.1 hnd
  refine kX hcall hwf L σ1 I1 w1 s1 a1 hnd'.2 (fun j hj=> ?_) h2 hs1.rel (hys.later hs1.ext.later) (Nat.le_trans hgb hs1.grow) fun σ' I' w' a' hd=>hQ σ' I' w' a' ⟨hd.rel,hs1.ext.trans hd.ext,fun k hk=> ?_,hd.grow⟩
  ·have hji:j≠i:=fun e=>hnd'.1 (e▸hj)
   have:=hg j (by simp [hj])
   exact ⟨by rw [hs1.low _ this.2 (by omega)];exact this.1,Nat.lt_of_lt_of_le this.2 hs1.grow⟩
  ·rw [hd.low k hk,hs1.low k (by omega) (by omega)]
theorem kY {ops:Array Oper} {o:Oper} {v:Nat} {fo:Option bg} : ∀(xs:List Oper) (φ:List (Option bg)) (j:Nat),fP E ops o v fo xs φ j=true→ ∀m x,xs[m]? =some x→v.testBit (j+m)=true∨bx E ops x o=true∨(Oper.apart ops x o=true∧fO (φ.getD m none) fo=true)
 | [],_,_,_,m,x,hx=>by simp at hx
 | y::ys,φ,j,h,m,x,hx=>by
  simp only [fP,Bool.and_eq_true,Bool.or_eq_true] at h
  cases m with
  | zero=>
   simp at hx
   subst hx
   have:φ.headD none=φ.getD 0 none:=by cases φ<;>rfl
   rw [←this]
   exact h.1
  | succ m=>
   have:=kY ys φ.tail (j+1) h.2 m x (by simpa using hx)
   rw [show j+1+m=j+(m+1) by omega] at this
   have e:φ.tail.getD m none=φ.getD (m+1) none:=by cases φ<;>rfl
   rwa [e] at this
theorem kZ {ops:Array Oper} {φ:List (Option bg)} : ∀(rest:List Oper) (i:Nat) (acc:List Nat),fQ E ops φ ops.toList rest i acc=true→(∀m,rest[m]? =ops[i+m]?)→
  (∀j k,(cd i acc j).testBit k=true→bI ops j k)→ ∀(m:Nat) (o:Oper),i≤m→ops[m]? =some o→cY m o=true∧ ∀j,j<m→bI ops m j∨ ∃x,ops[j]? =some x∧(bx E ops x o=true∨(Oper.apart ops x o=true∧fO (φ.getD j none) (φ.getD m none)=true))
 | [],i,acc,_,hr,_,m,o,hm,ho=>by
  have:=hr (m-i)
  rw [show i+(m-i)=m by omega,ho] at this
  simp at this
 | x::rest,i,acc,h,hr,hacc,m,o,hm,ho=>by
  have hx:ops[i]? =some x:=by simpa using (hr 0).symm
  rw [fQ,CheckFast.force_eq] at h
  simp only [Bool.and_eq_true] at h
  obtain ⟨⟨h1,h2⟩,h3⟩:=h
  have hmask: ∀k,(CheckFast.one (cd i acc) x).testBit k=true→bI ops i k:=by
   intro k hk
   unfold CheckFast.one at hk
   rw [←Array.foldl_toList] at hk
   rcases iE _ k _ _ hk with h0 | ⟨e,he,hb,h0⟩
   ·simp at h0
   ·have he':e∈x.after:=by simpa using he
    rcases h0 with rfl | h0
    ·exact .one hx he' hb
    ·exact .more hx he' hb (hacc _ _ h0)
  rcases Nat.eq_or_lt_of_le hm with rfl | hlt
  ·rw [hx] at ho
   injection ho with ho
   subst ho
   refine ⟨h1,fun j hj=> ?_⟩
   have hjs:j<ops.toList.length:=by
    have:i<ops.size:=by
     rcases Nat.lt_or_ge i ops.size with h | h
     ·exact h
     ·rw [Array.getElem?_eq_none h] at hx;cases hx
    simpa using Nat.lt_trans hj this
   have hy:(ops.toList.take i)[j]? =some ops.toList[j]:=by
    rw [List.getElem?_take,if_pos hj,List.getElem?_eq_getElem hjs]
   rcases kY _ φ 0 h2 j _ hy with hb | hb
   ·rw [Nat.zero_add] at hb;exact .inl (hmask j hb)
   ·exact .inr ⟨_,by simp,hb⟩
  ·refine kZ rest (i+1) _ h3 (fun m=> ?_) ?_ m o hlt ho
   ·have:=hr (m+1)
    rw [show i+(m+1)=i+1+m by omega] at this
    simpa using this
   ·intro j k hjk
    rw [kT] at hjk
    split at hjk
    ·rename_i hji
     rw [hji]
     exact hmask k hjk
    ·exact hacc _ _ hjk
theorem k5 (hcall:c9 E call) {L:Nat→St→Option St} (hL: ∀i s s',L i s=some s'→bZ E call ys true d gb all i s=some s') (hdr: ∀(m:Nat) (o:Oper),all[m]? =some o→cY m o=true∧ ∀j,j<m→bI all m j∨ep L j m) (hwf: ∀o∈all,dE C.n o=true) {Q:Exit→Act→World→Prop} :
  ∀(fuel:Nat) (R:List Nat) (listed:Array Bool) (σ:ak) (I:af) (w:World) (s:St) (a:Act),R.length≤fuel→R.Pairwise (· < ·)→(∀i,i∈R↔i<all.size∧listed.getD i true=false)→listed.size=all.size→iF all listed→
  (∀i∈R,σ (gb+i)=none∧gb+i<s.g)→b3 L R s=some s'→be C σ I w s a→bA E ys σ I w→gb≤s.g→
  (∀σ' I' w' a',bB C gb σ I w s' σ' I' w' a'→Q .normal a' w')→wpAnyIn (WF C.r) 0 E.P .any all Q fuel listed a w:=by
 intro fuel
 induction fuel with
 | zero=>
  intro R listed σ I w s a hf hp hR hls hcl hg h H hys hgb hQ
  have:R=[]:=by cases R<;>simp at hf ⊢
  subst this
  simp only [b3,Option.some.injEq] at h
  subst h
  refine ⟨?_,hQ σ I w a ⟨H,ar.refl _ _ _ _,fun _ _=>rfl,hgb⟩⟩
  rw [List.eq_nil_iff_forall_not_mem]
  intro i hi
  rw [mem_ready] at hi
  obtain ⟨h0,o,ho,_⟩:=hi
  have:=(hR i).2 ⟨(Array.getElem?_eq_some_iff.1 ho).1,h0⟩
  simp at this
 | succ fuel ih=>
  intro R listed σ I w s a hf hp hR hls hcl hg h H hys hgb hQ
  have hlist: ∀i,i<all.size→i∉R→listed.getD i false=true:=by
   intro i hi hn
   have: ¬(listed.getD i true=false):=fun e=>hn ((hR i).2 ⟨hi,e⟩)
   have hi':i<listed.size:=by omega
   simp [hi'] at this ⊢
   exact this
  refine ⟨fun hnone=> ?_,fun i hi=> ?_⟩
  ·cases R with
   | nil=>
    simp only [b3,Option.some.injEq] at h
    subst h
    exact hQ σ I w a ⟨H,ar.refl _ _ _ _,fun _ _=>rfl,hgb⟩
   | cons i R=>
    exfalso
    have hiR:=(hR i).1 (by simp)
    have hio:all[i]? =some all[i]:=by simp [hiR.1]
    have hb:=(hdr i _ hio).1
    have:i∈Region.ready .any all listed:=by
     rw [mem_ready]
     refine ⟨hiR.2,_,hio,fun e he hbd=> ?_⟩
     have hlt:e.on<i:=by
      unfold cY at hb
      rw [Array.all_eq_true_iff_forall_mem] at hb
      have:=hb e he
      rw [hbd] at this
      simpa using this
     refine hlist e.on (by omega) fun hm=> ?_
     simp only [List.mem_cons] at hm
     rcases hm with hm | hm
     ·omega
     ·have:=(List.pairwise_cons.1 hp).1 _ hm
      omega
    rw [hnone] at this
    simp at this
  ·rw [mem_ready] at hi
   obtain ⟨h0,o,ho,hpre⟩:=hi
   have hisz:i<all.size:=(Array.getElem?_eq_some_iff.1 ho).1
   have hiR:i∈R:=(hR i).2 ⟨hisz,h0⟩
   obtain ⟨R1,R2,rfl⟩:=List.append_of_mem hiR
   have hpw:=List.pairwise_append.1 hp
   have hsw: ∀r∈R1,ep L r i:=by
    intro r hr
    have hri:r<i:=hpw.2.2 r hr i (by simp)
    rcases (hdr i o ho).2 r hri with hd | hd
    ·exfalso
     have:=hd.ready hcl fun o' e ho' he hb=>by
      rw [ho] at ho'
      injection ho' with ho'
      subst ho'
      exact hpre e he hb
     have hr2:=((hR r).1 (by simp [hr])).2
     have hr1:r<listed.size:=by omega
     simp [hr1] at this hr2
     rw [this] at hr2
     cases hr2
    ·exact hd
   have h2:=kQ R1 R2 s s' hsw h
   simp only [b3,Option.bind_eq_some_iff] at h2
   obtain ⟨s1,h3,h4⟩:=h2
   have hgi:=hg i hiR
   refine kW hcall hwf (hL _ _ _ h3) H hys hgi.1 hgi.2 fun σ1 I1 w1 a1 hs1=> ?_
   have hne: ∀j,j∈R1++R2→j≠i:=by
    intro j hj
    rw [List.mem_append] at hj
    rcases hj with hj | hj
    ·have:=hpw.2.2 j hj i (by simp);omega
    ·have:=(List.pairwise_cons.1 hpw.2.1).1 j hj;omega
   refine ih (R1++R2) (listed.setIfInBounds i true) σ1 I1 w1 s1 a1 ?_ ?_ ?_ ?_ ?_ ?_ h4 hs1.rel (hys.later hs1.ext.later) (Nat.le_trans hgb hs1.grow) fun σ' I' w' a' hd=>hQ σ' I' w' a' ⟨hd.rel,hs1.ext.trans hd.ext,fun k hk=> ?_,hd.grow⟩
   ·simp at hf ⊢; omega
   ·exact List.pairwise_append.2 ⟨hpw.1,(List.pairwise_cons.1 hpw.2.1).2,fun x hx y hy=>hpw.2.2 x hx y (by simp [hy])⟩
   ·intro j
    by_cases hji:j=i
    ·subst hji
     have:j<listed.size:=by omega
     simp only [Array.getD_eq_getD_getElem?,Array.getElem?_setIfInBounds_self_of_lt this,Option.getD_some]
     constructor
     ·intro hj;exact absurd rfl (hne j hj)
     ·simp
    ·rw [getD_set_ne true (Ne.symm hji),←hR j]
     simp [hji]
   ·simpa using hls
   ·intro j o' e hj ho' he hb
    by_cases hji:j=i
    ·subst hji
     rw [ho] at ho'
     injection ho' with ho'
     subst ho'
     exact getD_set_true (hpre e he hb)
    ·rw [getD_set_ne false (Ne.symm hji)] at hj
     exact getD_set_true (hcl j o' e hj ho' he hb)
   ·intro j hj
    have:=hg j (by rw [List.mem_append] at hj ⊢; rcases hj with hj | hj<;>simp [hj])
    exact ⟨by rw [hs1.low _ this.2 (by have:=hne j hj;omega)];exact this.1,Nat.lt_of_lt_of_le this.2 hs1.grow⟩
   ·rw [hd.low k hk,hs1.low k (by omega) (by omega)]
theorem iG {base:af} {h:aa} (H:ae σ I base w h): ∀(os:List Oper) (h:aa),ae σ I base w h→ae σ I base w (dz E d os h)
 | [],_,H=>H
 | o::os,h,H=>by
  unfold dz
  refine iG H os _ ?_
  split
  ·exact H.kill _ _
  ·exact H
theorem ou (hcall:c9 E call) (hfz:ci E call) {id:Nat} {ops:Array Oper} {draw:Bool} (hmix:draw=true→E.P.follows .mixedOrders=true) (hwf:bU E C.n (.region id ops draw)=true) {fuel:Nat} {x:aZ}
  (h:aS E call ys d fuel (.region id ops draw) s=some (x,s')) (H:be C σ I w s a) (hys:bA E ys σ I w) {Q:Exit→Act→World→Prop}
  (hQ: ∀σ' I' w' a',bB C s.g σ I w s' σ' I' w' a'→Q .normal a' w'):(Code.region id ops draw).wpIn (WF C.r) 0 E.P Q a w:=by
 simp only [bU,Bool.and_eq_true,Bool.or_eq_true,Bool.not_eq_true'] at hwf
 have hdst: ∀o∈ops,dE C.n o=true:=by
  have:=hwf.1
  rw [Array.all_eq_true_iff_forall_mem] at this
  exact this
 simp only [aS] at h
 split at h
 ·rename_i hbad
  simp only [Bool.and_eq_true] at hbad
  obtain ⟨rfl,hbad⟩:=hbad
  simp only [Option.bind_eq_some_iff] at h
  obtain ⟨⟨s1,φ⟩,hphi,h⟩:=h
  simp only [] at h
  split at h
  rotate_left
  ·cases h
  rename_i hloose
  simp only [Option.some.injEq,Prod.mk.injEq] at h
  obtain ⟨rfl,rfl⟩:=h
  have hrun:=kR (φ:=φ) ops.toList 0 _ _ (fun j=>by simp) hphi fun j hj=>by simp
  rw [←List.range_eq_range',Array.length_toList] at hrun
  have hx:ar C.base σ I w σ I { w with drawn:=w.drawn+1} :=⟨fun _ _ h=>h,fun _ h=>h,fun _ h=> .inl h,⟨fun _ _=>rfl,fun _ _ _ h=>h,fun _ r h=>⟨r,h,bt.refl r⟩,fun _ h=>h⟩,⟨rfl,rfl,rfl,Nat.le_refl _,fun _ _=>rfl⟩⟩
  have H1:ae σ I C.base { w with drawn:=w.drawn+1} (dz E d ops.toList s.h):=by
   have:=H.heap.keep (σ':=σ) (I':=I) (w':= { w with drawn:=w.drawn+1}) (fun _ _ h=>h) (fun _ h=>h) hx.kp H.heap.inW (fun d s b hb=>⟨rfl,(aM (H.heap.rows d s) hb).2.1⟩)
   exact iG this _ _ this
  have hdr: ∀(m:Nat) (o:Oper),ops[m]? =some o→cY m o=true∧ ∀j,j<m→bI ops m j∨ep (cA E call ys d s.g ops φ) j m:=fun m o ho=>by
   obtain ⟨h1,h2⟩:=kZ ops.toList 0 [] hloose (fun m=>by simp) (fun j k hk=>by simp [cd] at hk) m o (Nat.zero_le _) ho
   exact ⟨h1,fun j hj=>(h2 j hj).imp (fun h=>h) fun ⟨x,hx,hp⟩=>ot hfz hx ho hp⟩
  refine wpIn_region_any (hmix rfl) (k5 hcall (fun i s s' h=>oq h) hdr hdst ops.size (List.range ops.size) _ σ I _ _ a (by simp) List.pairwise_lt_range (fun i=> ?_) (by simp) ?_ (fun i hi=> ?_) hrun
   ⟨fun i=>hx.rep (H.tmp i),H1,fun k hk=>H.fresh k (by simp at hk;omega),H.hb,H.hn,H.marks,H.nodup,H.around,H.lob,H.losz⟩ (hys.later hx.later) (by simp) fun σ' I' w' a' hd=>hQ σ' I' w' a' ⟨hd.rel,hx.trans hd.ext,hd.low,hd.grow⟩)
  ·rw [List.mem_range]
   constructor
   ·intro hi;exact ⟨hi,by simp [hi]⟩
   ·exact fun h=>h.1
  ·intro i o e hi
   exfalso
   revert hi
   simp only [Array.getD_eq_getD_getElem?,Array.getElem?_replicate]
   split<;>simp
  ·rw [List.mem_range] at hi
   exact ⟨H.fresh _ (by omega),by simp;omega⟩
 rename_i hbad
 simp only [Option.map_eq_some_iff,Prod.mk.injEq] at h
 obtain ⟨s1,h,rfl,rfl⟩:=h
 rw [mO] at h
 cases draw with
 | false=>
  simp only [Bool.false_eq_true,if_false] at h
  refine wpIn_region (kX hcall hdst _ σ I w _ a List.nodup_range (fun i hi=> ?_) h ⟨H.tmp,H.heap,fun k hk=>H.fresh k (by simp at hk;omega),H.hb,H.hn,H.marks,H.nodup,H.around,H.lob,H.losz⟩ hys (by simp) fun σ' I' w' a' hd=>hQ σ' I' w' a' hd)
  rw [List.mem_range] at hi
  exact ⟨H.fresh _ (by omega),by simp;omega⟩
 | true=>
  simp only [if_true] at h
  have hdr:gS E ops=true:=(hwf.2.resolve_left (by simp)).resolve_left (by simpa using hbad)
  have hx:ar C.base σ I w σ I { w with drawn:=w.drawn+1} :=⟨fun _ _ h=>h,fun _ h=>h,fun _ h=> .inl h,⟨fun _ _=>rfl,fun _ _ _ h=>h,fun _ r h=>⟨r,h,bt.refl r⟩,fun _ h=>h⟩,⟨rfl,rfl,rfl,Nat.le_refl _,fun _ _=>rfl⟩⟩
  have H1:ae σ I C.base { w with drawn:=w.drawn+1} (dz E d ops.toList s.h):=by
   have:=H.heap.keep (σ':=σ) (I':=I) (w':= { w with drawn:=w.drawn+1}) (fun _ _ h=>h) (fun _ h=>h) hx.kp H.heap.inW (fun d s b hb=>⟨rfl,(aM (H.heap.rows d s) hb).2.1⟩)
   exact iG this _ _ this
  rw [←kP] at h
  refine wpIn_region_any (hmix rfl) (k5 hcall (fun i s s' h=>h) (fun m o ho=>⟨(kV hdr m o ho).1,fun j hj=>((kV hdr m o ho).2 j hj).imp (fun h=>h) fun hs=>hs.swapL hfz⟩) hdst ops.size (List.range ops.size) _ σ I _ _ a (by simp) List.pairwise_lt_range (fun i=> ?_) (by simp) ?_ (fun i hi=> ?_) h
   ⟨fun i=>hx.rep (H.tmp i),H1,fun k hk=>H.fresh k (by simp at hk;omega),H.hb,H.hn,H.marks,H.nodup,H.around,H.lob,H.losz⟩ (hys.later hx.later) (by simp) fun σ' I' w' a' hd=>hQ σ' I' w' a' ⟨hd.rel,hx.trans hd.ext,hd.low,hd.grow⟩)
  ·rw [List.mem_range]
   constructor
   ·intro hi;exact ⟨hi,by simp [hi]⟩
   ·exact fun h=>h.1
  ·intro i o e hi
   exfalso
   revert hi
   simp only [Array.getD_eq_getD_getElem?,Array.getElem?_replicate]
   split<;>simp
  ·rw [List.mem_range] at hi
   exact ⟨H.fresh _ (by omega),by simp;omega⟩
end
section
variable {E:ao} {call:bi} {ys:Ys} {d:Nat} {base:af} {C:Cx} {σ:ak} {I:af} {w:World} {h:aa} {s s':St} {a:Act}
def k6:aZ→Exit
 | .normal=> .normal
 | .exit id=> .exit id
 | .goto l=> .goto l
 | .ret=> .ret
theorem bB.refl (H:be C σ I w s a):bB C s.g σ I w s σ I w a:=⟨H,ar.refl _ _ _ _,fun _ _=>rfl,Nat.le_refl _⟩
theorem bB.trans {σ1 σ2:ak} {I1 I2:af} {w1 w2:World} {s1 s2:St} {a1 a2:Act} {gb:Nat} (h:bB C gb σ I w s1 σ1 I1 w1 a1) (k:bB C s1.g σ1 I1 w1 s2 σ2 I2 w2 a2):bB C gb σ I w s2 σ2 I2 w2 a2:=
 ⟨k.rel,h.ext.trans k.ext,fun x hx=>by rw [k.low x (Nat.lt_of_lt_of_le hx h.grow),h.low x hx],Nat.le_trans h.grow k.grow⟩
def fj (E:ao) (C:Cx) (ys:Ys) (c:Code) (s:St) (x:aZ) (s':St):Prop:= ∀(σ:ak) (I:af) (w:World) (a:Act) (Q:Exit→Act→World→Prop),be C σ I w s a→bA E ys σ I w→
 (∀σ' I' w' a',bB C s.g σ I w s' σ' I' w' a'→Q (k6 x) a' w')→c.wpIn (WF C.r) 0 E.P Q a w
theorem fk {p:Nat→Prop} (h: ∃n,p n): ∃n,p n∧ ∀m,p m→n≤m:=by
 obtain ⟨n,hn⟩:=h
 induction n using Nat.strongRecOn with
 | _ n ih=>
  by_cases hs: ∃m,m<n∧p m
  ·obtain ⟨m,hm,hp⟩:=hs
   exact ih m hm hp
  ·exact ⟨n,hn,fun m hm=>Nat.le_of_not_lt fun hlt=>hs ⟨m,hlt,hm⟩⟩
theorem ov {c:Code} {body:St→Option (aZ×St)} (hbody: ∀s x s',body s=some (x,s')→fj E C ys c s x s') {m:Nat} {x:aZ} (hm:dy body m s=some (x,s')):fj E C ys (.loop c) s x s':=by
 intro σ I w a Q H hys hQ
 let J:Nat→Act→World→Prop:=fun k a1 w1=> ∃σ1 I1 s1,dy body k s1=some (x,s')∧bB C s.g σ I w s1 σ1 I1 w1 a1
 classical
 let μ:Act→World→Nat:=fun a1 w1=>if h: ∃k,J k a1 w1 then Classical.choose (fk h) else 0
 refine wpIn_loop (fun a1 w1=> ∃k,J k a1 w1) μ ⟨m,σ,I,s,hm,bB.refl H⟩ fun a1 w1 hex=> ?_
 have hμ:μ a1 w1=Classical.choose (fk hex):=dif_pos hex
 obtain ⟨⟨σ1,I1,s1,hk,hd⟩,_⟩:=Classical.choose_spec (fk hex)
 rw [←hμ] at hk
 cases hmu:μ a1 w1 with
 | zero=>rw [hmu] at hk;simp [dy] at hk
 | succ k=>
  rw [hmu] at hk
  simp only [dy] at hk
  cases hb:body s1 with
  | none=>simp [hb] at hk
  | some r=>
   obtain ⟨y,s2⟩:=r
   rw [hb] at hk
   refine hbody s1 y s2 hb σ1 I1 w1 a1 _ hd.rel (hys.later hd.ext.later) fun σ2 I2 w2 a2 hd2=> ?_
   cases y with
   | normal=>
    have hJ:J k a2 w2:=⟨σ2,I2,s2,hk,hd.trans hd2⟩
    refine ⟨⟨k,hJ⟩,?_⟩
    have hex2: ∃k,J k a2 w2:=⟨k,hJ⟩
    have:μ a2 w2=Classical.choose (fk hex2):=dif_pos hex2
    rw [this]
    have:=(Classical.choose_spec (fk hex2)).2 k hJ
    omega
   | _=>
    simp only [Option.some.injEq,Prod.mk.injEq] at hk
    obtain ⟨rfl,rfl⟩:=hk
    exact hQ σ2 I2 w2 a2 (hd.trans hd2)
theorem ow {b:Nat} {r r':Loop} (hh:w.heap[b]? =some (Obj.loop r)) (hs:bt r r') (hI: ¬I b) (hb: ¬base b):ar base σ I w σ I (w.putObj b (.loop r')):=by
 have hlt:=bN hh
 have hoth: ∀x,x≠b→(w.putObj b (.loop r')).heap[x]? =w.heap[x]? :=fun x hx=>World.putObj_heap_other hx
 refine ⟨fun _ _ h=>h,fun _ h=>h,fun _ h=> .inl h,⟨fun x hx=>hoth x fun e=>hI (e▸hx),fun x e n hx=> ?_,fun x r0 hx=> ?_,fun x hx=> ?_⟩,⟨rfl,rfl,rfl,by simp [World.putObj],fun x hx=>hoth x (fun e=>hb (e▸hx))⟩⟩
 ·have:x≠b:=fun e'=>by subst e';unfold World.shape? at hx;rw [hh] at hx;cases hx
  rw [d5 (hoth x this)];exact hx
 ·by_cases e:x=b
  ·subst e
   rw [hh] at hx
   injection hx with hx
   injection hx with hx
   subst hx
   exact ⟨r',World.putObj_heap_same hlt,hs⟩
  ·exact ⟨r0,by rw [hoth x e];exact hx,bt.refl r0⟩
 ·have:x≠b:=fun e'=>by subst e';rw [hh] at hx;cases hx
  rw [hoth x this];exact hx
theorem ae.loopPut (H:ae σ I base w h) {d s g b o k:Nat} {st:fw} (hl:Abs.live h d s g= .lp st) (hs:σ g=some (b,o,k)) {r':Loop} (row:am) (hrow:row=aC∨ ∃st',row=⟨g,.lp st'⟩∧fY st' r'):
  ∃r,w.heap[b]? =some (Obj.loop r)∧fY st r∧(bt r r'→ae σ I base (w.putObj b (.loop r')) (hput h d s row)∧ar base σ I w σ I (w.putObj b (.loop r'))):=by
 obtain ⟨b',k',hs',⟨r,hh,hr⟩,hI,hb⟩:=H.live hl (by simp)
 rw [hs] at hs'
 simp only [Option.some.injEq,Prod.mk.injEq] at hs'
 obtain ⟨rfl,rfl,rfl⟩:=hs'
 refine ⟨r,hh,hr,fun hsame=> ?_⟩
 have hx:ar base σ I w σ I (w.putObj b (.loop r')):=ow hh hsame hI hb
 have hlr:=b8 hl (by simp)
 have hbk:ai σ (ac h d s)=some b:=by rw [hlr];simp [ai,hs]
 refine ⟨H.put (fun _ _ h=>h) (fun _ h=>h) hx.kp (hx.kp.inW H.inW) d s row ?_ ?_,hx⟩
 ·rcases hrow with rfl | ⟨st',rfl,hst'⟩
  ·trivial
  ·exact ⟨b,k,hs,⟨r',World.putObj_heap_same (bN hh),hst'⟩,hI,hb⟩
 ·intro d' s' b' hne hb'
  have hf:=aM (H.rows d' s') hb'
  have hneb:b'≠b:=fun e=>by
   subst e
   exact hne (H.apart d s d' s' _ hbk hb')
  refine ⟨World.putObj_heap_other hneb,hf.2.1,fun e=> ?_⟩
  rcases hrow with rfl | ⟨st',rfl,hst'⟩
  ·simp [ai,aC] at e
  ·simp [ai,hs] at e
   exact hneb e.symm
theorem k7: ∀(ps:List Tmp) (args:List AV) (us:List Value) (t:List AV) (tm:Array Value),us.length=args.length→(∀p∈ps,p<tm.size)→
  (∀(j:Nat) (p:AV) (u:Value),args[j]? =some p→us[j]? =some u→ab σ I w p u)→(∀i,ab σ I w (a7 t i) (tm.getD i undef))→
  (∀i,ab σ I w (a7 (dA ps args t) i) (((ps.zip us).foldl (fun x (p,v)=>x.setIfInBounds p v) tm).getD i undef))∧((ps.zip us).foldl (fun x (p,v)=>x.setIfInBounds p v) tm).size=tm.size
 | [],args,us,t,tm,_,_,_,ht=>by simpa [dA] using ht
 | p::ps,[],us,t,tm,hl,_,_,ht=>by
  have:us=[]:=by simpa using hl
  subst this
  simpa [dA] using ht
 | p::ps,v::args,[],t,tm,hl,_,_,_=>by simp at hl
 | p::ps,v::args,u::us,t,tm,hl,hp,hr,ht=>by
  simp only [dA,List.zip_cons_cons,List.foldl_cons]
  have:=k7 ps args us (fA t p v) (tm.setIfInBounds p u) (by simpa using hl) (fun q hq=>by simp;exact hp q (by simp [hq])) (fun j x y hx hy=>hr (j+1) x y (by simpa using hx) (by simpa using hy)) ?_
  ·exact ⟨this.1,by rw [this.2];simp⟩
  ·intro i
   rw [fX,kG _ _ _ (hp p (by simp))]
   by_cases e:p=i
   ·rw [if_pos e,if_pos e];exact hr 0 v u (by simp) (by simp)
   ·rw [if_neg e,if_neg e];exact ht i
theorem ox (H:be C σ I w s a) {ps:Array Tmp} {assign body:Code} (fn:FuncId) (slot:Nat): ∃l mark w1 rec,(Instr.enterLoop fn a.tmps ps assign body C.r).run E.P w= .ok (l,mark) w1∧
  ae (aN σ s.g (l,0,0)) I C.base w1 (hput s.h d slot ⟨s.g,.lp .ready⟩)∧ar C.base σ I w (aN σ s.g (l,0,0)) I w1∧w1.heap[l]? =some (Obj.loop rec)∧
  rec.tmps=a.tmps∧rec.params=ps∧rec.assign=assign∧rec.body=body∧
  (∀x∈mark++a.defers,∃D,C.lo≤D∧x= { target:= .collected D,args:= #[]} ∧w1.heap[D]? =some (Obj.deferred (some [])))∧(mark++a.defers).Nodup:=by
 have hg:=H.fresh s.g (Nat.le_refl _)
 cases hr:C.r with
 | some l0=>
  obtain ⟨x,hx⟩:=H.around l0 hr
  have hG:aJ w (w.alloc (.loop { state:= .ready,pending:=none,fn,tmps:=a.tmps,params:=ps,assign,body,defers:=x.defers})) _:=⟨rfl,rfl,rfl,rfl⟩
  have hext:=ar.push (x:=(w.heap.size,0,0)) H.heap H.hb hg hG
  refine ⟨_,_,_,_,run_enterLoop_inner hx fn a.tmps ps assign body,H.heap.push hg hG d slot ?_,hext,hG.new,rfl,rfl,rfl,rfl,?_,by simpa using H.nodup⟩
  ·exact ⟨w.heap.size,0,aP,⟨_,hG.new,rfl,rfl⟩,fun hb=>absurd (H.heap.lt _ hb) (by omega),H.hb.up⟩
  ·intro x hx
   obtain ⟨D,h1,h2,h3⟩:=H.marks x (by simpa using hx)
   exact ⟨D,h1,h2,hext.kp.dfr D h3⟩
 | none=>
  have hG1:aJ w (w.alloc (.deferred (some []))) _:=⟨rfl,rfl,rfl,rfl⟩
  have hx1:ar C.base σ I w σ I (w.alloc (.deferred (some []))):=⟨fun _ _ h=>h,fun _ h=>h,fun _ h=> .inl h,hG1.keep H.heap.lt,hG1.below H.hb⟩
  have H1:ae σ I C.base (w.alloc (.deferred (some []))) s.h:=H.heap.keep (fun _ _ h=>h) (fun _ h=>h) hx1.kp (hx1.kp.inW H.heap.inW) fun d s b hb=>⟨hG1.old (aM (H.heap.rows d s) hb).1,(aM (H.heap.rows d s) hb).2.1⟩
  have hG:aJ (w.alloc (.deferred (some []))) ((w.alloc (.deferred (some []))).alloc (.loop { state:= .ready,pending:=none,fn,tmps:=a.tmps,params:=ps,assign,body,defers:=w.heap.size})) _:=⟨rfl,rfl,rfl,rfl⟩
  have hsz:(w.alloc (.deferred (some []))).heap.size=w.heap.size+1:=hG1.size
  have hB1:aG C.base (w.alloc (.deferred (some []))).heap.size:=H.hb.mono (by omega)
  have hext:=ar.push (x:=(w.heap.size+1,0,0)) H1 hB1 hg hG
  have hl:((w.alloc (.deferred (some []))).alloc (.loop { state:= .ready,pending:=none,fn,tmps:=a.tmps,params:=ps,assign,body,defers:=w.heap.size})).heap[w.heap.size+1]? =some (Obj.loop { state:= .ready,pending:=none,fn,tmps:=a.tmps,params:=ps,assign,body,defers:=w.heap.size}):=by
   rw [←hsz];exact hG.new
  have hpush:=H1.push (k:=0) (off:=0) hg hG d slot (b:= .lp .ready) ⟨(w.alloc (.deferred (some []))).heap.size,0,aP,⟨_,hG.new,rfl,rfl⟩,fun hb=>absurd (H1.lt _ hb) (by omega),hB1.up⟩
  rw [hsz] at hpush
  refine ⟨_,_,_,_,run_enterLoop_outer fn a.tmps ps assign body,hpush,hx1.trans hext,hl,rfl,rfl,rfl,rfl,?_,?_⟩
  ·intro x hx
   simp only [List.cons_append,List.nil_append,List.mem_cons] at hx
   rcases hx with rfl | hx
   ·exact ⟨w.heap.size,H.losz,rfl,by rw [hG.old (by omega)];exact hG1.new⟩
   ·obtain ⟨D,h1,h2,h3⟩:=H.marks x hx
    exact ⟨D,h1,h2,(hx1.trans hext).kp.dfr D h3⟩
  ·simp only [List.cons_append,List.nil_append]
   refine List.nodup_cons.2 ⟨fun hx=> ?_,H.nodup⟩
   obtain ⟨D,h1,h2,h3⟩:=H.marks _ hx
   have:=bN h3
   simp at h2
   omega
end
section
variable {E:ao} {call:bi} {ys:Ys} {d:Nat} {base:af} {C:Cx} {σ:ak} {I:af} {w:World} {h:aa} {s s':St} {a:Act}
theorem oy (ps:Array Tmp) (us:List Value) (tm:Array Value):(ps.zip us.toArray).foldl (fun x (q:Tmp×Value)=>x.setIfInBounds q.1 q.2) tm=(ps.toList.zip us).foldl (fun x (q:Tmp×Value)=>x.setIfInBounds q.1 q.2) tm:=by
 rw [←Array.foldl_toList]
 congr 1
 simp
theorem be.later {σ':ak} {I':af} {w':World} {h':aa} (H:be C σ I w s a) (hx:ar C.base σ I w σ' I' w') (hh:ae σ' I' C.base w' h') (hf: ∀k,s.g≤k→σ' k=none):be C σ' I' w' { s with h:=h'} a:=
  ⟨fun i=>hx.rep (H.tmp i),hh,hf,H.hb.mono hx.below.size,H.hn,fun x hx'=>let ⟨D,h1,h2,h3⟩:=H.marks x hx';⟨D,h1,h2,hx.kp.dfr D h3⟩,H.nodup,
   fun l hl=>let ⟨x,hx'⟩:=H.around l hl;let ⟨x',h1,_⟩:=hx.kp.loop l x hx';⟨x',h1⟩,H.lob,Nat.le_trans H.losz hx.below.size⟩
theorem oz {assign body:Code} {fa fb:St→Option (aZ×St)} {n:Nat} (ha: ∀C s x s',C.n=n→fa s=some (x,s')→fj E C ys assign s x s') (hb: ∀C s x s',C.n=n→fb s=some (x,s')→fj E C ys body s x s')
  {ps:Array Tmp} (hps: ∀p∈ps.toList,p<n) {tm:Array Value} (hn:n≤tm.size) {t:List AV} {slot gen l:Nat} {rec:Loop} (hys:bA E ys σ I w) (hσ:σ gen=some (l,0,0)) (hl:w.heap[l]? =some (Obj.loop rec))
  (ht: ∀i,ab σ I w (a7 t i) (tm.getD i undef)) (h1:rec.tmps=tm) (h2:rec.params=ps) (h3:rec.assign=assign) (h4:rec.body=body):fh E.P gen (fK fa fb ps t d slot gen) σ I w:=by
 refine ⟨l,0,0,hσ,fun σ1 I1 w1 hL base h args us g b h' g' he H hB hlen hr hfr=> ?_⟩
 unfold fK at he
 split at he
 ·rename_i hsz
  split at he
  ·rename_i hlive
   have hσ1:=hL.sig _ _ hσ
   obtain ⟨rr,hh,hok,_⟩:=H.loopPut (r':=rec) hlive hσ1 aC (.inl rfl)
   obtain ⟨rr',hh',hsame⟩:=hL.kp.loop l rec hl
   rw [hh] at hh'
   injection hh' with hh'
   injection hh' with hh'
   subst hh'
   have hpar:rr.params=ps:=hsame.2.2.1.trans h2
   have htm:rr.tmps=tm:=hsame.2.1.trans h1
   have has:rr.assign=assign:=hsame.2.2.2.1.trans h3
   have hbo:rr.body=body:=hsame.2.2.2.2.1.trans h4
   have hy:=run_yield (P:=E.P) (args:=us.toArray) hh (by rw [hpar];simp;omega)
   rw [hpar,htm,has,hbo,oy] at hy
   refine ⟨_,_,_,_,hy,?_⟩
   have hset:=k7 ps.toList args us t tm hlen (fun p hp=>Nat.lt_of_lt_of_le (hps p hp) hn) hr (fun i=>(ht i).mono hL.sig hL.blk hL.kp)
   split at he
   ·rename_i s1 hs1
    split at he
    ·rename_i hlive1
     split at he
     ·rename_i x s2 hs2
      have H0:be ⟨n,base,w1.heap.size,some l⟩ σ1 I1 w1 { t:=dA ps.toList args t,h:=h,g:=g} { tmps:=(ps.toList.zip us).foldl (fun x (q:Tmp×Value)=>x.setIfInBounds q.1 q.2) tm,defers:=[]} :=
       ⟨hset.1,H,hfr,hB,Nat.le_trans hn (Nat.le_of_eq hset.2.symm),fun x hx=>by simp at hx,List.nodup_nil,fun l' hl'=>by cases hl';exact ⟨rr,hh⟩,hB,Nat.le_refl _⟩
      refine roundIn_of_wpIn (F:=WF none) trivial ?_
      refine ha ⟨n,base,w1.heap.size,some l⟩ _ .normal s1 rfl hs1 σ1 I1 w1 _ _ H0 (hys.later hL) fun σ2 I2 w2 a2 hd=> ?_
      have hσ2:=hd.ext.sig _ _ hσ1
      obtain ⟨r2,hh2,hok2,hput2⟩:=hd.rel.heap.loopPut (r':=rec) hlive1 hσ2 aC (.inl rfl)
      obtain ⟨r2,hh2,hok2,hput2⟩:=hd.rel.heap.loopPut (r':= { r2 with state:= .busy}) hlive1 hσ2 ⟨gen,.lp .busy⟩ (.inr ⟨_,rfl,rfl⟩)
      have hh2':=hh2
      rename_i r20 hh20 hok20 hput20
      rw [hh20] at hh2'
      injection hh2' with hh2'
      injection hh2' with hh2'
      subst hh2'
      obtain ⟨H3,hx3⟩:=hput2 ⟨rfl,rfl,rfl,rfl,rfl,rfl⟩
      refine ⟨_,run_beginRound hh2 hok2.1,?_⟩
      have hS3:=hd.rel.later hx3 H3 hd.rel.fresh
      refine hb ⟨n,base,w1.heap.size,some l⟩ _ x s2 rfl hs2 σ2 I2 _ a2 _ hS3 ((hys.later hL).later (hd.ext.trans hx3).later) fun σ4 I4 w4 a4 hd4=> ?_
      have hσ4:=hd4.ext.sig _ _ hσ2
      split at he
      ·rename_i hlive4
       by_cases hxn:x= .normal
       ·subst hxn
        simp only [if_true,Option.some.injEq,Prod.mk.injEq] at he
        obtain ⟨rfl,rfl,rfl⟩:=he
        obtain ⟨r5,hh5,hok5,_⟩:=hd4.rel.heap.loopPut (r':=rec) hlive4 hσ4 aC (.inl rfl)
        obtain ⟨r5',hh5',hok5',hput5⟩:=hd4.rel.heap.loopPut (r':= { r5 with state:= .ready,pending:=none}) hlive4 hσ4 ⟨gen,.lp .ready⟩ (.inr ⟨_,rfl,rfl,rfl⟩)
        rw [hh5] at hh5'
        injection hh5' with hh5'
        injection hh5' with hh5'
        subst hh5'
        obtain ⟨H6,hx6⟩:=hput5 ⟨rfl,rfl,rfl,rfl,rfl,rfl⟩
        refine ⟨_,_,run_endRound none hh5,rfl,σ4,I4,H6,((hd.ext.trans hx3).trans hd4.ext).trans hx6,fun k hk=> ?_,hd4.rel.fresh,Nat.le_trans hd.grow hd4.grow⟩
        rw [hd4.low k (Nat.lt_of_lt_of_le hk hd.grow),hd.low k hk]
       ·rw [if_neg hxn] at he
        simp only [Option.some.injEq,Prod.mk.injEq] at he
        obtain ⟨rfl,rfl,rfl⟩:=he
        obtain ⟨r5,hh5,hok5,_⟩:=hd4.rel.heap.loopPut (r':=rec) hlive4 hσ4 aC (.inl rfl)
        obtain ⟨r5',hh5',hok5',hput5⟩:=hd4.rel.heap.loopPut (r':= { r5 with state:= .done,pending:=some x.code}) hlive4 hσ4 ⟨gen,.lp (.done x)⟩ (.inr ⟨_,rfl,rfl,rfl⟩)
        rw [hh5] at hh5'
        injection hh5' with hh5'
        injection hh5' with hh5'
        subst hh5'
        obtain ⟨H6,hx6⟩:=hput5 ⟨rfl,rfl,rfl,rfl,rfl,rfl⟩
        have post:kF σ1 I1 base w1 g (hput s2.h d slot ⟨gen,.lp (.done x)⟩) s2.g (w4.putObj l (.loop { r5 with state:= .done,pending:=some x.code})) σ4 I4:=
         ⟨H6,((hd.ext.trans hx3).trans hd4.ext).trans hx6,fun k hk=>by rw [hd4.low k (Nat.lt_of_lt_of_le hk hd.grow),hd.low k hk],hd4.rel.fresh,Nat.le_trans hd.grow hd4.grow⟩
        cases x with
        | normal=>exact absurd rfl hxn
        | ret=>exact ⟨_,_,run_endRound (some .ret) hh5,rfl,σ4,I4,post⟩
        | exit id=>exact ⟨_,_,run_endRound (some (.exit id)) hh5,rfl,σ4,I4,post⟩
        | goto t=>exact ⟨_,_,run_endRound (some (.goto t)) hh5,rfl,σ4,I4,post⟩
      ·cases he
     ·cases he
    ·cases he
   ·cases he
  ·cases he
 ·cases he
theorem cR (hcall:c9 E call) (hfz:ci E call) (hmix:E.P.follows .mixedOrders=true) (hent: ∀f,eN E f=true→ ∀args w,(callFunc f args).run E.P w= .ok (.enter f args) w) {fuel:Nat} :
  ∀(c:Code) (C:Cx),bU E C.n c=true→ ∀(s:St) (x:aZ) (s':St),aS E call ys d fuel c s=some (x,s')→fj E C ys c s x s'
 | .skip,C,_,s,x,s',h,σ,I,w,a,Q,H,hys,hQ=>by
  simp only [aS,Option.some.injEq,Prod.mk.injEq] at h
  obtain ⟨rfl,rfl⟩:=h
  exact wpIn_skip (hQ σ I w a (bB.refl H))
 | .label l,C,_,s,x,s',h,σ,I,w,a,Q,H,hys,hQ=>by
  simp only [aS,Option.some.injEq,Prod.mk.injEq] at h
  obtain ⟨rfl,rfl⟩:=h
  exact wpIn_label (hQ σ I w a (bB.refl H))
 | .ret,C,_,s,x,s',h,σ,I,w,a,Q,H,hys,hQ=>by
  simp only [aS,Option.some.injEq,Prod.mk.injEq] at h
  obtain ⟨rfl,rfl⟩:=h
  exact wpIn_ret (hQ σ I w a (bB.refl H))
 | .exit id,C,_,s,x,s',h,σ,I,w,a,Q,H,hys,hQ=>by
  simp only [aS,Option.some.injEq,Prod.mk.injEq] at h
  obtain ⟨rfl,rfl⟩:=h
  exact wpIn_exit (hQ σ I w a (bB.refl H))
 | .goto l,C,_,s,x,s',h,σ,I,w,a,Q,H,hys,hQ=>by
  simp only [aS,Option.some.injEq,Prod.mk.injEq] at h
  obtain ⟨rfl,rfl⟩:=h
  exact wpIn_goto (hQ σ I w a (bB.refl H))
 | .region id ops draw,C,hwf,s,x,s',h,σ,I,w,a,Q,H,hys,hQ=>by
  have hx:x= .normal:=by
   have h:=h
   simp only [aS] at h
   split at h
   ·simp only [Option.bind_eq_some_iff] at h
    obtain ⟨q,_,h⟩:=h
    split at h
    ·simp only [Option.some.injEq,Prod.mk.injEq] at h
     exact h.1.symm
    ·cases h
   simp only [Option.map_eq_some_iff,Prod.mk.injEq] at h
   obtain ⟨_,_,rfl,_⟩:=h
   rfl
  subst hx
  exact ou hcall hfz (fun _=>hmix) hwf h H hys hQ
 | .seq y z,C,hwf,s,x,s',h,σ,I,w,a,Q,H,hys,hQ=>by
  simp only [bU,Bool.and_eq_true] at hwf
  simp only [aS] at h
  cases hy:aS E call ys d fuel y s with
  | none=>simp [hy] at h
  | some r=>
   obtain ⟨x1,s1⟩:=r
   rw [hy] at h
   refine wpIn_seq (cR hcall hfz hmix hent y C hwf.1 s x1 s1 hy σ I w a _ H hys fun σ1 I1 w1 a1 hd=> ?_)
   cases x1 with
   | normal=>exact cR hcall hfz hmix hent z C hwf.2 s1 x s' h σ1 I1 w1 a1 Q hd.rel (hys.later hd.ext.later) fun σ' I' w' a' hd'=>hQ σ' I' w' a' (hd.trans hd')
   | _=>
    simp only [Option.some.injEq,Prod.mk.injEq] at h
    obtain ⟨rfl,rfl⟩:=h
    exact hQ σ1 I1 w1 a1 hd
 | .cond c y z,C,hwf,s,x,s',h,σ,I,w,a,Q,H,hys,hQ=>by
  simp only [bU,Bool.and_eq_true] at hwf
  simp only [aS] at h
  cases hb:cr (aB s.t c) with
  | none=>simp [hb] at h
  | some t=>
   have hev:=(gz (il H.tmp c) t).1 hb
   cases t with
   | true=>exact wpIn_cond_true hev (cR hcall hfz hmix hent y C hwf.1 s x s' (by simpa [hb] using h) σ I w a Q H hys hQ)
   | false=>exact wpIn_cond_false hev (cR hcall hfz hmix hent z C hwf.2 s x s' (by simpa [hb] using h) σ I w a Q H hys hQ)
 | .block id c,C,hwf,s,x,s',h,σ,I,w,a,Q,H,hys,hQ=>by
  simp only [bU] at hwf
  simp only [aS] at h
  cases hc:aS E call ys d fuel c s with
  | none=>simp [hc] at h
  | some r=>
   obtain ⟨x1,s1⟩:=r
   rw [hc] at h
   refine wpIn_block (cR hcall hfz hmix hent c C hwf s x1 s1 hc σ I w a _ H hys fun σ1 I1 w1 a1 hd=> ?_)
   cases x1 with
   | exit id'=>
    simp only [Option.some.injEq,Prod.mk.injEq] at h
    obtain ⟨rfl,rfl⟩:=h
    have:=hQ σ1 I1 w1 a1 hd
    simp only [k6,Exit.inBlock]
    by_cases e:id'=id
    ·simp only [e,if_true] at this ⊢; exact this
    ·simp only [e,if_false] at this ⊢; exact this
   | _=>
    simp only [Option.some.injEq,Prod.mk.injEq] at h
    obtain ⟨rfl,rfl⟩:=h
    exact hQ σ1 I1 w1 a1 hd
 | .loop c,C,hwf,s,x,s',h,σ,I,w,a,Q,H,hys,hQ=>by
  simp only [bU] at hwf
  simp only [aS] at h
  exact ov (fun s x s' hb=>cR hcall hfz hmix hent c C hwf s x s' hb) h σ I w a Q H hys hQ
 | .rangeFunc f ps assign body,C,hwf,s,x,s',h,σ,I,w,a,Q,H,hys,hQ=>by
  simp only [bU,Bool.and_eq_true] at hwf
  obtain ⟨⟨hps,hwa⟩,hwb⟩:=hwf
  have hps': ∀p∈ps.toList,p<C.n:=by
   rw [Array.all_eq_true_iff_forall_mem] at hps
   intro p hp
   simpa using hps p (by simpa using hp)
  simp only [aS,Option.bind_eq_some_iff] at h
  obtain ⟨⟨fid,b,c⟩,hcal,h⟩:=h
  simp only [] at h
  split at h
  ·rename_i hen
   simp only [Option.bind_eq_some_iff] at h
   obtain ⟨⟨v,h3,g3⟩,hcl,h⟩:=h
   simp only [] at h
   obtain ⟨vb,vc,hu,hlb,hlc,hrb,hrc⟩:=kI (il H.tmp f) hcal
   refine wpIn_rangeFunc fun fn _=> ?_
   obtain ⟨l,mark,w1,rec,hrun,H1,hx1,hrec,e1,e2,e3,e4,hmarks,hnd⟩:=ox (E:=E) (d:=d) (assign:=assign) (body:=body) (ps:=ps) H fn (ps.getD 0 0)
   have hgen:aN σ s.g (l,0,0) s.g=some (l,0,0):=aP
   have hargs:vb.toArray++ #[Value.func (.yield l) #[] #[]]++vc.toArray=(vb++[Value.func (.yield l) #[] #[]]++vc).toArray:=by apply Array.ext';simp
   refine ⟨l,mark,w1,{ target:= .fn (.func fid) vc.toArray,args:=vb.toArray++ #[.func (.yield l) #[] #[]]},w1,fid,(vb++[Value.func (.yield l) #[] #[]]++vc).toArray,w1,hrun,?_,fun _ _=>trivial,?_,fun h=>by simp [WF,Fence.wide] at h,?_⟩
   ·simp only [resolve]
    rw [hu]
    simp [Deferred.ofValue,Act.eval]
   ·rw [←hargs]
    simp [invoke,hent fid hen]
   ·have hyok:bA E ((s.g,fK (aS E call ys d fuel assign) (aS E call ys d fuel body) ps s.t d (ps.getD 0 0) s.g)::ys) (aN σ s.g (l,0,0)) I w1:=by
     refine ⟨?_,(hys.later hx1.later).2⟩
     intro gl hd ac
     simp only [Ys.get?] at ac
     split at ac
     ·rename_i e
      subst e
      injection ac with ac
      subst ac
      exact oz (n:=C.n) (fun C' s x s' hC hb=>cR hcall hfz hmix hent assign C' (by rw [hC];exact hwa) s x s' hb) (fun C' s x s' hC hb=>cR hcall hfz hmix hent body C' (by rw [hC];exact hwb) s x s' hb)
       hps' H.hn (hys.later hx1.later) hgen hrec (fun i=>hx1.rep (H.tmp i)) e1 e2 e3 e4
     ·exact (hys.1 gl hd ac).later hx1.later
    have hdo:=hcall _ (aN σ s.g (l,0,0)) I C.base w1 _ fid _ d _ (s.g+1) (s.g+2) v h3 g3 (vb++[Value.func (.yield l) #[] #[]]++vc) hcl hyok H1 (H.hb.mono hx1.below.size) (by simp [hlb,hlc])
     (fi (by simp [hlb]) (fi hlb (fun j p u hp hu=>hx1.rep (hrb j p u hp hu)) (fun j p u hp hu=>by
      cases j with
      | zero=>
       have hp1:some (AV.yld d (ps.getD 0 0) s.g)=some p:=hp
       have hu1:some (Value.func (.yield l) #[] #[])=some u:=hu
       injection hp1 with hp1
       injection hu1 with hu1
       subst hp1
       subst hu1
       exact .yld d (ps.getD 0 0) s.g l 0 0 hgen
      | succ j=>simp at hp)) (fun j p u hp hu=>hx1.rep (hrc j p u hp hu)))
     (by rw [bV (by omega)];exact H.fresh _ (by omega)) (by omega) (fun k hk=>by rw [bV (by omega)];exact H.fresh _ (by omega))
    rcases hdo with ⟨_,_,hv,_⟩ | ⟨_,hcalls⟩ | ⟨_,_,_,hv,_⟩
    ·rw [hent fid hen] at hv;cases hv
    ·refine CallsIn.mono (F:=WF C.r) (callsIn_wide.2 hcalls) ?_
     intro e w3 he
     cases e with
     | panicked ch=>exact he.elim
     | outgrown=>exact he.elim
     | returned u=>
      obtain ⟨σ3,I3,hp⟩:=he
      have hσ3:σ3 s.g=some (l,0,0):=by rw [hp.low _ (by omega) (by omega)];exact hgen
      have fin: ∀(st:fw),live h3 d (ps.getD 0 0) s.g= .lp st→ ∃r w4,w3.heap[l]? =some (Obj.loop r)∧fY st r∧(r.state≠ .busy→(Instr.endLoop l).run E.P w3= .ok r.pending w4)∧
        bB C s.g σ I w { t:=s.t,h:=hput h3 d (ps.getD 0 0) aC,g:=g3} σ3 I3 w4 { a with defers:=mark++a.defers} :=by
       intro st hlv
       obtain ⟨r,hh,hok,_⟩:=hp.heap.loopPut (r':=rec) hlv hσ3 aC (.inl rfl)
       obtain ⟨r',hh',hok',hput⟩:=hp.heap.loopPut (r':= { r with state:= .exhausted}) hlv hσ3 aC (.inl rfl)
       rw [hh] at hh'
       injection hh' with hh'
       injection hh' with hh'
       subst hh'
       obtain ⟨H4,hx4⟩:=hput ⟨rfl,rfl,rfl,rfl,rfl,rfl⟩
       have hx:=(hx1.trans hp.ext).trans hx4
       refine ⟨r,_,hh,hok,fun hnb=>run_endLoop hh hnb,⟨⟨fun i=>hx.rep (H.tmp i),H4,hp.high,H.hb.mono hx.below.size,H.hn,?_,hnd,?_,H.lob,Nat.le_trans H.losz hx.below.size⟩,hx,fun k hk=> ?_,by have:=hp.grow;simp only [];omega⟩⟩
       ·intro x hx'
        obtain ⟨D,d1,d2,d3⟩:=hmarks x hx'
        exact ⟨D,d1,d2,(hp.ext.trans hx4).kp.dfr D d3⟩
       ·intro l' hl'
        obtain ⟨x,hx'⟩:=H.around l' hl'
        obtain ⟨x',h1,_⟩:=hx.kp.loop l' x hx'
        exact ⟨x',h1⟩
       ·rw [hp.low k (by omega) (by omega),bV (by omega)]
      split at h
      ·rename_i hlv
       simp only [Option.some.injEq,Prod.mk.injEq] at h
       obtain ⟨rfl,rfl⟩:=h
       obtain ⟨r,w4,hh,hok,hend,hdone⟩:=fin _ hlv
       exact ⟨_,w4,hend (by rw [hok.1];simp),by rw [hok.2];exact hQ σ3 I3 w4 _ hdone⟩
      ·rename_i y hlv
       split at h
       ·cases h
       ·rename_i hxn
        simp only [Option.some.injEq,Prod.mk.injEq] at h
        obtain ⟨rfl,rfl⟩:=h
        obtain ⟨r,w4,hh,hok,hend,hdone⟩:=fin _ hlv
        refine ⟨_,w4,hend (by rw [hok.1];simp),?_⟩
        rw [hok.2]
        have hq:=hQ σ3 I3 w4 _ hdone
        cases y with
        | normal=>exact absurd rfl hxn
        | ret=>exact wpIn_ret hq
        | exit id=>exact wpIn_exit hq
        | goto t=>exact wpIn_goto hq
      ·cases h
    ·rw [hent fid hen] at hv;cases hv
  ·cases h
end
end Go.Proofs.YthkilaondjgemaaGreatDoor.Abs

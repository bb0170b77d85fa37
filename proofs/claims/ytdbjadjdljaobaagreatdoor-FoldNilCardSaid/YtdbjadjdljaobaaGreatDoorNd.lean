/-
  The abstract machine over the model, its soundness, walks of the program's functions and what they compute. Conditions: the values are of their types.
-/
import Derived.Test.YtdbjadjdljaobaaGreatDoorProg
import Derived.Test.YtdbjadjdljaobaaGreatDoorNa
import Derived.Test.YtdbjadjdljaobaaGreatDoorNc
import Derived.Deep.Slices
import Derived.SizedLaws
import Derived.Shelf.Strings.Builder1
import Derived.Shelf.Strings.Builder2
import Derived.Shelf.Strings.OnBuilder
import Derived.Shelf.Small.Utf8
import Derived.Shelf.Small.Strs
import Derived.Shelf.Strings.BuilderF
import Derived.Shelf.Utf8.RuneCount
import Derived.Shelf.Strconv.Itoa0
import Derived.Shelf.Strconv.Itoa1
import Derived.Shelf.LaysM
import Derived.Shelf.Strconv.Itoa2
import Derived.Shelf.Strconv.Itoa3
import Derived.Ground.MpProg
import Derived.Shelf.Pu.ParseUintPublic10
import Derived.Shelf.Strings.Search1
import Derived.Shelf.Strings.Search2
import Derived.Shelf.Strings.Search3
import Derived.Shelf.Strings.Cut
import Derived.Shelf.Strings.Count
import Derived.Shelf.Strings.Shaped
import Derived.Shelf.Strings.Prefix
import Derived.Shelf.Strings.Split
import Derived.Shelf.Strings.SplitShaped
import Derived.Shelf.Unicode.Decode
import Derived.Shelf.Strings.Runes
import Derived.Shelf.Strings.RuneCount
import Derived.Shelf.Strings.AsciiSet
import Derived.Shelf.Strings.Explode
import Derived.Shelf.Bits.Mul64
import Derived.Shelf.Strings.Repeat
import Derived.Shelf.Unicode.DecodeSlow
import Derived.Shelf.Unicode.DecodeAny
import Derived.Ground.Names2Prog
import Derived.Shelf.Slices.Clone
import Derived.Shelf.Slices.SearchI
import Derived.Ground.SlgnProg
import Derived.Shelf.SlicesE.Clone
import Derived.Lib.Walk
import Derived.Lib.ItoaMem
import Derived.WalkKit
import Derived.BigCall
import Derived.BigGuard
import Derived.LaidEql
import Derived.Stop.Asserts
import Derived.RowKitTokens
import Derived.Lib.Builder
import Derived.Laws.Externs
import Derived.Lib.Strings
import Derived.Lib.Slices
import Derived.Lib.UnsafeStr

set_option linter.all false
set_option linter.unnecessarySimpa false

namespace Go.Proofs.YtdbjadjdljaobaaGreatDoor.Abs
open Go Go.Proofs
inductive F2 (I:ah) (w:World):List PV→List Value→Prop
 | nil:F2 I w [] []
 | cons {p:PV} {v:Value} {ps:List PV} {vs:List Value} (h:am I w p v) (h1:v.oneCell'=true) (r:F2 I w ps vs):F2 I w (p::ps) (v::vs)
theorem F2.length {I:ah} {w:World} {ps:List PV} {vs:List Value} (h:F2 I w ps vs):ps.length=vs.length:=by
 induction h with
 | nil=>rfl
 | cons _ _ _ ih=>simp [ih]
theorem F2.get {I:ah} {w:World} {ps:List PV} {vs:List Value} (h:F2 I w ps vs): ∀ {j:Nat} {p:PV} {v:Value},ps[j]? =some p→vs[j]? =some v→am I w p v∧v.oneCell'=true:=by
 induction h with
 | nil=>intro j p v hp;simp at hp
 | cons a b r ih=>
  intro j p v hp hv
  cases j with
  | zero=>simp only [List.getElem?_cons_zero,Option.some.injEq] at hp hv;subst hp;subst hv;exact ⟨a,b⟩
  | succ j=>simp only [List.getElem?_cons_succ] at hp hv;exact ih hp hv
theorem F2.append {I:ah} {w:World} {ps qs:List PV} {vs us:List Value} (h:F2 I w ps vs) (k:F2 I w qs us):F2 I w (ps++qs) (vs++us):=by
 induction h with
 | nil=>exact k
 | cons a b r ih=>exact .cons a b ih
def bM (P:Program) (t:TypeId):Bool:=match P.underlying t with
 | some (.struct _)=>true
 | _=>false
def cK (st:Bool) (cs:List PV):PV:=if st then .agg cs else cs.headD default
def iu (W:TypeId→List PV→Prop):List Field→List PV→Prop
 | [],r=>r=[]
 | f::fs,r=> ∃a b,r=a++b∧W f.type a∧iu W fs b
def bq (P:Program):Nat→TypeId→List PV→Prop
 | 0,_,_=>False
 | n+1,t,cs=>match P.underlying t with
  | some .bool=> ∃b,cs=[.lit (.bool b)]
  | some (.int k)=> ∃x,cs=[.lit (.int k x)]∧(Lit.int k x).wf=true
  | some .string=> ∃s:ByteArray,cs=[.lit (.string s)]∧s.size≤reachBytes
  | some (.slice e)=> ∃(k:Nat) (nl:Bool) (rs:List (List PV)),cs=[.sl k nl false (rs.map (cK (bM P e)))]∧ir (P.cellsOf e) k nl rs.length∧rs.length*P.bytesOf e≤reachBytes∧ ∀r∈rs,bq P n e r
  | some (.struct fs)=>iu (bq P n) fs.toList cs
  | _=>False
def eH (P:Program):List Field→Nat→Nat→Bool
 | [],o,n=>o==n
 | f::fs,o,n=>(f.offset==o)&&eH P fs (o+P.cellsOf f.type) n
def dJ (P:Program):Nat→TypeId→Bool
 | 0,_=>false
 | m+1,t=>match P.underlying t with
  | some .bool | some (.int _) | some .string=>P.cellsOf t==1
  | some (.slice e)=>P.cellsOf t==1&&dJ P m e&&decide (0<P.cellsOf e)
  | some (.struct fs)=>eH P fs.toList 0 (P.cellsOf t)&&fs.toList.all (fun f=>dJ P m f.type)
  | _=>false
theorem pn {H:Type} {P:Program} {e:TypeId} : ∀ {l:List (DataW H)} {d:DataW H} {n:Nat},d∈l→n∈d.weights P e→n∈DataW.weightsAll P e l
 | x::l,d,n,hd,hn=>by
  simp only [DataW.weightsAll,List.mem_append]
  cases List.mem_cons.1 hd with
  | inl h=>subst h;exact .inl hn
  | inr h=>exact .inr (pn h hn)
theorem po {P:Program} {n:Nat} {t:TypeId} {r:List PV} (hs:bM P t=false) (h:bq P n t r): ∃p,r=[p]∧p.cells=[p]∧p.ok=true:=by
 cases n with
 | zero=>exact h.elim
 | succ n=>
  unfold bq at h
  unfold bM at hs
  split at h
  ·obtain ⟨b,rfl⟩:=h;exact ⟨_,rfl,rfl,rfl⟩
  ·obtain ⟨b,rfl,_⟩:=h;exact ⟨_,rfl,rfl,rfl⟩
  ·obtain ⟨b,rfl,_⟩:=h;exact ⟨_,rfl,rfl,rfl⟩
  ·obtain ⟨k,nl,rs,rfl,_⟩:=h;exact ⟨_,rfl,rfl,rfl⟩
  ·rename_i he;rw [he] at hs;cases hs
  ·exact h.elim
theorem lP {P:Program} {n:Nat} {t:TypeId} {r:List PV} (h:bq P n t r):(cK (bM P t) r).cells=r∧(cK (bM P t) r).ok=true:=by
 unfold cK
 cases hs:bM P t with
 | true=>exact ⟨rfl,rfl⟩
 | false=>
  obtain ⟨p,rfl,h1,h2⟩:=po hs h
  exact ⟨h1,h2⟩
theorem pp {α:Type} {q:Nat→α→Prop} : ∀n,(∀i,i<n→ ∃x,q i x)→ ∃l:List α,l.length=n∧ ∀i (h:i<l.length),q i l[i]
 | 0,_=>⟨[],rfl,fun i h=>absurd h (Nat.not_lt_zero _)⟩
 | n+1,h=>by
  obtain ⟨l,hl,hq⟩:=pp n (fun i hi=>h i (Nat.lt_succ_of_lt hi))
  obtain ⟨x,hx⟩:=h n (Nat.lt_succ_self n)
  refine ⟨l++[x],by simp [hl],fun i hi=> ?_⟩
  by_cases hc:i<l.length
  ·rw [List.getElem_append_left hc];exact hq i hc
  ·have:i=n:=by simp at hi;omega
   subst this
   rw [List.getElem_append_right (by omega)]
   simpa [hl] using hx
theorem t8 (a:Addr) (i j:Nat):(a.add i).add j=a.add (i+j):=by
 unfold Addr.add
 by_cases hi:i=0<;>by_cases hj:j=0<;>simp [hi,hj,Nat.add_assoc]
theorem pq {w:World} {a:Addr} {v:Value} (h:w.cell? a=some v):a.spot=none∧ ∃e n,w.shape? a.block=some (e,n):=by
 unfold World.cell? at h
 split at h
 ·rename_i c t f hb
  split at h
  ·cases h
  ·rename_i hs
   refine ⟨by simpa using hs,t,c.size,?_⟩
   unfold World.shape?
   rw [hb]
 ·cases h
section
variable {H:Type} {enc:TypeId×Value→H} {P:Program} {w:World} {I:ah} {held:Bool}
theorem pr {total:Nat} {cs:List Value} (hcs:cs.length=total) {W:TypeId→List PV→Prop} : ∀(fs:List Field) (o:Nat),eH P fs o total=true→o≤total→
  (∀f∈fs,∃ps,W f.type ps∧F2 I w ps ((cs.drop f.offset).take (P.cellsOf f.type)))→ ∃ps,iu W fs ps∧F2 I w ps (cs.drop o)
 | [],o,hc,_,_=>by
  simp only [eH,beq_iff_eq] at hc
  rw [List.drop_of_length_le (by omega)]
  exact ⟨[],rfl,.nil⟩
 | f::fs,o,hc,ho,h=>by
  simp only [eH,Bool.and_eq_true,beq_iff_eq] at hc
  obtain ⟨h1,h2⟩:=hc
  obtain ⟨a,ha,hfa⟩:=h f (by simp)
  rw [h1] at hfa
  have hle:o+P.cellsOf f.type≤total:=by
   have: ∀(fs:List Field) (o:Nat),eH P fs o total=true→o≤total:=by
    intro fs
    induction fs with
    | nil=>intro o h;simp only [eH,beq_iff_eq] at h;omega
    | cons g gs ih=>intro o h;simp only [eH,Bool.and_eq_true,beq_iff_eq] at h;have:=ih _ h.2;omega
   exact this _ _ h2
  obtain ⟨b,hb,hfb⟩:=pr hcs fs (o+P.cellsOf f.type) h2 hle (fun g hg=>h g (by simp [hg]))
  refine ⟨a++b,⟨a,b,rfl,ha,hb⟩,?_⟩
  have e:cs.drop o=(cs.drop o).take (P.cellsOf f.type)++cs.drop (o+P.cellsOf f.type):=by
   rw [←List.drop_drop,List.take_append_drop]
  rw [e]
  exact hfa.append hfb
theorem ua (hI: ∀b e n,w.shape? b=some (e,n)→I b): ∀(fuel:Nat) (t:TypeId) (cs:List Value) (x:DataW H×List MemPlace) (m:Nat),DataW.trod enc P w 0 (fun _=>true) held fuel t cs=some x→dJ P m t=true→
  (∀n∈x.1.weights P t,n≤reachBytes)→ ∃ps,bq P fuel t ps∧F2 I w ps cs:=by
 intro fuel
 induction fuel with
 | zero=>intro t cs x m h;simp [DataW.trod] at h
 | succ fuel ih=>
  intro t cs x m h hp hw
  cases m with
  | zero=>simp [dJ] at hp
  | succ m=>
   unfold dJ at hp
   unfold bq
   split at hp
   ·rename_i ht
    obtain ⟨b,rfl,rfl⟩:=DataW.trod_bool ht h
    exact ⟨_,⟨b,rfl⟩,.cons (.lit _) rfl .nil⟩
   ·rename_i k ht
    obtain ⟨b,rfl,rfl,hb⟩:=DataW.trod_int ht h
    exact ⟨_,⟨b,rfl,hb⟩,.cons (.lit _) rfl .nil⟩
   ·rename_i ht
    obtain ⟨s,rfl,rfl,_⟩:=DataW.trod_string ht h
    exact ⟨_,⟨s,rfl,by
     have h1:=hw s.data.toList.length (by simp only [DataW.weights,List.mem_singleton])
     rw [Array.length_toList] at h1
     exact h1⟩,.cons (.lit _) rfl .nil⟩
   ·rename_i e ht
    simp only [Bool.and_eq_true,beq_iff_eq,decide_eq_true_eq] at hp
    obtain ⟨⟨_,hp2⟩,hp3⟩:=hp
    rcases DataW.trod_slice ht h with ⟨rfl,rfl⟩ | ⟨a,len,cap,elems,rest,n,hn,rfl,rfl,_,hlen,hmax,hel,hx,_,_⟩
    ·exact ⟨_,⟨0,true,[],rfl,⟨fun _=>rfl,fun e=>Bool.noConfusion e⟩,by simp,fun r hr=>absurd hr (List.not_mem_nil)⟩,.cons (.nil 0 false) rfl .nil⟩
    ·obtain rfl:fuel=n:=by omega
     have hwt:=hw
     simp only [DataW.weights,ht,List.mem_cons,List.length_map] at hwt
     have hsz:=hwt _ (.inl rfl)
     obtain ⟨rs,hrs,hq⟩:=pp (q:=fun i r=>bq P fuel e r∧ ∃cs',w.cells? 0 (a.add (i*P.cellsOf e)) (P.cellsOf e)=some cs'∧F2 I w r cs') len (fun i hi=>by
      have h12:=hx i (by omega)
      rw [List.getElem?_eq_getElem (by omega)] at h12
      obtain ⟨cs',h1,h2⟩:=Option.bind_eq_some_iff.1 h12
      obtain ⟨ps,hps,hf⟩:=ih e cs' _ m h2 hp2 (fun k hk=>hwt k (.inr (List.mem_append_left _ (pn (List.mem_map.2 ⟨_,List.getElem_mem _,rfl⟩) hk))))
      exact ⟨ps,hps,cs',h1,hf⟩)
     have hlen2:rs.length*P.bytesOf e≤reachBytes:=by
      refine Nat.le_trans (Nat.mul_le_mul_right _ ?_) hsz
      omega
     have hwell: ∀r∈rs,bq P fuel e r:=fun r hr=>by
      obtain ⟨i,hi,rfl⟩:=List.getElem_of_mem hr
      exact (hq i hi).1
     refine ⟨_,⟨P.cellsOf e,false,rs,rfl,⟨fun e=>Bool.noConfusion e,fun _=>rfl⟩,hlen2,hwell⟩,.cons ?_ rfl .nil⟩
     by_cases h0:len=0
     ·have:rs=[]:=List.length_eq_zero_iff.1 (by omega)
      subst this;subst h0
      exact .emp _ _ _ _ (fun e=>Bool.noConfusion e)
     ·have ac: ∀(i:Nat) (x:PV),(rs.map (cK (bM P e)))[i]? =some x→ ∃hi:i<rs.length,x.cells=rs[i]:=fun i x hx=>by
       rw [List.getElem?_map] at hx
       obtain ⟨r,hr,rfl⟩:=Option.map_eq_some_iff.1 hx
       obtain ⟨hi,rfl⟩:=List.getElem?_eq_some_iff.1 hr
       exact ⟨hi,(lP (hq i hi).1).1⟩
      have hcell: ∀(i j:Nat) (p:PV) (hi:i<rs.length),rs[i][j]? =some p→ ∃v,w.cell? (a.add (i*P.cellsOf e+j))=some v∧v.oneCell'=true∧am I w p v:=fun i j p hi hp=>by
       obtain ⟨_,cs',h1,hf⟩:=hq i hi
       obtain ⟨_,hl,hc⟩:=World.cells?_some h1
       have hj:j<cs'.length:=by rw [←hf.length];exact (List.getElem?_eq_some_iff.1 hp).1
       have hv:cs'[j]? =some cs'[j]:=List.getElem?_eq_getElem hj
       obtain ⟨h3,h4⟩:=hf.get hp hv
       have:=hc j (by omega)
       rw [t8,hv] at this
       exact ⟨_,this,h4,h3⟩
      have hk:a.spot=none∧I a.block:=by
       obtain ⟨_,cs',h1,hf⟩:=hq 0 (by omega)
       obtain ⟨_,hl,hc⟩:=World.cells?_some h1
       have:=hc 0 hp3
       rw [List.getElem?_eq_getElem (by omega)] at this
       obtain ⟨h5,e',n',h6⟩:=pq this
       have ea:((a.add (0*P.cellsOf e)).add 0)=a:=by unfold Addr.add;simp
       rw [ea] at h5 h6
       exact ⟨h5,hI _ _ _ h6⟩
      obtain ⟨b,o,sp⟩:=a
      obtain ⟨rfl,hIb⟩:=hk
      have hadd: ∀n,(⟨b,o,none⟩:Addr).add n=⟨b,o+n,none⟩:=fun n=>by
       unfold Addr.add
       by_cases hn:n=0
       ·subst hn;simp
       ·simp [hn]
      have hc2: ∀(i:Nat) (x:PV),(rs.map (cK (bM P e)))[i]? =some x→ ∀(j:Nat) (p:PV),x.cells[j]? =some p→
        ∃v,w.cell? ⟨b,o+i*P.cellsOf e+j,none⟩=some v∧v.oneCell'=true∧am I w p v:=fun i x hx j p hp=>by
       obtain ⟨hi,e1⟩:=ac i x hx
       rw [e1] at hp
       obtain ⟨v,h1,h2,h3⟩:=hcell i j p hi hp
       rw [hadd,←Nat.add_assoc] at h1
       exact ⟨v,h1,h2,h3⟩
      have hlm:(rs.map (cK (bM P e))).length=len:=by simp [hrs]
      rw [←hlm]
      refine .sl _ _ _ b o cap (fun i j=>(w.cell? ⟨b,o+i*P.cellsOf e+j,none⟩).getD default) (by omega) (fun e=>Bool.noConfusion e) hIb (fun x hx=> ?_) (fun i x hx j p hp=> ?_) (fun i x hx j p hp=> ?_)
      ·obtain ⟨r,hr,rfl⟩:=List.mem_map.1 hx
       obtain ⟨i,hi,rfl⟩:=List.getElem_of_mem hr
       obtain ⟨h3,cs',h1,hf⟩:=hq i hi
       obtain ⟨_,hl,_⟩:=World.cells?_some h1
       refine ⟨?_,(lP h3).2⟩
       rw [(lP h3).1,hf.length,hl]
      ·obtain ⟨v,h1,h2,h3⟩:=hc2 i x hx j p hp
       simp only [h1,Option.getD_some]
       exact ⟨trivial,h2⟩
      ·obtain ⟨v,h1,h2,h3⟩:=hc2 i x hx j p hp
       simp only [h1,Option.getD_some]
       exact h3
   ·rename_i fs ht
    simp only [Bool.and_eq_true,List.all_eq_true] at hp
    obtain ⟨xs,n,hn,rfl,hl,hxl,hf⟩:=DataW.trod_struct ht h
    obtain rfl:fuel=n:=by omega
    have hwf: ∀(fl:List Field) (l:List (DataW H)) (i:Nat) (f:Field) (d:DataW H) (k:Nat),fl[i]? =some f→l[i]? =some d→k∈d.weights P f.type→k∈DataW.weightsEach P (fl.map (·.type)) l:=by
     intro fl l i f d k h1 h2 h3
     exact DataW.weights_mem_each (j:=i) (t:=f.type) (by simp [h1]) h2 k h3
    obtain ⟨ps,h1,h2⟩:=pr (I:=I) (w:=w) hl fs.toList 0 hp.1 (by omega) (W:=bq P fuel) (fun f hfm=>by
     obtain ⟨i,hi,rfl⟩:=List.getElem_of_mem hfm
     have hfi:fs[i]? =some fs.toList[i]:=by simp at hi ⊢
     have hx:=hf i _ hfi
     have hi':i<xs.length:=by rw [hxl];simpa using hi
     rw [List.getElem?_eq_getElem hi'] at hx
     obtain ⟨ps,hps,hf2⟩:=ih _ _ _ m hx (hp.2 _ hfm) (fun k hk=>hw k (by
      simp only [DataW.weights,ht]
      exact hwf fs.toList (xs.map (·.1)) i _ _ k (List.getElem?_eq_getElem hi) (by simp [hi']) hk))
     exact ⟨ps,hps,hf2⟩)
    exact ⟨ps,h1,by simpa using h2⟩
   ·cases hp
end
theorem pw {P:Program} {n:Nat} {t:TypeId} {k:IntKind} {cs:List PV} (ht:P.underlying t=some (.int k)) (h:bq P n t cs): ∃x,cs=[.lit (.int k x)]∧(Lit.int k x).wf=true:=by
 cases n with
 | zero=>exact h.elim
 | succ n=>unfold bq at h;rw [ht] at h;exact h
theorem ub {P:Program} {n:Nat} {t:TypeId} {cs:List PV} (ht:P.underlying t=some .string) (h:bq P n t cs): ∃s:ByteArray,cs=[.lit (.string s)]∧s.size≤reachBytes:=by
 cases n with
 | zero=>exact h.elim
 | succ n=>unfold bq at h;rw [ht] at h;exact h
theorem uc {P:Program} {n:Nat} {t e:TypeId} {cs:List PV} (ht:P.underlying t=some (.slice e)) (h:bq P n t cs):
  ∃(m k:Nat) (nl:Bool) (rs:List (List PV)),cs=[.sl k nl false (rs.map (cK (bM P e)))]∧ir (P.cellsOf e) k nl rs.length∧rs.length*P.bytesOf e≤reachBytes∧ ∀r∈rs,bq P m e r:=by
 cases n with
 | zero=>exact h.elim
 | succ n=>unfold bq at h;rw [ht] at h;exact ⟨n,h⟩
theorem px {P:Program} {n:Nat} {t:TypeId} {fs:Array Field} {cs:List PV} (ht:P.underlying t=some (.struct fs)) (h:bq P n t cs): ∃m,iu (bq P m) fs.toList cs:=by
 cases n with
 | zero=>exact h.elim
 | succ n=>unfold bq at h;rw [ht] at h;exact ⟨n,h⟩
theorem ud {P:Program} {t:TypeId} {fs:Array Field} (ht:P.underlying t=some (.struct fs)):bM P t=true:=by unfold bM;rw [ht]
end Go.Proofs.YtdbjadjdljaobaaGreatDoor.Abs
namespace Go.Proofs
open Go.Shelf
def Tryz.lays156_ren:Go.Shelf.Ren:=⟨fun | 156=>217 | 165=>268 | 166=>195 | 169=>197 | 240=>255 | 241=>305 | 276=>299 | 277=>332 | n=>n,fun | 31=>62 | 9=>9 | 3=>3 | 4=>4 | 0=>0 | 20=>20 | 72=>302 | 76=>56 | 70=>300 | 37=>94 | 75=>37 | 127=>343 | 164=>198 | 5=>5 | 80=>231 | n=>n,fun | n=>n⟩
theorem Tryz.lays156:Go.Proofs.Lays.n156 Tryz.prog Tryz.lays156_ren:= {
 mixed:=by kernel_rfl
 f156:=Tryz.func217.trans (congrArg some (by kernel_rfl))
 f165:=Tryz.func268.trans (congrArg some (by kernel_rfl))
 f166:=Tryz.func195.trans (congrArg some (by kernel_rfl))
 f169:=Tryz.func197.trans (congrArg some (by kernel_rfl))
 f240:=Tryz.func255.trans (congrArg some (by kernel_rfl))
 f241:=Tryz.func305.trans (congrArg some (by kernel_rfl))
 f276:=Tryz.func299.trans (congrArg some (by kernel_rfl))
 f277:=Tryz.func332.trans (congrArg some (by kernel_rfl))
 t0:=Tryz.underlying0
 a0:=Tryz.isAgg0
 z0:=Tryz.sizeOf0
 v0:=Tryz.zeroValue0
 t3:=Tryz.underlying3
 a3:=Tryz.isAgg3
 z3:=Tryz.sizeOf3
 v3:=Tryz.zeroValue3
 t4:=Tryz.underlying4
 a4:=Tryz.isAgg4
 z4:=Tryz.sizeOf4
 v4:=Tryz.zeroValue4
 t9:=Tryz.underlying9
 a9:=Tryz.isAgg9
 z9:=Tryz.sizeOf9
 v9:=Tryz.zeroValue9
 t20:=Tryz.underlying20
 a20:=Tryz.isAgg20
 z20:=Tryz.sizeOf20
 v20:=Tryz.zeroValue20
 t31:=Tryz.underlying62
 a31:=Tryz.isAgg62
 z31:=Tryz.sizeOf62
 v31:=Tryz.zeroValue62
 t37:=Tryz.underlying94
 a37:=Tryz.isAgg94
 z37:=Tryz.sizeOf94
 v37:=Tryz.zeroValue94
 t70:=Tryz.underlying300
 a70:=Tryz.isAgg300
 z70:=Tryz.sizeOf300
 v70:=Tryz.zeroValue300
 t72:=Tryz.underlying302
 a72:=Tryz.isAgg302
 z72:=Tryz.sizeOf302
 v72:=Tryz.zeroValue302
 t75:=Tryz.underlying37
 a75:=Tryz.isAgg37
 z75:=Tryz.sizeOf37
 v75:=Tryz.zeroValue37
 t76:=Tryz.underlying56
 a76:=Tryz.isAgg56
 z76:=Tryz.sizeOf56
 v76:=Tryz.zeroValue56
 t127:=Tryz.underlying343
 a127:=Tryz.isAgg343
 z127:=Tryz.sizeOf343
 v127:=Tryz.zeroValue343
 t164:=Tryz.underlying198
 a164:=Tryz.isAgg198
 z164:=Tryz.sizeOf198
 v164:=Tryz.zeroValue198}
theorem Tryz.Builder_Extra_156:Builder.Extra Tryz.prog Tryz.lays156_ren:= {
 sizeBuilder:=by kernel_rfl
 liesBuilder:=by kernel_rfl
 t5:=Tryz.underlying5
 a5:=Tryz.isAgg5
 z5:=Tryz.sizeOf5
 v5:=Tryz.zeroValue5
 infoByte:=by kernel_rfl
 cellsByte:=by kernel_rfl
 sizeByte:=by kernel_rfl
 neB5:=by decide}
open Go.RowKit in
theorem Tryz.strings_Join_none (a:Option Addr) (c:Nat) (sep:ByteArray) (w:World):
  Calls Tryz.prog 217 #[.slice a 0 c,.string sep] w fun e w'=>e= .returned (.string ⟨#[]⟩)∧w'=w:=Any.strings_Join_none Tryz.lays156 Tryz.Builder_Extra_156 a c sep w
open Go.RowKit in
theorem Tryz.strings_Join (bk o c:Nat) (xs:List ByteArray) (sep:ByteArray) (w:World) (hcells: ∀(j:Nat) x,xs[j]? =some x→w.cell? ⟨bk,o+j,none⟩=some (.string x)) (hbk:bk<w.heap.size) (hN:xs.length≤140737488355328) (hcap:xs.length≤c) (hlen:(Lib.join (xs.map (·.data.toList)) sep.data.toList).length≤140737488355328):
  Calls Tryz.prog 217 #[.slice (some ⟨bk,o,none⟩) xs.length c,.string sep] w fun e w'=>e= .returned (.string ⟨(Lib.join (xs.map (·.data.toList)) sep.data.toList).toArray⟩)∧Below w.heap.size w w':=Any.strings_Join Tryz.lays156 Tryz.Builder_Extra_156 bk o c xs sep w hcells hbk hN hcap hlen
def Tryz.lays283_ren:Go.Shelf.Ren:=⟨fun | 283=>341 | n=>n,fun | 3=>3 | 9=>9 | 4=>4 | n=>n,fun | n=>n⟩
theorem Tryz.lays283:Go.Proofs.Lays.n283 Tryz.prog Tryz.lays283_ren:= {
 mixed:=by kernel_rfl
 f283:=Tryz.func341.trans (congrArg some (by kernel_rfl))
 t3:=Tryz.underlying3
 a3:=Tryz.isAgg3
 z3:=Tryz.sizeOf3
 v3:=Tryz.zeroValue3
 t4:=Tryz.underlying4
 a4:=Tryz.isAgg4
 z4:=Tryz.sizeOf4
 v4:=Tryz.zeroValue4
 t9:=Tryz.underlying9
 a9:=Tryz.isAgg9
 z9:=Tryz.sizeOf9
 v9:=Tryz.zeroValue9}
open Go.Lib in
theorem Tryz.internal_strconv_small (i:Nat) (h:i<100) (w:World):
  Calls Tryz.prog 341 #[.int .i64 i] w fun e w'=>e= .returned (.string ⟨(Lib.decDigits i).toArray⟩)∧w'=w:=Any.internal_strconv_small Tryz.lays283 i h w
def Tryz.laysM284_ren:Go.Shelf.Ren:=⟨fun | 284=>342 | 129=>210 | 317=>348 | 318=>349 | n=>n,fun | 53=>47 | 3=>3 | 212=>432 | 0=>0 | 4=>4 | 46=>241 | 5=>5 | 9=>9 | n=>n,fun | 17=>6 | n=>n⟩
theorem Tryz.laysM284:Go.Proofs.LaysM.n284 Tryz.prog Tryz.laysM284_ren:= {
 mixed:=by kernel_rfl
 f129:=Tryz.func210.trans (congrArg some (by kernel_rfl))
 f284:=Tryz.func342.trans (congrArg some (by kernel_rfl))
 f317:=Tryz.func348.trans (congrArg some (by kernel_rfl))
 f318:=Tryz.func349.trans (congrArg some (by kernel_rfl))
 t0:=Tryz.underlying0
 a0:=Tryz.isAgg0
 z0:=Tryz.sizeOf0
 v0:=Tryz.zeroValue0
 t3:=Tryz.underlying3
 a3:=Tryz.isAgg3
 z3:=Tryz.sizeOf3
 v3:=Tryz.zeroValue3
 t4:=Tryz.underlying4
 a4:=Tryz.isAgg4
 z4:=Tryz.sizeOf4
 v4:=Tryz.zeroValue4
 t5:=Tryz.underlying5
 a5:=Tryz.isAgg5
 z5:=Tryz.sizeOf5
 v5:=Tryz.zeroValue5
 t9:=Tryz.underlying9
 a9:=Tryz.isAgg9
 z9:=Tryz.sizeOf9
 v9:=Tryz.zeroValue9
 t46:=Tryz.underlying241
 a46:=Tryz.isAgg241
 z46:=Tryz.sizeOf241
 v46:=Tryz.zeroValue241
 t53:=Tryz.underlying47
 a53:=Tryz.isAgg47
 z53:=Tryz.sizeOf47
 v53:=Tryz.zeroValue47
 t212:=Tryz.underlying432
 a212:=Tryz.isAgg432
 z212:=Tryz.sizeOf432
 v212:=Tryz.zeroValue432
 g17:=by kernel_rfl
 i0:=by kernel_rfl
 i3:=by kernel_rfl
 i4:=by kernel_rfl
 i5:=by kernel_rfl
 i9:=by kernel_rfl
 i46:=by kernel_rfl
 i53:=by kernel_rfl
 i212:=by kernel_rfl
 m17:=by kernel_rfl}
open Go.Lib in
theorem Tryz.internal_strconv_numDigits (u:Nat) (h1:1≤u) (h2:u<18446744073709551616) (w:World) (htab:Lib.TabIs Tryz.prog w "internal/strconv.uint64pow10" .u64 Lib.pow10Tab):
  Calls Tryz.prog 342 #[.int .u64 u] w fun e w'=>e= .returned (.int .i64 (Lib.nDigits u))∧w'=w:=Any.internal_strconv_numDigits Tryz.laysM284 u h1 h2 w htab
def Tryz.lays285_ren:Go.Shelf.Ren:=⟨fun | 285=>343 | n=>n,fun | 37=>94 | 53=>47 | 3=>3 | 4=>4 | 51=>48 | 9=>9 | 5=>5 | 0=>0 | n=>n,fun | n=>n⟩
theorem Tryz.lays285:Go.Proofs.Lays.n285 Tryz.prog Tryz.lays285_ren:= {
 mixed:=by kernel_rfl
 f285:=Tryz.func343.trans (congrArg some (by kernel_rfl))
 t0:=Tryz.underlying0
 a0:=Tryz.isAgg0
 z0:=Tryz.sizeOf0
 v0:=Tryz.zeroValue0
 t3:=Tryz.underlying3
 a3:=Tryz.isAgg3
 z3:=Tryz.sizeOf3
 v3:=Tryz.zeroValue3
 t4:=Tryz.underlying4
 a4:=Tryz.isAgg4
 z4:=Tryz.sizeOf4
 v4:=Tryz.zeroValue4
 t5:=Tryz.underlying5
 a5:=Tryz.isAgg5
 z5:=Tryz.sizeOf5
 v5:=Tryz.zeroValue5
 t9:=Tryz.underlying9
 a9:=Tryz.isAgg9
 z9:=Tryz.sizeOf9
 v9:=Tryz.zeroValue9
 t37:=Tryz.underlying94
 a37:=Tryz.isAgg94
 z37:=Tryz.sizeOf94
 v37:=Tryz.zeroValue94
 t51:=Tryz.underlying48
 a51:=Tryz.isAgg48
 z51:=Tryz.sizeOf48
 v51:=Tryz.zeroValue48
 t53:=Tryz.underlying47
 a53:=Tryz.isAgg47
 z53:=Tryz.sizeOf47
 v53:=Tryz.zeroValue47}
open Go.RowKit Go.Sort Go.Lib in
theorem Tryz.internal_strconv_formatBase10 (blk off cap:Nat) (u:Nat) (d:Array UInt8) (w:World) (hH:Holds (fun (b:UInt8)=>Value.int .u8 (b.toNat:Int)) w blk off d) (hu:u<10^d.size) (hu64:u<18446744073709551616) (hsz:d.size<4611686018427387904):
  Calls Tryz.prog 343 #[.slice (some ⟨blk,off,none⟩) d.size cap,.int .u64 u] w fun e w'=>
   e= .returned (.tuple #[])∧ ∃(n v':Nat) (dk:Array UInt8),w'=(putRow (fun (b:UInt8)=>Value.int .u8 (b.toNat:Int)) w blk off dk).drewN n∧FmtInv d.size u 0 v' dk:=Any.internal_strconv_formatBase10 Tryz.lays285 blk off cap u d w hH hu hu64 hsz
def Tryz.laysM171_ren:Go.Shelf.Ren:=⟨fun | 171=>340 | 243=>347 | 246=>354 | 283=>341 | 284=>342 | 285=>343 | 286=>344 | 129=>210 | 317=>348 | 318=>349 | 319=>350 | 320=>351 | 337=>355 | 338=>356 | n=>n,fun | 3=>3 | 9=>9 | 2=>2 | 4=>4 | 171=>419 | 0=>0 | 53=>47 | 37=>94 | 5=>5 | 173=>421 | 212=>432 | 51=>48 | 20=>20 | 213=>433 | 46=>241 | 232=>436 | 233=>437 | n=>n,fun | 17=>6 | 18=>7 | 19=>8 | n=>n⟩
theorem Tryz.laysM171:Go.Proofs.LaysM.n171 Tryz.prog Tryz.laysM171_ren:= {
 mixed:=by kernel_rfl
 f129:=Tryz.func210.trans (congrArg some (by kernel_rfl))
 f171:=Tryz.func340.trans (congrArg some (by kernel_rfl))
 f243:=Tryz.func347.trans (congrArg some (by kernel_rfl))
 f246:=Tryz.func354.trans (congrArg some (by kernel_rfl))
 f283:=Tryz.func341.trans (congrArg some (by kernel_rfl))
 f284:=Tryz.func342.trans (congrArg some (by kernel_rfl))
 f285:=Tryz.func343.trans (congrArg some (by kernel_rfl))
 f286:=Tryz.func344.trans (congrArg some (by kernel_rfl))
 f317:=Tryz.func348.trans (congrArg some (by kernel_rfl))
 f318:=Tryz.func349.trans (congrArg some (by kernel_rfl))
 f319:=Tryz.func350.trans (congrArg some (by kernel_rfl))
 f320:=Tryz.func351.trans (congrArg some (by kernel_rfl))
 f337:=Tryz.func355.trans (congrArg some (by kernel_rfl))
 f338:=Tryz.func356.trans (congrArg some (by kernel_rfl))
 t0:=Tryz.underlying0
 a0:=Tryz.isAgg0
 z0:=Tryz.sizeOf0
 v0:=Tryz.zeroValue0
 t2:=Tryz.underlying2
 a2:=Tryz.isAgg2
 z2:=Tryz.sizeOf2
 v2:=Tryz.zeroValue2
 t3:=Tryz.underlying3
 a3:=Tryz.isAgg3
 z3:=Tryz.sizeOf3
 v3:=Tryz.zeroValue3
 t4:=Tryz.underlying4
 a4:=Tryz.isAgg4
 z4:=Tryz.sizeOf4
 v4:=Tryz.zeroValue4
 t5:=Tryz.underlying5
 a5:=Tryz.isAgg5
 z5:=Tryz.sizeOf5
 v5:=Tryz.zeroValue5
 t9:=Tryz.underlying9
 a9:=Tryz.isAgg9
 z9:=Tryz.sizeOf9
 v9:=Tryz.zeroValue9
 t20:=Tryz.underlying20
 a20:=Tryz.isAgg20
 z20:=Tryz.sizeOf20
 v20:=Tryz.zeroValue20
 t37:=Tryz.underlying94
 a37:=Tryz.isAgg94
 z37:=Tryz.sizeOf94
 v37:=Tryz.zeroValue94
 t46:=Tryz.underlying241
 a46:=Tryz.isAgg241
 z46:=Tryz.sizeOf241
 v46:=Tryz.zeroValue241
 t51:=Tryz.underlying48
 a51:=Tryz.isAgg48
 z51:=Tryz.sizeOf48
 v51:=Tryz.zeroValue48
 t53:=Tryz.underlying47
 a53:=Tryz.isAgg47
 z53:=Tryz.sizeOf47
 v53:=Tryz.zeroValue47
 t171:=Tryz.underlying419
 a171:=Tryz.isAgg419
 z171:=Tryz.sizeOf419
 v171:=Tryz.zeroValue419
 t173:=Tryz.underlying421
 a173:=Tryz.isAgg421
 z173:=Tryz.sizeOf421
 v173:=Tryz.zeroValue421
 t212:=Tryz.underlying432
 a212:=Tryz.isAgg432
 z212:=Tryz.sizeOf432
 v212:=Tryz.zeroValue432
 t213:=Tryz.underlying433
 a213:=Tryz.isAgg433
 z213:=Tryz.sizeOf433
 t232:=Tryz.underlying436
 a232:=Tryz.isAgg436
 z232:=Tryz.sizeOf436
 v232:=Tryz.zeroValue436
 t233:=Tryz.underlying437
 a233:=Tryz.isAgg437
 z233:=Tryz.sizeOf437
 v233:=Tryz.zeroValue437
 g17:=by kernel_rfl
 g18:=by kernel_rfl
 g19:=by kernel_rfl
 i0:=by kernel_rfl
 i2:=by kernel_rfl
 i3:=by kernel_rfl
 i4:=by kernel_rfl
 i5:=by kernel_rfl
 i9:=by kernel_rfl
 i20:=by kernel_rfl
 i37:=by kernel_rfl
 i46:=by kernel_rfl
 i51:=by kernel_rfl
 i53:=by kernel_rfl
 i171:=by kernel_rfl
 i173:=by kernel_rfl
 i212:=by kernel_rfl
 i232:=by kernel_rfl
 i233:=by kernel_rfl
 m17:=by kernel_rfl
 m18:=by kernel_rfl
 m19:=by kernel_rfl}
open Go.RowKit Go.Sort Go.Lib in
theorem Tryz.strconv_Itoa (n:Int) (h0: -9223372036854775808≤n) (h1:n≤9223372036854775807) (w:World) (htab:Lib.TabIs Tryz.prog w "internal/strconv.uint64pow10" .u64 Lib.pow10Tab):
  Calls Tryz.prog 340 #[.int .i64 n] w fun e w'=>e= .returned (.string ⟨(Lib.itoa n).toArray⟩)∧ ∃k os,w'=grow (w.drewN k) os:=Any.strconv_Itoa Tryz.laysM171 n h0 h1 w htab
def Tryz.laysPu14_ren:Go.Shelf.Ren:=⟨fun | 14=>237 | 16=>290 | 17=>291 | 19=>320 | 20=>321 | 21=>322 | 22=>323 | 23=>324 | 24=>325 | 25=>338 | 27=>340 | 26=>339 | 28=>347 | 29=>354 | 30=>341 | 31=>342 | 32=>343 | 33=>344 | 35=>210 | 34=>348 | 36=>349 | 37=>350 | 38=>351 | 39=>355 | 40=>356 | n=>n,fun | 9=>9 | 3=>3 | 22=>47 | 24=>37 | 25=>332 | 4=>4 | 34=>401 | 5=>5 | 36=>241 | 37=>94 | 0=>0 | 39=>403 | 21=>21 | 44=>416 | 47=>343 | 50=>430 | 48=>428 | 2=>2 | 52=>419 | 55=>421 | 59=>432 | 60=>48 | 20=>20 | 61=>433 | 65=>436 | 66=>437 | 67=>231 | n=>n,fun | 0=>2 | 1=>3 | 2=>6 | 3=>7 | 4=>8 | n=>n⟩
theorem Tryz.laysPu14:Go.Proofs.LaysPu.n14 Tryz.prog Tryz.laysPu14_ren:= {
 mixed:=by kernel_rfl
 f14:=Tryz.func237.trans (congrArg some (by kernel_rfl))
 f16:=Tryz.func290.trans (congrArg some (by kernel_rfl))
 f17:=Tryz.func291.trans (congrArg some (by kernel_rfl))
 f19:=Tryz.func320.trans (congrArg some (by kernel_rfl))
 f20:=Tryz.func321.trans (congrArg some (by kernel_rfl))
 f21:=Tryz.func322.trans (congrArg some (by kernel_rfl))
 f22:=Tryz.func323.trans (congrArg some (by kernel_rfl))
 f23:=Tryz.func324.trans (congrArg some (by kernel_rfl))
 f24:=Tryz.func325.trans (congrArg some (by kernel_rfl))
 f25:=Tryz.func338.trans (congrArg some (by kernel_rfl))
 f26:=Tryz.func339.trans (congrArg some (by kernel_rfl))
 f27:=Tryz.func340.trans (congrArg some (by kernel_rfl))
 f28:=Tryz.func347.trans (congrArg some (by kernel_rfl))
 f29:=Tryz.func354.trans (congrArg some (by kernel_rfl))
 f30:=Tryz.func341.trans (congrArg some (by kernel_rfl))
 f31:=Tryz.func342.trans (congrArg some (by kernel_rfl))
 f32:=Tryz.func343.trans (congrArg some (by kernel_rfl))
 f33:=Tryz.func344.trans (congrArg some (by kernel_rfl))
 f34:=Tryz.func348.trans (congrArg some (by kernel_rfl))
 f35:=Tryz.func210.trans (congrArg some (by kernel_rfl))
 f36:=Tryz.func349.trans (congrArg some (by kernel_rfl))
 f37:=Tryz.func350.trans (congrArg some (by kernel_rfl))
 f38:=Tryz.func351.trans (congrArg some (by kernel_rfl))
 f39:=Tryz.func355.trans (congrArg some (by kernel_rfl))
 f40:=Tryz.func356.trans (congrArg some (by kernel_rfl))
 t0:=Tryz.underlying0
 a0:=Tryz.isAgg0
 z0:=Tryz.sizeOf0
 v0:=Tryz.zeroValue0
 i0:=by kernel_rfl
 t2:=Tryz.underlying2
 a2:=Tryz.isAgg2
 z2:=Tryz.sizeOf2
 v2:=Tryz.zeroValue2
 i2:=by kernel_rfl
 t3:=Tryz.underlying3
 a3:=Tryz.isAgg3
 z3:=Tryz.sizeOf3
 v3:=Tryz.zeroValue3
 i3:=by kernel_rfl
 t4:=Tryz.underlying4
 a4:=Tryz.isAgg4
 z4:=Tryz.sizeOf4
 v4:=Tryz.zeroValue4
 i4:=by kernel_rfl
 t5:=Tryz.underlying5
 a5:=Tryz.isAgg5
 z5:=Tryz.sizeOf5
 v5:=Tryz.zeroValue5
 i5:=by kernel_rfl
 t9:=Tryz.underlying9
 a9:=Tryz.isAgg9
 z9:=Tryz.sizeOf9
 v9:=Tryz.zeroValue9
 i9:=by kernel_rfl
 t20:=Tryz.underlying20
 a20:=Tryz.isAgg20
 z20:=Tryz.sizeOf20
 v20:=Tryz.zeroValue20
 i20:=by kernel_rfl
 t21:=Tryz.underlying21
 a21:=Tryz.isAgg21
 z21:=Tryz.sizeOf21
 v21:=Tryz.zeroValue21
 i21:=by kernel_rfl
 t22:=Tryz.underlying47
 a22:=Tryz.isAgg47
 z22:=Tryz.sizeOf47
 v22:=Tryz.zeroValue47
 i22:=by kernel_rfl
 t24:=Tryz.underlying37
 a24:=Tryz.isAgg37
 z24:=Tryz.sizeOf37
 v24:=Tryz.zeroValue37
 i24:=by kernel_rfl
 t25:=Tryz.underlying332
 a25:=Tryz.isAgg332
 z25:=Tryz.sizeOf332
 v25:=Tryz.zeroValue332
 i25:=by kernel_rfl
 t34:=Tryz.underlying401
 a34:=Tryz.isAgg401
 z34:=Tryz.sizeOf401
 v34:=Tryz.zeroValue401
 i34:=by kernel_rfl
 c34:=by kernel_rfl
 t36:=Tryz.underlying241
 a36:=Tryz.isAgg241
 z36:=Tryz.sizeOf241
 v36:=Tryz.zeroValue241
 i36:=by kernel_rfl
 t37:=Tryz.underlying94
 a37:=Tryz.isAgg94
 z37:=Tryz.sizeOf94
 v37:=Tryz.zeroValue94
 i37:=by kernel_rfl
 t39:=Tryz.underlying403
 a39:=Tryz.isAgg403
 z39:=Tryz.sizeOf403
 v39:=Tryz.zeroValue403
 i39:=by kernel_rfl
 t44:=Tryz.underlying416
 a44:=Tryz.isAgg416
 z44:=Tryz.sizeOf416
 v44:=Tryz.zeroValue416
 i44:=by kernel_rfl
 t47:=Tryz.underlying343
 a47:=Tryz.isAgg343
 z47:=Tryz.sizeOf343
 v47:=Tryz.zeroValue343
 i47:=by kernel_rfl
 t48:=Tryz.underlying428
 a48:=Tryz.isAgg428
 z48:=Tryz.sizeOf428
 v48:=Tryz.zeroValue428
 i48:=by kernel_rfl
 t50:=Tryz.underlying430
 a50:=Tryz.isAgg430
 z50:=Tryz.sizeOf430
 v50:=Tryz.zeroValue430
 i50:=by kernel_rfl
 t52:=Tryz.underlying419
 a52:=Tryz.isAgg419
 z52:=Tryz.sizeOf419
 v52:=Tryz.zeroValue419
 i52:=by kernel_rfl
 t55:=Tryz.underlying421
 a55:=Tryz.isAgg421
 z55:=Tryz.sizeOf421
 v55:=Tryz.zeroValue421
 i55:=by kernel_rfl
 t59:=Tryz.underlying432
 a59:=Tryz.isAgg432
 z59:=Tryz.sizeOf432
 v59:=Tryz.zeroValue432
 i59:=by kernel_rfl
 t60:=Tryz.underlying48
 a60:=Tryz.isAgg48
 z60:=Tryz.sizeOf48
 v60:=Tryz.zeroValue48
 i60:=by kernel_rfl
 t61:=Tryz.underlying433
 a61:=Tryz.isAgg433
 z61:=Tryz.sizeOf433
 t65:=Tryz.underlying436
 a65:=Tryz.isAgg436
 z65:=Tryz.sizeOf436
 v65:=Tryz.zeroValue436
 i65:=by kernel_rfl
 t66:=Tryz.underlying437
 a66:=Tryz.isAgg437
 z66:=Tryz.sizeOf437
 v66:=Tryz.zeroValue437
 i66:=by kernel_rfl
 t67:=Tryz.underlying231
 a67:=Tryz.isAgg231
 z67:=Tryz.sizeOf231
 v67:=Tryz.zeroValue231
 i67:=by kernel_rfl
 g0:=by kernel_rfl
 m0:=by kernel_rfl
 g1:=by kernel_rfl
 m1:=by kernel_rfl
 g2:=by kernel_rfl
 m2:=by kernel_rfl
 g3:=by kernel_rfl
 m3:=by kernel_rfl
 g4:=by kernel_rfl
 m4:=by kernel_rfl}
open Go.RowKit in
theorem Tryz.strconv_ParseUint_10_at64_ok (s:ByteArray) (hmax:s.size≤9223372036854775806) (u:Nat) (h:Lib.parseUintB 64 s.data.toList= .ok u) (w:World):
  Calls Tryz.prog 237 #[.string s,.int .i64 10,.int .i64 64] w fun e w'=>e= .returned (.tuple #[.int .u64 u,.nilIface])∧(w'=w∨w'=Lib.bytesWorld w 5 s):=Any.strconv_ParseUint_10_at64_ok Tryz.laysPu14 s hmax u h w
def Tryz.lays145_ren:Go.Shelf.Ren:=⟨fun | 145=>120 | 220=>171 | 219=>222 | 217=>280 | 225=>281 | 224=>282 | 267=>283 | 266=>312 | 314=>313 | n=>n,fun | 9=>9 | 4=>4 | 59=>195 | 3=>3 | 5=>5 | 46=>241 | 146=>389 | 51=>48 | n=>n,fun | 1=>1 | n=>n⟩
theorem Tryz.lays145:Go.Proofs.Lays.n145 Tryz.prog Tryz.lays145_ren:= {
 mixed:=by kernel_rfl
 f145:=Tryz.func120.trans (congrArg some (by kernel_rfl))
 f217:=Tryz.func280.trans (congrArg some (by kernel_rfl))
 f219:=Tryz.func222.trans (congrArg some (by kernel_rfl))
 f220:=Tryz.func171.trans (congrArg some (by kernel_rfl))
 f224:=Tryz.func282.trans (congrArg some (by kernel_rfl))
 f225:=Tryz.func281.trans (congrArg some (by kernel_rfl))
 f266:=Tryz.func312.trans (congrArg some (by kernel_rfl))
 f267:=Tryz.func283.trans (congrArg some (by kernel_rfl))
 f314:=Tryz.func313.trans (congrArg some (by kernel_rfl))
 t3:=Tryz.underlying3
 a3:=Tryz.isAgg3
 z3:=Tryz.sizeOf3
 v3:=Tryz.zeroValue3
 t4:=Tryz.underlying4
 a4:=Tryz.isAgg4
 z4:=Tryz.sizeOf4
 v4:=Tryz.zeroValue4
 t5:=Tryz.underlying5
 a5:=Tryz.isAgg5
 z5:=Tryz.sizeOf5
 v5:=Tryz.zeroValue5
 t9:=Tryz.underlying9
 a9:=Tryz.isAgg9
 z9:=Tryz.sizeOf9
 v9:=Tryz.zeroValue9
 t46:=Tryz.underlying241
 a46:=Tryz.isAgg241
 z46:=Tryz.sizeOf241
 v46:=Tryz.zeroValue241
 t51:=Tryz.underlying48
 a51:=Tryz.isAgg48
 z51:=Tryz.sizeOf48
 v51:=Tryz.zeroValue48
 t59:=Tryz.underlying195
 a59:=Tryz.isAgg195
 z59:=Tryz.sizeOf195
 v59:=Tryz.zeroValue195
 t146:=Tryz.underlying389
 a146:=Tryz.isAgg389
 z146:=Tryz.sizeOf389
 v146:=Tryz.zeroValue389
 g1:=by kernel_rfl}
open Go.RowKit Go.Lib in
theorem Tryz.strings_Cut (s sep:ByteArray) (m:Int) (w:World) (hs:s.size<4294967281) (hm:w.cell? ⟨1,0,none⟩=some (.int .i64 m)):
  Calls Tryz.prog 120 #[.string s,.string sep] w fun e w'=>e= .returned (.tuple #[.string ⟨(Lib.cut s.data.toList sep.data.toList).1.toArray⟩,.string ⟨(Lib.cut s.data.toList sep.data.toList).2.1.toArray⟩,.bool (Lib.cut s.data.toList sep.data.toList).2.2])∧ ∃n,w'=w.drewN n:=Any.strings_Cut Tryz.lays145 s sep m w hs hm
def Tryz.lays146_ren:Go.Shelf.Ren:=⟨fun | 146=>170 | 221=>221 | 268=>278 | 138=>279 | 143=>198 | 195=>309 | 197=>310 | 218=>311 | 219=>222 | 260=>334 | 217=>280 | 225=>281 | 224=>282 | 267=>283 | 266=>312 | 314=>313 | n=>n,fun | 9=>9 | 31=>62 | 3=>3 | 4=>4 | 0=>0 | 105=>387 | 21=>21 | 5=>5 | 46=>241 | 119=>423 | 139=>426 | 138=>425 | 146=>389 | 51=>48 | n=>n,fun | 1=>1 | 3=>4 | 4=>5 | n=>n⟩
theorem Tryz.lays146:Go.Proofs.Lays.n146 Tryz.prog Tryz.lays146_ren:= {
 mixed:=by kernel_rfl
 f138:=Tryz.func279.trans (congrArg some (by kernel_rfl))
 f143:=Tryz.func198.trans (congrArg some (by kernel_rfl))
 f146:=Tryz.func170.trans (congrArg some (by kernel_rfl))
 f195:=Tryz.func309.trans (congrArg some (by kernel_rfl))
 f197:=Tryz.func310.trans (congrArg some (by kernel_rfl))
 f217:=Tryz.func280.trans (congrArg some (by kernel_rfl))
 f218:=Tryz.func311.trans (congrArg some (by kernel_rfl))
 f219:=Tryz.func222.trans (congrArg some (by kernel_rfl))
 f221:=Tryz.func221.trans (congrArg some (by kernel_rfl))
 f224:=Tryz.func282.trans (congrArg some (by kernel_rfl))
 f225:=Tryz.func281.trans (congrArg some (by kernel_rfl))
 f260:=Tryz.func334.trans (congrArg some (by kernel_rfl))
 f266:=Tryz.func312.trans (congrArg some (by kernel_rfl))
 f267:=Tryz.func283.trans (congrArg some (by kernel_rfl))
 f268:=Tryz.func278.trans (congrArg some (by kernel_rfl))
 f314:=Tryz.func313.trans (congrArg some (by kernel_rfl))
 t0:=Tryz.underlying0
 a0:=Tryz.isAgg0
 z0:=Tryz.sizeOf0
 v0:=Tryz.zeroValue0
 t3:=Tryz.underlying3
 a3:=Tryz.isAgg3
 z3:=Tryz.sizeOf3
 v3:=Tryz.zeroValue3
 t4:=Tryz.underlying4
 a4:=Tryz.isAgg4
 z4:=Tryz.sizeOf4
 v4:=Tryz.zeroValue4
 t5:=Tryz.underlying5
 a5:=Tryz.isAgg5
 z5:=Tryz.sizeOf5
 v5:=Tryz.zeroValue5
 t9:=Tryz.underlying9
 a9:=Tryz.isAgg9
 z9:=Tryz.sizeOf9
 v9:=Tryz.zeroValue9
 t21:=Tryz.underlying21
 a21:=Tryz.isAgg21
 z21:=Tryz.sizeOf21
 v21:=Tryz.zeroValue21
 t31:=Tryz.underlying62
 a31:=Tryz.isAgg62
 z31:=Tryz.sizeOf62
 v31:=Tryz.zeroValue62
 t46:=Tryz.underlying241
 a46:=Tryz.isAgg241
 z46:=Tryz.sizeOf241
 v46:=Tryz.zeroValue241
 t51:=Tryz.underlying48
 a51:=Tryz.isAgg48
 z51:=Tryz.sizeOf48
 v51:=Tryz.zeroValue48
 t105:=Tryz.underlying387
 a105:=Tryz.isAgg387
 z105:=Tryz.sizeOf387
 v105:=Tryz.zeroValue387
 t119:=Tryz.underlying423
 a119:=Tryz.isAgg423
 z119:=Tryz.sizeOf423
 t138:=Tryz.underlying425
 a138:=Tryz.isAgg425
 z138:=Tryz.sizeOf425
 v138:=Tryz.zeroValue425
 t139:=Tryz.underlying426
 a139:=Tryz.isAgg426
 z139:=Tryz.sizeOf426
 v139:=Tryz.zeroValue426
 t146:=Tryz.underlying389
 a146:=Tryz.isAgg389
 z146:=Tryz.sizeOf389
 v146:=Tryz.zeroValue389
 g1:=by kernel_rfl
 g3:=by kernel_rfl
 g4:=by kernel_rfl}
open Go.RowKit Go.Lib in
theorem Tryz.strings_Split (s sep:ByteArray) (m:Int) (w:World) (hs:s.size<4294967281) (hm:w.cell? ⟨1,0,none⟩=some (.int .i64 m)) (h1:1≤sep.size):
  Calls Tryz.prog 170 #[.string s,.string sep] w fun e w'=>
   e= .returned (.slice (some ⟨w.heap.size,0,none⟩) (Lib.countB s sep+1) (Lib.countB s sep+1))∧w'=w.alloc (.cells ((Lib.splitB sep 0 (Lib.countB s sep) s).map Value.string).toArray 9):=Any.strings_Split Tryz.lays146 (by kernel_rfl) s sep m w hs hm h1
def Tryz.lays105_ren:Go.Shelf.Ren:=⟨fun | 105=>267 | 212=>303 | 99=>304 | 165=>268 | 166=>195 | 170=>194 | 169=>197 | 263=>329 | 264=>330 | 206=>331 | 240=>255 | 241=>305 | 276=>299 | 277=>332 | n=>n,fun | 9=>9 | 3=>3 | 4=>4 | 20=>20 | 0=>0 | 46=>241 | 109=>383 | 5=>5 | 72=>302 | 76=>56 | 51=>48 | 146=>389 | 53=>47 | 148=>409 | 70=>300 | 37=>94 | 75=>37 | 127=>343 | 164=>198 | 80=>231 | n=>n,fun | n=>n⟩
theorem Tryz.lays105:Go.Proofs.Lays.n105 Tryz.prog Tryz.lays105_ren:= {
 mixed:=by kernel_rfl
 f99:=Tryz.func304.trans (congrArg some (by kernel_rfl))
 f105:=Tryz.func267.trans (congrArg some (by kernel_rfl))
 f165:=Tryz.func268.trans (congrArg some (by kernel_rfl))
 f166:=Tryz.func195.trans (congrArg some (by kernel_rfl))
 f169:=Tryz.func197.trans (congrArg some (by kernel_rfl))
 f170:=Tryz.func194.trans (congrArg some (by kernel_rfl))
 f206:=Tryz.func331.trans (congrArg some (by kernel_rfl))
 f212:=Tryz.func303.trans (congrArg some (by kernel_rfl))
 f240:=Tryz.func255.trans (congrArg some (by kernel_rfl))
 f241:=Tryz.func305.trans (congrArg some (by kernel_rfl))
 f263:=Tryz.func329.trans (congrArg some (by kernel_rfl))
 f264:=Tryz.func330.trans (congrArg some (by kernel_rfl))
 f276:=Tryz.func299.trans (congrArg some (by kernel_rfl))
 f277:=Tryz.func332.trans (congrArg some (by kernel_rfl))
 t0:=Tryz.underlying0
 a0:=Tryz.isAgg0
 z0:=Tryz.sizeOf0
 v0:=Tryz.zeroValue0
 t3:=Tryz.underlying3
 a3:=Tryz.isAgg3
 z3:=Tryz.sizeOf3
 v3:=Tryz.zeroValue3
 t4:=Tryz.underlying4
 a4:=Tryz.isAgg4
 z4:=Tryz.sizeOf4
 v4:=Tryz.zeroValue4
 t5:=Tryz.underlying5
 a5:=Tryz.isAgg5
 z5:=Tryz.sizeOf5
 v5:=Tryz.zeroValue5
 t9:=Tryz.underlying9
 a9:=Tryz.isAgg9
 z9:=Tryz.sizeOf9
 v9:=Tryz.zeroValue9
 t20:=Tryz.underlying20
 a20:=Tryz.isAgg20
 z20:=Tryz.sizeOf20
 v20:=Tryz.zeroValue20
 t37:=Tryz.underlying94
 a37:=Tryz.isAgg94
 z37:=Tryz.sizeOf94
 v37:=Tryz.zeroValue94
 t46:=Tryz.underlying241
 a46:=Tryz.isAgg241
 z46:=Tryz.sizeOf241
 v46:=Tryz.zeroValue241
 t51:=Tryz.underlying48
 a51:=Tryz.isAgg48
 z51:=Tryz.sizeOf48
 v51:=Tryz.zeroValue48
 t53:=Tryz.underlying47
 a53:=Tryz.isAgg47
 z53:=Tryz.sizeOf47
 v53:=Tryz.zeroValue47
 t70:=Tryz.underlying300
 a70:=Tryz.isAgg300
 z70:=Tryz.sizeOf300
 v70:=Tryz.zeroValue300
 t72:=Tryz.underlying302
 a72:=Tryz.isAgg302
 z72:=Tryz.sizeOf302
 v72:=Tryz.zeroValue302
 t75:=Tryz.underlying37
 a75:=Tryz.isAgg37
 z75:=Tryz.sizeOf37
 v75:=Tryz.zeroValue37
 t76:=Tryz.underlying56
 a76:=Tryz.isAgg56
 z76:=Tryz.sizeOf56
 v76:=Tryz.zeroValue56
 t109:=Tryz.underlying383
 a109:=Tryz.isAgg383
 z109:=Tryz.sizeOf383
 v109:=Tryz.zeroValue383
 t127:=Tryz.underlying343
 a127:=Tryz.isAgg343
 z127:=Tryz.sizeOf343
 v127:=Tryz.zeroValue343
 t146:=Tryz.underlying389
 a146:=Tryz.isAgg389
 z146:=Tryz.sizeOf389
 v146:=Tryz.zeroValue389
 t148:=Tryz.underlying409
 a148:=Tryz.isAgg409
 z148:=Tryz.sizeOf409
 v148:=Tryz.zeroValue409
 t164:=Tryz.underlying198
 a164:=Tryz.isAgg198
 z164:=Tryz.sizeOf198
 v164:=Tryz.zeroValue198}
theorem Tryz.Builder_Extra_105:Builder.Extra Tryz.prog Tryz.lays105_ren:= {
 sizeBuilder:=by kernel_rfl
 liesBuilder:=by kernel_rfl
 t5:=Tryz.underlying5
 a5:=Tryz.isAgg5
 z5:=Tryz.sizeOf5
 v5:=Tryz.zeroValue5
 infoByte:=by kernel_rfl
 cellsByte:=by kernel_rfl
 sizeByte:=by kernel_rfl
 neB5:=by decide}
open Go.RowKit Go.Lib in
theorem Tryz.strings_Repeat (s:ByteArray) (c:Nat) (w:World) (hc:c≤9223372036854775807) (hlen:s.size*c≤140737488355328):
  Calls Tryz.prog 267 #[.string s,.int .i64 c] w fun e w'=>e= .returned (.string ⟨(Lib.repeatL s.data.toList c).toArray⟩)∧Below w.heap.size w w':=Any.strings_Repeat Tryz.lays105 Tryz.Builder_Extra_105 s c w hc hlen
end Go.Proofs
namespace Go.Proofs.YtdbjadjdljaobaaGreatDoor.Abs
open Go.Proofs
open Go.Shelf Go.RowKit Go.Sort Go.Lib
theorem uf (w:World) (T:TypeId) (nd:Nat) (hs:nd≤24):Holds (fun (b:UInt8)=>Value.int .u8 (b.toNat:Int)) (w.alloc (.cells zeros24 T)) w.heap.size 0 (Array.replicate nd (0:UInt8)):=fun j hj=>by
 have hj':j<nd:=by simpa using hj
 refine ⟨?_,World.frozen?_alloc_new _ _ _ _⟩
 rw [World.cell?_alloc_new,zeros24_at _ (by omega),getElem!_pos _ j hj]
 simp
theorem ug (w:World) (o:Obj) (dk:Array UInt8) (k:Nat): ∃os,(putRow (fun (b:UInt8)=>Value.int .u8 (b.toNat:Int)) (w.alloc o) w.heap.size 0 dk).drewN k=grow (w.drewN k) os:=by
 rw [alloc_eq_grow]
 obtain ⟨os',_,e⟩:=putRow_grow_new (fun (b:UInt8)=>Value.int .u8 (b.toNat:Int)) w #[o] w.heap.size 0 dk (Nat.le_refl _)
 exact ⟨os',by rw [e];rfl⟩
set_option maxHeartbeats 6400000 in
set_option maxRecDepth 100000 in
theorem uh (u:Nat) (hu64:u<18446744073709551616) (w:World) (htab:Lib.TabIs Tryz.prog w "internal/strconv.uint64pow10" .u64 Lib.pow10Tab):
  Calls Tryz.prog 328 #[.int .u64 u,.int .i64 10] w fun e w'=>e= .returned (.string ⟨(Lib.decDigits u).toArray⟩)∧ ∃k os,w'=grow (w.drewN k) os:=by
 have mixed:Tryz.prog.follows .mixedOrders=true:=by kernel_rfl
 have e171: ∀args w,(callFunc 341 args).run Tryz.prog w= .ok (.enter 341 args) w:=enters_of (fn:=Tryz.f341) (by kernel_rfl) (by kernel_rfl) rfl
 have e172: ∀args w,(callFunc 342 args).run Tryz.prog w= .ok (.enter 342 args) w:=enters_of (fn:=Tryz.f342) (by kernel_rfl) (by kernel_rfl) rfl
 have e173: ∀args w,(callFunc 343 args).run Tryz.prog w= .ok (.enter 343 args) w:=enters_of (fn:=Tryz.f343) (by kernel_rfl) (by kernel_rfl) rfl
 have hf:Tryz.prog.funcs[328]? =some Tryz.f328:=by kernel_rfl
 have hn:Tryz.f328.ntmps=32:=rfl
 by_cases hs:u<100
 ·go_enter hf,hn
  go_wp2_with (go_at_fn 341;refine (Tryz.internal_strconv_small u hs _).mono ?_;rintro e w' ⟨rfl,rfl⟩)
  go_ret
  exact ⟨rfl,0,#[],by simp [World.drewN_zero]⟩
 ·have hu1:1≤u:=by omega
  have hnd20:Lib.nDigits u≤20:=by have:=Lib.numDigits_eq u hu1 hu64;split at this<;>omega
  have hb3:Lib.nDigits u≤24:=by omega
  have hal:Tryz.prog.arrayLen 419=24:=by simp [Program.arrayLen,Tryz.underlying419]
  have hsl1: ∀W,(Instr.sliceAt 419 (.pointer (some ⟨w.heap.size,0,none⟩)) none (some (.int .i64 (Lib.nDigits u:Int))) none).run Tryz.prog W= .ok (.slice (some ⟨w.heap.size,0,none⟩) (Lib.nDigits u) 24) W:=fun W=>by
   rw [run_sliceAt_array_h W 419 ⟨w.heap.size,0,none⟩ (by simp [Program.arrayLen,Program.elem,Tryz.underlying419]) .i64 (Lib.nDigits u:Int) (by omega) (by rw [hal];omega)]
   go_simp
  have hH0:=uf w 419 (Lib.nDigits u) (by omega)
  have hfmt:=Tryz.internal_strconv_formatBase10 w.heap.size 0 24 u (Array.replicate (Lib.nDigits u) 0) (w.alloc (.cells Lib.zeros24 419)) hH0 (by rw [Array.size_replicate];exact Lib.lt_pow_nDigits u) hu64 (by rw [Array.size_replicate];omega)
  rw [Array.size_replicate] at hfmt
  have HH0:=Lib.hid hH0
  clear hH0 hal
  go_enter hf,hn
  go_wp2_with (first
   | (go_at_fn 342;refine (Tryz.internal_strconv_numDigits u hu1 hu64 _ (Lib.tabIs_alloc htab _)).mono ?_;rintro e w' ⟨rfl,rfl⟩))
  go_at_fn 343
  refine hfmt.mono ?_
  rintro e w' ⟨rfl,k,v',dk,rfl,hF⟩
  have hcv:(convert 94 9 (.slice (some ⟨w.heap.size,0,none⟩) (Lib.nDigits u) 24)).run Tryz.prog ((putRow (fun (b:UInt8)=>Value.int .u8 (b.toNat:Int)) (w.alloc (.cells Lib.zeros24 419)) w.heap.size 0 dk).drewN k)= .ok (.string ⟨(Lib.decDigits u).toArray⟩) ((putRow (fun (b:UInt8)=>Value.int .u8 (b.toNat:Int)) (w.alloc (.cells Lib.zeros24 419)) w.heap.size 0 dk).drewN k):=by
   have h:=run_convert_bytes_back (P:=Tryz.prog) ((putRow (fun (b:UInt8)=>Value.int .u8 (b.toNat:Int)) (w.alloc (.cells Lib.zeros24 419)) w.heap.size 0 dk).drewN k) 94 9 5 ⟨w.heap.size,0,none⟩ 24 (Lib.decDigits u) Tryz.underlying94 Tryz.underlying5 Tryz.underlying9 (fun j hj=>by
    rw [Lib.row_is_numeral hF j hj,Lib.add_plain,World.cell?_drewN]
    exact cell?_putRow (fun (b:UInt8)=>Value.int .u8 (b.toNat:Int)) _ w.heap.size 0 _ dk HH0.out (by rw [hF.size,Array.size_replicate]) j (by rw [hF.size];rw [Lib.decDigits_length] at hj;exact hj))
   rw [Lib.decDigits_length] at h
   exact h
  go_wp2
  go_ret
  obtain ⟨os,eo⟩:=ug w (.cells Lib.zeros24 419) dk k
  exact ⟨rfl,k,os,eo⟩
set_option maxRecDepth 100000 in
theorem ui (u:Nat) (hu64:u<18446744073709551616) (w:World) (htab:Lib.TabIs Tryz.prog w "internal/strconv.uint64pow10" .u64 Lib.pow10Tab):
  Calls Tryz.prog 302 #[.int .u64 u,.int .i64 10] w fun e w'=>e= .returned (.string ⟨(Lib.decDigits u).toArray⟩)∧ ∃k os,w'=grow (w.drewN k) os:=by
 have mixed:Tryz.prog.follows .mixedOrders=true:=by kernel_rfl
 have e141: ∀args w,(callFunc 328 args).run Tryz.prog w= .ok (.enter 328 args) w:=enters_of (fn:=Tryz.f328) (by kernel_rfl) (by kernel_rfl) rfl
 have hf:Tryz.prog.funcs[302]? =some Tryz.f302:=by kernel_rfl
 have hn:Tryz.f302.ntmps=8:=rfl
 go_enter hf,hn
 go_wp2_with (go_at_fn 328;refine (uh u hu64 _ htab).mono ?_;rintro e w' ⟨rfl,k,os,rfl⟩)
 go_ret
 exact ⟨rfl,k,os,rfl⟩
end Go.Proofs.YtdbjadjdljaobaaGreatDoor.Abs
namespace Go.Proofs.YtdbjadjdljaobaaGreatDoor.Abs
open Go Go.Proofs Go.RowKit Go.Extern.Stop Go.Stop Go.Extern
theorem uj (t:Value) (w:World):
  Calls Tryz.prog 55 #[.nilIface,t] w fun e w'=>e= .returned (.bool false)∧w'=w:=by
 go_enter Tryz.func55,Tryz.ntmps55
 go_wp2
 go_ret
 exact ⟨rfl,rfl⟩
theorem lQ (t:Addr) (w:World):(ReflectliteValue.unpack (.iface 110 (.pointer (some t)))).run Tryz.prog w
  = .ok (.agg #[.pointer (some ⟨14,110,none⟩),.pointer (some ⟨w.heap.size,0,none⟩),.int .u64 150]) (w.alloc (.cells #[.pointer (some t)] 110)):=by kernel_rfl
theorem lR (a:Addr) (w:World):(ReflectliteValue.methodAny (ReflectliteValue.valueError "reflectlite.Value.Type" 0) (fun t _ _ _=>ReflectliteType.toType t) #[.agg #[.pointer (some ⟨14,110,none⟩),.pointer (some a),.int .u64 150]]).run Tryz.prog w
  = .ok (.iface 258 (.agg #[.pointer (some ⟨14,110,none⟩)])) w:=by kernel_rfl
theorem lS (h:Value) (w:World):(Go.method 570 258 (.agg #[h]) "Kind").run Tryz.prog w= .ok (371,h) w:=by kernel_rfl
theorem lT (w:World):((ReflectliteType.abiMethod fun t=>(fun a:Nat=>Value.int IntKind.u8 (a:Int)) <$> Rtype.kind t) #[.pointer (some ⟨14,110,none⟩)]).run Tryz.prog w= .ok (.int .u8 22) w:=by kernel_rfl
theorem lU (w:World):((ReflectliteType.abiMethod fun t=>(fun a:Nat=>Value.int IntKind.u8 (a:Int)) <$> Rtype.kind t) #[.pointer (some ⟨14,108,none⟩)]).run Tryz.prog w= .ok (.int .u8 22) w:=by kernel_rfl
theorem py (z:Sem Value) (f:TypeId→Addr→Nat→Nat→Sem Value) (v:Value):
  ReflectliteValue.method z f #[v]=(do match ←ReflectliteValue.parts v with | none=>z | some (t,a,fl)=>f t a fl (fl%32)):=rfl
theorem pz (a:Addr) (w:World):(ReflectliteValue.parts (.agg #[.pointer (some ⟨14,110,none⟩),.pointer (some a),.int .u64 150])).run Tryz.prog w= .ok (some (110,a,150)) w:=by kernel_rfl
theorem lV (a p:Addr) (W:World) (ha:W.cell? a=some (.pointer (some p))):
  (ReflectliteValue.method (ReflectliteValue.valueError "reflectlite.Value.IsNil" 0) ReflectliteValue.isNil #[.agg #[.pointer (some ⟨14,110,none⟩),.pointer (some a),.int .u64 150]]).run Tryz.prog W= .ok (.bool false) W:=by
 rw [py]
 simp only [Sem.run_bind,pz,Result.andThen]
 simp [ReflectliteValue.isNil,loadVar,isAgg,underlying,Tryz.underlying110,ha,Result.andThen]
theorem lW (h:Value) (w:World):(Go.method 570 258 (.agg #[h]) "Elem").run Tryz.prog w= .ok (384,.agg #[h]) w:=by kernel_rfl
theorem lX (h:Value) (w:World):(Go.method 570 258 (.agg #[h]) "Implements").run Tryz.prog w= .ok (385,.agg #[h]) w:=by kernel_rfl
theorem lY (h:Value) (w:World):(Go.method 570 258 (.agg #[h]) "AssignableTo").run Tryz.prog w= .ok (382,.agg #[h]) w:=by kernel_rfl
theorem lZ (w:World):(ReflectliteType.method ReflectliteType.elem #[.agg #[.pointer (some ⟨14,110,none⟩)]]).run Tryz.prog w= .ok (.iface 258 (.agg #[.pointer (some ⟨14,108,none⟩)])) w:=by kernel_rfl
theorem l4 (w:World):(ReflectliteType.relation "Implements" ReflectliteType.implements_ #[.agg #[.pointer (some ⟨14,108,none⟩)],.iface 258 (.agg #[.pointer (some ⟨14,37,none⟩)])]).run Tryz.prog w= .ok (.bool true) w:=by kernel_rfl
theorem uk (v:Value) (w:World):(ReflectliteType.typeOf #[.iface 108 v]).run Tryz.prog w= .ok (.iface 258 (.agg #[.pointer (some ⟨14,108,none⟩)])) w:=by kernel_rfl
theorem ul (w:World):(ReflectliteType.relation "AssignableTo" ReflectliteType.assignableTo #[.agg #[.pointer (some ⟨14,108,none⟩)],.iface 258 (.agg #[.pointer (some ⟨14,108,none⟩)])]).run Tryz.prog w= .ok (.bool true) w:=by kernel_rfl
theorem um (e:Addr) (w:World):(ReflectliteValue.unpack (.iface 108 (.pointer (some e)))).run Tryz.prog w
  = .ok (.agg #[.pointer (some ⟨14,108,none⟩),.pointer (some ⟨w.heap.size,0,none⟩),.int .u64 150]) (w.alloc (.cells #[.pointer (some e)] 108)):=by kernel_rfl
theorem un (w:World):(Rtype.elem? 110).run Tryz.prog w= .ok (some 108) w:=by kernel_rfl
theorem uo (p:Addr) (w:World):(ReflectliteValue.mk 108 p ReflectliteValue.flagAddr).run Tryz.prog w= .ok (.agg #[.pointer (some ⟨14,108,none⟩),.pointer (some p),.int .u64 406]) w:=by kernel_rfl
theorem uq (a p:Addr) (W:World) (ha:W.cell? a=some (.pointer (some p))):
  (ReflectliteValue.method (ReflectliteValue.valueError "reflectlite.Value.Elem" 0) ReflectliteValue.elem #[.agg #[.pointer (some ⟨14,110,none⟩),.pointer (some a),.int .u64 150]]).run Tryz.prog W
   = .ok (.agg #[.pointer (some ⟨14,108,none⟩),.pointer (some p),.int .u64 406]) W:=by
 rw [py]
 simp only [Sem.run_bind,pz,Result.andThen]
 simp [ReflectliteValue.elem,loadVar,isAgg,underlying,Tryz.underlying110,ha,Result.andThen,un,uo]
theorem ur (v x:Value):ReflectliteValue.set #[v,x]=(do
  let (some (dst,a,fl),some (src,b,_)):=(←ReflectliteValue.parts v,←ReflectliteValue.parts x)
   | unsupported (.noEntry "extern/(internal/reflectlite.Value).Set.zeroValue")
  if fl/ReflectliteValue.flagAddr%2==0 then unsupported (.noEntry "extern/(internal/reflectlite.Value).Set.unaddressable")
  let val ←loadVar src b
  if ←Rtype.directlyAssignable dst src then storeVar dst a val
  else if ←Rtype.implements dst src then
   if (←Rtype.kind src)==20 then
    match val with
    | .nilIface=>unsupported (.noEntry "extern/reflectlite: a nil value of one interface type handed on as a value of another")
    | _=>storeVar dst a val
   else storeVar dst a (.iface src val)
  else panicString ("reflectlite.Set: value of type "++(←Rtype.spelt src)++" is not assignable to type "++(←Rtype.spelt dst))
  pure (.tuple #[])):=rfl
theorem uu (a:Addr) (w:World):(ReflectliteValue.parts (.agg #[.pointer (some ⟨14,108,none⟩),.pointer (some a),.int .u64 406])).run Tryz.prog w= .ok (some (108,a,406)) w:=by kernel_rfl
theorem uv (a:Addr) (w:World):(ReflectliteValue.parts (.agg #[.pointer (some ⟨14,108,none⟩),.pointer (some a),.int .u64 150])).run Tryz.prog w= .ok (some (108,a,150)) w:=by kernel_rfl
theorem uw (w:World):(Rtype.directlyAssignable 108 108).run Tryz.prog w= .ok true w:=by kernel_rfl
theorem ux (ta b e:Addr) (old:Value) (W:World) (hb:W.cell? b=some (.pointer (some e))) (ht:W.cell? ta=some old) (hf:W.frozen? ta=false):
  (ReflectliteValue.set #[.agg #[.pointer (some ⟨14,108,none⟩),.pointer (some ta),.int .u64 406],.agg #[.pointer (some ⟨14,108,none⟩),.pointer (some b),.int .u64 150]]).run Tryz.prog W
   = .ok (.tuple #[]) (W.setCell ta (.pointer (some e))):=by
 rw [ur]
 simp only [Sem.run_bind,uu,uv,Result.andThen]
 simp [ReflectliteValue.flagAddr,loadVar,isAgg,underlying,Tryz.underlying108,hb,Result.andThen,uw,storeVar,Value.cells,storeCells,Addr.add]
 rw [run_store Tryz.prog W ta _ _ (by rfl)]
 simp [ht,hf]
set_option maxHeartbeats 4000000 in
theorem uz (e t:Addr) (old:Value) (w:World) (hg:w.cell? ⟨0,0,none⟩=some (.iface 258 (.agg #[.pointer (some ⟨14,37,none⟩)]))) (ht0:w.cell? t=some old) (hf0:w.frozen? t=false):
  Calls Tryz.prog 55 #[.iface 108 (.pointer (some e)),.iface 110 (.pointer (some t))] w fun ev w'=>ev= .returned (.bool true)∧w'=((((w.alloc (.cells #[.pointer (some t)] 110)).alloc (.cells #[.pointer (some ⟨14,110,none⟩),.pointer (some ⟨w.heap.size,0,none⟩),.int .u64 150] 201)).alloc (.cells #[.pointer (some ⟨14,110,none⟩),.pointer (some ⟨w.heap.size,0,none⟩),.int .u64 150] 201)).alloc (.cells #[.pointer (some e)] 108)).setCell t (.pointer (some e)):=by
 have h6:= @run_callFunc_extern Tryz.prog 124 _ (fun args=>ReflectliteValue.unpack (args.getD 0 (.tuple #[]))) Tryz.func124 (by kernel_rfl) (by kernel_rfl) (by kernel_rfl) (by kernel_rfl)
 have h7:= @run_callFunc_extern Tryz.prog 125 _ (ReflectliteValue.methodAny (ReflectliteValue.valueError "reflectlite.Value.Type" 0) (fun t _ _ _=>ReflectliteType.toType t)) Tryz.func125 (by kernel_rfl) (by kernel_rfl) (by kernel_rfl) (by kernel_rfl)
 have h8:= @run_callFunc_extern Tryz.prog 126 _ (ReflectliteValue.method (ReflectliteValue.valueError "reflectlite.Value.IsNil" 0) ReflectliteValue.isNil) Tryz.func126 (by kernel_rfl) (by kernel_rfl) (by kernel_rfl) (by kernel_rfl)
 have h27:= @run_callFunc_extern Tryz.prog 371 _ (ReflectliteType.abiMethod fun t=>do pure (.int .u8 (←Rtype.kind t))) Tryz.func371 (by kernel_rfl) (by kernel_rfl) (by kernel_rfl) (by kernel_rfl)
 have h37:= @run_callFunc_extern Tryz.prog 384 _ (ReflectliteType.method ReflectliteType.elem) Tryz.func384 (by kernel_rfl) (by kernel_rfl) (by kernel_rfl) (by kernel_rfl)
 have h38:= @run_callFunc_extern Tryz.prog 385 _ (ReflectliteType.relation "Implements" ReflectliteType.implements_) Tryz.func385 (by kernel_rfl) (by kernel_rfl) (by kernel_rfl) (by kernel_rfl)
 have h10:= @run_callFunc_extern Tryz.prog 128 _ ReflectliteType.typeOf Tryz.func128 (by kernel_rfl) (by kernel_rfl) (by kernel_rfl) (by kernel_rfl)
 have h35:= @run_callFunc_extern Tryz.prog 382 _ (ReflectliteType.relation "AssignableTo" ReflectliteType.assignableTo) Tryz.func382 (by kernel_rfl) (by kernel_rfl) (by kernel_rfl) (by kernel_rfl)
 have h11:= @run_callFunc_extern Tryz.prog 173 _ (ReflectliteValue.method (ReflectliteValue.valueError "reflectlite.Value.Elem" 0) ReflectliteValue.elem) Tryz.func173 (by kernel_rfl) (by kernel_rfl) (by kernel_rfl) (by kernel_rfl)
 have h12:= @run_callFunc_extern Tryz.prog 174 _ ReflectliteValue.set Tryz.func174 (by kernel_rfl) (by kernel_rfl) (by kernel_rfl) (by kernel_rfl)
 have tO:=uk
 have mA:=lY
 have a25:=ul
 have v25:=um
 have f6:=lQ
 have f7:=lR
 have mK:=lS
 have mE:=lW
 have mI:=lX
 have k27:=lT
 have k25:=lU
 have e27:=lZ
 have i25:=l4
 have n8:=lV ⟨w.heap.size,0,none⟩ t ((w.alloc (.cells #[.pointer (some t)] 110)).alloc (.cells #[.pointer (some ⟨14,110,none⟩),.pointer (some ⟨w.heap.size,0,none⟩),.int .u64 150] 201)) (by simp)
 have hlt:0<w.heap.size:=by
  rcases Nat.eq_zero_or_pos w.heap.size with h0 | h
  ·simp [World.cell?,h0] at hg
  ·exact h
 have hg2:((w.alloc (.cells #[.pointer (some t)] 110)).alloc (.cells #[.pointer (some ⟨14,110,none⟩),.pointer (some ⟨w.heap.size,0,none⟩),.int .u64 150] 201)).cell? ⟨0,0,none⟩=some (.iface 258 (.agg #[.pointer (some ⟨14,37,none⟩)])):=by
  rw [World.cell?_alloc_lt _ _ ⟨0,0,none⟩ (by simp),World.cell?_alloc_lt _ _ ⟨0,0,none⟩ hlt];exact hg
 have htl:t.block<w.heap.size:=by
  rcases Nat.lt_or_ge t.block w.heap.size with h | h
  ·exact h
  ·simp [World.cell?,Array.getElem?_eq_none h] at ht0
 have el:=uq ⟨w.heap.size,0,none⟩ t (((w.alloc (.cells #[.pointer (some t)] 110)).alloc (.cells #[.pointer (some ⟨14,110,none⟩),.pointer (some ⟨w.heap.size,0,none⟩),.int .u64 150] 201)).alloc (.cells #[.pointer (some ⟨14,110,none⟩),.pointer (some ⟨w.heap.size,0,none⟩),.int .u64 150] 201)) (by rw [World.cell?_alloc_lt _ _ ⟨w.heap.size,0,none⟩ (by simp;omega)];simp)
 have st:=ux t ⟨w.heap.size+1+1+1,0,none⟩ e old ((((w.alloc (.cells #[.pointer (some t)] 110)).alloc (.cells #[.pointer (some ⟨14,110,none⟩),.pointer (some ⟨w.heap.size,0,none⟩),.int .u64 150] 201)).alloc (.cells #[.pointer (some ⟨14,110,none⟩),.pointer (some ⟨w.heap.size,0,none⟩),.int .u64 150] 201)).alloc (.cells #[.pointer (some e)] 108))
  (by rw [World.cell?_alloc_at _ _ _ _ (by simp)];rfl)
  (by rw [World.cell?_alloc_lt _ _ t (by simp;omega),World.cell?_alloc_lt _ _ t (by simp;omega),World.cell?_alloc_lt _ _ t (by simp;omega),World.cell?_alloc_lt _ _ t htl];exact ht0)
  (by rw [World.frozen?_alloc_old _ _ t (by simp;omega),World.frozen?_alloc_old _ _ t (by simp;omega),World.frozen?_alloc_old _ _ t (by simp;omega),World.frozen?_alloc_old _ _ t (Nat.ne_of_lt htl)];exact hf0)
 go_enter Tryz.func55,Tryz.ntmps55
 go_wp2
 refine wp_loop_rounds 1 ?_
 rw [rounds_succ]
 go_wp2
 go_ret
 exact ⟨rfl,rfl⟩
theorem uA {P:Program} {w:World} {v:Value} {xT aT t:TypeId} {want:Array (String×TypeId)} {i:TypeInfo} {z:Value} (hd:P.underlying aT=some (.interface want)) (hi:P.info? t=some i) (hl:fF want i.methods=true) (hz:bA P aT=some z):
  (Instr.typeAssert (.iface t v) xT aT true).run P w= .ok (.tuple #[z,.bool false]) w:=by
 obtain ⟨m,hm⟩:=kE.2 hl
 unfold Instr.typeAssert
 simp only [Sem.run_bind,aC hd,e9 hi,Result.andThen_ok,hm]
 simp [ei hz]
theorem gm {t I:TypeId} (hb:((Tryz.prog.info? t).any fun i=>match Tryz.prog.underlying I with
 | some (.interface want)=>fF want i.methods
 | _=>false)=true) (hz:bA Tryz.prog I=some .nilIface) (v:Value) (xT:TypeId) (w:World):(Instr.typeAssert (.iface t v) xT I true).run Tryz.prog w= .ok (.tuple #[.nilIface,.bool false]) w:=by
 cases hi:Tryz.prog.info? t with
 | none=>rw [hi] at hb;cases hb
 | some i=>
  rw [hi] at hb
  simp only [Option.any_some] at hb
  split at hb
  ·rename_i want hd;exact uA hd hi hb hz
  ·cases hb
theorem uB (v:Value) (w:World):(ReflectliteType.typeOf #[.iface 101 v]).run Tryz.prog w= .ok (.iface 258 (.agg #[.pointer (some ⟨14,101,none⟩)])) w:=by kernel_rfl
theorem uC (w:World):(ReflectliteType.relation "AssignableTo" ReflectliteType.assignableTo #[.agg #[.pointer (some ⟨14,101,none⟩)],.iface 258 (.agg #[.pointer (some ⟨14,108,none⟩)])]).run Tryz.prog w= .ok (.bool false) w:=by kernel_rfl
theorem uD (v:Value) (xT:TypeId) (w:World):(Instr.typeAssert (.iface 101 v) xT 262 true).run Tryz.prog w= .ok (.tuple #[.nilIface,.bool false]) w:=gm (by kernel_rfl) (by kernel_rfl) v xT w
theorem uE (v:Value) (xT:TypeId) (w:World):(Instr.typeAssert (.iface 101 v) xT 265 true).run Tryz.prog w= .ok (.tuple #[.nilIface,.bool false]) w:=gm (by kernel_rfl) (by kernel_rfl) v xT w
theorem uF (v:Value) (xT:TypeId) (w:World):(Instr.typeAssert (.iface 101 v) xT 267 true).run Tryz.prog w= .ok (.tuple #[.nilIface,.bool false]) w:=gm (by kernel_rfl) (by kernel_rfl) v xT w
set_option maxHeartbeats 4000000 in
theorem uG (v:Value) (t:Addr) (w:World) (hg:w.cell? ⟨0,0,none⟩=some (.iface 258 (.agg #[.pointer (some ⟨14,37,none⟩)]))):
  Calls Tryz.prog 55 #[.iface 101 v,.iface 110 (.pointer (some t))] w fun ev w'=>ev= .returned (.bool false)∧w'=(((w.alloc (.cells #[.pointer (some t)] 110)).alloc (.cells #[.pointer (some ⟨14,110,none⟩),.pointer (some ⟨w.heap.size,0,none⟩),.int .u64 150] 201)).alloc (.cells #[.pointer (some ⟨14,110,none⟩),.pointer (some ⟨w.heap.size,0,none⟩),.int .u64 150] 201)):=by
 have h6:= @run_callFunc_extern Tryz.prog 124 _ (fun args=>ReflectliteValue.unpack (args.getD 0 (.tuple #[]))) Tryz.func124 (by kernel_rfl) (by kernel_rfl) (by kernel_rfl) (by kernel_rfl)
 have h7:= @run_callFunc_extern Tryz.prog 125 _ (ReflectliteValue.methodAny (ReflectliteValue.valueError "reflectlite.Value.Type" 0) (fun t _ _ _=>ReflectliteType.toType t)) Tryz.func125 (by kernel_rfl) (by kernel_rfl) (by kernel_rfl) (by kernel_rfl)
 have h8:= @run_callFunc_extern Tryz.prog 126 _ (ReflectliteValue.method (ReflectliteValue.valueError "reflectlite.Value.IsNil" 0) ReflectliteValue.isNil) Tryz.func126 (by kernel_rfl) (by kernel_rfl) (by kernel_rfl) (by kernel_rfl)
 have h27:= @run_callFunc_extern Tryz.prog 371 _ (ReflectliteType.abiMethod fun t=>do pure (.int .u8 (←Rtype.kind t))) Tryz.func371 (by kernel_rfl) (by kernel_rfl) (by kernel_rfl) (by kernel_rfl)
 have h37:= @run_callFunc_extern Tryz.prog 384 _ (ReflectliteType.method ReflectliteType.elem) Tryz.func384 (by kernel_rfl) (by kernel_rfl) (by kernel_rfl) (by kernel_rfl)
 have h38:= @run_callFunc_extern Tryz.prog 385 _ (ReflectliteType.relation "Implements" ReflectliteType.implements_) Tryz.func385 (by kernel_rfl) (by kernel_rfl) (by kernel_rfl) (by kernel_rfl)
 have h10:= @run_callFunc_extern Tryz.prog 128 _ ReflectliteType.typeOf Tryz.func128 (by kernel_rfl) (by kernel_rfl) (by kernel_rfl) (by kernel_rfl)
 have h35:= @run_callFunc_extern Tryz.prog 382 _ (ReflectliteType.relation "AssignableTo" ReflectliteType.assignableTo) Tryz.func382 (by kernel_rfl) (by kernel_rfl) (by kernel_rfl) (by kernel_rfl)
 have tO:=uB v
 have mA:=lY
 have aE:=uC
 have m0:=uD v
 have m1:=uE v
 have m2:=uF v
 have f6:=lQ
 have f7:=lR
 have mK:=lS
 have mE:=lW
 have mI:=lX
 have k27:=lT
 have k25:=lU
 have e27:=lZ
 have i25:=l4
 have n8:=lV ⟨w.heap.size,0,none⟩ t ((w.alloc (.cells #[.pointer (some t)] 110)).alloc (.cells #[.pointer (some ⟨14,110,none⟩),.pointer (some ⟨w.heap.size,0,none⟩),.int .u64 150] 201)) (by simp)
 have hlt:0<w.heap.size:=by
  rcases Nat.eq_zero_or_pos w.heap.size with h0 | h
  ·simp [World.cell?,h0] at hg
  ·exact h
 have hg2:((w.alloc (.cells #[.pointer (some t)] 110)).alloc (.cells #[.pointer (some ⟨14,110,none⟩),.pointer (some ⟨w.heap.size,0,none⟩),.int .u64 150] 201)).cell? ⟨0,0,none⟩=some (.iface 258 (.agg #[.pointer (some ⟨14,37,none⟩)])):=by
  rw [World.cell?_alloc_lt _ _ ⟨0,0,none⟩ (by simp),World.cell?_alloc_lt _ _ ⟨0,0,none⟩ hlt];exact hg
 go_enter Tryz.func55,Tryz.ntmps55
 go_wp2
 refine wp_loop_rounds 1 ?_
 rw [rounds_succ]
 go_wp2
 go_ret
 exact ⟨rfl,rfl⟩
theorem uH (v:Value) (w:World):(ReflectliteType.typeOf #[.iface 428 v]).run Tryz.prog w= .ok (.iface 258 (.agg #[.pointer (some ⟨14,428,none⟩)])) w:=by kernel_rfl
theorem uI (w:World):(ReflectliteType.relation "AssignableTo" ReflectliteType.assignableTo #[.agg #[.pointer (some ⟨14,428,none⟩)],.iface 258 (.agg #[.pointer (some ⟨14,108,none⟩)])]).run Tryz.prog w= .ok (.bool false) w:=by kernel_rfl
theorem uJ (v:Value) (xT:TypeId) (w:World):(Instr.typeAssert (.iface 428 v) xT 262 true).run Tryz.prog w= .ok (.tuple #[.nilIface,.bool false]) w:=gm (by kernel_rfl) (by kernel_rfl) v xT w
theorem uK (v:Value) (xT:TypeId) (w:World):(Instr.typeAssert (.iface 428 v) xT 265 true).run Tryz.prog w= .ok (.tuple #[.nilIface,.bool false]) w:=gm (by kernel_rfl) (by kernel_rfl) v xT w
theorem uL (v:Value) (xT:TypeId) (w:World):(Instr.typeAssert (.iface 428 v) xT 267 true).run Tryz.prog w= .ok (.tuple #[.nilIface,.bool false]) w:=gm (by kernel_rfl) (by kernel_rfl) v xT w
set_option maxHeartbeats 4000000 in
theorem uM (v:Value) (t:Addr) (w:World) (hg:w.cell? ⟨0,0,none⟩=some (.iface 258 (.agg #[.pointer (some ⟨14,37,none⟩)]))):
  Calls Tryz.prog 55 #[.iface 428 v,.iface 110 (.pointer (some t))] w fun ev w'=>ev= .returned (.bool false)∧w'=(((w.alloc (.cells #[.pointer (some t)] 110)).alloc (.cells #[.pointer (some ⟨14,110,none⟩),.pointer (some ⟨w.heap.size,0,none⟩),.int .u64 150] 201)).alloc (.cells #[.pointer (some ⟨14,110,none⟩),.pointer (some ⟨w.heap.size,0,none⟩),.int .u64 150] 201)):=by
 have h6:= @run_callFunc_extern Tryz.prog 124 _ (fun args=>ReflectliteValue.unpack (args.getD 0 (.tuple #[]))) Tryz.func124 (by kernel_rfl) (by kernel_rfl) (by kernel_rfl) (by kernel_rfl)
 have h7:= @run_callFunc_extern Tryz.prog 125 _ (ReflectliteValue.methodAny (ReflectliteValue.valueError "reflectlite.Value.Type" 0) (fun t _ _ _=>ReflectliteType.toType t)) Tryz.func125 (by kernel_rfl) (by kernel_rfl) (by kernel_rfl) (by kernel_rfl)
 have h8:= @run_callFunc_extern Tryz.prog 126 _ (ReflectliteValue.method (ReflectliteValue.valueError "reflectlite.Value.IsNil" 0) ReflectliteValue.isNil) Tryz.func126 (by kernel_rfl) (by kernel_rfl) (by kernel_rfl) (by kernel_rfl)
 have h27:= @run_callFunc_extern Tryz.prog 371 _ (ReflectliteType.abiMethod fun t=>do pure (.int .u8 (←Rtype.kind t))) Tryz.func371 (by kernel_rfl) (by kernel_rfl) (by kernel_rfl) (by kernel_rfl)
 have h37:= @run_callFunc_extern Tryz.prog 384 _ (ReflectliteType.method ReflectliteType.elem) Tryz.func384 (by kernel_rfl) (by kernel_rfl) (by kernel_rfl) (by kernel_rfl)
 have h38:= @run_callFunc_extern Tryz.prog 385 _ (ReflectliteType.relation "Implements" ReflectliteType.implements_) Tryz.func385 (by kernel_rfl) (by kernel_rfl) (by kernel_rfl) (by kernel_rfl)
 have h10:= @run_callFunc_extern Tryz.prog 128 _ ReflectliteType.typeOf Tryz.func128 (by kernel_rfl) (by kernel_rfl) (by kernel_rfl) (by kernel_rfl)
 have h35:= @run_callFunc_extern Tryz.prog 382 _ (ReflectliteType.relation "AssignableTo" ReflectliteType.assignableTo) Tryz.func382 (by kernel_rfl) (by kernel_rfl) (by kernel_rfl) (by kernel_rfl)
 have tO:=uH v
 have mA:=lY
 have aE:=uI
 have m0:=uJ v
 have m1:=uK v
 have m2:=uL v
 have f6:=lQ
 have f7:=lR
 have mK:=lS
 have mE:=lW
 have mI:=lX
 have k27:=lT
 have k25:=lU
 have e27:=lZ
 have i25:=l4
 have n8:=lV ⟨w.heap.size,0,none⟩ t ((w.alloc (.cells #[.pointer (some t)] 110)).alloc (.cells #[.pointer (some ⟨14,110,none⟩),.pointer (some ⟨w.heap.size,0,none⟩),.int .u64 150] 201)) (by simp)
 have hlt:0<w.heap.size:=by
  rcases Nat.eq_zero_or_pos w.heap.size with h0 | h
  ·simp [World.cell?,h0] at hg
  ·exact h
 have hg2:((w.alloc (.cells #[.pointer (some t)] 110)).alloc (.cells #[.pointer (some ⟨14,110,none⟩),.pointer (some ⟨w.heap.size,0,none⟩),.int .u64 150] 201)).cell? ⟨0,0,none⟩=some (.iface 258 (.agg #[.pointer (some ⟨14,37,none⟩)])):=by
  rw [World.cell?_alloc_lt _ _ ⟨0,0,none⟩ (by simp),World.cell?_alloc_lt _ _ ⟨0,0,none⟩ hlt];exact hg
 go_enter Tryz.func55,Tryz.ntmps55
 go_wp2
 refine wp_loop_rounds 1 ?_
 rw [rounds_succ]
 go_wp2
 go_ret
 exact ⟨rfl,rfl⟩
end Go.Proofs.YtdbjadjdljaobaaGreatDoor.Abs
namespace Go.Proofs.YtdbjadjdljaobaaGreatDoor.Abs
open Go Go.Proofs Go.RowKit
theorem pA:(Tryz.prog.info? 302).map (·.size)=some 2:=by kernel_rfl
set_option maxHeartbeats 1000000 in
set_option maxRecDepth 100000 in
theorem uN (b:Nat) (w:World) (h0:w.cell? ⟨b,0,none⟩=some (.pointer (some ⟨b,0,none⟩))):
  Calls Tryz.prog 255 #[.pointer (some ⟨b,0,none⟩)] w fun e w'=>e= .returned (.tuple #[])∧w'=w:=by
 obtain ⟨j,hj,_⟩:=Option.map_eq_some_iff.1 pA
 go_enter Tryz.func255,Tryz.ntmps255
 go_wp2
 rw [Lib.run_neq_ptr_same w _ Tryz.underlying300 hj]
 go_wp2
 go_end0
 exact ⟨rfl,rfl⟩
set_option maxHeartbeats 1000000 in
set_option maxRecDepth 100000 in
theorem uO (b:Nat) (w:World) (h0:w.cell? ⟨b,0,none⟩=some (.pointer none)) (hsh:w.shape? b=some (302,2)) (hfz:w.frozen? ⟨b,0,none⟩=false):
  Calls Tryz.prog 255 #[.pointer (some ⟨b,0,none⟩)] w fun e w'=>e= .returned (.tuple #[])∧w'=w.setCell ⟨b,0,none⟩ (.pointer (some ⟨b,0,none⟩)):=by
 obtain ⟨j,hj,hjs⟩:=Option.map_eq_some_iff.1 pA
 go_enter Tryz.func255,Tryz.ntmps255
 go_wp2
 rw [Lib.run_to_unsafe w ⟨b,0,none⟩ Tryz.underlying300 Tryz.underlying198 hj (by rw [hjs];decide) hsh (Nat.zero_lt_succ 1)]
 simp only [Result.andThen]
 rw [Oper.upon_value]
 go_wp2
 rw [run_callFunc_extern Tryz.func299 (by kernel_rfl) (by kernel_rfl) (by kernel_rfl) (e:=Extern.AbiNoEscape.same) (by kernel_rfl)]
 rw [Lib.run_noEscape]
 simp only [Result.andThen]
 rw [Oper.upon_value]
 go_wp2
 rw [Lib.run_from_unsafe w ⟨b,0,none⟩ Tryz.underlying198 Tryz.underlying300 hj hsh (by kernel_rfl)]
 simp only [Result.andThen]
 rw [Oper.upon_value]
 go_wp2
 go_end0
 exact ⟨rfl,rfl⟩
end Go.Proofs.YtdbjadjdljaobaaGreatDoor.Abs

/-
  The abstract machine over the model, its soundness, walks of the program's functions and what they compute. Conditions: the values are of their types.
-/
import Derived.Test.YthkilaondjgemaaGreatDoorProg
import Derived.Test.YthkilaondjgemaaGreatDoorNa
import Derived.Test.YthkilaondjgemaaGreatDoorNb
import Derived.Lib.IndexMore
import Derived.Lib.Split
import Derived.Lib.Repeat
import Derived.Lib.JoinFns
import Derived.Lib.ParseIntB
import Derived.Lib.ConvBytes
import Derived.Lib.SplitLaws
import Derived.Lib.Join
import Derived.KernelRfl
import Derived.Lib.ItoaNum
import Derived.Lib.ItoaMem
import Derived.Lib.LaidTab
import Derived.Deep.Slices
import Derived.SizedLaws
import Derived.Shelf.Strings.Builder1
import Derived.Shelf.Strings.Builder2
import Derived.Shelf.Strings.OnBuilder
import Derived.Shelf.Small.Utf8
import Derived.Shelf.Small.Bits
import Derived.Shelf.Small.Strs
import Derived.Shelf.Strings.BuilderF
import Derived.Shelf.Utf8.RuneCount
import Derived.Shelf.Strconv.Itoa0
import Derived.Shelf.Strconv.Itoa1
import Derived.Shelf.LaysM
import Derived.Shelf.Strconv.Itoa2
import Derived.Shelf.Strconv.Itoa3
import Derived.Ground.MpProg
import Derived.Shelf.Pu.ParseUintPublic10
import Derived.Shelf.Strings.Search1
import Derived.Shelf.Strings.Search2
import Derived.Shelf.Strings.Search3
import Derived.Shelf.Strings.Cut
import Derived.Shelf.Strings.Count
import Derived.Shelf.Strings.Shaped
import Derived.Shelf.Strings.Prefix
import Derived.Shelf.Strings.Split
import Derived.Shelf.Strings.Replace
import Derived.Shelf.Strings.SplitShaped
import Derived.Shelf.Unicode.Decode
import Derived.Shelf.Strings.Runes
import Derived.Shelf.Strings.RuneCount
import Derived.Shelf.Strings.AsciiSet
import Derived.Shelf.Strings.Explode
import Derived.Shelf.Bits.Mul64
import Derived.Shelf.Strings.Repeat
import Derived.Shelf.Unicode.DecodeSlow
import Derived.Shelf.Unicode.DecodeAny
import Derived.Ground.Names2Prog
import Derived.Shelf.Slices.Clone
import Derived.Shelf.Slices.SearchI
import Derived.Ground.SlgnProg
import Derived.Shelf.SlicesE.Clone
import Derived.Lib.Walk
import Derived.WalkKit
import Derived.BigCall
import Derived.BigGuard
import Derived.LaidEql
import Derived.Stop.Asserts
import Derived.RowKitTokens
import Derived.Lib.Builder
import Derived.Laws.Externs
import Derived.Lib.Strings
import Derived.Lib.Slices
import Derived.Lib.UnsafeStr

set_option linter.all false
set_option linter.unnecessarySimpa false

namespace Go.Proofs.YthkilaondjgemaaGreatDoor.Abs
open Go Go.RowKit
section
variable {σ τ:ak} {I I':af} {base base':af} {w w':World} {h h' h1:aa} {ρ:K2→Option (K2×Nat)}
def cB (ρ:K2→Option (K2×Nat)) (σ τ:ak) (l:List (K2×Nat)):Prop:= ∀q∈l,∀k,ρ q.1=some k→ ∀x,σ q.2=some x→τ k.2=some x
theorem cB.sub {l l':List (K2×Nat)} (h:cB ρ σ τ l) (hs: ∀q∈l',q∈l):cB ρ σ τ l':=fun q hq=>h q (hs q hq)
theorem dP {f:AV→Option AV} : ∀ {l l':List AV},bM f l=some l'→l'.length=l.length
 | [],l',h=>by simp [bM] at h;subst h;rfl
 | v::l,l',h=>by
  simp only [bM,Option.bind_eq_some_iff,Option.map_eq_some_iff] at h
  obtain ⟨w,_,l2,h2,rfl⟩:=h
  simp [dP h2]
theorem df {f:AV→Option AV} : ∀ {l l':List AV},bM f l=some l'→ ∀(j:Nat) (p:AV),l'[j]? =some p→ ∃v,l[j]? =some v∧f v=some p
 | [],l',h,j,p,hp=>by simp [bM] at h;subst h;simp at hp
 | v::l,l',h,j,p,hp=>by
  simp only [bM,Option.bind_eq_some_iff,Option.map_eq_some_iff] at h
  obtain ⟨w,hw,l2,h2,rfl⟩:=h
  cases j with
  | zero=>simp at hp;subst hp;exact ⟨v,rfl,hw⟩
  | succ j=>exact df h2 j p (by simpa using hp)
theorem eq {n j:Nat} {l:List AV} {v:AV} (hv:l[j]? =some v) {q:K2×Nat} (hq:q∈aI n v):q∈l.flatMap (aI n):=
 List.mem_flatMap.2 ⟨v,List.mem_of_getElem? hv,hq⟩
theorem fm: ∀(n:Nat) {v v':AV} {u:Value},au ρ n v=some v'→cB ρ σ τ (aI n v)→ab σ I w v u→ab τ I w v' u:=by
 intro n
 induction n with
 | zero=>intro v v' u h;simp [au] at h
 | succ n ih=>
  intro v v' u h hN hr
  cases hr with
  | pv p u hp=>simp only [au,Option.some.injEq] at h;subst h;exact .pv _ _ hp
  | mptr d s g i off b o k hs=>
   simp only [au,Option.map_eq_some_iff] at h
   obtain ⟨q,hq,rfl⟩:=h
   exact .mptr _ _ _ _ _ _ _ _ (hN ((d,s),g) (by simp [aI]) q hq _ hs)
  | msl d s g off m full b o k cap ad had hs hn hfull hroom=>
   simp only [au,Option.map_eq_some_iff] at h
   obtain ⟨q,hq,rfl⟩:=h
   exact .msl _ _ _ _ _ _ _ _ _ _ _ had (hN ((d,s),g) (by simp [aI]) q hq _ hs) hn hfull hroom
  | agg cs vs hl h1 hr=>
   simp only [au,Option.map_eq_some_iff] at h
   obtain ⟨l',hl',rfl⟩:=h
   refine .agg _ _ (by rw [dP hl'];exact hl) h1 fun j p v hp hv=> ?_
   obtain ⟨x,hx,hfx⟩:=df hl' j p hp
   exact ih hfx (hN.sub fun q hq=>by simp only [aI];exact eq hx hq) (hr j x v hx hv)
  | tup cs vs hl hr=>
   simp only [au,Option.map_eq_some_iff] at h
   obtain ⟨l',hl',rfl⟩:=h
   refine .tup _ _ (by rw [dP hl'];exact hl) fun j p v hp hv=> ?_
   obtain ⟨x,hx,hfx⟩:=df hl' j p hp
   exact ih hfx (hN.sub fun q hq=>by simp only [aI];exact eq hx hq) (hr j x v hx hv)
  | clo f a b va vb hla hlb hra hrb=>
   simp only [au,Option.bind_eq_some_iff,Option.map_eq_some_iff] at h
   obtain ⟨a',ha',b',hb',rfl⟩:=h
   refine .clo _ _ _ _ _ (by rw [dP ha'];exact hla) (by rw [dP hb'];exact hlb) (fun j p v hp hv=> ?_) fun j p v hp hv=> ?_
   ·obtain ⟨x,hx,hfx⟩:=df ha' j p hp
    exact ih hfx (hN.sub fun q hq=>by simp only [aI];exact List.mem_append_left _ (eq hx hq)) (hra j x v hx hv)
   ·obtain ⟨x,hx,hfx⟩:=df hb' j p hp
    exact ih hfx (hN.sub fun q hq=>by simp only [aI];exact List.mem_append_right _ (eq hx hq)) (hrb j x v hx hv)
  | yld d s g b o k hs=>simp [au] at h
  | ifc t v1 u1 h1=>
   simp only [au,Option.map_eq_some_iff] at h
   obtain ⟨v2,hv2,rfl⟩:=h
   exact .ifc t _ _ (ih hv2 hN h1)
  | btag t=>simp only [au,Option.some.injEq] at h;subst h;exact .btag t
  | mref d s g b o k hs=>simp [au] at h
theorem oA: ∀ {n:Nat} {v v':AV},au ρ (n+1) v=some v'→v'.cells.length=v.cells.length∧v'.ok=v.ok∧ ∀(j:Nat) (p:AV),v'.cells[j]? =some p→ ∃q,v.cells[j]? =some q∧ ∀(I:af) (w:World) (u:Value),cB ρ σ τ (aI (n+1) v)→ab σ I w q u→ab τ I w p u:=by
 intro n v v' h
 have one: ∀ {x x':AV},au ρ (n+1) x=some x'→ ∀(j:Nat) (p:AV),[x'][j]? =some p→ ∃q,[x][j]? =some q∧ ∀(I:af) (w:World) (u:Value),cB ρ σ τ (aI (n+1) x)→ab σ I w q u→ab τ I w p u:=by
  intro x x' hx j p hp
  cases j with
  | zero=>simp at hp;subst hp;exact ⟨x,rfl,fun I w u hN hr=>fm (n+1) hx hN hr⟩
  | succ j=>simp at hp
 cases v with
 | pv p=>
  simp only [au,Option.some.injEq] at h
  subst h
  refine ⟨rfl,rfl,fun j q hq=>⟨q,hq,fun I w u _ hr=> ?_⟩⟩
  simp only [AV.cells,List.getElem?_map,Option.map_eq_some_iff] at hq
  obtain ⟨x,_,rfl⟩:=hq
  exact .pv _ _ (aw hr)
 | mptr d s g i off=>
  have h0:=h
  simp only [au,Option.map_eq_some_iff] at h
  obtain ⟨q,hq,rfl⟩:=h
  exact ⟨rfl,rfl,one h0⟩
 | msl d s g off m full=>
  have h0:=h
  simp only [au,Option.map_eq_some_iff] at h
  obtain ⟨q,hq,rfl⟩:=h
  exact ⟨rfl,rfl,one h0⟩
 | agg l=>
  simp only [au,Option.map_eq_some_iff] at h
  obtain ⟨l',hl',rfl⟩:=h
  refine ⟨dP hl',rfl,fun j p hp=> ?_⟩
  obtain ⟨x,hx,hfx⟩:=df hl' j p hp
  exact ⟨x,hx,fun I w u hN hr=>fm n hfx (hN.sub fun q hq=>by simp only [aI];exact eq hx hq) hr⟩
 | tup l=>
  have h0:=h
  simp only [au,Option.map_eq_some_iff] at h
  obtain ⟨l',hl',rfl⟩:=h
  exact ⟨rfl,rfl,one h0⟩
 | clo f a b=>
  have h0:=h
  simp only [au,Option.bind_eq_some_iff,Option.map_eq_some_iff] at h
  obtain ⟨a',ha',b',hb',rfl⟩:=h
  exact ⟨rfl,rfl,one h0⟩
 | yld d s g=>simp [au] at h
 | ifc t v=>
  have h0:=h
  simp only [au,Option.map_eq_some_iff] at h
  obtain ⟨v2,hv2,rfl⟩:=h
  exact ⟨rfl,rfl,one h0⟩
 | btag t=>
  have h0:=h
  simp only [au,Option.some.injEq] at h
  subst h
  exact ⟨rfl,rfl,one h0⟩
 | mref d s g=>simp [au] at h
theorem k8 {n:Nat} {c c':AV} (h:au ρ n c=some c'):dq (some c')=dq (some c):=by
 cases n with
 | zero=>simp [au] at h
 | succ n=>
  cases c<;>simp only [au,Option.some.injEq,Option.map_eq_some_iff,Option.bind_eq_some_iff,reduceCtorEq] at h
  case pv=>subst h;rfl
  case btag=>subst h;rfl
  case clo=>obtain ⟨_,_,_,_,rfl⟩:=h;rfl
  all_goals (obtain ⟨_,_,rfl⟩:=h;rfl)
theorem oB {n:Nat} {v v':AV} (h:au ρ (n+1) v=some v'):a8 v'=a8 v:=by
 have h0:=k8 h
 unfold a8
 cases v<;>simp only [au,Option.some.injEq,Option.map_eq_some_iff,Option.bind_eq_some_iff,reduceCtorEq] at h
 case pv=>subst h;rfl
 case btag=>subst h;rfl
 case clo=>obtain ⟨_,_,_,_,rfl⟩:=h;rfl
 case agg l=>
  obtain ⟨l',hl',rfl⟩:=h
  cases l with
  | nil=>simp [bM] at hl';subst hl';rfl
  | cons c l=>
   simp only [bM,Option.bind_eq_some_iff,Option.map_eq_some_iff] at hl'
   obtain ⟨c',hc',l2,_,rfl⟩:=hl'
   exact k8 hc'
 all_goals (obtain ⟨_,_,rfl⟩:=h;rfl)
theorem gC {r:am} {g':Nat} {b':aW} (hr:aL σ I base w r) (hb:bb ρ r.b=some b') (hg: ∀x,σ r.g=some x→τ g'=some x) (hN:cB ρ σ τ (bL r.b)) (hB: ∀b,ai σ r=some b→ ¬base' b):
  aL τ I base' w ⟨g',b'⟩∧ai τ ⟨g',b'⟩=ai σ r:=by
 obtain ⟨g,bd⟩:=r
 cases bd with
 | dead=>simp [bb] at hb
 | lp st=>simp [bb] at hb
 | map clock es=>simp [bb] at hb
 | mit m since seen last=>simp [bb] at hb
 | box v fz=>
  simp only [bb,Option.map_eq_some_iff] at hb
  obtain ⟨v',hv',rfl⟩:=hb
  obtain ⟨b,e,hs,hsh,hok,hc,hz⟩:=hr
  obtain ⟨hlen,hok',hcell⟩:=oA (σ:=σ) (τ:=τ) (n:=7) hv'
  refine ⟨⟨b,e,hg _ hs,by rw [hlen];exact hsh,f8 hok (hok'.trans (fZ hok)) (.inl (oB (n:=7) hv')),fun j p hp=> ?_,?_⟩,?_⟩
  ·obtain ⟨q,hq,hx⟩:=hcell j p hp
   obtain ⟨u,h1,h2,h3⟩:=hc j q hq
   exact ⟨u,h1,h2,hx I w u hN h3⟩
  ·rw [hlen]
   cases fz with
   | true=>exact hz
   | false=>exact ⟨hz.1,hB b (by simp [ai,hs]),hz.2.2⟩
  ·cases fz<;>simp [ai,hs,hg _ hs]
 | row k e xs fz=>
  simp only [bb,Option.some.injEq] at hb
  subst hb
  obtain ⟨b,o,n,hs,hsh,hn,hx,hc,hz⟩:=hr
  refine ⟨⟨b,o,n,hg _ hs,hsh,hn,hx,hc,?_⟩,?_⟩
  ·cases fz with
   | true=>exact hz
   | false=>exact ⟨hz.1,hB b (by simp [ai,hs]),hz.2.2⟩
  ·cases fz<;>simp [ai,hs,hg _ hs]
 | iter s pos=>
  simp only [bb,Option.some.injEq] at hb
  subst hb
  obtain ⟨b,k,hs,hh,h1,h2⟩:=hr
  exact ⟨⟨b,k,hg _ hs,hh,h1,hB b (by simp [ai,hs])⟩,by simp [ai,hs,hg _ hs]⟩
theorem k9: ∀ {ks:List K2} {x:K2} {i:Nat},bC ks x=some i→ks[i]? =some x
 | [],x,i,h=>by simp [bC] at h
 | k::ks,x,i,h=>by
  unfold bC at h
  split at h
  ·rename_i hk
   simp only [Bool.and_eq_true,beq_iff_eq] at hk
   simp only [Option.some.injEq] at h
   subst h
   simp [Prod.ext_iff,hk.1,hk.2]
  ·simp only [Option.map_eq_some_iff] at h
   obtain ⟨j,hj,rfl⟩:=h
   simpa using k9 hj
theorem iH: ∀ {ks:List K2} {x:K2},bC ks x=none→x∉ks
 | [],x,_=>by simp
 | k::ks,x,h=>by
  unfold bC at h
  split at h
  ·cases h
  ·rename_i hk
   simp only [Option.map_eq_none_iff] at h
   have:=iH h
   simp only [List.mem_cons,not_or]
   refine ⟨fun e=>hk (by subst e;simp),this⟩
theorem lc: ∀ {ks:List K2},fT ks=true→ks.Nodup
 | [],_=>List.nodup_nil
 | k::ks,h=>by
  simp only [fT,Bool.and_eq_true,Option.isNone_iff_eq_none] at h
  exact List.nodup_cons.2 ⟨iH h.1,lc h.2⟩
theorem ld {l:List (K2×Nat)} (h:cZ h1 l=true) {q:K2×Nat} (hq:q∈l):q.2=(ac h1 q.1.1 q.1.2).g:=by
 have:=List.all_eq_true.1 h q hq
 simpa using this
theorem lf: ∀ {ks:List K2} {i:Nat} {rows:List am},eR ρ h i ks=some rows→rows.length=ks.length∧ ∀(j:Nat) (r:am),rows[j]? =some r→ ∃k b,ks[j]? =some k∧bb ρ (ac h k.1 k.2).b=some b∧r=⟨i+j,b⟩
 | [],i,rows,h=>by simp [eR] at h;subst h;exact ⟨rfl,fun j r hr=>by simp at hr⟩
 | k::ks,i,rows,h=>by
  simp only [eR,Option.bind_eq_some_iff,Option.map_eq_some_iff] at h
  obtain ⟨b,hb,rs,hrs,rfl⟩:=h
  obtain ⟨h1,h2⟩:=lf hrs
  refine ⟨by simp [h1],fun j r hr=> ?_⟩
  cases j with
  | zero=>simp at hr;subst hr;exact ⟨k,b,rfl,hb,rfl⟩
  | succ j=>
   obtain ⟨k',b',h3,h4,h5⟩:=h2 j r (by simpa using hr)
   exact ⟨k',b',by simpa using h3,h4,by rw [h5];simp only [am.mk.injEq,and_true];omega⟩
def cl (ex:Option K2):Bool:=match ex with
 | some e=> !(e.1==0)
 | none=>false
theorem lg: ∀ {n i:Nat} {rows:List am} {m:Nat} {ex:Option K2},c4 m ex h i n=some rows→rows.length=n+(if cl ex then 1 else 0)∧(∀(j:Nat) (r:am),j<n→rows[j]? =some r→ ∃b,bb (c3 m ex) (ac h 0 (i+j)).b=some b∧r=⟨nm ex m (i+j),b⟩)∧
  ∀(e:K2) (r:am),ex=some e→rows[n]? =some r→e.1≠0∧ ∃k t xs fz,(ac h e.1 e.2).b= .row k t xs fz∧r=⟨m,.row k t xs fz⟩
 | 0,i,rows,m,none,h=>by simp [c4] at h;subst h;exact ⟨rfl,fun j r hj=>by omega,fun e r he=>by cases he⟩
 | 0,i,rows,m,some e,h=>by
  simp only [c4] at h
  split at h
  ·rename_i h0
   simp only [Option.some.injEq] at h
   subst h
   exact ⟨by simp [cl,h0],fun j r hj=>by omega,fun e' r he hr=>by simp at hr⟩
  ·rename_i h0
   split at h
   ·rename_i k t xs fz hb
    simp only [Option.some.injEq] at h
    subst h
    exact ⟨by simp [cl,h0],fun j r hj=>by omega,fun e' r he hr=>by simp only [Option.some.injEq] at he;subst he;simp at hr;exact ⟨by simpa using h0,k,t,xs,fz,hb,hr.symm⟩⟩
   ·cases h
 | n+1,i,rows,m,ex,h=>by
  simp only [c4,Option.bind_eq_some_iff,Option.map_eq_some_iff] at h
  obtain ⟨b,hb,rs,hrs,rfl⟩:=h
  obtain ⟨h1,h2,h3⟩:=lg hrs
  refine ⟨by simp [h1];omega,fun j r hj hr=> ?_,fun e r he hr=>h3 e r he (by simpa using hr)⟩
  cases j with
  | zero=>simp at hr;subst hr;exact ⟨b,hb,rfl⟩
  | succ j=>
   obtain ⟨b',h4,h5⟩:=h2 j r (by omega) (by simpa using hr)
   have e:i+1+j=i+(j+1):=by omega
   rw [e] at h4 h5
   exact ⟨b',h4,h5⟩
theorem iI {ex:Option K2} : ∀ {n i:Nat},dC ex h i n=true→ ∀j,j<n→((ac h 0 (i+j)).g=i+j∨cL ex (i+j)=true)∧cZ h (bL (ac h 0 (i+j)).b)=true
 | 0,i,h,j,hj=>by omega
 | n+1,i,h,j,hj=>by
  simp only [dC,Bool.and_eq_true,Bool.or_eq_true,beq_iff_eq] at h
  cases j with
  | zero=>exact ⟨h.1,h.2.1⟩
  | succ j=>
   have:=iI h.2.2 j (by omega)
   have e:i+1+j=i+(j+1):=by omega
   rwa [e] at this
theorem dh (rows:List am) (d s:Nat):ac [rows] d s=if d=0 then rows.getD s aC else aC:=by
 unfold ac
 cases d with
 | zero=>rfl
 | succ d=>simp
theorem ae.of_rows {rows:List am} (hin: ∀b,I b→aO w b) (hr: ∀(j:Nat) (r:am),rows[j]? =some r→aL σ I base w r)
  (ha: ∀(i j:Nat) (r r':am) (b:Nat),rows[i]? =some r→rows[j]? =some r'→ai σ r=some b→ai σ r'=some b→i=j):ae σ I base w [rows] where
 inW:=hin
 rows d s:=by
  rw [dh]
  split
  ·rw [List.getD_eq_getElem?_getD]
   cases hs:rows[s]? with
   | none=>trivial
   | some r=>exact hr s r hs
  ·trivial
 apart d s d' s' b h1 h2:=by
  rw [dh] at h1 h2
  split at h1
  ·rename_i e1
   split at h2
   ·rename_i e2
    subst e1 e2
    rw [List.getD_eq_getElem?_getD] at h1 h2
    cases hs:rows[s]? with
    | none=>rw [hs] at h1;simp [ai,aC] at h1
    | some r=>
     cases hs':rows[s']? with
     | none=>rw [hs'] at h2;simp [ai,aC] at h2
     | some r'=>
      rw [hs] at h1
      rw [hs'] at h2
      exact ⟨rfl,ha s s' r r' b hs hs' h1 h2⟩
   ·simp [ai,aC] at h2
  ·simp [ai,aC] at h1
def bh (σ:ak) (h:aa) (ks:List K2):ak:=fun i=>(ks[i]?).bind fun k=>σ (ac h k.1 k.2).g
def bD (σ:ak) (h:aa) (ks:List K2) (base:af):af:=fun b=>base b∨ ∃d s,(d,s)∉ks∧ai σ (ac h d s)=some b
theorem lh {ks:List K2} {l:List (K2×Nat)} (hg:cZ h l=true):cB (fU ks) σ (bh σ h ks) l:=by
 intro q hq k hk x hx
 simp only [fU,Option.map_eq_some_iff] at hk
 obtain ⟨i,hi,rfl⟩:=hk
 have:=k9 hi
 simp only [bh,this,Option.bind_some]
 rw [←ld hg hq]
 exact hx
theorem oC {ks:List K2} {args cargs:List AV} {rows:List am} {us:List Value} (H:ae σ I base w h) (hB:aG base w.heap.size) (hi:gV h args=some (ks,cargs,rows)) (hg:gW h ks args=true) (hl:us.length=args.length)
  (hr: ∀(j:Nat) (p:AV) (u:Value),args[j]? =some p→us[j]? =some u→ab σ I w p u):
  ae (bh σ h ks) I (bD σ h ks base) w [rows]∧aG (bD σ h ks base) w.heap.size∧us.length=cargs.length∧(∀(j:Nat) (p:AV) (u:Value),cargs[j]? =some p→us[j]? =some u→ab (bh σ h ks) I w p u)∧rows.length=ks.length∧ks.Nodup:=by
 unfold gV at hi
 split at hi
 rotate_left
 ·cases hi
 rename_i hnd
 simp only [Option.bind_eq_some_iff,Option.map_eq_some_iff,Prod.mk.injEq] at hi
 obtain ⟨ca,hca,rs,hrs,rfl,rfl,rfl⟩:=hi
 simp only [gW,Bool.and_eq_true,List.all_eq_true] at hg
 obtain ⟨hlen,hget'⟩:=lf hrs
 have hnd:=lc hnd
 have hrow: ∀(j:Nat) (r:am),rs[j]? =some r→ ∃k,(cu h args)[j]? =some k∧aL (bh σ h (cu h args)) I (bD σ h (cu h args) base) w r∧ai (bh σ h (cu h args)) r=ai σ (ac h k.1 k.2):=by
  intro j r hj
  obtain ⟨k,b,hk,hb,rfl⟩:=hget' j r hj
  have hkm:=List.mem_of_getElem? hk
  refine ⟨k,hk,gC (H.rows k.1 k.2) hb (fun x hx=> ?_) (lh (hg.2 k hkm)) fun b0 hb0=> ?_⟩
  ·simp only [bh,Nat.zero_add,hk,Option.bind_some];exact hx
  ·rintro (h1 | ⟨d,s,hds,h2⟩)
   ·exact (aM (H.rows k.1 k.2) hb0).2.2 h1
   ·obtain ⟨rfl,rfl⟩:=H.apart _ _ _ _ _ hb0 h2
    exact hds hkm
 refine ⟨ae.of_rows H.inW (fun j r hj=>let ⟨_,_,h1,_⟩:=hrow j r hj;h1) fun i j r r' b hi hj h1 h2=> ?_,fun b hb=> ?_,by rw [dP hca];exact hl,fun j p u hp hu=> ?_,hlen,hnd⟩
 ·obtain ⟨k,hk,_,e1⟩:=hrow i r hi
  obtain ⟨k',hk',_,e2⟩:=hrow j r' hj
  rw [e1] at h1
  rw [e2] at h2
  obtain ⟨a1,a2⟩:=H.apart _ _ _ _ _ h1 h2
  have hkk:k=k':=Prod.ext a1 a2
  subst hkk
  have l1:i<(cu h args).length:=(List.getElem?_eq_some_iff.1 hk).1
  exact (List.getElem?_inj l1 hnd).1 (hk.trans hk'.symm)
 ·rcases hb with hb | ⟨d,s,_,hb⟩
  ·exact hB b hb
  ·exact (aM (H.rows d s) hb).1
 ·obtain ⟨v,hv,hfv⟩:=df hca j p hp
  refine fm an hfv (lh (List.all_eq_true.2 fun q hq=> ?_)) (hr j v u hv hu)
  exact List.all_eq_true.1 hg.1 q (eq hv hq)
def cC (σ:ak) (m:Nat) (ex:Option K2) (h1:aa):ak:=fun i=>match ex with
 | some e=>if i=m then σ (ac h1 e.1 e.2).g else σ i
 | none=>σ i
theorem iJ {m i:Nat} {ex:Option K2} (hi:i<m):cC σ m ex h1 i=σ i:=by
 unfold cC
 split
 ·rw [if_neg (by omega)]
 ·rfl
theorem iK {ex:Option K2} {j:Nat} (h:cL ex j=true):ex=some (0,j):=by
 unfold cL at h
 split at h
 ·simp only [Bool.and_eq_true,beq_iff_eq] at h
  rw [←h.1,←h.2]
 ·cases h
theorem li {m j:Nat} {ex:Option K2} (hj:j<m) (hg:(ac h1 0 j).g=j∨cL ex j=true):cC σ m ex h1 (nm ex m j)=σ (ac h1 0 j).g:=by
 unfold nm
 cases ht:cL ex j with
 | true=>
  have:=iK ht
  subst this
  simp [cC]
 | false=>
  rw [ht] at hg
  simp only [Bool.false_eq_true,if_false,or_false] at hg ⊢
  rw [iJ hj,hg]
theorem lj {m:Nat} {ex:Option K2} {l:List (K2×Nat)} (hg:cZ h l=true) (hok:dC ex h 0 m=true):cB (c3 m ex) σ (cC σ m ex h) l:=by
 intro q hq k hk x hx
 have h1:=ld hg hq
 unfold c3 at hk
 split at hk
 ·rename_i hc
  simp only [Bool.and_eq_true,beq_iff_eq,decide_eq_true_eq] at hc
  simp only [Option.some.injEq] at hk
  subst hk
  have h2:=(iI hok q.1.2 hc.2).1
  rw [Nat.zero_add] at h2
  rw [hc.1] at h1
  rw [h1] at hx
  simp only
  rw [li hc.2 h2]
  exact hx
 ·split at hk
  ·rename_i e
   split at hk
   ·rename_i hc
    simp only [Bool.and_eq_true,beq_iff_eq] at hc
    simp only [Option.some.injEq] at hk
    subst hk
    simp only [cC,if_true,hc.1,hc.2]
    rw [←h1]
    exact hx
   ·cases hk
  ·cases hk
theorem lk: ∀(n:Nat) {v v':AV},au ρ n v=some v'→ ∀q∈aI n v',∃k,ρ k=some q:=by
 intro n
 induction n with
 | zero=>intro v v' h q hq;simp [aI] at hq
 | succ n ih=>
  intro v v' h q hq
  have lst: ∀ {l l':List AV},bM (au ρ n) l=some l'→q∈l'.flatMap (aI n)→ ∃k,ρ k=some q:=by
   intro l l' hl hm
   obtain ⟨x,hx,hqx⟩:=List.mem_flatMap.1 hm
   obtain ⟨j,hj⟩:=List.mem_iff_getElem?.1 hx
   obtain ⟨y,_,hy⟩:=df hl j x hj
   exact ih hy q hqx
  cases v with
  | pv p=>simp only [au,Option.some.injEq] at h;subst h;simp [aI] at hq
  | mptr d s g i off=>
   simp only [au,Option.map_eq_some_iff] at h
   obtain ⟨k,hk,rfl⟩:=h
   simp only [aI,List.mem_singleton] at hq
   subst hq
   exact ⟨_,hk⟩
  | msl d s g off m full=>
   simp only [au,Option.map_eq_some_iff] at h
   obtain ⟨k,hk,rfl⟩:=h
   simp only [aI,List.mem_singleton] at hq
   subst hq
   exact ⟨_,hk⟩
  | agg l=>
   simp only [au,Option.map_eq_some_iff] at h
   obtain ⟨l',hl',rfl⟩:=h
   exact lst hl' (by simpa only [aI] using hq)
  | tup l=>
   simp only [au,Option.map_eq_some_iff] at h
   obtain ⟨l',hl',rfl⟩:=h
   exact lst hl' (by simpa only [aI] using hq)
  | clo f a b=>
   simp only [au,Option.bind_eq_some_iff,Option.map_eq_some_iff] at h
   obtain ⟨a',ha',b',hb',rfl⟩:=h
   simp only [aI,List.mem_append] at hq
   exact hq.elim (lst ha') (lst hb')
  | yld d s g=>simp [au] at h
  | ifc t v=>
   simp only [au,Option.map_eq_some_iff] at h
   obtain ⟨v2,hv2,rfl⟩:=h
   exact ih hv2 q hq
  | btag t=>simp only [au,Option.some.injEq] at h;subst h;simp [aI] at hq
  | mref d s g=>simp [au] at h
theorem oD {b b':aW} (h:bb ρ b=some b'): ∀q∈bL b',∃k,ρ k=some q:=by
 intro q hq
 cases b with
 | dead=>simp [bb] at h
 | lp st=>simp [bb] at h
 | map clock es=>simp [bb] at h
 | mit m since seen last=>simp [bb] at h
 | box v fz=>
  simp only [bb,Option.map_eq_some_iff] at h
  obtain ⟨v',hv',rfl⟩:=h
  exact lk an hv' q hq
 | row k e xs fz=>simp only [bb,Option.some.injEq] at h;subst h;simp [bL] at hq
 | iter s pos=>simp only [bb,Option.some.injEq] at h;subst h;simp [bL] at hq
def cS (f:Nat→Nat) (m:Nat) (l:List (K2×Nat)):Prop:= ∀q∈l,q.2=f q.1.2∧q.1.2<m
theorem ll {m:Nat} {ex:Option K2} (hex: ∀e,ex=some e→e.1=0→e.2<m):nm ex m m=m:=by
 unfold nm;split<;>rfl
theorem lm {m:Nat} {ex:Option K2} {l:List (K2×Nat)} (hl: ∀e,ex=some e→e.1=0→e.2<m) (h: ∀q∈l,∃k,c3 m ex k=some q):cS (nm ex m) (m+if cl ex then 1 else 0) l:=by
 intro q hq
 obtain ⟨k,hk⟩:=h q hq
 unfold c3 at hk
 split at hk
 ·rename_i hc
  simp only [Bool.and_eq_true,beq_iff_eq,decide_eq_true_eq] at hc
  simp only [Option.some.injEq] at hk
  subst hk
  exact ⟨rfl,Nat.lt_of_lt_of_le hc.2 (Nat.le_add_right _ _)⟩
 ·rename_i hlow
  split at hk
  ·rename_i e
   split at hk
   ·rename_i hek
    simp only [Option.some.injEq] at hk
    subst hk
    simp only [Bool.and_eq_true,beq_iff_eq] at hek
    have h0:e.1≠0:=fun h0=>hlow (by
     have:=hl e rfl h0
     simp only [Bool.and_eq_true,beq_iff_eq,decide_eq_true_eq]
     exact ⟨hek.1▸h0,hek.2▸this⟩)
    exact ⟨(ll hl).symm,by simp [cl,h0]⟩
   ·cases hk
  ·cases hk
theorem ln {m:Nat} {ex:Option K2} {rows:List am} (hex: ∀e,ex=some e→e.1=1∨e.1=0∧e.2<m) (H:ae σ I base w h1) (hok:dC ex h1 0 m=true) (ho:c4 m ex h1 0 m=some rows):
  ae (cC σ m ex h1) I base w [rows]∧rows.length=m+(if cl ex then 1 else 0)∧ ∀(j:Nat) (r:am),rows[j]? =some r→r.g=nm ex m j∧r.b≠ .dead∧cS (nm ex m) rows.length (bL r.b):=by
 have hlx: ∀e,ex=some e→e.1=0→e.2<m:=fun e he h0=>(hex e he).elim (fun h1=>by omega) fun h1=>h1.2
 obtain ⟨hlen,hg,hgx⟩:=lg ho
 have hrow: ∀(j:Nat) (r:am),rows[j]? =some r→ ∃k:K2,(j<m∧k=(0,j)∨j=m∧k.1=1)∧aL (cC σ m ex h1) I base w r∧ai (cC σ m ex h1) r=ai σ (ac h1 k.1 k.2):=by
  intro j r hj
  by_cases hjm:j<m
  ·obtain ⟨b,hb,rfl⟩:=hg j r hjm hj
   obtain ⟨k1,k2⟩:=iI hok j hjm
   simp only [Nat.zero_add] at k1 k2 hb ⊢
   exact ⟨(0,j),.inl ⟨hjm,rfl⟩,gC (H.rows 0 j) hb (fun x hx=>by rw [li hjm k1];exact hx) (lj k2 hok) fun b0 hb0=>(aM (H.rows 0 j) hb0).2.2⟩
  ·have hl:j<rows.length:=(List.getElem?_eq_some_iff.1 hj).1
   cases ex with
   | none=>simp [cl] at hlen;omega
   | some e=>
    have hje:j=m:=by split at hlen<;>omega
    subst hje
    obtain ⟨he0,k,t,xs,fz,hb,rfl⟩:=hgx e r rfl hj
    refine ⟨e,.inr ⟨rfl,(hex e rfl).resolve_right fun h=>he0 h.1⟩,gC (b':= .row k t xs fz) (ρ:=c3 j (some e)) (H.rows e.1 e.2) (by rw [hb];rfl) (fun x hx=>by simp only [cC,if_true];exact hx) ?_ fun b0 hb0=>(aM (H.rows e.1 e.2) hb0).2.2⟩
    rw [hb]
    intro q hq
    simp [bL] at hq
 refine ⟨ae.of_rows H.inW (fun j r hj=>let ⟨_,_,h,_⟩:=hrow j r hj;h) fun i j r r' b hi hj e1 e2=> ?_,hlen,fun j r hj=> ?_⟩
 ·obtain ⟨k,hk,_,e⟩:=hrow i r hi
  obtain ⟨k',hk',_,e'⟩:=hrow j r' hj
  rw [e] at e1
  rw [e'] at e2
  have:=H.apart _ _ _ _ _ e1 e2
  rcases hk with ⟨a1,rfl⟩ | ⟨a1,a2⟩<;>rcases hk' with ⟨b1,rfl⟩ | ⟨b1,b2⟩
  ·exact this.2
  ·have:=this.1;simp at this;omega
  ·have:=this.1;simp at this;omega
  ·omega
 ·have hl:j<rows.length:=(List.getElem?_eq_some_iff.1 hj).1
  by_cases hjm:j<m
  ·obtain ⟨b,hb,rfl⟩:=hg j r hjm hj
   refine ⟨by simp,?_,by rw [hlen];exact lm hlx (oD hb)⟩
   rintro rfl
   cases hb2:(ac h1 0 (0+j)).b<;>rw [hb2] at hb<;>simp [bb] at hb
  ·cases ex with
   | none=>simp [cl] at hlen;omega
   | some e=>
    have hje:j=m:=by split at hlen<;>omega
    subst hje
    obtain ⟨he0,k,t,xs,fz,hb,rfl⟩:=hgx e r rfl hj
    exact ⟨(ll hlx).symm,by simp,fun q hq=>by simp [bL] at hq⟩
theorem iL {m:Nat} : ∀e,c2 m h1=some e→e.1=1∨e.1=0∧e.2<m:=by
 intro e he
 unfold c2 at he
 split at he
 ·rename_i i hi
  simp only [Option.some.injEq] at he
  subst he
  have:=List.mem_of_find?_eq_some hi
  exact .inr ⟨rfl,by simpa using this⟩
 ·simp only [Option.map_eq_some_iff] at he
  obtain ⟨q,hq,rfl⟩:=he
  exact .inl (by simpa using List.find?_some hq)
theorem oE {m:Nat} {v v':AV} {rows:List am} {u:Value} (H:ae σ I base w h1) (hr:ab σ I w v u) (ho:gX m v h1=some (v',rows)):
  ∃I' τ ex,(∀i,i<m→τ i=σ i)∧ae τ I' base w [rows]∧ab τ I' w v' u∧bv I I' base∧m≤rows.length∧rows.length≤m+1∧(cl ex=false→rows.length=m)∧cS (nm ex m) rows.length (aI an v')∧ ∀(j:Nat) (r:am),rows[j]? =some r→r.g=nm ex m j∧r.b≠ .dead∧cS (nm ex m) rows.length (bL r.b):=by
 have len: ∀ {ex:Option K2},rows.length=m+(if cl ex then 1 else 0)→m≤rows.length∧rows.length≤m+1:=fun h=>by split at h<;>omega
 have hl: ∀ {h:aa} e,c2 m h=some e→e.1=0→e.2<m:=fun e he h0=>(iL e he).elim (fun h1=>by omega) fun h1=>h1.2
 unfold gX at ho
 split at ho
 ·rename_i v1 hv1
  split at ho
  ·rename_i hc
   simp only [Bool.and_eq_true] at hc
   simp only [Option.map_eq_some_iff,Prod.mk.injEq] at ho
   obtain ⟨rs,hrs,rfl,rfl⟩:=ho
   obtain ⟨k1,k2,k3⟩:=ln iL H hc.2 hrs
   exact ⟨I,_,_,fun i hi=>iJ hi,k1,fm an hv1 (lj hc.1 hc.2) hr,bv.refl,(len k2).1,(len k2).2,fun hn=>by rw [k2,hn];rfl,by rw [k2];exact lm hl (lk an hv1),k3⟩
  ·cases ho
 ·simp only [Option.bind_eq_some_iff] at ho
  obtain ⟨⟨p,h2⟩,hz,ho⟩:=ho
  simp only [] at ho
  split at ho
  ·rename_i hc
   simp only [Option.map_eq_some_iff,Prod.mk.injEq] at ho
   obtain ⟨rs,hrs,rfl,rfl⟩:=ho
   obtain ⟨I2,hp,H2,m2⟩:=d8 an v h1 p h2 u I hz hr H
   obtain ⟨k1,k2,k3⟩:=ln iL H2 hc hrs
   exact ⟨I2,_,_,fun i hi=>iJ hi,k1,.pv _ _ hp,m2,(len k2).1,(len k2).2,fun hn=>(by rw [k2,hn];rfl),fun q hq=>by simp [aI,an] at hq,k3⟩
  ·cases ho
theorem lq {β:K2→Option (K2×Nat)} {h0:aa} : ∀ {rows:List am} {ks:List K2} {h h':aa},dD β h0 rows ks h=some h'→ks.Nodup→rows.length=ks.length∧
  (∀d s,(d,s)∉ks→ac h' d s=ac h d s)∧ ∀(j:Nat) (k:K2),ks[j]? =some k→ ∃r b,rows[j]? =some r∧bb β r.b=some b∧ac h' k.1 k.2=⟨(ac h0 k.1 k.2).g,b⟩
 | [],[],h,h',e,_=>by simp [dD] at e;subst e;exact ⟨rfl,fun _ _ _=>rfl,fun j k hk=>by simp at hk⟩
 | [],_::_,h,h',e,_=>by simp [dD] at e
 | _::_,[],h,h',e,_=>by simp [dD] at e
 | r::rs,k::ks,h,h',e,hnd=>by
  simp only [dD,Option.bind_eq_some_iff] at e
  obtain ⟨b,hb,e⟩:=e
  obtain ⟨hk,hnd⟩:=List.nodup_cons.1 hnd
  obtain ⟨h1,h2,h3⟩:=lq e hnd
  refine ⟨by simp [h1],fun d s hds=> ?_,fun j q hq=> ?_⟩
  ·simp only [List.mem_cons,not_or] at hds
   rw [h2 d s hds.2,bz,if_neg (fun e=>hds.1 (Prod.ext e.1.symm e.2.symm))]
  ·cases j with
   | zero=>
    simp at hq
    subst hq
    refine ⟨r,b,rfl,hb,?_⟩
    rw [h2 k.1 k.2 hk,bz,if_pos ⟨rfl,rfl⟩]
   | succ j=>
    obtain ⟨r',b',g1,g2,g3⟩:=h3 j q (by simpa using hq)
    exact ⟨r',b',by simpa using g1,g2,g3⟩
theorem lr {ks:List K2} {l:List (K2×Nat)} {m:Nat} {f:Nat→Nat} (hm:m=ks.length) (ho:cS f m l) {τ:ak} (hτ: ∀i,i<m→τ (f i)=bh σ h ks i):cB (gY ks h) τ σ l:=by
 intro q hq k hk x hx
 simp only [gY,Option.map_eq_some_iff] at hk
 obtain ⟨y,hy,rfl⟩:=hk
 obtain ⟨h1,h2⟩:=ho q hq
 rw [h1,hτ _ h2] at hx
 simp only [bh,hy,Option.bind_some] at hx
 exact hx
theorem iM {ks:List K2} {rows:List am} {v v':AV} {u:Value} {τ:ak} {f:Nat→Nat} (H:ae σ I base w h) (hnd:ks.Nodup) (hτ: ∀i,i<ks.length→τ (f i)=bh σ h ks i)
  (hI: ∀b,I b→I' b) (hN: ∀b,I' b→I b∨ ¬bD σ h ks base b) (hk:cx I w w') (hw:bu (bD σ h ks base) w w') (Hc:ae τ I' (bD σ h ks base) w' [rows]) (hr:ab τ I' w' v u)
  (hov:cS f ks.length (aI an v)) (hor: ∀(j:Nat) (r:am),rows[j]? =some r→r.g=f j∧cS f ks.length (bL r.b)) (he:eS ks h v rows=some (v',h')):ae σ I' base w' h'∧ab σ I' w' v' u:=by
 simp only [eS,jC,Option.bind_eq_some_iff,Option.map_eq_some_iff,Prod.mk.injEq] at he
 obtain ⟨v1,hv1,h1,hh1,rfl,rfl⟩:=he
 obtain ⟨hlen,hout,hkey⟩:=lq hh1 hnd
 have hrow: ∀(j:Nat) (k:K2),ks[j]? =some k→aL σ I' base w' (ac h1 k.1 k.2)∧ ∃r,rows[j]? =some r∧ai σ (ac h1 k.1 k.2)=ai τ r:=by
  intro j k hj
  obtain ⟨r,b,hr,hb,e⟩:=hkey j k hj
  have hjm:j<ks.length:=(List.getElem?_eq_some_iff.1 hj).1
  have hrr:=Hc.rows 0 j
  rw [dh,if_pos rfl,List.getD_eq_getElem?_getD,hr,Option.getD_some] at hrr
  have:=gC (τ:=σ) (base':=base) (g':=(ac h k.1 k.2).g) hrr hb (fun x hx=>by rw [(hor j r hr).1,hτ j hjm] at hx;simpa [bh,hj] using hx) (lr rfl (hor j r hr).2 hτ) fun b0 hb0 h0=>(aM hrr hb0).2.2 (.inl h0)
  rw [e]
  exact ⟨this.1,r,hr,this.2⟩
 have hoth: ∀d s b,(d,s)∉ks→ai σ (ac h d s)=some b→w'.heap[b]? =w.heap[b]? ∧ ¬I' b:=by
  intro d s b hds hb
  have ho:bD σ h ks base b:= .inr ⟨d,s,hds,hb⟩
  exact ⟨hw.block b ho,fun hi=>(hN b hi).elim (aM (H.rows d s) hb).2.1 fun h2=>h2 ho⟩
 have hcb: ∀(j:Nat) (r:am) (b:Nat),rows[j]? =some r→ai τ r=some b→ ¬bD σ h ks base b:=by
  intro j r b hj hb
  have hrr:=Hc.rows 0 j
  rw [dh,if_pos rfl,List.getD_eq_getElem?_getD,hj,Option.getD_some] at hrr
  exact (aM hrr hb).2.2
 refine ⟨⟨fun d s=> ?_,fun d s d' s' b e1 e2=> ?_,Hc.inW⟩,fm an hv1 (lr rfl hov hτ) hr⟩
 ·by_cases hds:(d,s)∈ks
  ·obtain ⟨j,hj⟩:=List.mem_iff_getElem?.1 hds
   exact (hrow j (d,s) hj).1
  ·rw [hout d s hds]
   exact (H.rows d s).mono (fun _ _ h=>h) hI hk fun b hb=>hoth d s b hds hb
 ·by_cases hds:(d,s)∈ks
  ·obtain ⟨j,hj⟩:=List.mem_iff_getElem?.1 hds
   obtain ⟨_,r,hr,e⟩:=hrow j (d,s) hj
   rw [e] at e1
   by_cases hds':(d',s')∈ks
   ·obtain ⟨j',hj'⟩:=List.mem_iff_getElem?.1 hds'
    obtain ⟨_,r',hr',e'⟩:=hrow j' (d',s') hj'
    rw [e'] at e2
    have hjj:j=j':=by
     refine (Hc.apart 0 j 0 j' b ?_ ?_).2
     ·rw [dh,if_pos rfl,List.getD_eq_getElem?_getD,hr,Option.getD_some];exact e1
     ·rw [dh,if_pos rfl,List.getD_eq_getElem?_getD,hr',Option.getD_some];exact e2
    subst hjj
    rw [hj] at hj'
    simpa using hj'
   ·rw [hout d' s' hds'] at e2
    exact absurd (.inr ⟨d',s',hds',e2⟩) (hcb j r b hr e1)
  ·rw [hout d s hds] at e1
   by_cases hds':(d',s')∈ks
   ·obtain ⟨j',hj'⟩:=List.mem_iff_getElem?.1 hds'
    obtain ⟨_,r',hr',e'⟩:=hrow j' (d',s') hj'
    rw [e'] at e2
    exact absurd (.inr ⟨d,s,hds,e1⟩) (hcb j' r' b hr' e2)
   ·rw [hout d' s' hds'] at e2
    exact H.apart d s d' s' b e1 e2
theorem ae.less (H:ae σ I base w h) (hb: ∀b,base' b→base b):ae σ I base' w h where
 inW:=H.inW
 apart:=H.apart
 rows d s:=by
  have fz: ∀ {b n:Nat} {f:Bool},Fz I base w b n f→Fz I base' w b n f:=by
   intro b n f hz
   cases f with
   | true=>exact hz
   | false=>exact ⟨hz.1,fun h=>hz.2.1 (hb _ h),hz.2.2⟩
  have hr:=H.rows d s
  revert hr
  generalize ac h d s=r
  intro hr
  obtain ⟨g,bd⟩:=r
  cases bd with
  | dead=>trivial
  | box v f=>obtain ⟨b,e,h1,h2,h3,h4,h5⟩:=hr;exact ⟨b,e,h1,h2,h3,h4,fz h5⟩
  | row k e xs f=>obtain ⟨b,o,n,h1,h2,h3,h4,h5,h6⟩:=hr;exact ⟨b,o,n,h1,h2,h3,h4,h5,fz h6⟩
  | iter s p=>obtain ⟨b,k,h1,h2,h3,h4⟩:=hr;exact ⟨b,k,h1,h2,h3,fun h=>h4 (hb _ h)⟩
  | lp st=>obtain ⟨b,k,h1,h2,h3,h4⟩:=hr;exact ⟨b,k,h1,h2,h3,fun h=>h4 (hb _ h)⟩
  | map clock es=>obtain ⟨b,k,h1,h2,h3,h4⟩:=hr;exact ⟨b,k,h1,h2,h3,fun h=>h4 (hb _ h)⟩
  | mit m since seen last=>obtain ⟨b,k,h1,h2,h3,h4⟩:=hr;exact ⟨b,k,h1,h2,h3,fun h=>h4 (hb _ h)⟩
theorem ls {τ:ak} {r:am} (hr:aL τ I base w r) (hne:r.b≠ .dead): ∃x,τ r.g=some x:=by
 obtain ⟨g,bd⟩:=r
 cases bd with
 | dead=>exact absurd rfl hne
 | box v f=>obtain ⟨b,e,h1,_⟩:=hr;exact ⟨_,h1⟩
 | row k e xs f=>obtain ⟨b,o,n,h1,_⟩:=hr;exact ⟨_,h1⟩
 | iter s p=>obtain ⟨b,k,h1,_⟩:=hr;exact ⟨_,h1⟩
 | lp st=>obtain ⟨b,k,h1,_⟩:=hr;exact ⟨_,h1⟩
 | map clock es=>obtain ⟨b,k,h1,_⟩:=hr;exact ⟨_,h1⟩
 | mit m since seen last=>obtain ⟨b,k,h1,_⟩:=hr;exact ⟨_,h1⟩
theorem oF {d slot gen:Nat} {ks:List K2} {rows:List am} {v v':AV} {u:Value} {τ:ak} {ex:Option K2} (H:ae σ I base w h) (hg:σ gen=none) (hnd:ks.Nodup) (hτ: ∀i,i<ks.length→τ i=bh σ h ks i)
  (hI: ∀b,I b→I' b) (hN: ∀b,I' b→I b∨ ¬bD σ h ks base b) (hk:cx I w w') (hw:bu (bD σ h ks base) w w') (Hc:ae τ I' (bD σ h ks base) w' [rows]) (hr:ab τ I' w' v u)
  (h1l:ks.length≤rows.length) (h2l:rows.length≤ks.length+1)
  (h3l:cl ex=false→rows.length=ks.length) (hov:cS (nm ex ks.length) rows.length (aI an v)) (hor: ∀(j:Nat) (r:am),rows[j]? =some r→r.g=nm ex ks.length j∧r.b≠ .dead∧cS (nm ex ks.length) rows.length (bL r.b)) (he:gZ d slot gen ks h v rows=some (v',h')):
  ∃σ1,(∀g x,σ g=some x→σ1 g=some x)∧(∀g,g≠gen→σ1 g=σ g)∧ae σ1 I' base w' h'∧ab σ1 I' w' v' u:=by
 unfold gZ at he
 split at he
 ·rename_i hlen
  rw [hlen] at hov hor
  have hrg: ∀(j:Nat),j<rows.length→ ∃x,τ (nm ex ks.length j)=some x:=by
   intro j hj
   obtain ⟨k1,k2,_⟩:=hor j rows[j] (List.getElem?_eq_getElem hj)
   rw [←k1]
   refine ls (I:=I') (base:=bD σ h ks base) (w:=w') ?_ k2
   have hrr:=Hc.rows 0 j
   rw [dh,if_pos rfl,List.getD_eq_getElem?_getD,List.getElem?_eq_getElem hj,Option.getD_some] at hrr
   exact hrr
  split at he
  ·rename_i hno
   have hid: ∀i,i<ks.length→nm ex ks.length i=i:=by
    intro i hi
    unfold nm
    split
    ·rename_i ht
     have hi':i<rows.length:=by omega
     have h1:=(hor i rows[i] (List.getElem?_eq_getElem hi')).1
     unfold nm at h1
     rw [if_pos ht] at h1
     have:=List.findIdx?_eq_none_iff.1 hno rows[i] (List.getElem_mem hi')
     simp [h1] at this
    ·rfl
   obtain ⟨a,b⟩:=iM H hnd (fun i hi=>by rw [hid i hi];exact hτ i hi) hI hN hk hw Hc hr hov (fun j r hj=>⟨(hor j r hj).1,(hor j r hj).2.2⟩) he
   exact ⟨σ,fun _ _ h=>h,fun _ _=>rfl,a,b⟩
  ·rename_i i hfi
   simp only [Option.bind_eq_some_iff] at he
   obtain ⟨k,hki,he⟩:=he
   have hil:i<ks.length:=(List.getElem?_eq_some_iff.1 hki).1
   have hir:i<rows.length:=by omega
   have hgi:rows[i].g=ks.length:=by
    have:=(List.findIdx?_eq_some_iff_getElem.1 hfi).2.1
    simpa using this
   have hturn:ex=some (0,i):=by
    have h1:=(hor i rows[i] (List.getElem?_eq_getElem hir)).1
    unfold nm at h1
    split at h1
    ·rename_i ht;exact iK ht
    ·rw [hgi] at h1;omega
   have hnm: ∀j,j≠i→nm ex ks.length j=j:=by
    intro j hj
    unfold nm
    rw [hturn,if_neg]
    simp [cL,Ne.symm hj]
   have hnmi:nm ex ks.length i=ks.length:=by
    unfold nm
    rw [hturn,if_pos]
    simp [cL]
   obtain ⟨x,hx⟩:=hrg i hir
   have H0:ae (aN σ gen x) I base w (hput h k.1 k.2 ⟨gen,.dead⟩):=
    H.put (bO hg) (fun _ h=>h) (aD.refl I w).zero H.inW k.1 k.2 _ trivial fun d' s' b' _ hb'=>⟨rfl,(aM (H.rows d' s') hb').2.1,by simp [ai]⟩
   have hkm:k∈ks:=List.mem_of_getElem? hki
   have hoth: ∀b,bD (aN σ gen x) (hput h k.1 k.2 ⟨gen,.dead⟩) ks base b→bD σ h ks base b:=by
    rintro b (hb | ⟨d',s',hn,hb⟩)
    ·exact .inl hb
    ·have hne: ¬(k.1=d'∧k.2=s'):=fun e=>hn (by rw [←e.1,←e.2];exact hkm)
     rw [bz,if_neg hne,dF (H.rows d' s') (bO hg)] at hb
     exact .inr ⟨d',s',hn,hb⟩
   have hτ1: ∀j,j<ks.length→τ (nm ex ks.length j)=bh (aN σ gen x) (hput h k.1 k.2 ⟨gen,.dead⟩) ks j:=by
    intro j hj
    have hkj:ks[j]? =some ks[j]:=List.getElem?_eq_getElem hj
    by_cases hji:j=i
    ·subst hji
     have:ks[j]=k:=by rw [hkj] at hki;injection hki
     rw [hx]
     simp [bh,hkj,this,bz,aP]
    ·have hne:ks[j]≠k:=fun e=>hji ((List.getElem?_inj hj hnd).1 (by rw [hkj,hki,e]))
     have hne2: ¬(k.1=ks[j].1∧k.2=ks[j].2):=fun e=>hne (Prod.ext e.1.symm e.2.symm)
     have e:τ j=σ (ac h ks[j].1 ks[j].2).g:=by rw [hτ j hj];simp [bh,hkj]
     obtain ⟨y,hy⟩:=hrg j (by omega)
     rw [hnm j hji] at hy
     have hng:(ac h ks[j].1 ks[j].2).g≠gen:=fun e2=>by rw [e,e2,hg] at hy;cases hy
     rw [hnm j hji,e]
     simp only [bh,hkj,Option.bind_some,bz,if_neg hne2]
     rw [bV hng]
   obtain ⟨a,b⟩:=iM H0 hnd hτ1 hI (fun b hb=>(hN b hb).imp id fun h1 h2=>h1 (hoth b h2)) hk ⟨hw.os,hw.tape,hw.output,hw.size,fun k hk=>hw.block k (hoth k hk)⟩ (Hc.less hoth) hr hov (fun j r hj=>⟨(hor j r hj).1,(hor j r hj).2.2⟩) he
   exact ⟨_,bO hg,fun g hne=>bV hne,a,b⟩
 ·rename_i hlen
  split at he
  rotate_left
  ·cases he
  rename_i hnk
  have hnk:=iH (Option.isNone_iff_eq_none.1 hnk)
  have hlen:rows.length=(ks++[(d,slot)]).length:=by simp;omega
  have hnm: ∀j,nm ex ks.length j=j:=by
   intro j
   unfold nm
   split
   ·rename_i ht
    have hex:=iK ht
    have:=h3l (by rw [hex];rfl)
    simp at hlen
    omega
   ·rfl
  have hrg: ∀(j:Nat),j<rows.length→ ∃x,τ j=some x:=by
   intro j hj
   obtain ⟨k1,k2,_⟩:=hor j rows[j] (List.getElem?_eq_getElem hj)
   rw [hnm] at k1
   rw [←k1]
   refine ls (I:=I') (base:=bD σ h ks base) (w:=w') ?_ k2
   have hrr:=Hc.rows 0 j
   rw [dh,if_pos rfl,List.getD_eq_getElem?_getD,List.getElem?_eq_getElem hj,Option.getD_some] at hrr
   exact hrr
  obtain ⟨x,hx⟩:=hrg ks.length (by simp at hlen;omega)
  have H0:ae (aN σ gen x) I base w (hput h d slot ⟨gen,.dead⟩):=
   H.put (bO hg) (fun _ h=>h) (aD.refl I w).zero H.inW d slot _ trivial fun d' s' b' _ hb'=>⟨rfl,(aM (H.rows d' s') hb').2.1,by simp [ai]⟩
  have hoth: ∀b,bD (aN σ gen x) (hput h d slot ⟨gen,.dead⟩) (ks++[(d,slot)]) base b→bD σ h ks base b:=by
   rintro b (hb | ⟨d',s',hn,hb⟩)
   ·exact .inl hb
   ·simp only [List.mem_append,List.mem_singleton,not_or] at hn
    have hne: ¬(d=d'∧slot=s'):=fun e=>hn.2 (Prod.ext e.1.symm e.2.symm)
    rw [bz,if_neg hne,dF (H.rows d' s') (bO hg)] at hb
    exact .inr ⟨d',s',hn.1,hb⟩
  have hks: ∀k∈ks,ac (hput h d slot ⟨gen,.dead⟩) k.1 k.2=ac h k.1 k.2:=fun k hk=>by
   rw [bz,if_neg]
   rintro ⟨rfl,rfl⟩
   exact hnk hk
  have hτ1: ∀i,i<(ks++[(d,slot)]).length→τ i=bh (aN σ gen x) (hput h d slot ⟨gen,.dead⟩) (ks++[(d,slot)]) i:=by
   intro i hi
   by_cases hik:i<ks.length
   ·have hki:ks[i]? =some ks[i]:=List.getElem?_eq_getElem hik
    have e:τ i=σ (ac h ks[i].1 ks[i].2).g:=by rw [hτ i hik];simp [bh,hki]
    obtain ⟨y,hy⟩:=hrg i (by rw [hlen];exact hi)
    have hne:(ac h ks[i].1 ks[i].2).g≠gen:=fun e2=>by rw [e,e2,hg] at hy;cases hy
    simp only [bh,List.getElem?_append_left hik,hki,Option.bind_some,hks _ (List.getElem_mem hik)]
    rw [bV hne,e]
   ·have hie:i=ks.length:=by simp at hi;omega
    subst hie
    simp [bh,bz,aP,hx]
  rw [hlen] at hov hor
  have hτ1: ∀i,i<(ks++[(d,slot)]).length→τ (nm ex ks.length i)=bh (aN σ gen x) (hput h d slot ⟨gen,.dead⟩) (ks++[(d,slot)]) i:=fun i hi=>by rw [hnm];exact hτ1 i hi
  obtain ⟨a,b⟩:=iM H0 (List.nodup_append.2 ⟨hnd,by simp,fun a ha b hb=>by rw [List.mem_singleton.1 hb];rintro rfl;exact hnk ha⟩) hτ1 hI
   (fun b hb=>(hN b hb).imp id fun h1 h2=>h1 (hoth b h2)) hk ⟨hw.os,hw.tape,hw.output,hw.size,fun k hk=>hw.block k (hoth k hk)⟩ (Hc.less hoth) hr hov (fun j r hj=>⟨(hor j r hj).1,(hor j r hj).2.2⟩) he
  exact ⟨_,bO hg,fun g hne=>bV hne,a,b⟩
end
section
variable {E:ao} {call:bi} {ys:Ys} {d:Nat} {base:af} {C:Cx} {σ:ak} {I:af} {w:World} {h:aa} {s s':St} {a:Act} {P:Program}
theorem oG {t:TypeId} {m:Nat} {ag:Bool} {d s g i off:Nat} {v v0:AV} {fz:Bool} {u0:Value} (H:ae σ I base w h) (hm:aK P t=some m) (hag:bK P t=some ag) (hra:ab σ I w (.mptr d s g i off) u0)
  (hl:Abs.live h d s g= .box v0 fz) (hi:i=0) (hv:cU ag m off v0=some v): ∃ad u,u0= .pointer (some ad)∧(loadVar t ad).run P w= .ok u w∧ab σ I w v u:=by
 obtain ⟨b,ob,k,hs,hu⟩:=bW hra
 subst hi
 obtain ⟨b0,k0,e0,u0',hs0,hsh,hok,hru,hz,hf,h1c,hsz,hcell⟩:=cM (H.live hl (by simp))
 rw [hs] at hs0
 simp only [Option.some.injEq,Prod.mk.injEq] at hs0
 obtain ⟨rfl,rfl,rfl⟩:=hs0
 have hsub:=ii (σ:=σ) (I:=I) (w:=w) hv (us:=u0'.cells.toList) (by simpa using hsz) h1c fun j c x hc hx=>(hru.cells hok).2.2 j c x hc (by simpa using hx)
 have hload:=ij (P:=P) (w:=w) (b:=b) (o:=0) (us:=u0'.cells.toList) hm hag off fun j x hx=>by simpa using hcell j x (by simpa using hx)
 simp only [Nat.zero_mul,Nat.add_zero,Nat.zero_add] at hu hload
 cases ag with
 | true=>exact ⟨_,_,hu,hload.1 rfl (hsub.1 rfl).1,(hsub.1 rfl).2⟩
 | false=>
  obtain ⟨x,hx,hp⟩:=hsub.2 rfl
  exact ⟨_,_,hu,hload.2 rfl x hx,hp⟩
def er (tmps:Array Value):ResultVar→Sem Value
 | .tmp t=>pure (tmps.getD t undef)
 | .cell a t=>do loadVar t (←asAddr (tmps.getD a undef))
theorem lu (H:be C σ I w s a) {r:ResultVar} {v:AV} (hv:dZ P s.h s.t r=some v): ∃u,(er a.tmps r).run P w= .ok u w∧ab σ I w v u:=by
 cases r with
 | tmp i=>
  simp only [dZ,Option.some.injEq] at hv
  subst hv
  exact ⟨_,rfl,H.tmp i⟩
 | cell i ty=>
  simp only [dZ,bind,Option.bind_eq_some_iff] at hv
  obtain ⟨m,hm,ag,hag,hv⟩:=hv
  have hr:=H.tmp i
  split at hv
  ·rename_i d s' g k off ht
   rw [ht] at hr
   split at hv
   ·rename_i v0 fz hl
    split at hv
    ·rename_i hi
     obtain ⟨ad,u,hu,hrun,hrep⟩:=oG H.heap hm hag hr hl hi hv
     exact ⟨u,by simp [er,hu,asAddr,hrun],hrep⟩
    ·cases hv
   ·cases hv
  ·cases hv
theorem lv (H:be C σ I w s a): ∀(rs:List ResultVar) (vs:List AV),rs.mapM (dZ P s.h s.t)=some vs→ ∃us:List Value,(rs.mapM (er a.tmps)).run P w= .ok us w∧us.length=vs.length∧vs.length=rs.length∧
  ∀(j:Nat) (p:AV) (u:Value),vs[j]? =some p→us[j]? =some u→ab σ I w p u
 | [],vs,h=>by
  simp at h
  subst h
  exact ⟨[],rfl,rfl,rfl,fun j p u hp=>by simp at hp⟩
 | r::rs,vs,h=>by
  simp only [List.mapM_cons,bind,Option.bind_eq_some_iff,pure,Option.some.injEq] at h
  obtain ⟨v,hv,vs',hvs,rfl⟩:=h
  obtain ⟨u,hu,hr⟩:=lu H hv
  obtain ⟨us,hus,hl,hl2,hrs⟩:=lv H rs vs' hvs
  refine ⟨u::us,by simp [List.mapM_cons,hu,hus],by simp [hl],by simp [hl2],fun j p x hp hx=> ?_⟩
  cases j with
  | zero=>simp at hp hx;subst hp hx;exact hr
  | succ j=>exact hrs j p x (by simpa using hp) (by simpa using hx)
theorem oH {cs:List AV} {vs:List Value} (hl:vs.length=cs.length)
  (hr: ∀(j:Nat) (p:AV) (v:Value),cs[j]? =some p→vs[j]? =some v→ab σ I w p v):ab σ I w (gT cs) (.tuple vs.toArray):=by
 unfold gT
 cases ha:aF cs with
 | none=>exact .tup cs vs hl hr
 | some ps=>
  have hcs:=dI ha
  subst hcs
  refine .pv _ _ (.tup ps vs (by simpa using hl) fun j p v hp hv=> ?_)
  exact aw (hr j (.pv p) v (by simp [hp]) hv)
theorem oI (H:be C σ I w s a) {fn:Func} {v:AV} (hv:fR P fn s.h s.t=some v): ∃u,(results fn a.tmps).run P w= .ok u w∧ab σ I w v u:=by
 have hres:results fn a.tmps=(do let vs ←fn.results.mapM (er a.tmps);pure (if h:vs.size=1 then vs[0] else .tuple vs)):=by
  unfold results
  congr 1
 have hrun: ∀us:List Value,(fn.results.toList.mapM (er a.tmps)).run P w= .ok us w→(fn.results.mapM (er a.tmps)).run P w= .ok us.toArray w:=by
  intro us hus
  rw [Array.mapM_eq_mapM_toList]
  simp [hus]
 unfold fR at hv
 split at hv
 ·rename_i r hrs
  obtain ⟨u,hu,hr⟩:=lu H hv
  have:=hrun [u] (by rw [hrs];simp [hu])
  exact ⟨u,by rw [hres];simp [this],hr⟩
 ·rename_i hne
  simp only [Option.map_eq_some_iff] at hv
  obtain ⟨vs,hvs,rfl⟩:=hv
  obtain ⟨us,hus,hl,hl2,hr⟩:=lv H _ vs hvs
  have h1:us.toArray.size≠1:=by
   intro e
   have e2:fn.results.toList.length=1:=by rw [←hl2,←hl];simpa using e
   obtain ⟨r,hr⟩:=List.length_eq_one_iff.1 e2
   exact hne r hr
  refine ⟨.tuple us.toArray,?_,oH hl hr⟩
  rw [hres]
  have:=hrun us hus
  simp only [Sem.run_bind,this,Result.andThen_ok]
  rw [dif_neg h1]
  rfl
theorem lw (h:aa) (d s:Nat):ac (h++[[]]) d s=ac h d s:=by
 unfold ac
 congr 1
 simp only [List.getD_eq_getElem?_getD]
 rw [List.getElem?_append]
 split
 ·rfl
 ·rename_i hd
  rw [List.getElem?_eq_none (by omega:h.length≤d)]
  cases hx:d-h.length<;>simp
theorem lz (h:aa) (k d s:Nat):ac (h.take k) d s=if d<k then ac h d s else aC:=by
 unfold ac
 simp only [List.getD_eq_getElem?_getD]
 rw [List.getElem?_take]
 split
 ·rfl
 ·simp
theorem ae.sub {h':aa} (H:ae σ I base w h) (hh: ∀d s,ac h' d s=ac h d s∨ac h' d s=aC):ae σ I base w h' where
 inW:=H.inW
 rows d s:=by rcases hh d s with e | e<;>rw [e];exact H.rows d s;trivial
 apart d s d' s' b h1 h2:=by
  rcases hh d s with e | e<;>rw [e] at h1
  ·rcases hh d' s' with e' | e'<;>rw [e'] at h2
   ·exact H.apart d s d' s' b h1 h2
   ·simp [ai,aC] at h2
  ·simp [ai,aC] at h1
theorem ae.append (H:ae σ I base w h):ae σ I base w (h++[[]]):=H.sub fun d s=> .inl (lw h d s)
theorem ae.take (H:ae σ I base w h) (k:Nat):ae σ I base w (h.take k):=H.sub fun d s=>by
 rw [lz];split
 ·exact .inl rfl
 ·exact .inr rfl
theorem gD (d s:Nat):ac [[]] d s=aC:=by
 have:=lw [] d s
 simp only [List.nil_append] at this
 rw [this]
 simp [ac]
theorem lA {σc:ak} {base':af} {h2 h3 hc:aa} {dc slot gen:Nat} {v v':AV} {u:Value} (H2:ae σ I base w h2) (Hc:ae σc I base' w hc) (hbase: ∀b,¬base' b→ ¬base b) (hr:ab σc I w v u)
  (he:fS dc hc v d slot gen h2=some (v',h3)) (hg:σ gen=none) (hap: ∀d s s' b,ai σ (ac h2 d s)=some b→ai σc (ac hc dc s')≠some b):
  ∃x,ab (aN σ gen x) I w v' u∧ae (aN σ gen x) I base w h3:=by
 unfold fS at he
 split at he
 ·rename_i d' s' g' off n full
  split at he
  ·rename_i hd
   subst hd
   split at he
   ·rename_i k e xs fz hl
    simp only [Option.some.injEq,Prod.mk.injEq] at he
    obtain ⟨rfl,rfl⟩:=he
    have hrow:=Hc.live hl (by simp)
    have hlr:=b8 hl (by simp)
    obtain ⟨b,o,m,hs,hsh,hm,hx,hcc,hz⟩:=hrow
    cases hr with
    | msl _ _ _ _ _ _ b' o' k' cap ad had hs' hn hfull hroom=>
     rw [hs] at hs'
     simp only [Option.some.injEq,Prod.mk.injEq] at hs'
     obtain ⟨rfl,rfl,rfl⟩:=hs'
     refine ⟨(b,o,k),.msl _ _ _ _ _ _ b o k cap ad had (aP ..) hn hfull hroom,?_⟩
     refine H2.put (bO hg) (fun _ h=>h) (aD.refl I w) H2.inW d slot _ ?_ ?_
     ·refine ⟨b,o,m,aP ..,hsh,hm,hx,hcc,?_⟩
      cases fz with
      | true=>exact hz
      | false=>exact ⟨hz.1,hbase _ hz.2.1,hz.2.2⟩
     ·intro d2 s2 b2 _ hb2
      refine ⟨rfl,(aM (H2.rows d2 s2) hb2).2.1,fun hq=> ?_⟩
      refine hap d2 s2 s' b2 hb2 ?_
      rw [hlr]
      cases fz with
      | true=>simp [ai] at hq
      | false=>
       simp only [ai,aP,Option.map_some,Option.some.injEq] at hq
       simp [ai,hs,hq]
   ·cases he
  ·cases he
 ·rename_i d' s' g' off
  split at he
  ·rename_i hd
   subst hd
   split at he
   ·rename_i p hl
    simp only [Option.some.injEq,Prod.mk.injEq] at he
    obtain ⟨rfl,rfl⟩:=he
    have hrow:=Hc.live hl (by simp)
    have hlr:=b8 hl (by simp)
    obtain ⟨b,e,hs,hsh,hok,hcc,hz⟩:=hrow
    cases hr with
    | mptr _ _ _ _ _ b' o' k' hs'=>
     rw [hs] at hs'
     simp only [Option.some.injEq,Prod.mk.injEq] at hs'
     obtain ⟨rfl,rfl,rfl⟩:=hs'
     refine ⟨(b,0,1),.mptr _ _ _ _ _ b 0 1 (aP ..),?_⟩
     refine H2.put (bO hg) (fun _ h=>h) (aD.refl I w) H2.inW d slot _ ?_ ?_
     ·refine ⟨b,e,aP ..,hsh,hok,fun j q hq=> ?_,hz.1,hbase _ hz.2.1,hz.2.2⟩
      obtain ⟨u,h1,h2,h3⟩:=hcc j q hq
      refine ⟨u,h1,h2,?_⟩
      simp only [AV.cells,List.getElem?_map,Option.map_eq_some_iff] at hq
      obtain ⟨q',_,rfl⟩:=hq
      cases h3 with
      | pv _ _ h3=>exact .pv _ _ h3
     ·intro d2 s2 b2 _ hb2
      refine ⟨rfl,(aM (H2.rows d2 s2) hb2).2.1,fun hq=> ?_⟩
      refine hap d2 s2 s' b2 hb2 ?_
      rw [hlr]
      simp only [ai,aP,Option.map_some,Option.some.injEq] at hq
      simp [ai,hs,hq]
   ·cases he
  ·cases he
 ·cases he
structure et (σ:ak) (I:af) (base:af) (w:World) (g:Nat) (v:AV) (h':aa) (g':Nat) (u:Value) (w':World) (σ':ak) (I':af):Prop where
 rep:ab σ' I' w' v u
 heap:ae σ' I' base w' h'
 ext:ar base σ I w σ' I' w'
 low: ∀k,k<g→σ' k=σ k
 high: ∀k,g'≤k→σ' k=none
 grow:g≤g'
theorem lB {P:Program} {fn:Func} {tmps:Array Value} {R:Ending→World→Prop} {lo:Nat} (I:af) (w0:World): ∀(ds:List Deferred) (w:World),(∀x∈ds,∃D,lo≤D∧x= { target:= .collected D,args:= #[]} ∧w.heap[D]? =some (Obj.deferred (some [])))→ds.Nodup→
  (∀w':World,(∀b:Nat,(∀x:Obj,w.heap[b]? =some x→x≠Obj.deferred (some []))→w'.heap[b]? =w.heap[b]?)→(∀b:Nat,b<lo→w'.heap[b]? =w.heap[b]?)→w'.heap.size=w.heap.size→w'.os=w.os∧w'.tape=w.tape∧w'.output=w.output→
   ∃v,(results fn tmps).run P w'= .ok v w'∧R (.returned v) w')→LeavesInM (WF none) 0 P fn tmps R ds .returning w
 | [],w,_,_,h=>h w (fun _ _=>rfl) (fun _ _=>rfl) rfl ⟨rfl,rfl,rfl⟩
 | d::ds,w,hm,hnd,h=>by
  obtain ⟨D,hD,rfl,hh⟩:=hm d (by simp)
  have hlt:=bN hh
  have hoth: ∀b,b≠D→(w.putObj D (.deferred none)).heap[b]? =w.heap[b]? :=fun b hb=>World.putObj_heap_other hb
  refine ⟨by simp,.inl ⟨D,_,rfl,run_takeDeferred hh,?_⟩⟩
  refine lB (lo:=lo) I w0 ds _ (fun x hx=> ?_) (List.nodup_cons.1 hnd).2 fun w' h1 h2 h3 h4=>h w' (fun b hb=> ?_) (fun b hb=> ?_) ?_ h4
  ·obtain ⟨D',d1,rfl,d3⟩:=hm x (by simp [hx])
   have hne:D'≠D:=fun e=>by subst e;exact (List.nodup_cons.1 hnd).1 hx
   exact ⟨D',d1,rfl,by rw [hoth D' hne];exact d3⟩
  ·have hne:b≠D:=fun e=>by subst e;exact hb _ hh rfl
   rw [h1 b (fun x hx=>by rw [hoth b hne] at hx;exact hb x hx),hoth b hne]
  ·rw [h2 b hb,hoth b (by omega)]
  ·rw [h3];simp [World.putObj]
theorem oJ (n:Nat) (l:List AV) (i:Nat):a7 (eP n l) i=a7 l i:=by
 unfold a7 eP
 by_cases hi:i<l.length
 ·simp [List.getD_eq_getElem?_getD,List.getElem?_append_left hi]
 ·have h0:l[i]? =none:=List.getElem?_eq_none (by omega)
  simp only [List.getD_eq_getElem?_getD,h0,Option.getD_none,List.getElem?_append_right (by omega:l.length≤i),List.getElem?_replicate]
  split<;>rfl
theorem oK (n d:Nat) (h:aa) (d' s:Nat):ac (eQ n d h) d' s=ac h d' s:=by
 unfold ac eQ
 rw [cw]
 by_cases hd:d=d'
 ·subst hd
  simp only [if_true]
  by_cases hi:s<(h.getD d []).length
  ·simp only [List.getD_eq_getElem?_getD (l:=_++_),List.getElem?_append_left hi]
   simp only [List.getD_eq_getElem?_getD]
  ·have h0:(h.getD d [])[s]? =none:=List.getElem?_eq_none (by omega)
   rw [List.getD_eq_getElem?_getD (l:=_++_),List.getElem?_append_right (by omega),List.getElem?_replicate,List.getD_eq_getElem?_getD (l:=h.getD d []),h0]
   split<;>rfl
 ·simp [hd]
theorem iN (hcall:c9 E call) (hfz:ci E call) (hmix:E.P.follows .mixedOrders=true) (hent: ∀f,eN E f=true→ ∀args w,(callFunc f args).run E.P w= .ok (.enter f args) w) {f:FuncId} {fn:Func} (hf:E.P.funcs[f]? =some fn) (hwf:cv E fn=true) {fuel g g':Nat} {args:List AV} {v:AV} {h':aa} {us:List Value}
  (hb:dB E call ys fuel fn d args h g=some (v,h',g')) (hys:bA E ys σ I w) (H:ae σ I base w h) (hB:aG base w.heap.size) (hl:us.length=args.length)
  (hr: ∀(j:Nat) (p:AV) (u:Value),args[j]? =some p→us[j]? =some u→ab σ I w p u) (hfr: ∀k,g≤k→σ k=none):
  bl E.P f us.toArray w fun u w'=> ∃σ' I',et σ I base w g v h' g' u w' σ' I':=by
 unfold dB at hb
 simp only [Option.bind_eq_some_iff] at hb
 obtain ⟨c,hc,hb⟩:=hb
 simp only [cv,hc,Bool.and_eq_true,Bool.not_eq_true'] at hwf
 have hname:=hwf.1
 have hrun:(callFunc f us.toArray).run E.P w= .ok (.enter f us.toArray) w:=by
  simp only [beq_eq_false_iff_ne,ne_eq] at hname
  simp [callFunc,hf,hc,hname]
 refine .inr (.inl ⟨hrun,?_⟩)
 refine (callsIn_wide (n:=0)).1 (callsIn_of_wp_marks (F:=WF none) hf hc trivial ?_)
 have H0:be ⟨fn.ntmps,base,w.heap.size,none⟩ σ I w { t:=eP fn.ntmps args,h:=eQ fn.ntmps d h,g:=g} { tmps:=us.toArray++Array.replicate (fn.ntmps-us.toArray.size) undef,defers:=[]} :=by
  refine ⟨fun i=> ?_,H.sub fun d' s'=> .inl (oK _ _ _ _ _),hfr,hB,by simp;omega,fun x hx=>by simp at hx,List.nodup_nil,fun l hl=>(by cases hl),hB,Nat.le_refl _⟩
  rw [gA]
  simp only [oJ]
  simp only [a7]
  by_cases hi:i<args.length
  ·have h1:args.getD i a6=args[i]:=by simp [hi]
   have h2:(us.toArray++Array.replicate (fn.ntmps-us.toArray.size) undef)[i]? =some us[i]:=by
    rw [Array.getElem?_append_left (by simp;omega)]
    simp
   rw [h1,h2]
   exact hr i _ _ (by simp [hi]) (by simp)
  ·have h1:args.getD i a6=a6:=by simp [List.getElem?_eq_none (by omega:args.length≤i)]
   have h2:((us.toArray++Array.replicate (fn.ntmps-us.toArray.size) undef)[i]?).getD undef=undef:=by
    rw [Array.getElem?_append_right (by simp;omega),Array.getElem?_replicate]
    split<;>rfl
   rw [h1,h2]
   exact .pv _ _ (.lit _)
 have key: ∀(x:aZ) (s:St),aS E call ys d fuel c { t:=eP fn.ntmps args,h:=eQ fn.ntmps d h,g:=g} =some (x,s)→(x= .normal∨x= .ret)→(fR E.P fn s.h s.t).map (fun v=>(v,s.h,s.g))=some (v,h',g')→
   c.wpIn (WF none) 0 E.P (bodyPostM (WF none) 0 E.P fn fun | .returned u,w'=> ∃σ' I',et σ I base w g v h' g' u w' σ' I' | _,_=>False) { tmps:=us.toArray++Array.replicate (fn.ntmps-us.toArray.size) undef,defers:=[]} w:=by
  intro x s hs hx hres
  simp only [Option.map_eq_some_iff,Prod.mk.injEq] at hres
  obtain ⟨v',hres,rfl,rfl,rfl⟩:=hres
  refine cR hcall hfz hmix hent c ⟨fn.ntmps,base,w.heap.size,none⟩ hwf.2 _ x s hs σ I w _ _ H0 hys fun σ' I' w' a' hd=> ?_
  have hleave:LeavesInM (WF none) 0 E.P fn a'.tmps (fun | .returned u,w'=> ∃σ' I',et σ I base w g v' s.h s.g u w' σ' I' | _,_=>False) a'.defers .returning w':=by
   refine lB (lo:=w.heap.size) I w a'.defers w' hd.rel.marks hd.rel.nodup fun w2 h1 h2 h3 h4=> ?_
   have hsh: ∀b e n,w'.shape? b=some (e,n)→w2.heap[b]? =w'.heap[b]? :=fun b e n hb=>h1 b fun x hx e'=>by
    subst e'
    unfold World.shape? at hb
    rw [hx] at hb
    cases hb
   have hkI: ∀b,I' b→w2.heap[b]? =w'.heap[b]? :=fun b hb=>let ⟨o,h,hn⟩:=hd.rel.heap.inW b hb;h1 b fun x hx e'=>by rw [h] at hx;injection hx with hx;subst hx;exact hn e'
   have hrow: ∀d s' b,ai σ' (ac s.h d s')=some b→w2.heap[b]? =w'.heap[b]? :=by
    intro d s' b hb
    have hR:=hd.rel.heap.rows d s'
    generalize ac s.h d s'=r at hR hb
    obtain ⟨gr,bd⟩:=r
    cases bd with
    | dead=>simp [ai] at hb
    | box v0 fz=>
     obtain ⟨b',e,hs',hsh',_⟩:=hR
     cases fz with
     | true=>simp [ai] at hb
     | false=>simp [ai,hs'] at hb;subst hb;exact hsh _ _ _ hsh'
    | row k e xs fz=>
     obtain ⟨b',o,n,hs',hsh',_⟩:=hR
     cases fz with
     | true=>simp [ai] at hb
     | false=>simp [ai,hs'] at hb;subst hb;exact hsh _ _ _ hsh'
    | iter st pos=>
     obtain ⟨b',k,hs',hh,_⟩:=hR
     simp [ai,hs'] at hb
     subst hb
     exact h1 _ fun x hx e'=>by rw [hh] at hx;injection hx with hx;subst hx;cases e'
    | lp st=>
     obtain ⟨b',k,hs',⟨r,hh,_⟩,_⟩:=hR
     simp [ai,hs'] at hb
     subst hb
     exact h1 _ fun x hx e'=>by rw [hh] at hx;injection hx with hx;subst hx;cases e'
    | map clock es=>
     obtain ⟨b',k,hs',⟨r,hh,_⟩,_⟩:=hR
     simp [ai,hs'] at hb
     subst hb
     exact h1 _ fun x hx e'=>by rw [hh] at hx;injection hx with hx;subst hx;cases e'
    | mit m since seen last=>
     obtain ⟨b',k,hs',⟨r,hh,_⟩,_⟩:=hR
     simp [ai,hs'] at hb
     subst hb
     exact h1 _ fun x hx e'=>by rw [hh] at hx;injection hx with hx;subst hx;cases e'
   have hk0:cx I' w' w2:=⟨hkI,fun b e n hb=>by rw [d5 (hsh b e n hb)];exact hb⟩
   have hH2:ae σ' I' base w2 s.h:=hd.rel.heap.keep (fun _ _ h=>h) (fun _ h=>h) hk0 (fun b hb=>(hd.rel.heap.inW b hb).keep (hkI b hb)) fun d s' b hb=>⟨hrow d s' b hb,(aM (hd.rel.heap.rows d s') hb).2.1⟩
   have hS2:be ⟨fn.ntmps,base,w2.heap.size,none⟩ σ' I' w2 s { a' with defers:=[]} :=
    ⟨fun i=>(hd.rel.tmp i).mono (fun _ _ h=>h) (fun _ h=>h) hk0,hH2,hd.rel.fresh,hd.rel.hb.mono (Nat.le_of_eq h3.symm),hd.rel.hn,fun x hx=>by simp at hx,List.nodup_nil,fun l hl=>(by cases hl),hd.rel.hb.mono (Nat.le_of_eq h3.symm),
     Nat.le_refl _⟩
   obtain ⟨u,hu,hrep⟩:=oI hS2 hres
   refine ⟨u,hu,σ',I',hrep,hH2,⟨hd.ext.sig,hd.ext.blk,hd.ext.new,⟨fun b hb=> ?_,fun b e n hb=> ?_,fun b r hb=> ?_,fun b hb=> ?_⟩,⟨?_,?_,?_,?_,fun k hk=> ?_⟩⟩,hd.low,hd.rel.fresh,hd.grow⟩
   ·rw [hkI b (hd.ext.blk b hb)];exact hd.ext.kp.keep b hb
   ·exact hk0.shape b e n (hd.ext.kp.shape b e n hb)
   ·obtain ⟨r',hr1,hr2⟩:=hd.ext.kp.loop b r hb
    exact ⟨r',by rw [h1 b (fun x hx e'=>by rw [hr1] at hx;injection hx with hx;subst hx;cases e')];exact hr1,hr2⟩
   ·rw [h2 b (bN hb)];exact hd.ext.kp.dfr b hb
   ·rw [h4.1];exact hd.ext.below.os
   ·rw [h4.2.1];exact hd.ext.below.tape
   ·rw [h4.2.2];exact hd.ext.below.output
   ·rw [h3];exact hd.ext.below.size
   ·rw [h2 k (hB k hk)];exact hd.ext.below.block k hk
  rcases hx with rfl | rfl
  ·exact hleave
  ·exact hleave
 split at hb
 ·rename_i s hs;exact key _ s hs (.inl rfl) hb
 ·rename_i s hs;exact key _ s hs (.inr rfl) hb
 ·cases hb
def b4 (P:Program) (f:FuncId) (us:Array Value) (w:World) (I:af) (r:PV):Prop:=bl P f us w fun u w'=> ∃I':af,aj I' w' r u∧(∀b,I b→I' b)∧(∀b,I' b→I b∨w.heap.size≤b)∧
 Below w.heap.size w w'∧ ∀b,I' b→aO w' b
structure gE (P:Program) (gl:af→World→Prop) (asm:TypeId→Bool) (f:FuncId) (t2 t1:TypeId):Prop where
 miss: ∀(I:af) (w:World) (ty:TypeId) (x:Value) (t:Nat) (old:Value),asm ty=true→gl I w→w.cell? ⟨t,0,none⟩=some old→w.frozen? ⟨t,0,none⟩=false→
  bl P f #[.iface ty x,.iface t2 (.pointer (some ⟨t,0,none⟩))] w fun u w'=>u= .bool false∧Below w.heap.size w w'
 no: ∀(x:Value) (w:World),bl P f #[.nilIface,x] w fun u w'=>u= .bool false∧w'=w
 hit: ∀(I:af) (w:World) (e:Addr) (t:Nat) (old:Value),gl I w→w.cell? ⟨t,0,none⟩=some old→w.frozen? ⟨t,0,none⟩=false→
  bl P f #[.iface t1 (.pointer (some e)),.iface t2 (.pointer (some ⟨t,0,none⟩))] w fun u w'=>u= .bool true∧ ∃w1,Below w.heap.size w w1∧w'=w1.setCell ⟨t,0,none⟩ (.pointer (some e))
structure iO (P:Program) (f:FuncId) (T:TypeId):Prop where
 fresh: ∀(b:Nat) (w:World),w.cell? ⟨b,0,none⟩=some (.pointer none)→w.shape? b=some (T,2)→w.frozen? ⟨b,0,none⟩=false→
  bl P f #[.pointer (some ⟨b,0,none⟩)] w fun u w'=>u= .tuple #[]∧w'=w.setCell ⟨b,0,none⟩ (.pointer (some ⟨b,0,none⟩))
 used: ∀(b:Nat) (w:World),w.cell? ⟨b,0,none⟩=some (.pointer (some ⟨b,0,none⟩))→bl P f #[.pointer (some ⟨b,0,none⟩)] w fun u w'=>u= .tuple #[]∧w'=w
structure di (E:ao):Prop where
 ck: ∀(f:FuncId) (T:TypeId),E.ckf f=some T→iO E.P f T
 asw: ∀(f:FuncId) (t2 t1:TypeId),E.asf f t2=some t1→gE E.P E.gl E.asm f t2 t1
 mixed:E.P.follows .mixedOrders=true
 wf: ∀(f:FuncId) (fn:Func),E.ok f=true→E.P.funcs[f]? =some fn→cv E fn=true
 intr: ∀(f:FuncId) (F:List PV→Option PV),E.intr f=some F→ ∀(ps:List PV) (r:PV),F ps=some r→ ∀(I:af) (w:World) (us:List Value),Gl E I w→us.length=ps.length→
  (∀(j:Nat) (p:PV) (u:Value),ps[j]? =some p→us[j]? =some u→aj I w p u)→(∀b,I b→aO w b)→b4 E.P f us.toArray w I r
theorem iP (hE:di E) (f:FuncId) (he:eN E f=true) (args:Array Value) (w:World):(callFunc f args).run E.P w= .ok (.enter f args) w:=by
 unfold eN at he
 simp only [Bool.and_eq_true] at he
 obtain ⟨⟨h1,h2⟩,h3⟩:=he
 split at h3
 ·rename_i fn hfn
  have hwf:=hE.wf f fn h1 hfn
  simp only [cv,Bool.and_eq_true,Bool.not_eq_true',beq_eq_false_iff_ne,ne_eq] at hwf
  cases hb:fn.body with
  | none=>rw [hb] at h3;cases h3
  | some c=>simp [callFunc,hfn,hb,hwf.1]
 ·cases h3
theorem fp {I':af} {w':World} (H:ae σ I base w h) (hB:aG base w.heap.size) (hI: ∀b,I b→I' b) (hN: ∀b,I' b→I b∨w.heap.size≤b) (hw:Below w.heap.size w w') (hin: ∀b,I' b→aO w' b):
  ae σ I' base w' h∧ar base σ I w σ I' w':=by
 have hk:aD I w w':=⟨fun b hb=>hw.block b (H.lt b hb),fun b e n hs=>by rw [d5 (hw.block b (eU hs))];exact hs,
  fun b r hr=>⟨r,by rw [hw.block b (bN hr)];exact hr,bt.refl r⟩,fun b hb=>by rw [hw.block b (bN hb)];exact hb⟩
 refine ⟨H.keep (fun _ _ h=>h) hI hk hin fun d s b hb=> ?_,⟨fun _ _ h=>h,hI,fun b hb=>(hN b hb).imp id (fun h1 h2=>Nat.lt_irrefl _ (Nat.lt_of_lt_of_le (hB b h2) h1)),hk,bu.of_below hw hB⟩⟩
 obtain ⟨h1,h2,h3⟩:=aM (H.rows d s) hb
 exact ⟨hw.block b h1,fun hb'=>(hN b hb').elim h2 (by omega)⟩
theorem lC {ps:List PV} {us:List Value} {σ:ak} (hr: ∀(j:Nat) (p:PV) (u:Value),ps[j]? =some p→us[j]? =some u→aj I w p u):
  ∀(j:Nat) (p:AV) (u:Value),(ps.map AV.pv)[j]? =some p→us[j]? =some u→ab σ I w p u:=by
 intro j p u hp hu
 simp only [List.getElem?_map,Option.map_eq_some_iff] at hp
 obtain ⟨q,hq,rfl⟩:=hp
 exact .pv _ _ (hr j q u hq hu)
theorem oL (H:ae σ I base w h):ae (fun _=>none) I (ce w) w [[]] where
 inW:=H.inW
 rows d s:=by rw [gD];trivial
 apart d s d' s' b h1:=by rw [gD] at h1;simp [ai,aC] at h1
theorem et.pure {σ':ak} {I':af} {w':World} {g g':Nat} {v:AV} {hc h2:aa} {u:Value} {p:PV} {k:Nat} (hp:et (fun _=>none) I (ce w) w g v hc g' u w' σ' I') (hf:frz k v hc=some (p,h2)):
  ∃I'',aj I'' w' p u∧(∀b,I b→I'' b)∧(∀b,I'' b→I b∨w.heap.size≤b)∧Below w.heap.size w w'∧ ∀b,I'' b→aO w' b:=by
 obtain ⟨I2,hpr,H2,m⟩:=d8 k v hc p h2 u I' hf hp.rep hp.heap
 refine ⟨I2,hpr,fun b hb=>m.1 b (hp.ext.blk b hb),fun b hb=> ?_,hp.ext.below.below,H2.inW⟩
 rcases m.2 b hb with h | h
 ·exact (hp.ext.new b h).imp id Nat.le_of_not_lt
 ·exact .inr (Nat.le_of_not_lt h)
theorem iQ (E:ao): ∀n,ci E (bc E n)
 | 0=>fun f args _ _ _ _=>⟨fun _=>none,fun ys d slot gen h g=>by cases bn an args h<;>rfl⟩
 | n+1=>fun f args hown hinl hrd hm=>by
  have has: ∀h,eT E f args h=none:=fun h=>by
   unfold eT
   split
   ·unfold fW
    split
    ·simp [bT,an] at hm
    ·rfl
   ·unfold fV
    split
    ·simp [bT,an] at hm
    ·rfl
  cases hi:E.intr f with
  | some F=>
   refine ⟨F,fun ys d slot gen h g=> ?_⟩
   simp only [bc,hi]
  | none=>
   cases hf:E.P.funcs[f]? with
   | none=>exact ⟨fun _=>none,fun ys d slot gen h g=>by simp only [bc,hi,hf];cases bn an args h<;>rfl⟩
   | some fn=>
    by_cases hok:E.ok f=false
    ·exact ⟨fun _=>none,fun ys d slot gen h g=>by simp only [bc,hi,hf,hok,if_true,has];cases bn an args h<;>rfl⟩
    ·refine ⟨fun ps=>(dB E (bc E n) [] n fn 0 (ps.map .pv) [[]] 0).bind fun (v,hc,_)=>(frz an v hc).map fun (p,_)=>p,fun ys d slot gen h g=> ?_⟩
     simp only [bc,hi,hf,hok,hinl,hown,hm,hrd,Bool.and_false,g8]
     cases bn an args h with
     | none=>rfl
     | some q=>
      obtain ⟨ps,h1⟩:=q
      simp only [Option.bind_some,Bool.or_self,Bool.false_eq_true,if_false]
      cases dB E (bc E n) [] n fn 0 (ps.map .pv) [[]] 0 with
      | none=>rfl
      | some q=>
       obtain ⟨v,hc,g2⟩:=q
       simp only [Option.bind_some]
       cases frz an v hc with
       | none=>rfl
       | some q=>rfl
theorem oM {t:TypeId} {v:AV} {u:Value} (hr:ab σ I w (.ifc t v) u): ∃u0,u= .iface t u0∧ab σ I w v u0:=by
 cases hr with
 | ifc _ _ u h=>exact ⟨u,rfl,h⟩
theorem lD {t:TypeId} {p:PV} {u:Value} (hr:aj I w (.iface t p) u): ∃u0,u= .iface t u0∧aj I w p u0:=by
 cases hr with
 | iface _ _ u h=>exact ⟨u,rfl,h⟩
theorem lE {f:FuncId} {t2 t1 ty:TypeId} {d s g0 b o k gen g:Nat} {old p:PV} {ue:Value} (hA:gE E.P E.gl E.asm f t2 t1) (hm:(E.asm ty&& !old.isAgg)=true) (hG:Gl E I w) (H:ae σ I base w h) (hB:aG base w.heap.size) (hfr: ∀k,g≤k→σ k=none)
  (hs:σ g0=some (b,o,k)) (hl:Abs.live h d s g0= .box (.pv old) false) (he:ab σ I w (.pv (.iface ty p)) ue):
  bl E.P f #[ue,.iface t2 (.pointer (some ⟨b,o,none⟩))] w fun u w'=> ∃σ' I',ek σ I base w gen g (ba (.bool false)) h g u w' σ' I':=by
 obtain ⟨x,rfl,_⟩:=lD (aw he)
 have hcell:=H.live hl (by simp)
 obtain ⟨b',e,hs',hsh,hok,hc,hz⟩:=hcell
 rw [hs] at hs'
 simp only [Option.some.injEq,Prod.mk.injEq] at hs'
 obtain ⟨rfl,rfl,rfl⟩:=hs'
 have h0: ∃q,(AV.pv old).cells[0]? =some q:=by
  have hlen:0<(AV.pv old).cells.length:=by
   simp only [Bool.and_eq_true,Bool.not_eq_true'] at hm
   simp [AV.cells,ip hm.2]
  exact ⟨_,List.getElem?_eq_getElem hlen⟩
 obtain ⟨q,hq⟩:=h0
 obtain ⟨u,hu,_,_⟩:=hc 0 q hq
 have hlen0:0<(AV.pv old).cells.length:=(List.getElem?_eq_some_iff.1 hq).1
 refine (hA.miss I w ty x b u (by simp only [Bool.and_eq_true] at hm;exact hm.1) hG hu (hz.2.2 0 hlen0)).mono ?_
 rintro u w' ⟨rfl,hw⟩
 obtain ⟨H1,hx⟩:=fp (I':=I) H hB (fun _ h=>h) (fun _ h=> .inl h) hw (fun b hb=>(H.inW b hb).keep (hw.block b (H.lt b hb)))
 exact ⟨σ,I,.pv _ _ (.lit _),H1,hx,fun _ _ _=>rfl,hfr,Nat.le_refl _⟩
theorem oN (hE:di E) {f:FuncId} {args:List AV} {gen g:Nat} {v:AV} {h':aa} {us:List Value} (ha:fV E f args h=some (v,h')) (hG:Gl E I w) (H:ae σ I base w h) (hB:aG base w.heap.size)
  (hl:us.length=args.length) (hr: ∀(j:Nat) (p:AV) (u:Value),args[j]? =some p→us[j]? =some u→ab σ I w p u) (hg:σ gen=none) (hlt:gen<g) (hfr: ∀k,g≤k→σ k=none):
  bl E.P f us.toArray w fun u w'=> ∃σ' I',ek σ I base w gen g v h' g u w' σ' I':=by
 unfold fV at ha
 split at ha
 rotate_left
 ·cases ha
 rename_i e t2 d s g0
 simp only [Option.bind_eq_some_iff] at ha
 obtain ⟨t1,ht1,ha⟩:=ha
 have hA:=hE.asw f t2 t1 ht1
 match us,hl with
 | [ue,ut],_=>
  have he:=hr 0 _ ue rfl rfl
  have ht:=hr 1 _ ut rfl rfl
  obtain ⟨ut,rfl,ht2⟩:=oM ht
  obtain ⟨b,o,k,hs,rfl⟩:=bW ht2
  simp only [Nat.zero_mul,Nat.add_zero] at*
  split at ha
  ·rename_i old t r o1 hlive hlx
   split at ha
   rotate_left
   ·split at ha
    rotate_left
    ·cases ha
    rename_i hm
    simp only [Option.some.injEq,Prod.mk.injEq] at ha
    obtain ⟨rfl,rfl⟩:=ha
    exact lE hA hm hG H hB hfr hs hlive he
   rename_i hc
   obtain ⟨rfl,hok,hag⟩:=hc
   simp only [Option.some.injEq,Prod.mk.injEq] at ha
   obtain ⟨rfl,rfl⟩:=ha
   have hpe:=aw he
   obtain ⟨ue,rfl,hpe2⟩:=lD hpe
   obtain ⟨b1,ob1,vs,rfl,hI1,_⟩:=gk hpe2
   have hcs:old.cells=[old]:=ip hag
   obtain ⟨b0,k0,e0,u0',hs0,hsh,hok',hru,hz,hf,h1c,hsz,hcell⟩:=cM (H.live hlive (by simp))
   rw [hs] at hs0
   simp only [Option.some.injEq,Prod.mk.injEq] at hs0
   obtain ⟨rfl,rfl,rfl⟩:=hs0
   subst hf
   have hlen1:(AV.pv old).cells.length=1:=by simp [AV.cells,hcs]
   rw [hlen1] at hsz hz
   have hu0: ∃x,u0'.cells[0]? =some x:=⟨u0'.cells[0],Array.getElem?_eq_getElem (by omega)⟩
   obtain ⟨x0,hx0⟩:=hu0
   refine (hA.hit I w ⟨b1,ob1+o1,none⟩ b x0 hG (hcell 0 x0 hx0) (hz.2.2 0 (by omega))).mono ?_
   rintro u w' ⟨rfl,w1,hw,rfl⟩
   obtain ⟨H1,hx⟩:=fp (I':=I) H hB (fun _ h=>h) (fun _ h=> .inl h) hw (fun b hb=>(H.inW b hb).keep (hw.block b (H.lt b hb)))
   have hput:=iq (off:=0) (new:=[.pv (.ptr r o1)]) (vs:=[.pointer (some ⟨b1,ob1+o1,none⟩)]) (v':= .pv (.ptr r o1)) H1 hlive hs rfl (by simp [Value.oneCell'])
    (fun j p u hp hu=>by
     match j with
     | 0=>simp at hp hu;subst hp;subst hu;exact hx.rep (.pv _ _ hpe2)
     | j+1=>simp at hp) (by simp) (by simp [cF,AV.cells,AV.isAgg,AV.isTag,hcs,hag])
   exact ⟨σ,I,.pv _ _ (.lit _),hput.1,hx.trans hput.2.1,fun _ _ _=>rfl,hfr,Nat.le_refl _⟩
  ·rename_i old t p hlive _
   split at ha
   rotate_left
   ·cases ha
   rename_i hm
   simp only [Option.some.injEq,Prod.mk.injEq] at ha
   obtain ⟨rfl,rfl⟩:=ha
   exact lE hA hm hG H hB hfr hs hlive he
  ·rename_i he0
   simp only [Option.some.injEq,Prod.mk.injEq] at ha
   obtain ⟨rfl,rfl⟩:=ha
   have hpe:=aw he
   cases hpe
   refine (hA.no _ w).mono ?_
   rintro u w' ⟨rfl,rfl⟩
   exact ⟨σ,I,.pv _ _ (.lit _),H,ar.refl _ _ _ _,fun _ _ _=>rfl,hfr,Nat.le_refl _⟩
  ·cases ha
theorem oO (hE:di E) {f:FuncId} {args:List AV} {gen g:Nat} {v:AV} {h':aa} {us:List Value} (ha:fW E f args h=some (v,h')) (H:ae σ I base w h)
  (hl:us.length=args.length) (hr: ∀(j:Nat) (p:AV) (u:Value),args[j]? =some p→us[j]? =some u→ab σ I w p u) (hfr: ∀k,g≤k→σ k=none):
  bl E.P f us.toArray w fun u w'=> ∃σ' I',ek σ I base w gen g v h' g u w' σ' I':=by
 unfold fW at ha
 split at ha
 rotate_left
 ·cases ha
 rename_i d s g0
 simp only [Option.bind_eq_some_iff] at ha
 obtain ⟨T,hT,ha⟩:=ha
 have hC:=hE.ck f T hT
 match us,hl with
 | [up],_=>
  have hp:=hr 0 _ up rfl rfl
  obtain ⟨b,o,k,hs,rfl⟩:=bW hp
  split at ha
  ·rename_i c l hlive
   obtain ⟨b0,k0,e0,u0,hs0,hsh,hok0,hru,hz,hf,h1c,hsz,hcell⟩:=cM (H.live hlive (by simp))
   rw [hs] at hs0
   simp only [Option.some.injEq,Prod.mk.injEq] at hs0
   obtain ⟨rfl,rfl,rfl⟩:=hs0
   subst hf
   have hlt:0<u0.cells.size:=by rw [hsz];simp [AV.cells]
   have hx0: ∃x,u0.cells[0]? =some x:=⟨u0.cells[0],Array.getElem?_eq_getElem hlt⟩
   obtain ⟨x0,hx0⟩:=hx0
   have hc0:=(hru.cells hok0).2.2 0 c x0 rfl hx0
   have hcl:=hcell 0 x0 hx0
   simp only [Nat.zero_mul,Nat.add_zero,Nat.zero_add] at*
   split at ha
   ·rename_i t
    split at ha
    rotate_left
    ·cases ha
    rename_i ht
    obtain ⟨rfl,hl1⟩:=ht
    simp only [Option.some.injEq,Prod.mk.injEq] at ha
    obtain ⟨rfl,rfl⟩:=ha
    have hbt:=mf (io (H.live hlive (by simp)) hs hsh) rfl
    subst hbt
    have hx:x0= .pointer none:=by cases hc0;rfl
    subst hx
    have hsz2:(AV.agg (.btag t::l)).cells.length=2:=by simp [AV.cells,hl1]
    rw [hsz2] at hsh
    refine (hC.fresh b w hcl hsh (hz.2.2 0 (by rw [hsz2];omega))).mono ?_
    rintro u w' ⟨rfl,rfl⟩
    have hput:=iq (off:=0) (new:=[.mptr d s g0 0 0]) (vs:=[.pointer (some ⟨b,0,none⟩)]) (v':= .agg (.mptr d s g0 0 0::l)) H hlive hs rfl (by simp [Value.oneCell'])
     (fun j p u hp' hu=>by
      match j with
      | 0=>
       simp at hp' hu
       subst hp';subst hu
       have:=ab.mptr (I:=I) (w:=w) d s g0 0 0 b 0 1 hs
       simpa using this
      | j+1=>simp at hp') (by simp) (by simp [cF,AV.cells,AV.isAgg,AV.isTag,bq,bY,aF])
    exact ⟨σ,I,.pv _ _ (.tup [] [] rfl fun j p v hp=>by simp at hp),hput.1,hput.2.1,fun _ _ _=>rfl,hfr,Nat.le_refl _⟩
   ·rename_i d' s' g'
    split at ha
    rotate_left
    ·cases ha
    rename_i heq
    obtain ⟨rfl,rfl,rfl⟩:=heq
    simp only [Option.some.injEq,Prod.mk.injEq] at ha
    obtain ⟨rfl,rfl⟩:=ha
    obtain ⟨b1,o1,k1,hs1,hx⟩:=bW hc0
    rw [hs] at hs1
    simp only [Option.some.injEq,Prod.mk.injEq] at hs1
    obtain ⟨rfl,rfl,rfl⟩:=hs1
    simp only [Nat.zero_mul,Nat.add_zero] at hx
    subst hx
    refine (hC.used b w hcl).mono ?_
    rintro u w' ⟨rfl,rfl⟩
    exact ⟨σ,I,.pv _ _ (.tup [] [] rfl fun j p v hp=>by simp at hp),H,ar.refl _ _ _ _,fun _ _ _=>rfl,hfr,Nat.le_refl _⟩
   ·cases ha
  ·cases ha
theorem oP (hE:di E) {f:FuncId} {args:List AV} {gen g:Nat} {v:AV} {h':aa} {us:List Value} (ha:eT E f args h=some (v,h')) (hG:Gl E I w) (H:ae σ I base w h) (hB:aG base w.heap.size)
  (hl:us.length=args.length) (hr: ∀(j:Nat) (p:AV) (u:Value),args[j]? =some p→us[j]? =some u→ab σ I w p u) (hg:σ gen=none) (hlt:gen<g) (hfr: ∀k,g≤k→σ k=none):
  bl E.P f us.toArray w fun u w'=> ∃σ' I',ek σ I base w gen g v h' g u w' σ' I':=by
 unfold eT at ha
 split at ha
 ·exact oO hE ha H hl hr hfr
 ·exact oN hE ha hG H hB hl hr hg hlt hfr
theorem oQ (hE:di E): ∀n,c9 E (bc E n):=by
 intro n
 induction n with
 | zero=>intro ys σ I base w h f args d slot gen g v h' g' us he;simp [bc] at he
 | succ n ih=>
  intro ys σ I base w h f args d slot gen g v h' g' us he hys H hB hl hr hg hlt hfr
  have pure: ∀(ps:List PV) (h1:aa) (p:PV),bn an args h=some (ps,h1)→(∀(I1:af),Gl E I1 w→ae σ I1 base w h1→us.length=ps.length→
    (∀(j:Nat) (p:PV) (u:Value),ps[j]? =some p→us[j]? =some u→aj I1 w p u)→b4 E.P f us.toArray w I1 p)→v= .pv p→h'=h1→g'=g→
    bl E.P f us.toArray w fun u w'=> ∃σ' I',ek σ I base w gen g v h' g' u w' σ' I':=by
   rintro ps h1 p hfz hdo rfl rfl rfl
   obtain ⟨I1,hlen,hpr,H1,m⟩:=gc an args h ps h' us I hfz hl hr H
   refine (hdo I1 (hys.2.mono m.1 fun _ _=>rfl) H1 (by omega) hpr).mono ?_
   rintro u w' ⟨I',hp,hI,hN,hw,hin⟩
   obtain ⟨H2,hx⟩:=fp H1 hB hI hN hw hin
   exact ⟨σ,I',.pv _ _ hp,H2,m.ext.trans hx,fun _ _ _=>rfl,hfr,Nat.le_refl _⟩
  simp only [bc] at he
  split at he
  ·rename_i F hF
   simp only [Option.bind_eq_some_iff,Option.map_eq_some_iff,Prod.mk.injEq] at he
   obtain ⟨⟨ps,h1⟩,hfz,r,hFr,rfl,rfl,rfl⟩:=he
   exact pure ps _ r hfz (fun I1 hG1 H1 hl1 hpr=>hE.intr f F hF ps r hFr I1 w us hG1 hl1 hpr H1.inW) rfl rfl rfl
  ·split at he
   ·cases he
   ·rename_i hF _ fn hfn
    split at he
    ·simp only [Option.map_eq_some_iff,Prod.mk.injEq] at he
     obtain ⟨⟨v1,h1⟩,has,rfl,rfl,rfl⟩:=he
     exact oP hE has hys.2 H hB hl hr hg hlt hfr
    ·rename_i hok
     have hwf:=hE.wf f fn (by simpa using hok) hfn
     split at he
     ·split at he
      ·
       simp only [Option.bind_eq_some_iff] at he
       obtain ⟨⟨ks,cargs,rows⟩,hin,he⟩:=he
       simp only [] at he
       split at he
       rotate_left
       ·cases he
       rename_i hgen
       simp only [Option.bind_eq_some_iff,Option.map_eq_some_iff,Prod.mk.injEq] at he
       obtain ⟨⟨vc,rs⟩,hcan,⟨v1,h1⟩,hbk,rfl,rfl,rfl⟩:=he
       unfold jD at hcan
       simp only [Option.bind_eq_some_iff] at hcan
       obtain ⟨⟨vb,hb1,gb1⟩,hbody,hout⟩:=hcan
       obtain ⟨Hc,hBc,hlc,hrc,hrl,hnd⟩:=oC H hB hin hgen hl hr
       refine (iN ih (iQ E n) hE.mixed (iP hE) hfn hwf hbody (bA.nil hys.2) Hc.append hBc hlc hrc (fun k hk=>by simp [bh,List.getElem?_eq_none (show ks.length≤k by omega)])).mono ?_
       rintro u w' ⟨σ',I',hp⟩
       obtain ⟨I2,τ,ex,hτ,Hc2,hr2,m2,hm1,hm2,hm3,hov,hor⟩:=oE hp.heap hp.rep hout
       rw [hrl] at hm1 hm2 hm3 hov hor
       obtain ⟨σ1,s1,s2,H3,hr3⟩:=oF (I':=I2) H hg hnd (fun i hi=>(hτ i (by omega)).trans (hp.low i (by omega))) (fun b hb=>m2.1 b (hp.ext.blk b hb)) (fun b hb=>(m2.2 b hb).elim (fun h=>hp.ext.new b h) .inr) hp.ext.kp.zero hp.ext.below Hc2 hr2 hm1 hm2 hm3 hov hor hbk
       refine ⟨σ1,I2,hr3,H3,⟨s1,fun b hb=>m2.1 b (hp.ext.blk b hb),fun b hb=> ?_,hp.ext.kp,⟨hp.ext.below.os,hp.ext.below.tape,hp.ext.below.output,hp.ext.below.size,fun k hk=>hp.ext.below.block k (.inl hk)⟩⟩,fun k _ hne=>s2 k hne,fun k hk=>by rw [s2 k (by omega)];exact hfr k hk,Nat.le_refl _⟩
       rcases m2.2 b hb with h2 | h2
       ·exact (hp.ext.new b h2).imp id fun h3 h4=>h3 (.inl h4)
       ·exact .inr fun h4=>h2 (.inl h4)
      simp only [Option.bind_eq_some_iff] at he
      obtain ⟨⟨v0,h1,g1⟩,hbody,he⟩:=he
      simp only [] at he
      refine (iN ih (iQ E n) hE.mixed (iP hE) hfn hwf hbody hys H.append hB hl hr hfr).mono ?_
      rintro u w' ⟨σ',I',hp⟩
      have hgen:σ' gen=none:=by rw [hp.low gen hlt];exact hg
      split at he
      ·simp only [Option.some.injEq,Prod.mk.injEq] at he
       obtain ⟨rfl,rfl,rfl⟩:=he
       exact ⟨σ',I',hp.rep,hp.heap.take _,hp.ext,fun k hk _=>hp.low k hk,hp.high,hp.grow⟩
      ·split at he
       ·rename_i v' h2 had
        simp only [Option.some.injEq,Prod.mk.injEq] at he
        obtain ⟨rfl,rfl,rfl⟩:=he
        obtain ⟨x,hrep,H3⟩:=lA (hp.heap.take h.length) hp.heap (fun _ h=>h) hp.rep had hgen fun d s s' b hb1 hb2=>by
         rw [lz] at hb1
         split at hb1
         ·rename_i hd
          have:=hp.heap.apart _ _ _ _ b hb1 hb2
          omega
         ·simp [ai,aC] at hb1
        refine ⟨_,I',hrep,H3,⟨fun k y hk=>bO hgen _ _ (hp.ext.sig k y hk),hp.ext.blk,hp.ext.new,hp.ext.kp,hp.ext.below⟩,fun k hk hne=> ?_,fun k hk=> ?_,hp.grow⟩
        ·rw [aN,if_neg (by omega)];exact hp.low k hk
        ·have:=hp.grow
         rw [aN,if_neg (by omega)];exact hp.high k hk
       ·split at he
        ·simp only [Option.some.injEq,Prod.mk.injEq] at he
         obtain ⟨rfl,rfl,rfl⟩:=he
         obtain ⟨hrm,hhm⟩:=kB (eI h1 h.length gQ (cI h.length an v0) []) hp.rep hp.heap
         exact ⟨σ',I',hrm,hhm.take _,hp.ext,fun k hk _=>hp.low k hk,hp.high,hp.grow⟩
        split at he
        ·simp only [Option.some.injEq,Prod.mk.injEq] at he
         obtain ⟨rfl,rfl,rfl⟩:=he
         exact ⟨σ',I',hp.rep,hp.heap,hp.ext,fun k hk _=>hp.low k hk,hp.high,hp.grow⟩
        ·simp only [Option.map_eq_some_iff,Prod.mk.injEq] at he
         obtain ⟨⟨p,h2⟩,hfz,rfl,rfl,rfl⟩:=he
         obtain ⟨I2,hpr,H2,m⟩:=d8 an v0 h1 p h2 u I' hfz hp.rep hp.heap
         exact ⟨σ',I2,.pv _ _ hpr,H2.take _,hp.ext.trans m.ext,fun k hk _=>hp.low k hk,hp.high,hp.grow⟩
     ·simp only [Option.bind_eq_some_iff] at he
      obtain ⟨⟨ps,h1⟩,hfz,⟨v0,hc,g0⟩,hbody,he⟩:=he
      simp only [] at hbody he
      have run: ∀(I1:af),Gl E I1 w→ae σ I1 base w h1→us.length=ps.length→(∀(j:Nat) (p:PV) (u:Value),ps[j]? =some p→us[j]? =some u→aj I1 w p u)→
        bl E.P f us.toArray w fun u w'=> ∃σ' I',et (fun _=>none) I1 (ce w) w 0 v0 hc g0 u w' σ' I':=fun I1 hG1 H1 hl1 hpr=>
       iN ih (iQ E n) hE.mixed (iP hE) hfn hwf hbody (bA.nil hG1) (oL H1) (ce.bnd w) (by simpa using hl1) (lC hpr) fun _ _=>rfl
      have dopure: ∀(p:PV) (k:Nat) (h2:aa),frz k v0 hc=some (p,h2)→ ∀(I1:af),Gl E I1 w→ae σ I1 base w h1→us.length=ps.length→
        (∀(j:Nat) (p:PV) (u:Value),ps[j]? =some p→us[j]? =some u→aj I1 w p u)→b4 E.P f us.toArray w I1 p:=fun p k h2 hf I1 hG1 H1 hl1 hpr=>
       (run I1 hG1 H1 hl1 hpr).mono fun u w' ⟨σ',I',hp⟩=>hp.pure hf
      split at he
      ·split at he
       ·rename_i p
        simp only [Option.some.injEq,Prod.mk.injEq] at he
        obtain ⟨rfl,rfl,rfl⟩:=he
        exact pure ps _ p hfz (dopure p 1 hc (by simp [frz,pk,marks])) rfl rfl rfl
       ·simp only [Option.map_eq_some_iff,Prod.mk.injEq] at he
        obtain ⟨⟨v',h2⟩,had,rfl,rfl,rfl⟩:=he
        obtain ⟨I1,hlen,hpr,H1,m⟩:=gc an args h ps h1 us I hfz hl hr H
        refine (run I1 (hys.2.mono m.1 fun _ _=>rfl) H1 (by omega) hpr).mono ?_
        rintro u w' ⟨σ',I',hp⟩
        obtain ⟨H2,hx⟩:=fp (I':=I') (w':=w') H1 hB hp.ext.blk (fun b hb=>(hp.ext.new b hb).imp id Nat.le_of_not_lt) hp.ext.below.below hp.heap.inW
        obtain ⟨x,hrep,H3⟩:=lA H2 hp.heap (fun b h1 h2=>h1 (hB b h2)) hp.rep had hg fun d s s' b hb1 hb2=>by
         have h1':=(H1.rows d s)
         have h3:b<w.heap.size:=by
          have:=aM h1' (b:=b) (by exact hb1)
          exact this.1
         exact (aM (hp.heap.rows 0 s') hb2).2.2 h3
        refine ⟨_,I',hrep,H3,m.ext.trans ⟨fun k y hk=>bO hg _ _ hk,hx.blk,hx.new,hx.kp,hx.below⟩,fun k hk hne=> ?_,fun k hk=> ?_,Nat.le_refl _⟩
        ·rw [aN,if_neg (by omega)]
        ·rw [aN,if_neg (by omega)];exact hfr k hk
      ·simp only [Option.bind_eq_some_iff] at he
       obtain ⟨⟨p,h2⟩,hf,he⟩:=he
       unfold g8 at he
       split at he
       ·
        split at he
        ·rename_i x hx0
         have hx0:p= .lit x:=hx0
         subst hx0
         simp only [Option.some.injEq,Prod.mk.injEq] at he
         obtain ⟨rfl,rfl,rfl⟩:=he
         obtain ⟨I1,hlen,hpr,H1,m⟩:=gc an args h ps h1 us I hfz hl hr H
         refine (dopure _ _ h2 hf I1 (hys.2.mono m.1 fun _ _=>rfl) H1 (by omega) hpr).mono ?_
         rintro u w' ⟨I',hp,hI,hN,hw,hin⟩
         obtain ⟨H2,hx⟩:=fp (I':=I) H hB (fun _ h=>h) (fun _ h=> .inl h) hw (fun b hb=>(H.inW b hb).keep (hw.block b (H.lt b hb)))
         have hu:ab σ I w' (.pv (.lit x)) u:=by
          have hp:aj I' w' (.lit x) u:=hp
          cases hp
          exact .pv _ _ (.lit _)
         exact ⟨σ,I,hu,H2,hx,fun _ _ _=>rfl,hfr,Nat.le_refl _⟩
        ·cases he
       ·simp only [Option.some.injEq,Prod.mk.injEq] at he
        obtain ⟨rfl,rfl,rfl⟩:=he
        exact pure ps _ p hfz (dopure p _ h2 hf) rfl rfl rfl
end
end Go.Proofs.YthkilaondjgemaaGreatDoor.Abs
namespace Go.Proofs.YthkilaondjgemaaGreatDoor.Abs
open Go
abbrev cm:=(Nat→Nat)→Ys
def dj (N:Nat) (a:Nat→Nat):Prop:= ∀i,N≤a i
theorem dj.mono {N M:Nat} {a:Nat→Nat} (h:dj N a) (hm:M≤N):dj M a:=fun i=>Nat.le_trans hm (h i)
def oR (n:Nat) (a:Nat→Nat):Nat→Nat
 | 0=>n
 | i+1=>a i
theorem dj.cons {N n:Nat} {a:Nat→Nat} (hn:N≤n) (h:dj N a):dj N (oR n a):=fun i=>by
 cases i with
 | zero=>exact hn
 | succ i=>exact h i
section
variable {E:ao} {ys:cm} {d:Nat}
def oS (E:ao) (ys:cm) (d:Nat) (c:Code) (s:St) (x:aZ) (s':St):Prop:= ∃N,∀a,dj N a→ ∀n,N≤n→aS E (bc E n) (ys a) d n c s=some (x,s')
def Wp (E:ao) (ys:cm) (d:Nat) (c:Code) (Q:aZ→St→Prop) (s:St):Prop:= ∃x s',oS E ys d c s x s'∧Q x s'
variable {Q:aZ→St→Prop} {s:St}
def iR (E:ao) (ys:cm) (d:Nat) (c:Code) (Q:aZ→St→Prop) (s:St):Prop:= ∃x s',(∃N,∀a,dj N a→ ∀n,N≤n→ ∀k,N≤k→dy (aS E (bc E n) (ys a) d n c) k s=some (x,s'))∧Q x s'
variable {st:Bool} {gb:Nat} {all:Array Oper} {R:St→Prop}
end
inductive bX where
 | hole (n:Nat)
 | br (b:Bool) (k:bX)
 | fork (a b:bX)
 | lit (k:bX)
 | val (p:PV) (k:bX)
 | res (r:PV) (k:bX)
 | resB (e:Bool) (a b:bX)
 | resC (v:AV) (rs:List am) (k:bX)
 | resI (v:Nat→AV) (fr:Nat→List am) (dg:Nat) (k:bX)
 | resO (kk:Nat) (e:TypeId) (xs:List PV) (off m:Nat) (full:Bool) (k:bX)
 | frz (ps:List PV) (h:aa) (k:bX)
 | ev (k:bX)
 | go (k:bX)
 | mask (js hs:List Nat)
 deriving Inhabited
inductive oT where
 | seqK (c:Code)
 | blockK (id:Nat)
 | loopK (c:Code)
def bX.id:bX→Nat
 | .hole n=>n
 | _=>0
section
variable (E:ao) (ys:cm) (d:Nat)
inductive iS (E:ao) (ys:cm) (d:Nat) (c:Code) (Q:aZ→St→Prop) (s:St):Prop
 | mk (h:iR E ys d c Q s)
theorem iS.h {E:ao} {ys:cm} {d:Nat} {c:Code} {Q:aZ→St→Prop} {s:St} :iS E ys d c Q s→iR E ys d c Q s
 | ⟨h⟩=>h
def iT (js:List Nat) (j:Nat→AV) (t:List AV):List AV:=js.foldl (fun t i=>t.set i (j i)) t
def iU (d:Nat) (hs:List Nat) (jr:Nat→am) (h:aa):aa:=h.set d (hs.foldl (fun l i=>l.set i (jr i)) (h.getD d []))
theorem lF (t:List AV): ∀js,iT js (a7 t) t=t
 | []=>rfl
 | i::js=>by
  have:t.set i (a7 t i)=t:=by
   unfold a7
   by_cases hi:i<t.length
   ·simp [List.getD_eq_getElem?_getD,hi]
   ·exact List.set_eq_of_length_le (by omega)
  show iT js (a7 t) (t.set i (a7 t i))=t
  rw [this]
  exact lF t js
theorem oU (d:Nat) (h:aa) (hs:List Nat):iU d hs (fun i=>(h.getD d []).getD i aC) h=h:=by
 have key: ∀(l:List am) (hs:List Nat),hs.foldl (fun l' i=>l'.set i (l.getD i aC)) l=l:=by
  intro l hs
  induction hs with
  | nil=>rfl
  | cons i hs ih=>
   have:l.set i (l.getD i aC)=l:=by
    by_cases hi:i<l.length
    ·simp [List.getD_eq_getElem?_getD,hi]
    ·exact List.set_eq_of_length_le (by omega)
   rw [List.foldl_cons,this]
   exact ih
 unfold iU
 rw [key]
 by_cases hd:d<h.length
 ·simp [List.getD_eq_getElem?_getD,hd]
 ·exact List.set_eq_of_length_le (by omega)
def lG (E:ao) (ys:cm) (d:Nat) (js hs:List Nat) (c:Code) (Q:aZ→St→Prop) (s:St):Prop:= ∀(j:Nat→AV) (jr:Nat→am) (g:Nat),iS E ys d c Q { t:=iT js j s.t,h:=iU d hs jr s.h,g:=g}
theorem lG.h {E:ao} {ys:cm} {d:Nat} {js hs:List Nat} {c:Code} {Q:aZ→St→Prop} {s:St} (h:lG E ys d js hs c Q s):iR E ys d c Q s:=by
 have:=(h (a7 s.t) (fun i=>(s.h.getD d []).getD i aC) s.g).h
 rw [lF,oU] at this
 exact this
inductive lH (E:ao) (ys:cm) (d:Nat) (f:Operand) (ps:Array Tmp) (assign body:Code) (Q:aZ→St→Prop) (s:St):Prop
 | mk (h:Wp E ys d (.rangeFunc f ps assign body) Q s)
theorem lH.h {E:ao} {ys:cm} {d:Nat} {f:Operand} {ps:Array Tmp} {assign body:Code} {Q:aZ→St→Prop} {s:St} :lH E ys d f ps assign body Q s→Wp E ys d (.rangeFunc f ps assign body) Q s
 | ⟨h⟩=>h
variable {E ys d}
end
end Go.Proofs.YthkilaondjgemaaGreatDoor.Abs
namespace Go.Proofs.YthkilaondjgemaaGreatDoor.Abs
open Go Go.RowKit
def b5 (E:ao) (f:FuncId) (F:List PV→Option PV):Prop:= ∀(ps:List PV) (r:PV),F ps=some r→ ∀(I:af) (w:World) (us:List Value),Gl E I w→us.length=ps.length→
 (∀(j:Nat) (p:PV) (u:Value),ps[j]? =some p→us[j]? =some u→aj I w p u)→(∀b,I b→aO w b)→b4 E.P f us.toArray w I r
section
variable {E:ao} {I:af} {w:World} {P:Program}
theorem dl {f:FuncId} {us:Array Value} {r:PV} (hent: ∀args w,(callFunc f args).run P w= .ok (.enter f args) w) {u:Value} {Q:World→Prop} (hc:Calls P f us w fun e w'=>e= .returned u∧Q w')
  (hQ: ∀w',Q w'→ ∃I':af,aj I' w' r u∧(∀b,I b→I' b)∧(∀b,I' b→I b∨w.heap.size≤b)∧Below w.heap.size w w'∧ ∀b,I' b→aO w' b):b4 P f us w I r:=
 .inr (.inl ⟨hent _ _,hc.mono fun e w' ⟨he,hq⟩=>by subst he;exact hQ w' hq⟩)
theorem dm {w':World} {r:PV} {u:Value} (hB:Below w.heap.size w w') (hin: ∀b,I b→aO w b) (hr:aj I w' r u):
  ∃I':af,aj I' w' r u∧(∀b,I b→I' b)∧(∀b,I' b→I b∨w.heap.size≤b)∧Below w.heap.size w w'∧ ∀b,I' b→aO w' b:=
 ⟨I,hr,fun _ h=>h,fun _ h=> .inl h,hB,fun b hb=>(hin b hb).keep (hB.block b (hin b hb).lt)⟩
theorem fq {us:List Value} {a b:Value} (hl:us.length=2) (hr: ∀(j:Nat) (p:PV) (u:Value),[PV.lit a,PV.lit b][j]? =some p→us[j]? =some u→aj I w p u):us=[a,b]:=by
 match us,hl with
 | [x,y],_=>
  have h0:=aQ (hr 0 _ x rfl rfl)
  have h1:=aQ (hr 1 _ y rfl rfl)
  rw [h0,h1]
theorem oV {us:List Value} {a b c:Value} (hl:us.length=3) (hr: ∀(j:Nat) (p:PV) (u:Value),[PV.lit a,PV.lit b,PV.lit c][j]? =some p→us[j]? =some u→aj I w p u):us=[a,b,c]:=by
 match us,hl with
 | [x,y,z],_=>
  have h0:=aQ (hr 0 _ x rfl rfl)
  have h1:=aQ (hr 1 _ y rfl rfl)
  have h2:=aQ (hr 2 _ z rfl rfl)
  rw [h0,h1,h2]
theorem iV (vs:List Value):aj I w (.tup (vs.map .lit)) (.tuple vs.toArray):=by
 refine .tup _ _ (by simp) fun j p v hp hv=> ?_
 simp only [List.getElem?_map,Option.map_eq_some_iff] at hp
 obtain ⟨x,hx,rfl⟩:=hp
 rw [hv] at hx
 injection hx with hx
 subst hx
 exact .lit _
theorem oW {g:Nat} {v:Value} (hg:aj I w (.ptr (.lit v) 0) (.pointer (some ⟨g,0,none⟩))):w.cell? ⟨g,0,none⟩=some v:=by
 obtain ⟨b,o,vs,hu,hI,hv⟩:=gk hg
 simp only [Value.pointer.injEq,Option.some.injEq,Addr.mk.injEq] at hu
 obtain ⟨rfl,ho,_⟩:=hu
 have ho':o=0:=by omega
 subst ho'
 obtain ⟨h1,h2,h3⟩:=hv 0 (.lit v) rfl
 rw [aQ h3] at h1
 simpa using h1
def bE (l:List UInt8):PV:= .lit (.string ⟨l.toArray⟩)
def iW:List PV→Option PV
 | [.lit (.string s),.lit (.string sep)]=>if s.size<4294967281 then
   some (.tup [bE (Lib.cut s.data.toList sep.data.toList).1,bE (Lib.cut s.data.toList sep.data.toList).2.1,.lit (.bool (Lib.cut s.data.toList sep.data.toList).2.2)]) else none
 | _=>none
theorem oX {f g:Nat} (hent: ∀args w,(callFunc f args).run E.P w= .ok (.enter f args) w) (hg: ∀I w,Gl E I w→ ∃m,w.cell? ⟨g,0,none⟩=some (.int .i64 m))
  (hc: ∀(s sep:ByteArray) (m:Int) (w:World),s.size<4294967281→w.cell? ⟨g,0,none⟩=some (.int .i64 m)→Calls E.P f #[.string s,.string sep] w fun e w'=>
   e= .returned (.tuple #[.string ⟨(Lib.cut s.data.toList sep.data.toList).1.toArray⟩,.string ⟨(Lib.cut s.data.toList sep.data.toList).2.1.toArray⟩,.bool (Lib.cut s.data.toList sep.data.toList).2.2])∧ ∃n,w'=w.drewN n):b5 E f iW:=by
 intro ps r hF I w us hgl hl hr hin
 unfold iW at hF
 split at hF
 ·rename_i s sep
  split at hF
  ·rename_i hs
   injection hF with hF
   subst hF
   rw [fq (by simpa using hl) hr]
   obtain ⟨m,hm⟩:=hg I w hgl
   refine dl hent (hc s sep m w hs hm) ?_
   rintro w' ⟨n,rfl⟩
   exact dm ⟨rfl,rfl,rfl,Nat.le_refl _,fun _ _=>rfl⟩ hin (iV [_,_,_])
  ·cases hF
 ·cases hF
def iX:List PV→Option PV
 | [.lit (.string s),.lit (.int .i64 c)]=>if 0≤c∧c≤9223372036854775807∧s.size*c.toNat≤140737488355328 then some (bE (Lib.repeatL s.data.toList c.toNat)) else none
 | _=>none
theorem oY {f:Nat} (hent: ∀args w,(callFunc f args).run E.P w= .ok (.enter f args) w)
  (hc: ∀(s:ByteArray) (c:Nat) (w:World),c≤9223372036854775807→s.size*c≤140737488355328→Calls E.P f #[.string s,.int .i64 c] w fun e w'=>
   e= .returned (.string ⟨(Lib.repeatL s.data.toList c).toArray⟩)∧Below w.heap.size w w'):b5 E f iX:=by
 intro ps r hF I w us hgl hl hr hin
 unfold iX at hF
 split at hF
 ·rename_i s c
  split at hF
  ·rename_i hs
   injection hF with hF
   subst hF
   rw [fq (by simpa using hl) hr]
   have:=hc s c.toNat w (by omega) hs.2.2
   rw [Int.toNat_of_nonneg hs.1] at this
   exact dl hent this fun w' hB=>dm hB hin (.lit _)
  ·cases hF
 ·cases hF
def iY:List PV→Option PV
 | [.lit (.string s),.lit (.int .i64 b),.lit (.int .i64 z)]=>if b=10∧z=64∧s.size≤9223372036854775806 then match Lib.parseUintB 64 s.data.toList with
  | .ok u=>some (.tup [.lit (.int .u64 u),.lit .nilIface])
  | _=>none
  else none
 | _=>none
theorem oZ {f t:Nat} (hent: ∀args w,(callFunc f args).run E.P w= .ok (.enter f args) w)
  (hc: ∀(s:ByteArray),s.size≤9223372036854775806→ ∀(u:Nat),Lib.parseUintB 64 s.data.toList= .ok u→ ∀(w:World),Calls E.P f #[.string s,.int .i64 10,.int .i64 64] w fun e w'=>
   e= .returned (.tuple #[.int .u64 u,.nilIface])∧(w'=w∨w'=Lib.bytesWorld w t s)):b5 E f iY:=by
 intro ps r hF I w us hgl hl hr hin
 unfold iY at hF
 split at hF
 ·rename_i s b z
  split at hF
  ·rename_i hs
   obtain ⟨rfl,rfl,hs⟩:=hs
   split at hF
   ·rename_i u hu
    injection hF with hF
    subst hF
    rw [oV (by simpa using hl) hr]
    refine dl hent (hc s hs u hu w) ?_
    rintro w' (rfl | rfl)
    ·exact dm (Below.refl _ _) hin (iV [_,_])
    ·exact dm ⟨rfl,rfl,rfl,by rw [Lib.bytesWorld_size];omega,fun k hk=>Lib.bytesWorld_at_old w t s k hk⟩ hin (iV [_,_])
   ·cases hF
  ·cases hF
 ·cases hF
theorem o0 (t:TypeId) (xs:List ByteArray) (hin: ∀b,I b→aO w b):
  ∃I':af,aj I' (w.alloc (.cells (xs.map Value.string).toArray t)) (.sl 1 false true (xs.map fun x=> .lit (.string x))) (.slice (some ⟨w.heap.size,0,none⟩) xs.length xs.length)∧(∀b,I b→I' b)∧(∀b,I' b→I b∨w.heap.size≤b)∧
   Below w.heap.size w (w.alloc (.cells (xs.map Value.string).toArray t))∧ ∀b,I' b→aO (w.alloc (.cells (xs.map Value.string).toArray t)) b:=by
 have hG:aJ w (w.alloc (.cells (xs.map Value.string).toArray t)) (.cells (xs.map Value.string).toArray t):=⟨rfl,rfl,rfl,rfl⟩
 refine ⟨fun b=>I b∨b=w.heap.size,?_,fun _ h=> .inl h,fun b hb=>hb.imp id (fun e=>by omega),(hG.below (ce.bnd w)).below,fun b hb=> ?_⟩
 ·have:=aj.sl (I:=fun b=>I b∨b=w.heap.size) (w:=w.alloc (.cells (xs.map Value.string).toArray t)) 1 true (xs.map fun x=>PV.lit (.string x)) w.heap.size 0 xs.length (fun i j=>(.string (xs.getD i .empty)))
   (by simp) (by simp) (.inr rfl) (fun x hx=>by obtain ⟨y,_,rfl⟩:=List.mem_map.1 hx;exact ⟨rfl,rfl⟩) (fun i x hx j p hp=> ?_) (fun i x hx j p hp=> ?_)
  ·simpa using this
  ·simp only [List.getElem?_map,Option.map_eq_some_iff] at hx
   obtain ⟨y,hy,rfl⟩:=hx
   cases j with
   | zero=>
    refine ⟨?_,rfl⟩
    rw [hG.cell]
    simp [hy,List.getD_eq_getElem?_getD]
   | succ j=>simp [PV.cells] at hp
  ·simp only [List.getElem?_map,Option.map_eq_some_iff] at hx
   obtain ⟨y,hy,rfl⟩:=hx
   cases j with
   | zero=>
    simp [PV.cells] at hp
    subst hp
    simp only [List.getD_eq_getElem?_getD,hy,Option.getD_some]
    exact .lit _
   | succ j=>simp [PV.cells] at hp
 ·rcases hb with hb | rfl
  ·exact (hin b hb).keep (hG.old (hin b hb).lt)
  ·exact .of_shape hG.shape
def iZ:List PV→Option PV
 | [.lit (.string s),.lit (.string sep)]=>if s.size<4294967281∧1≤sep.size then some (.sl 1 false true ((Lib.splitB sep 0 (Lib.countB s sep) s).map fun x=> .lit (.string x))) else none
 | _=>none
theorem o3 {f g t:Nat} (hent: ∀args w,(callFunc f args).run E.P w= .ok (.enter f args) w) (hg: ∀I w,Gl E I w→ ∃m,w.cell? ⟨g,0,none⟩=some (.int .i64 m))
  (hlen: ∀s sep:ByteArray,1≤sep.size→(Lib.splitB sep 0 (Lib.countB s sep) s).length=Lib.countB s sep+1)
  (hc: ∀(s sep:ByteArray) (m:Int) (w:World),s.size<4294967281→w.cell? ⟨g,0,none⟩=some (.int .i64 m)→1≤sep.size→Calls E.P f #[.string s,.string sep] w fun e w'=>
   e= .returned (.slice (some ⟨w.heap.size,0,none⟩) (Lib.countB s sep+1) (Lib.countB s sep+1))∧w'=w.alloc (.cells ((Lib.splitB sep 0 (Lib.countB s sep) s).map Value.string).toArray t)):b5 E f iZ:=by
 intro ps r hF I w us hgl hl hr hin
 unfold iZ at hF
 split at hF
 ·rename_i s sep
  split at hF
  ·rename_i hs
   injection hF with hF
   subst hF
   rw [fq (by simpa using hl) hr]
   obtain ⟨m,hm⟩:=hg I w hgl
   refine dl hent (hc s sep m w hs.1 hm hs.2) ?_
   rintro w' rfl
   have:=o0 (I:=I) (w:=w) t (Lib.splitB sep 0 (Lib.countB s sep) s) hin
   rw [hlen s sep hs.2] at this
   exact this
  ·cases hF
 ·cases hF
def eu:List PV→Option (List ByteArray)
 | []=>some []
 | .lit (.string s)::l=>(eu l).map (s:: ·)
 | _::_=>none
theorem lI: ∀ {l:List PV} {xs:List ByteArray},eu l=some xs→l=xs.map fun x=> .lit (.string x)
 | [],xs,h=>by simp [eu] at h;subst h;rfl
 | p::l,xs,h=>by
  cases p with
  | lit v=>
   cases v<;>simp only [eu,Option.map_eq_some_iff] at h<;>try (cases h;done)
   obtain ⟨ys,hy,rfl⟩:=h
   rw [lI hy];rfl
  | _=>simp [eu] at h
def i1:List PV→Option PV
 | [.sl k nl full l,.lit (.string sep)]=>match eu l with
  | some xs=>if xs.length≤140737488355328∧(Lib.join (xs.map fun x=>x.data.toList) sep.data.toList).length≤140737488355328 then some (bE (Lib.join (xs.map fun x=>x.data.toList) sep.data.toList)) else none
  | none=>none
 | _=>none
theorem o4 {f:Nat} (hent: ∀args w,(callFunc f args).run E.P w= .ok (.enter f args) w)
  (h0: ∀(a:Option Addr) (c:Nat) (sep:ByteArray) (w:World),Calls E.P f #[.slice a 0 c,.string sep] w fun e w'=>e= .returned (.string ⟨#[]⟩)∧w'=w)
  (hc: ∀(bk o c:Nat) (xs:List ByteArray) (sep:ByteArray) (w:World),(∀(j:Nat) (x:ByteArray),xs[j]? =some x→w.cell? ⟨bk,o+j,none⟩=some (.string x))→bk<w.heap.size→xs.length≤140737488355328→xs.length≤c→
   (Lib.join (xs.map fun x=>x.data.toList) sep.data.toList).length≤140737488355328→Calls E.P f #[.slice (some ⟨bk,o,none⟩) xs.length c,.string sep] w fun e w'=>
    e= .returned (.string ⟨(Lib.join (xs.map fun x=>x.data.toList) sep.data.toList).toArray⟩)∧Below w.heap.size w w'):b5 E f i1:=by
 intro ps r hF I w us hgl hl hr hin
 unfold i1 at hF
 split at hF
 ·rename_i k nl full l sep
  split at hF
  ·rename_i xs hxs
   split at hF
   ·rename_i hs
    injection hF with hF
    subst hF
    have hl':=lI hxs
    obtain ⟨x,hx⟩: ∃x,us=[x,.string sep]:=by
     match us,hl with
     | [x,y],_=>exact ⟨x,by rw [aQ (hr 1 _ y rfl rfl)]⟩
    subst hx
    have hx:=hr 0 _ x rfl rfl
    have nil: ∀(a:Option Addr) (c:Nat),xs=[]→x= .slice a 0 c→b4 E.P f [x,.string sep].toArray w I (bE (Lib.join (xs.map fun x=>x.data.toList) sep.data.toList)):=by
     rintro a c rfl rfl
     exact dl hent (h0 a c sep w) fun w' hw=>by subst hw;exact dm (Below.refl _ _) hin (.lit _)
    cases hx with
    | nil=>exact nil none 0 (by simpa using hl'.symm) rfl
    | emp _ _ a cap=>exact nil (some a) cap (by simpa using hl'.symm) rfl
    | sl _ _ _ b o cap vs hcap hfull hI hk hcc hrr=>
     subst hl'
     by_cases hne:xs=[]
     ·subst hne;exact nil _ cap rfl rfl
     ·have hk1:k=1:=by
       obtain ⟨y,ys,rfl⟩:=List.exists_cons_of_ne_nil hne
       have:=(hk (.lit (.string y)) (by simp)).1
       simpa [PV.cells] using this.symm
      subst hk1
      have hcells: ∀(j:Nat) (x:ByteArray),xs[j]? =some x→w.cell? ⟨b,o+j,none⟩=some (.string x):=by
       intro j y hj
       have h1:=(hcc j (.lit (.string y)) (by simp [hj]) 0 (.lit (.string y)) rfl).1
       have h2:=hrr j (.lit (.string y)) (by simp [hj]) 0 (.lit (.string y)) rfl
       rw [aQ h2] at h1
       simpa using h1
      have:=hc b o cap xs sep w hcells (hin b hI).lt hs.1 (by simpa using hcap) hs.2
      simp only [List.length_map]
      exact dl hent this fun w' hB=>dm hB hin (.lit _)
   ·cases hF
  ·cases hF
 ·cases hF
end
end Go.Proofs.YthkilaondjgemaaGreatDoor.Abs
namespace Go.Proofs.YthkilaondjgemaaGreatDoor.Abs
open Go Go.Proofs
def i6:List PV→Option PV
 | [.lit (.int .u64 n),.lit (.int .i64 b)]=>if b=10∧0≤n∧n<18446744073709551616 then some (bE (Lib.decDigits n.toNat)) else none
 | _=>none
def i7:List PV→Option PV
 | [.iface 64 (.lit (.int .i64 _))]=>some (.iface 204 (.agg [.lit (.pointer (some ⟨14,64,none⟩))]))
 | _=>none
def i8:List PV→Option PV
 | [.agg [.lit (.pointer (some ⟨14,64,none⟩))]]=>some (.lit (.bool true))
 | _=>none
def ja:List PV→Option PV
 | [.lit (.string b),.lit (.int .u8 c)]=>some (.lit (.int .i64 (match (List.range b.size).find? fun i=>b[i]! ==c.toNat.toUInt8 with
  | some i=>(i:Int)
  | none=> -1)))
 | _=>none
def jb:List PV→Option PV
 | [.lit (.int .i64 n)]=>if-9223372036854775808≤n∧n≤9223372036854775807 then some (bE (Lib.itoa n)) else none
 | _=>none
def gF (f:FuncId):Option (List PV→Option PV):=match f with
 | 161=>some iW
 | 162=>some iZ
 | 134=>some i1
 | 305=>some iX
 | 212=>some iY
 | 253=>some i6
 | 95=>some i7
 | 259=>some ja
 | 133=>some jb
 | 358=>some i8
 | _=>none
def ew:List PV→Option PV
 | []=>some (.lit (.bool true))
 | _=>none
def jc (f:FuncId):Option (List PV→Option PV):=match f with
 | 7=>some ew
 | 27=>some ew
 | 33=>some ew
 | 34=>some ew
 | f=>gF f
abbrev bs (l:List UInt8):ByteArray:=⟨l.toArray⟩
abbrev o5 (a b c:Int) (p:PV):PV:= .agg [.lit (.int .u32 a),.lit (.int .u32 b),.lit (.int .u32 c),p]
abbrev o6 (a b c:Int) (p:PV) (o:Bool):PV:= .agg [.lit (.int .u32 a),.lit (.int .u32 b),.lit (.int .u32 c),p,.lit (.bool o)]
abbrev o7 (a b c:Int) (p:PV) (o e:Bool):PV:= .agg [.lit (.int .u32 a),.lit (.int .u32 b),.lit (.int .u32 c),p,.lit (.bool o),.lit (.bool e)]
abbrev o8 (a b c:Int) (p:PV) (o:Bool) (a1 b1 c1:Int) (p1:PV) (o1 e:Bool):PV:=
 .agg [.lit (.int .u32 a),.lit (.int .u32 b),.lit (.int .u32 c),p,.lit (.bool o),.lit (.int .u32 a1),.lit (.int .u32 b1),.lit (.int .u32 c1),p1,.lit (.bool o1),.lit (.bool e)]
abbrev ft (x:Bool):PV:= .lit (.bool x)
def dQ (I:Nat→Prop) (w:World):Prop:=(∃m,aj I w (.ptr (.lit (.int .i64 m)) 0) (.pointer (some ⟨1,0,none⟩)))∧Lib.TabIs Tryz.prog w "internal/strconv.uint64pow10" .u64 Lib.pow10Tab∧I 2∧
 w.cell? ⟨0,0,none⟩=some (.iface 204 (.agg #[.pointer (some ⟨14,46,none⟩)]))∧I 0
theorem o9 (I I':Nat→Prop) (w w':World) (h:dQ I w) (hI: ∀b,I b→I' b) (hk: ∀b,I b→w'.heap[b]? =w.heap[b]?):dQ I' w':=by
 obtain ⟨⟨m,h1⟩,h2,h3,h4,h5⟩:=h
 refine ⟨⟨m,h1.mono hI hk⟩,?_,hI _ h3,?_,hI _ h5⟩
 rotate_left
 ·unfold World.cell? at h4 ⊢
  rw [hk _ h5]
  exact h4
 have hg:Tryz.prog.globalNamed "internal/strconv.uint64pow10"=some 2:=by kernel_rfl
 unfold Lib.TabIs World.var? at*
 rw [hg] at h2 ⊢
 simp only [Option.bind_some] at h2 ⊢
 rw [hk _ h3]
 exact h2
def pd:List (Nat×String):=[(19,"fold.go:180"),(22,"fold.go:185"),(15,"fold.go:112"),(12,"fold.go:134"),(15,"page.go:106"),(7,"page.go:170"),(9,"page.go:174"),(5,"page.go:181"),(18,"page.go:135"),(28,"page.go:137"),(22,"page.go:138"),(28,"page.go:143"),(11,"event.go:226")]
noncomputable def E0:ao:= {
 P:=Tryz.prog
 intr:=gF
 inl:=fun f=>[94,39,86,200,237,278,294,300,313,321,322,328,330].contains f
 own:=fun f=>[295].contains f
 can:=fun f=>[144,143,145,142,294,300,313,321,322,328,330].contains f
 rd:=fun f=>[319,312].contains f
 asf:=fun f t=>if f=82∧t=131 then some 129 else none
 asm:=fun t=>t==64||t==135
 ckf:=fun f=>if f=199 then some 218 else none
 bad:=fun ops=>pd.any fun q=>ops.size==q.1&&(ops[0]?).any fun o=>o.pos==q.2
 ok:=fun f=> !([82,199,189,369].contains f)
 gl:=dQ
 glm:=o9}
noncomputable def E1:ao:= { E0 with intr:=jc}
abbrev ez (k:Nat) (nl full:Bool) (l:List (List UInt8)):PV:= .sl k nl full (l.map bE)
structure V where
 a:Int
 b:Int
 c:Int
 k:Nat
 nl:Bool
 full:Bool
 pre:List (List UInt8)
 deriving Inhabited
abbrev V.p (v:V):PV:=o5 v.a v.b v.c (ez v.k v.nl v.full v.pre)
structure I where
 lo:V
 lopen:Bool
 hi:V
 hopen:Bool
 less:Bool
 deriving Inhabited
abbrev I.p (x:I):PV:=o8 x.lo.a x.lo.b x.lo.c (ez x.lo.k x.lo.nl x.lo.full x.lo.pre) x.lopen x.hi.a x.hi.b x.hi.c (ez x.hi.k x.hi.nl x.hi.full x.hi.pre) x.hopen x.less
structure Ed where
 v:V
 behind:Bool
 less:Bool
 deriving Inhabited
abbrev Ed.p (x:Ed):PV:=o7 x.v.a x.v.b x.v.c (ez x.v.k x.v.nl x.v.full x.v.pre) x.behind x.less
structure Bd where
 v:V
 op:Bool
 deriving Inhabited
abbrev Bd.p (x:Bd):PV:=o6 x.v.a x.v.b x.v.c (ez x.v.k x.v.nl x.v.full x.v.pre) x.op
abbrev V.q (v:V):PV:=ez v.k v.nl v.full v.pre
def lJ (n:Nat):Prop:=n<4611686018427387904
def u32 (n:Int):Prop:=0≤n∧n<4294967296
def jd (sz k:Nat) (nl:Bool) (n:Nat):Prop:=(nl=true→n=0)∧(nl=false→k=sz)
structure V.ok (v:V):Prop where
 a:u32 v.a
 b:u32 v.b
 c:u32 v.c
 sl:jd 1 v.k v.nl v.pre.length
 len:lJ v.pre.length
 str: ∀s∈v.pre,lJ s.length
structure I.ok (x:I):Prop where
 lo:x.lo.ok
 hi:x.hi.ok
inductive F2 (I:af) (w:World):List PV→List Value→Prop
 | nil:F2 I w [] []
 | cons {p:PV} {v:Value} {ps:List PV} {vs:List Value} (h:aj I w p v) (h1:v.oneCell'=true) (r:F2 I w ps vs):F2 I w (p::ps) (v::vs)
theorem F2.length {I:af} {w:World} {ps:List PV} {vs:List Value} (h:F2 I w ps vs):ps.length=vs.length:=by
 induction h with
 | nil=>rfl
 | cons _ _ _ ih=>simp [ih]
theorem F2.get {I:af} {w:World} {ps:List PV} {vs:List Value} (h:F2 I w ps vs): ∀ {j:Nat} {p:PV} {v:Value},ps[j]? =some p→vs[j]? =some v→aj I w p v∧v.oneCell'=true:=by
 induction h with
 | nil=>intro j p v hp;simp at hp
 | cons a b r ih=>
  intro j p v hp hv
  cases j with
  | zero=>simp only [List.getElem?_cons_zero,Option.some.injEq] at hp hv;subst hp;subst hv;exact ⟨a,b⟩
  | succ j=>simp only [List.getElem?_cons_succ] at hp hv;exact ih hp hv
theorem F2.append {I:af} {w:World} {ps qs:List PV} {vs us:List Value} (h:F2 I w ps vs) (k:F2 I w qs us):F2 I w (ps++qs) (vs++us):=by
 induction h with
 | nil=>exact k
 | cons a b r ih=>exact .cons a b ih
def bJ (P:Program) (t:TypeId):Bool:=match P.underlying t with
 | some (.struct _)=>true
 | _=>false
def cD (st:Bool) (cs:List PV):PV:=if st then .agg cs else cs.headD default
def je (W:TypeId→List PV→Prop):List Field→List PV→Prop
 | [],r=>r=[]
 | f::fs,r=> ∃a b,r=a++b∧W f.type a∧je W fs b
def bR (P:Program):Nat→TypeId→List PV→Prop
 | 0,_,_=>False
 | n+1,t,cs=>match P.underlying t with
  | some .bool=> ∃b,cs=[.lit (.bool b)]
  | some (.int k)=> ∃x,cs=[.lit (.int k x)]∧(Lit.int k x).wf=true
  | some .string=> ∃s:ByteArray,cs=[.lit (.string s)]∧s.size≤reachBytes
  | some (.slice e)=> ∃(k:Nat) (nl:Bool) (rs:List (List PV)),cs=[.sl k nl false (rs.map (cD (bJ P e)))]∧jd (P.cellsOf e) k nl rs.length∧rs.length*P.bytesOf e≤reachBytes∧ ∀r∈rs,bR P n e r
  | some (.struct fs)=>je (bR P n) fs.toList cs
  | _=>False
def dn (P:Program):List Field→Nat→Nat→Bool
 | [],o,n=>o==n
 | f::fs,o,n=>(f.offset==o)&&dn P fs (o+P.cellsOf f.type) n
def cE (P:Program):Nat→TypeId→Bool
 | 0,_=>false
 | m+1,t=>match P.underlying t with
  | some .bool | some (.int _) | some .string=>P.cellsOf t==1
  | some (.slice e)=>P.cellsOf t==1&&cE P m e&&decide (0<P.cellsOf e)
  | some (.struct fs)=>dn P fs.toList 0 (P.cellsOf t)&&fs.toList.all (fun f=>cE P m f.type)
  | _=>false
theorem lK {H:Type} {P:Program} {e:TypeId} : ∀ {l:List (DataW H)} {d:DataW H} {n:Nat},d∈l→n∈d.weights P e→n∈DataW.weightsAll P e l
 | x::l,d,n,hd,hn=>by
  simp only [DataW.weightsAll,List.mem_append]
  cases List.mem_cons.1 hd with
  | inl h=>subst h;exact .inl hn
  | inr h=>exact .inr (lK h hn)
theorem lL {P:Program} {n:Nat} {t:TypeId} {r:List PV} (hs:bJ P t=false) (h:bR P n t r): ∃p,r=[p]∧p.cells=[p]∧p.ok=true:=by
 cases n with
 | zero=>exact h.elim
 | succ n=>
  unfold bR at h
  unfold bJ at hs
  split at h
  ·obtain ⟨b,rfl⟩:=h;exact ⟨_,rfl,rfl,rfl⟩
  ·obtain ⟨b,rfl,_⟩:=h;exact ⟨_,rfl,rfl,rfl⟩
  ·obtain ⟨b,rfl,_⟩:=h;exact ⟨_,rfl,rfl,rfl⟩
  ·obtain ⟨k,nl,rs,rfl,_⟩:=h;exact ⟨_,rfl,rfl,rfl⟩
  ·rename_i he;rw [he] at hs;cases hs
  ·exact h.elim
theorem jg {P:Program} {n:Nat} {t:TypeId} {r:List PV} (h:bR P n t r):(cD (bJ P t) r).cells=r∧(cD (bJ P t) r).ok=true:=by
 unfold cD
 cases hs:bJ P t with
 | true=>exact ⟨rfl,rfl⟩
 | false=>
  obtain ⟨p,rfl,h1,h2⟩:=lL hs h
  exact ⟨h1,h2⟩
theorem lM {α:Type} {q:Nat→α→Prop} : ∀n,(∀i,i<n→ ∃x,q i x)→ ∃l:List α,l.length=n∧ ∀i (h:i<l.length),q i l[i]
 | 0,_=>⟨[],rfl,fun i h=>absurd h (Nat.not_lt_zero _)⟩
 | n+1,h=>by
  obtain ⟨l,hl,hq⟩:=lM n (fun i hi=>h i (Nat.lt_succ_of_lt hi))
  obtain ⟨x,hx⟩:=h n (Nat.lt_succ_self n)
  refine ⟨l++[x],by simp [hl],fun i hi=> ?_⟩
  by_cases hc:i<l.length
  ·rw [List.getElem_append_left hc];exact hq i hc
  ·have:i=n:=by simp at hi;omega
   subst this
   rw [List.getElem_append_right (by omega)]
   simpa [hl] using hx
theorem pe (a:Addr) (i j:Nat):(a.add i).add j=a.add (i+j):=by
 unfold Addr.add
 by_cases hi:i=0<;>by_cases hj:j=0<;>simp [hi,hj,Nat.add_assoc]
theorem lN {w:World} {a:Addr} {v:Value} (h:w.cell? a=some v):a.spot=none∧ ∃e n,w.shape? a.block=some (e,n):=by
 unfold World.cell? at h
 split at h
 ·rename_i c t f hb
  split at h
  ·cases h
  ·rename_i hs
   refine ⟨by simpa using hs,t,c.size,?_⟩
   unfold World.shape?
   rw [hb]
 ·cases h
section
variable {H:Type} {enc:TypeId×Value→H} {P:Program} {w:World} {I:af} {held:Bool}
theorem lO {total:Nat} {cs:List Value} (hcs:cs.length=total) {W:TypeId→List PV→Prop} : ∀(fs:List Field) (o:Nat),dn P fs o total=true→o≤total→
  (∀f∈fs,∃ps,W f.type ps∧F2 I w ps ((cs.drop f.offset).take (P.cellsOf f.type)))→ ∃ps,je W fs ps∧F2 I w ps (cs.drop o)
 | [],o,hc,_,_=>by
  simp only [dn,beq_iff_eq] at hc
  rw [List.drop_of_length_le (by omega)]
  exact ⟨[],rfl,.nil⟩
 | f::fs,o,hc,ho,h=>by
  simp only [dn,Bool.and_eq_true,beq_iff_eq] at hc
  obtain ⟨h1,h2⟩:=hc
  obtain ⟨a,ha,hfa⟩:=h f (by simp)
  rw [h1] at hfa
  have hle:o+P.cellsOf f.type≤total:=by
   have: ∀(fs:List Field) (o:Nat),dn P fs o total=true→o≤total:=by
    intro fs
    induction fs with
    | nil=>intro o h;simp only [dn,beq_iff_eq] at h;omega
    | cons g gs ih=>intro o h;simp only [dn,Bool.and_eq_true,beq_iff_eq] at h;have:=ih _ h.2;omega
   exact this _ _ h2
  obtain ⟨b,hb,hfb⟩:=lO hcs fs (o+P.cellsOf f.type) h2 hle (fun g hg=>h g (by simp [hg]))
  refine ⟨a++b,⟨a,b,rfl,ha,hb⟩,?_⟩
  have e:cs.drop o=(cs.drop o).take (P.cellsOf f.type)++cs.drop (o+P.cellsOf f.type):=by
   rw [←List.drop_drop,List.take_append_drop]
  rw [e]
  exact hfa.append hfb
theorem pf (hI: ∀b e n,w.shape? b=some (e,n)→I b): ∀(fuel:Nat) (t:TypeId) (cs:List Value) (x:DataW H×List MemPlace) (m:Nat),DataW.trod enc P w 0 (fun _=>true) held fuel t cs=some x→cE P m t=true→
  (∀n∈x.1.weights P t,n≤reachBytes)→ ∃ps,bR P fuel t ps∧F2 I w ps cs:=by
 intro fuel
 induction fuel with
 | zero=>intro t cs x m h;simp [DataW.trod] at h
 | succ fuel ih=>
  intro t cs x m h hp hw
  cases m with
  | zero=>simp [cE] at hp
  | succ m=>
   unfold cE at hp
   unfold bR
   split at hp
   ·rename_i ht
    obtain ⟨b,rfl,rfl⟩:=DataW.trod_bool ht h
    exact ⟨_,⟨b,rfl⟩,.cons (.lit _) rfl .nil⟩
   ·rename_i k ht
    obtain ⟨b,rfl,rfl,hb⟩:=DataW.trod_int ht h
    exact ⟨_,⟨b,rfl,hb⟩,.cons (.lit _) rfl .nil⟩
   ·rename_i ht
    obtain ⟨s,rfl,rfl,_⟩:=DataW.trod_string ht h
    exact ⟨_,⟨s,rfl,by
     have h1:=hw s.data.toList.length (by simp only [DataW.weights,List.mem_singleton])
     rw [Array.length_toList] at h1
     exact h1⟩,.cons (.lit _) rfl .nil⟩
   ·rename_i e ht
    simp only [Bool.and_eq_true,beq_iff_eq,decide_eq_true_eq] at hp
    obtain ⟨⟨_,hp2⟩,hp3⟩:=hp
    rcases DataW.trod_slice ht h with ⟨rfl,rfl⟩ | ⟨a,len,cap,elems,rest,n,hn,rfl,rfl,_,hlen,hmax,hel,hx,_,_⟩
    ·exact ⟨_,⟨0,true,[],rfl,⟨fun _=>rfl,fun e=>Bool.noConfusion e⟩,by simp,fun r hr=>absurd hr (List.not_mem_nil)⟩,.cons (.nil 0 false) rfl .nil⟩
    ·obtain rfl:fuel=n:=by omega
     have hwt:=hw
     simp only [DataW.weights,ht,List.mem_cons,List.length_map] at hwt
     have hsz:=hwt _ (.inl rfl)
     obtain ⟨rs,hrs,hq⟩:=lM (q:=fun i r=>bR P fuel e r∧ ∃cs',w.cells? 0 (a.add (i*P.cellsOf e)) (P.cellsOf e)=some cs'∧F2 I w r cs') len (fun i hi=>by
      have h12:=hx i (by omega)
      rw [List.getElem?_eq_getElem (by omega)] at h12
      obtain ⟨cs',h1,h2⟩:=Option.bind_eq_some_iff.1 h12
      obtain ⟨ps,hps,hf⟩:=ih e cs' _ m h2 hp2 (fun k hk=>hwt k (.inr (List.mem_append_left _ (lK (List.mem_map.2 ⟨_,List.getElem_mem _,rfl⟩) hk))))
      exact ⟨ps,hps,cs',h1,hf⟩)
     have hlen2:rs.length*P.bytesOf e≤reachBytes:=by
      refine Nat.le_trans (Nat.mul_le_mul_right _ ?_) hsz
      omega
     have hwell: ∀r∈rs,bR P fuel e r:=fun r hr=>by
      obtain ⟨i,hi,rfl⟩:=List.getElem_of_mem hr
      exact (hq i hi).1
     refine ⟨_,⟨P.cellsOf e,false,rs,rfl,⟨fun e=>Bool.noConfusion e,fun _=>rfl⟩,hlen2,hwell⟩,.cons ?_ rfl .nil⟩
     by_cases h0:len=0
     ·have:rs=[]:=List.length_eq_zero_iff.1 (by omega)
      subst this;subst h0
      exact .emp _ _ _ _ (fun e=>Bool.noConfusion e)
     ·have ac: ∀(i:Nat) (x:PV),(rs.map (cD (bJ P e)))[i]? =some x→ ∃hi:i<rs.length,x.cells=rs[i]:=fun i x hx=>by
       rw [List.getElem?_map] at hx
       obtain ⟨r,hr,rfl⟩:=Option.map_eq_some_iff.1 hx
       obtain ⟨hi,rfl⟩:=List.getElem?_eq_some_iff.1 hr
       exact ⟨hi,(jg (hq i hi).1).1⟩
      have hcell: ∀(i j:Nat) (p:PV) (hi:i<rs.length),rs[i][j]? =some p→ ∃v,w.cell? (a.add (i*P.cellsOf e+j))=some v∧v.oneCell'=true∧aj I w p v:=fun i j p hi hp=>by
       obtain ⟨_,cs',h1,hf⟩:=hq i hi
       obtain ⟨_,hl,hc⟩:=World.cells?_some h1
       have hj:j<cs'.length:=by rw [←hf.length];exact (List.getElem?_eq_some_iff.1 hp).1
       have hv:cs'[j]? =some cs'[j]:=List.getElem?_eq_getElem hj
       obtain ⟨h3,h4⟩:=hf.get hp hv
       have:=hc j (by omega)
       rw [pe,hv] at this
       exact ⟨_,this,h4,h3⟩
      have hk:a.spot=none∧I a.block:=by
       obtain ⟨_,cs',h1,hf⟩:=hq 0 (by omega)
       obtain ⟨_,hl,hc⟩:=World.cells?_some h1
       have:=hc 0 hp3
       rw [List.getElem?_eq_getElem (by omega)] at this
       obtain ⟨h5,e',n',h6⟩:=lN this
       have ea:((a.add (0*P.cellsOf e)).add 0)=a:=by unfold Addr.add;simp
       rw [ea] at h5 h6
       exact ⟨h5,hI _ _ _ h6⟩
      obtain ⟨b,o,sp⟩:=a
      obtain ⟨rfl,hIb⟩:=hk
      have hadd: ∀n,(⟨b,o,none⟩:Addr).add n=⟨b,o+n,none⟩:=fun n=>by
       unfold Addr.add
       by_cases hn:n=0
       ·subst hn;simp
       ·simp [hn]
      have hc2: ∀(i:Nat) (x:PV),(rs.map (cD (bJ P e)))[i]? =some x→ ∀(j:Nat) (p:PV),x.cells[j]? =some p→
        ∃v,w.cell? ⟨b,o+i*P.cellsOf e+j,none⟩=some v∧v.oneCell'=true∧aj I w p v:=fun i x hx j p hp=>by
       obtain ⟨hi,e1⟩:=ac i x hx
       rw [e1] at hp
       obtain ⟨v,h1,h2,h3⟩:=hcell i j p hi hp
       rw [hadd,←Nat.add_assoc] at h1
       exact ⟨v,h1,h2,h3⟩
      have hlm:(rs.map (cD (bJ P e))).length=len:=by simp [hrs]
      rw [←hlm]
      refine .sl _ _ _ b o cap (fun i j=>(w.cell? ⟨b,o+i*P.cellsOf e+j,none⟩).getD default) (by omega) (fun e=>Bool.noConfusion e) hIb (fun x hx=> ?_) (fun i x hx j p hp=> ?_) (fun i x hx j p hp=> ?_)
      ·obtain ⟨r,hr,rfl⟩:=List.mem_map.1 hx
       obtain ⟨i,hi,rfl⟩:=List.getElem_of_mem hr
       obtain ⟨h3,cs',h1,hf⟩:=hq i hi
       obtain ⟨_,hl,_⟩:=World.cells?_some h1
       refine ⟨?_,(jg h3).2⟩
       rw [(jg h3).1,hf.length,hl]
      ·obtain ⟨v,h1,h2,h3⟩:=hc2 i x hx j p hp
       simp only [h1,Option.getD_some]
       exact ⟨trivial,h2⟩
      ·obtain ⟨v,h1,h2,h3⟩:=hc2 i x hx j p hp
       simp only [h1,Option.getD_some]
       exact h3
   ·rename_i fs ht
    simp only [Bool.and_eq_true,List.all_eq_true] at hp
    obtain ⟨xs,n,hn,rfl,hl,hxl,hf⟩:=DataW.trod_struct ht h
    obtain rfl:fuel=n:=by omega
    have hwf: ∀(fl:List Field) (l:List (DataW H)) (i:Nat) (f:Field) (d:DataW H) (k:Nat),fl[i]? =some f→l[i]? =some d→k∈d.weights P f.type→k∈DataW.weightsEach P (fl.map (·.type)) l:=by
     intro fl l i f d k h1 h2 h3
     exact DataW.weights_mem_each (j:=i) (t:=f.type) (by simp [h1]) h2 k h3
    obtain ⟨ps,h1,h2⟩:=lO (I:=I) (w:=w) hl fs.toList 0 hp.1 (by omega) (W:=bR P fuel) (fun f hfm=>by
     obtain ⟨i,hi,rfl⟩:=List.getElem_of_mem hfm
     have hfi:fs[i]? =some fs.toList[i]:=by simp at hi ⊢
     have hx:=hf i _ hfi
     have hi':i<xs.length:=by rw [hxl];simpa using hi
     rw [List.getElem?_eq_getElem hi'] at hx
     obtain ⟨ps,hps,hf2⟩:=ih _ _ _ m hx (hp.2 _ hfm) (fun k hk=>hw k (by
      simp only [DataW.weights,ht]
      exact hwf fs.toList (xs.map (·.1)) i _ _ k (List.getElem?_eq_getElem hi) (by simp [hi']) hk))
     exact ⟨ps,hps,hf2⟩)
    exact ⟨ps,h1,by simpa using h2⟩
   ·cases hp
end
theorem well_int0 {P:Program} {n:Nat} {t:TypeId} {k:IntKind} {cs:List PV} (ht:P.underlying t=some (.int k)) (h:bR P n t cs): ∃x,cs=[.lit (.int k x)]∧(Lit.int k x).wf=true:=by
 cases n with
 | zero=>exact h.elim
 | succ n=>unfold bR at h;rw [ht] at h;exact h
theorem pg {P:Program} {n:Nat} {t:TypeId} {cs:List PV} (ht:P.underlying t=some .string) (h:bR P n t cs): ∃s:ByteArray,cs=[.lit (.string s)]∧s.size≤reachBytes:=by
 cases n with
 | zero=>exact h.elim
 | succ n=>unfold bR at h;rw [ht] at h;exact h
theorem well_sl0 {P:Program} {n:Nat} {t e:TypeId} {cs:List PV} (ht:P.underlying t=some (.slice e)) (h:bR P n t cs):
  ∃(m k:Nat) (nl:Bool) (rs:List (List PV)),cs=[.sl k nl false (rs.map (cD (bJ P e)))]∧jd (P.cellsOf e) k nl rs.length∧rs.length*P.bytesOf e≤reachBytes∧ ∀r∈rs,bR P m e r:=by
 cases n with
 | zero=>exact h.elim
 | succ n=>unfold bR at h;rw [ht] at h;exact ⟨n,h⟩
theorem well_st0 {P:Program} {n:Nat} {t:TypeId} {fs:Array Field} {cs:List PV} (ht:P.underlying t=some (.struct fs)) (h:bR P n t cs): ∃m,je (bR P m) fs.toList cs:=by
 cases n with
 | zero=>exact h.elim
 | succ n=>unfold bR at h;rw [ht] at h;exact ⟨n,h⟩
theorem isSt_of {P:Program} {t:TypeId} {fs:Array Field} (ht:P.underlying t=some (.struct fs)):bJ P t=true:=by unfold bJ;rw [ht]
end Go.Proofs.YthkilaondjgemaaGreatDoor.Abs
namespace Go.Proofs
open Go.Shelf
def Tryz.lays156_ren:Go.Shelf.Ren:=⟨fun | 156=>134 | 165=>182 | 166=>143 | 169=>145 | 240=>199 | 241=>221 | 276=>236 | 277=>252 | n=>n,fun | 31=>35 | 9=>9 | 3=>3 | 4=>4 | 0=>0 | 20=>20 | 72=>218 | 76=>221 | 70=>215 | 37=>216 | 75=>46 | 127=>275 | 164=>179 | 5=>5 | 80=>159 | n=>n,fun | n=>n⟩
theorem Tryz.lays156:Go.Proofs.Lays.n156 Tryz.prog Tryz.lays156_ren:= {
 mixed:=by kernel_rfl
 f156:=Tryz.func134.trans (congrArg some (by kernel_rfl))
 f165:=Tryz.func182.trans (congrArg some (by kernel_rfl))
 f166:=Tryz.func143.trans (congrArg some (by kernel_rfl))
 f169:=Tryz.func145.trans (congrArg some (by kernel_rfl))
 f240:=Tryz.func199.trans (congrArg some (by kernel_rfl))
 f241:=Tryz.func221.trans (congrArg some (by kernel_rfl))
 f276:=Tryz.func236.trans (congrArg some (by kernel_rfl))
 f277:=Tryz.func252.trans (congrArg some (by kernel_rfl))
 t0:=Tryz.underlying0
 a0:=Tryz.isAgg0
 z0:=Tryz.sizeOf0
 v0:=Tryz.zeroValue0
 t3:=Tryz.underlying3
 a3:=Tryz.isAgg3
 z3:=Tryz.sizeOf3
 v3:=Tryz.zeroValue3
 t4:=Tryz.underlying4
 a4:=Tryz.isAgg4
 z4:=Tryz.sizeOf4
 v4:=Tryz.zeroValue4
 t9:=Tryz.underlying9
 a9:=Tryz.isAgg9
 z9:=Tryz.sizeOf9
 v9:=Tryz.zeroValue9
 t20:=Tryz.underlying20
 a20:=Tryz.isAgg20
 z20:=Tryz.sizeOf20
 v20:=Tryz.zeroValue20
 t31:=Tryz.underlying35
 a31:=Tryz.isAgg35
 z31:=Tryz.sizeOf35
 v31:=Tryz.zeroValue35
 t37:=Tryz.underlying216
 a37:=Tryz.isAgg216
 z37:=Tryz.sizeOf216
 v37:=Tryz.zeroValue216
 t70:=Tryz.underlying215
 a70:=Tryz.isAgg215
 z70:=Tryz.sizeOf215
 v70:=Tryz.zeroValue215
 t72:=Tryz.underlying218
 a72:=Tryz.isAgg218
 z72:=Tryz.sizeOf218
 v72:=Tryz.zeroValue218
 t75:=Tryz.underlying46
 a75:=Tryz.isAgg46
 z75:=Tryz.sizeOf46
 v75:=Tryz.zeroValue46
 t76:=Tryz.underlying221
 a76:=Tryz.isAgg221
 z76:=Tryz.sizeOf221
 v76:=Tryz.zeroValue221
 t127:=Tryz.underlying275
 a127:=Tryz.isAgg275
 z127:=Tryz.sizeOf275
 v127:=Tryz.zeroValue275
 t164:=Tryz.underlying179
 a164:=Tryz.isAgg179
 z164:=Tryz.sizeOf179
 v164:=Tryz.zeroValue179}
theorem Tryz.Builder_Extra_156:Builder.Extra Tryz.prog Tryz.lays156_ren:= {
 sizeBuilder:=by kernel_rfl
 liesBuilder:=by kernel_rfl
 t5:=Tryz.underlying5
 a5:=Tryz.isAgg5
 z5:=Tryz.sizeOf5
 v5:=Tryz.zeroValue5
 infoByte:=by kernel_rfl
 cellsByte:=by kernel_rfl
 sizeByte:=by kernel_rfl
 neB5:=by decide}
open Go.RowKit in
theorem Tryz.strings_Join_none (a:Option Addr) (c:Nat) (sep:ByteArray) (w:World):
  Calls Tryz.prog 134 #[.slice a 0 c,.string sep] w fun e w'=>e= .returned (.string ⟨#[]⟩)∧w'=w:=Any.strings_Join_none Tryz.lays156 Tryz.Builder_Extra_156 a c sep w
open Go.RowKit in
theorem Tryz.strings_Join (bk o c:Nat) (xs:List ByteArray) (sep:ByteArray) (w:World) (hcells: ∀(j:Nat) x,xs[j]? =some x→w.cell? ⟨bk,o+j,none⟩=some (.string x)) (hbk:bk<w.heap.size) (hN:xs.length≤140737488355328) (hcap:xs.length≤c) (hlen:(Lib.join (xs.map (·.data.toList)) sep.data.toList).length≤140737488355328):
  Calls Tryz.prog 134 #[.slice (some ⟨bk,o,none⟩) xs.length c,.string sep] w fun e w'=>e= .returned (.string ⟨(Lib.join (xs.map (·.data.toList)) sep.data.toList).toArray⟩)∧Below w.heap.size w w':=Any.strings_Join Tryz.lays156 Tryz.Builder_Extra_156 bk o c xs sep w hcells hbk hN hcap hlen
def Tryz.lays283_ren:Go.Shelf.Ren:=⟨fun | 283=>248 | n=>n,fun | 3=>3 | 9=>9 | 4=>4 | n=>n,fun | n=>n⟩
theorem Tryz.lays283:Go.Proofs.Lays.n283 Tryz.prog Tryz.lays283_ren:= {
 mixed:=by kernel_rfl
 f283:=Tryz.func248.trans (congrArg some (by kernel_rfl))
 t3:=Tryz.underlying3
 a3:=Tryz.isAgg3
 z3:=Tryz.sizeOf3
 v3:=Tryz.zeroValue3
 t4:=Tryz.underlying4
 a4:=Tryz.isAgg4
 z4:=Tryz.sizeOf4
 v4:=Tryz.zeroValue4
 t9:=Tryz.underlying9
 a9:=Tryz.isAgg9
 z9:=Tryz.sizeOf9
 v9:=Tryz.zeroValue9}
open Go.Lib in
theorem Tryz.internal_strconv_small (i:Nat) (h:i<100) (w:World):
  Calls Tryz.prog 248 #[.int .i64 i] w fun e w'=>e= .returned (.string ⟨(Lib.decDigits i).toArray⟩)∧w'=w:=Any.internal_strconv_small Tryz.lays283 i h w
def Tryz.laysM284_ren:Go.Shelf.Ren:=⟨fun | 284=>249 | 129=>160 | 317=>271 | 318=>272 | n=>n,fun | 53=>24 | 3=>3 | 212=>330 | 0=>0 | 4=>4 | 46=>169 | 5=>5 | 9=>9 | n=>n,fun | 17=>2 | n=>n⟩
theorem Tryz.laysM284:Go.Proofs.LaysM.n284 Tryz.prog Tryz.laysM284_ren:= {
 mixed:=by kernel_rfl
 f129:=Tryz.func160.trans (congrArg some (by kernel_rfl))
 f284:=Tryz.func249.trans (congrArg some (by kernel_rfl))
 f317:=Tryz.func271.trans (congrArg some (by kernel_rfl))
 f318:=Tryz.func272.trans (congrArg some (by kernel_rfl))
 t0:=Tryz.underlying0
 a0:=Tryz.isAgg0
 z0:=Tryz.sizeOf0
 v0:=Tryz.zeroValue0
 t3:=Tryz.underlying3
 a3:=Tryz.isAgg3
 z3:=Tryz.sizeOf3
 v3:=Tryz.zeroValue3
 t4:=Tryz.underlying4
 a4:=Tryz.isAgg4
 z4:=Tryz.sizeOf4
 v4:=Tryz.zeroValue4
 t5:=Tryz.underlying5
 a5:=Tryz.isAgg5
 z5:=Tryz.sizeOf5
 v5:=Tryz.zeroValue5
 t9:=Tryz.underlying9
 a9:=Tryz.isAgg9
 z9:=Tryz.sizeOf9
 v9:=Tryz.zeroValue9
 t46:=Tryz.underlying169
 a46:=Tryz.isAgg169
 z46:=Tryz.sizeOf169
 v46:=Tryz.zeroValue169
 t53:=Tryz.underlying24
 a53:=Tryz.isAgg24
 z53:=Tryz.sizeOf24
 v53:=Tryz.zeroValue24
 t212:=Tryz.underlying330
 a212:=Tryz.isAgg330
 z212:=Tryz.sizeOf330
 v212:=Tryz.zeroValue330
 g17:=by kernel_rfl
 i0:=by kernel_rfl
 i3:=by kernel_rfl
 i4:=by kernel_rfl
 i5:=by kernel_rfl
 i9:=by kernel_rfl
 i46:=by kernel_rfl
 i53:=by kernel_rfl
 i212:=by kernel_rfl
 m17:=by kernel_rfl}
open Go.Lib in
theorem Tryz.internal_strconv_numDigits (u:Nat) (h1:1≤u) (h2:u<18446744073709551616) (w:World) (htab:Lib.TabIs Tryz.prog w "internal/strconv.uint64pow10" .u64 Lib.pow10Tab):
  Calls Tryz.prog 249 #[.int .u64 u] w fun e w'=>e= .returned (.int .i64 (Lib.nDigits u))∧w'=w:=Any.internal_strconv_numDigits Tryz.laysM284 u h1 h2 w htab
def Tryz.lays285_ren:Go.Shelf.Ren:=⟨fun | 285=>250 | n=>n,fun | 37=>216 | 53=>24 | 3=>3 | 4=>4 | 51=>25 | 9=>9 | 5=>5 | 0=>0 | n=>n,fun | n=>n⟩
theorem Tryz.lays285:Go.Proofs.Lays.n285 Tryz.prog Tryz.lays285_ren:= {
 mixed:=by kernel_rfl
 f285:=Tryz.func250.trans (congrArg some (by kernel_rfl))
 t0:=Tryz.underlying0
 a0:=Tryz.isAgg0
 z0:=Tryz.sizeOf0
 v0:=Tryz.zeroValue0
 t3:=Tryz.underlying3
 a3:=Tryz.isAgg3
 z3:=Tryz.sizeOf3
 v3:=Tryz.zeroValue3
 t4:=Tryz.underlying4
 a4:=Tryz.isAgg4
 z4:=Tryz.sizeOf4
 v4:=Tryz.zeroValue4
 t5:=Tryz.underlying5
 a5:=Tryz.isAgg5
 z5:=Tryz.sizeOf5
 v5:=Tryz.zeroValue5
 t9:=Tryz.underlying9
 a9:=Tryz.isAgg9
 z9:=Tryz.sizeOf9
 v9:=Tryz.zeroValue9
 t37:=Tryz.underlying216
 a37:=Tryz.isAgg216
 z37:=Tryz.sizeOf216
 v37:=Tryz.zeroValue216
 t51:=Tryz.underlying25
 a51:=Tryz.isAgg25
 z51:=Tryz.sizeOf25
 v51:=Tryz.zeroValue25
 t53:=Tryz.underlying24
 a53:=Tryz.isAgg24
 z53:=Tryz.sizeOf24
 v53:=Tryz.zeroValue24}
open Go.RowKit Go.Sort Go.Lib in
theorem Tryz.internal_strconv_formatBase10 (blk off cap:Nat) (u:Nat) (d:Array UInt8) (w:World) (hH:Holds (fun (b:UInt8)=>Value.int .u8 (b.toNat:Int)) w blk off d) (hu:u<10^d.size) (hu64:u<18446744073709551616) (hsz:d.size<4611686018427387904):
  Calls Tryz.prog 250 #[.slice (some ⟨blk,off,none⟩) d.size cap,.int .u64 u] w fun e w'=>
   e= .returned (.tuple #[])∧ ∃(n v':Nat) (dk:Array UInt8),w'=(putRow (fun (b:UInt8)=>Value.int .u8 (b.toNat:Int)) w blk off dk).drewN n∧FmtInv d.size u 0 v' dk:=Any.internal_strconv_formatBase10 Tryz.lays285 blk off cap u d w hH hu hu64 hsz
def Tryz.laysM171_ren:Go.Shelf.Ren:=⟨fun | 171=>133 | 243=>181 | 246=>220 | 283=>248 | 284=>249 | 285=>250 | 286=>251 | 129=>160 | 317=>271 | 318=>272 | 319=>273 | 320=>274 | 337=>285 | 338=>286 | n=>n,fun | 3=>3 | 9=>9 | 2=>2 | 4=>4 | 171=>308 | 0=>0 | 53=>24 | 37=>216 | 5=>5 | 173=>310 | 212=>330 | 51=>25 | 20=>20 | 213=>331 | 46=>169 | 232=>365 | 233=>366 | n=>n,fun | 17=>2 | 18=>7 | 19=>8 | n=>n⟩
theorem Tryz.laysM171:Go.Proofs.LaysM.n171 Tryz.prog Tryz.laysM171_ren:= {
 mixed:=by kernel_rfl
 f129:=Tryz.func160.trans (congrArg some (by kernel_rfl))
 f171:=Tryz.func133.trans (congrArg some (by kernel_rfl))
 f243:=Tryz.func181.trans (congrArg some (by kernel_rfl))
 f246:=Tryz.func220.trans (congrArg some (by kernel_rfl))
 f283:=Tryz.func248.trans (congrArg some (by kernel_rfl))
 f284:=Tryz.func249.trans (congrArg some (by kernel_rfl))
 f285:=Tryz.func250.trans (congrArg some (by kernel_rfl))
 f286:=Tryz.func251.trans (congrArg some (by kernel_rfl))
 f317:=Tryz.func271.trans (congrArg some (by kernel_rfl))
 f318:=Tryz.func272.trans (congrArg some (by kernel_rfl))
 f319:=Tryz.func273.trans (congrArg some (by kernel_rfl))
 f320:=Tryz.func274.trans (congrArg some (by kernel_rfl))
 f337:=Tryz.func285.trans (congrArg some (by kernel_rfl))
 f338:=Tryz.func286.trans (congrArg some (by kernel_rfl))
 t0:=Tryz.underlying0
 a0:=Tryz.isAgg0
 z0:=Tryz.sizeOf0
 v0:=Tryz.zeroValue0
 t2:=Tryz.underlying2
 a2:=Tryz.isAgg2
 z2:=Tryz.sizeOf2
 v2:=Tryz.zeroValue2
 t3:=Tryz.underlying3
 a3:=Tryz.isAgg3
 z3:=Tryz.sizeOf3
 v3:=Tryz.zeroValue3
 t4:=Tryz.underlying4
 a4:=Tryz.isAgg4
 z4:=Tryz.sizeOf4
 v4:=Tryz.zeroValue4
 t5:=Tryz.underlying5
 a5:=Tryz.isAgg5
 z5:=Tryz.sizeOf5
 v5:=Tryz.zeroValue5
 t9:=Tryz.underlying9
 a9:=Tryz.isAgg9
 z9:=Tryz.sizeOf9
 v9:=Tryz.zeroValue9
 t20:=Tryz.underlying20
 a20:=Tryz.isAgg20
 z20:=Tryz.sizeOf20
 v20:=Tryz.zeroValue20
 t37:=Tryz.underlying216
 a37:=Tryz.isAgg216
 z37:=Tryz.sizeOf216
 v37:=Tryz.zeroValue216
 t46:=Tryz.underlying169
 a46:=Tryz.isAgg169
 z46:=Tryz.sizeOf169
 v46:=Tryz.zeroValue169
 t51:=Tryz.underlying25
 a51:=Tryz.isAgg25
 z51:=Tryz.sizeOf25
 v51:=Tryz.zeroValue25
 t53:=Tryz.underlying24
 a53:=Tryz.isAgg24
 z53:=Tryz.sizeOf24
 v53:=Tryz.zeroValue24
 t171:=Tryz.underlying308
 a171:=Tryz.isAgg308
 z171:=Tryz.sizeOf308
 v171:=Tryz.zeroValue308
 t173:=Tryz.underlying310
 a173:=Tryz.isAgg310
 z173:=Tryz.sizeOf310
 v173:=Tryz.zeroValue310
 t212:=Tryz.underlying330
 a212:=Tryz.isAgg330
 z212:=Tryz.sizeOf330
 v212:=Tryz.zeroValue330
 t213:=Tryz.underlying331
 a213:=Tryz.isAgg331
 z213:=Tryz.sizeOf331
 t232:=Tryz.underlying365
 a232:=Tryz.isAgg365
 z232:=Tryz.sizeOf365
 v232:=Tryz.zeroValue365
 t233:=Tryz.underlying366
 a233:=Tryz.isAgg366
 z233:=Tryz.sizeOf366
 v233:=Tryz.zeroValue366
 g17:=by kernel_rfl
 g18:=by kernel_rfl
 g19:=by kernel_rfl
 i0:=by kernel_rfl
 i2:=by kernel_rfl
 i3:=by kernel_rfl
 i4:=by kernel_rfl
 i5:=by kernel_rfl
 i9:=by kernel_rfl
 i20:=by kernel_rfl
 i37:=by kernel_rfl
 i46:=by kernel_rfl
 i51:=by kernel_rfl
 i53:=by kernel_rfl
 i171:=by kernel_rfl
 i173:=by kernel_rfl
 i212:=by kernel_rfl
 i232:=by kernel_rfl
 i233:=by kernel_rfl
 m17:=by kernel_rfl
 m18:=by kernel_rfl
 m19:=by kernel_rfl}
open Go.RowKit Go.Sort Go.Lib in
theorem Tryz.strconv_Itoa (n:Int) (h0: -9223372036854775808≤n) (h1:n≤9223372036854775807) (w:World) (htab:Lib.TabIs Tryz.prog w "internal/strconv.uint64pow10" .u64 Lib.pow10Tab):
  Calls Tryz.prog 133 #[.int .i64 n] w fun e w'=>e= .returned (.string ⟨(Lib.itoa n).toArray⟩)∧ ∃k os,w'=grow (w.drewN k) os:=Any.strconv_Itoa Tryz.laysM171 n h0 h1 w htab
def Tryz.laysPu14_ren:Go.Shelf.Ren:=⟨fun | 14=>212 | 16=>246 | 17=>247 | 19=>265 | 20=>266 | 21=>267 | 22=>268 | 23=>269 | 24=>270 | 25=>284 | 27=>133 | 26=>29 | 28=>181 | 29=>220 | 30=>248 | 31=>249 | 32=>250 | 33=>251 | 35=>160 | 34=>271 | 36=>272 | 37=>273 | 38=>274 | 39=>285 | 40=>286 | n=>n,fun | 9=>9 | 3=>3 | 22=>24 | 24=>46 | 25=>283 | 4=>4 | 34=>324 | 5=>5 | 36=>169 | 37=>216 | 0=>0 | 39=>326 | 21=>21 | 44=>346 | 47=>275 | 50=>137 | 48=>135 | 2=>2 | 52=>308 | 55=>310 | 59=>330 | 60=>25 | 20=>20 | 61=>331 | 65=>365 | 66=>366 | 67=>159 | n=>n,fun | 0=>3 | 1=>4 | 2=>2 | 3=>7 | 4=>8 | n=>n⟩
theorem Tryz.laysPu14:Go.Proofs.LaysPu.n14 Tryz.prog Tryz.laysPu14_ren:= {
 mixed:=by kernel_rfl
 f14:=Tryz.func212.trans (congrArg some (by kernel_rfl))
 f16:=Tryz.func246.trans (congrArg some (by kernel_rfl))
 f17:=Tryz.func247.trans (congrArg some (by kernel_rfl))
 f19:=Tryz.func265.trans (congrArg some (by kernel_rfl))
 f20:=Tryz.func266.trans (congrArg some (by kernel_rfl))
 f21:=Tryz.func267.trans (congrArg some (by kernel_rfl))
 f22:=Tryz.func268.trans (congrArg some (by kernel_rfl))
 f23:=Tryz.func269.trans (congrArg some (by kernel_rfl))
 f24:=Tryz.func270.trans (congrArg some (by kernel_rfl))
 f25:=Tryz.func284.trans (congrArg some (by kernel_rfl))
 f26:=Tryz.func29.trans (congrArg some (by kernel_rfl))
 f27:=Tryz.func133.trans (congrArg some (by kernel_rfl))
 f28:=Tryz.func181.trans (congrArg some (by kernel_rfl))
 f29:=Tryz.func220.trans (congrArg some (by kernel_rfl))
 f30:=Tryz.func248.trans (congrArg some (by kernel_rfl))
 f31:=Tryz.func249.trans (congrArg some (by kernel_rfl))
 f32:=Tryz.func250.trans (congrArg some (by kernel_rfl))
 f33:=Tryz.func251.trans (congrArg some (by kernel_rfl))
 f34:=Tryz.func271.trans (congrArg some (by kernel_rfl))
 f35:=Tryz.func160.trans (congrArg some (by kernel_rfl))
 f36:=Tryz.func272.trans (congrArg some (by kernel_rfl))
 f37:=Tryz.func273.trans (congrArg some (by kernel_rfl))
 f38:=Tryz.func274.trans (congrArg some (by kernel_rfl))
 f39:=Tryz.func285.trans (congrArg some (by kernel_rfl))
 f40:=Tryz.func286.trans (congrArg some (by kernel_rfl))
 t0:=Tryz.underlying0
 a0:=Tryz.isAgg0
 z0:=Tryz.sizeOf0
 v0:=Tryz.zeroValue0
 i0:=by kernel_rfl
 t2:=Tryz.underlying2
 a2:=Tryz.isAgg2
 z2:=Tryz.sizeOf2
 v2:=Tryz.zeroValue2
 i2:=by kernel_rfl
 t3:=Tryz.underlying3
 a3:=Tryz.isAgg3
 z3:=Tryz.sizeOf3
 v3:=Tryz.zeroValue3
 i3:=by kernel_rfl
 t4:=Tryz.underlying4
 a4:=Tryz.isAgg4
 z4:=Tryz.sizeOf4
 v4:=Tryz.zeroValue4
 i4:=by kernel_rfl
 t5:=Tryz.underlying5
 a5:=Tryz.isAgg5
 z5:=Tryz.sizeOf5
 v5:=Tryz.zeroValue5
 i5:=by kernel_rfl
 t9:=Tryz.underlying9
 a9:=Tryz.isAgg9
 z9:=Tryz.sizeOf9
 v9:=Tryz.zeroValue9
 i9:=by kernel_rfl
 t20:=Tryz.underlying20
 a20:=Tryz.isAgg20
 z20:=Tryz.sizeOf20
 v20:=Tryz.zeroValue20
 i20:=by kernel_rfl
 t21:=Tryz.underlying21
 a21:=Tryz.isAgg21
 z21:=Tryz.sizeOf21
 v21:=Tryz.zeroValue21
 i21:=by kernel_rfl
 t22:=Tryz.underlying24
 a22:=Tryz.isAgg24
 z22:=Tryz.sizeOf24
 v22:=Tryz.zeroValue24
 i22:=by kernel_rfl
 t24:=Tryz.underlying46
 a24:=Tryz.isAgg46
 z24:=Tryz.sizeOf46
 v24:=Tryz.zeroValue46
 i24:=by kernel_rfl
 t25:=Tryz.underlying283
 a25:=Tryz.isAgg283
 z25:=Tryz.sizeOf283
 v25:=Tryz.zeroValue283
 i25:=by kernel_rfl
 t34:=Tryz.underlying324
 a34:=Tryz.isAgg324
 z34:=Tryz.sizeOf324
 v34:=Tryz.zeroValue324
 i34:=by kernel_rfl
 c34:=by kernel_rfl
 t36:=Tryz.underlying169
 a36:=Tryz.isAgg169
 z36:=Tryz.sizeOf169
 v36:=Tryz.zeroValue169
 i36:=by kernel_rfl
 t37:=Tryz.underlying216
 a37:=Tryz.isAgg216
 z37:=Tryz.sizeOf216
 v37:=Tryz.zeroValue216
 i37:=by kernel_rfl
 t39:=Tryz.underlying326
 a39:=Tryz.isAgg326
 z39:=Tryz.sizeOf326
 v39:=Tryz.zeroValue326
 i39:=by kernel_rfl
 t44:=Tryz.underlying346
 a44:=Tryz.isAgg346
 z44:=Tryz.sizeOf346
 v44:=Tryz.zeroValue346
 i44:=by kernel_rfl
 t47:=Tryz.underlying275
 a47:=Tryz.isAgg275
 z47:=Tryz.sizeOf275
 v47:=Tryz.zeroValue275
 i47:=by kernel_rfl
 t48:=Tryz.underlying135
 a48:=Tryz.isAgg135
 z48:=Tryz.sizeOf135
 v48:=Tryz.zeroValue135
 i48:=by kernel_rfl
 t50:=Tryz.underlying137
 a50:=Tryz.isAgg137
 z50:=Tryz.sizeOf137
 v50:=Tryz.zeroValue137
 i50:=by kernel_rfl
 t52:=Tryz.underlying308
 a52:=Tryz.isAgg308
 z52:=Tryz.sizeOf308
 v52:=Tryz.zeroValue308
 i52:=by kernel_rfl
 t55:=Tryz.underlying310
 a55:=Tryz.isAgg310
 z55:=Tryz.sizeOf310
 v55:=Tryz.zeroValue310
 i55:=by kernel_rfl
 t59:=Tryz.underlying330
 a59:=Tryz.isAgg330
 z59:=Tryz.sizeOf330
 v59:=Tryz.zeroValue330
 i59:=by kernel_rfl
 t60:=Tryz.underlying25
 a60:=Tryz.isAgg25
 z60:=Tryz.sizeOf25
 v60:=Tryz.zeroValue25
 i60:=by kernel_rfl
 t61:=Tryz.underlying331
 a61:=Tryz.isAgg331
 z61:=Tryz.sizeOf331
 t65:=Tryz.underlying365
 a65:=Tryz.isAgg365
 z65:=Tryz.sizeOf365
 v65:=Tryz.zeroValue365
 i65:=by kernel_rfl
 t66:=Tryz.underlying366
 a66:=Tryz.isAgg366
 z66:=Tryz.sizeOf366
 v66:=Tryz.zeroValue366
 i66:=by kernel_rfl
 t67:=Tryz.underlying159
 a67:=Tryz.isAgg159
 z67:=Tryz.sizeOf159
 v67:=Tryz.zeroValue159
 i67:=by kernel_rfl
 g0:=by kernel_rfl
 m0:=by kernel_rfl
 g1:=by kernel_rfl
 m1:=by kernel_rfl
 g2:=by kernel_rfl
 m2:=by kernel_rfl
 g3:=by kernel_rfl
 m3:=by kernel_rfl
 g4:=by kernel_rfl
 m4:=by kernel_rfl}
open Go.RowKit in
theorem Tryz.strconv_ParseUint_10_at64_ok (s:ByteArray) (hmax:s.size≤9223372036854775806) (u:Nat) (h:Lib.parseUintB 64 s.data.toList= .ok u) (w:World):
  Calls Tryz.prog 212 #[.string s,.int .i64 10,.int .i64 64] w fun e w'=>e= .returned (.tuple #[.int .u64 u,.nilIface])∧(w'=w∨w'=Lib.bytesWorld w 5 s):=Any.strconv_ParseUint_10_at64_ok Tryz.laysPu14 s hmax u h w
def Tryz.lays145_ren:Go.Shelf.Ren:=⟨fun | 145=>161 | 220=>208 | 219=>201 | 217=>238 | 225=>239 | 224=>240 | 267=>241 | 266=>259 | 314=>260 | n=>n,fun | 9=>9 | 4=>4 | 59=>236 | 3=>3 | 5=>5 | 46=>169 | 146=>318 | 51=>25 | n=>n,fun | 1=>1 | n=>n⟩
theorem Tryz.lays145:Go.Proofs.Lays.n145 Tryz.prog Tryz.lays145_ren:= {
 mixed:=by kernel_rfl
 f145:=Tryz.func161.trans (congrArg some (by kernel_rfl))
 f217:=Tryz.func238.trans (congrArg some (by kernel_rfl))
 f219:=Tryz.func201.trans (congrArg some (by kernel_rfl))
 f220:=Tryz.func208.trans (congrArg some (by kernel_rfl))
 f224:=Tryz.func240.trans (congrArg some (by kernel_rfl))
 f225:=Tryz.func239.trans (congrArg some (by kernel_rfl))
 f266:=Tryz.func259.trans (congrArg some (by kernel_rfl))
 f267:=Tryz.func241.trans (congrArg some (by kernel_rfl))
 f314:=Tryz.func260.trans (congrArg some (by kernel_rfl))
 t3:=Tryz.underlying3
 a3:=Tryz.isAgg3
 z3:=Tryz.sizeOf3
 v3:=Tryz.zeroValue3
 t4:=Tryz.underlying4
 a4:=Tryz.isAgg4
 z4:=Tryz.sizeOf4
 v4:=Tryz.zeroValue4
 t5:=Tryz.underlying5
 a5:=Tryz.isAgg5
 z5:=Tryz.sizeOf5
 v5:=Tryz.zeroValue5
 t9:=Tryz.underlying9
 a9:=Tryz.isAgg9
 z9:=Tryz.sizeOf9
 v9:=Tryz.zeroValue9
 t46:=Tryz.underlying169
 a46:=Tryz.isAgg169
 z46:=Tryz.sizeOf169
 v46:=Tryz.zeroValue169
 t51:=Tryz.underlying25
 a51:=Tryz.isAgg25
 z51:=Tryz.sizeOf25
 v51:=Tryz.zeroValue25
 t59:=Tryz.underlying236
 a59:=Tryz.isAgg236
 z59:=Tryz.sizeOf236
 v59:=Tryz.zeroValue236
 t146:=Tryz.underlying318
 a146:=Tryz.isAgg318
 z146:=Tryz.sizeOf318
 v146:=Tryz.zeroValue318
 g1:=by kernel_rfl}
open Go.RowKit Go.Lib in
theorem Tryz.strings_Cut (s sep:ByteArray) (m:Int) (w:World) (hs:s.size<4294967281) (hm:w.cell? ⟨1,0,none⟩=some (.int .i64 m)):
  Calls Tryz.prog 161 #[.string s,.string sep] w fun e w'=>e= .returned (.tuple #[.string ⟨(Lib.cut s.data.toList sep.data.toList).1.toArray⟩,.string ⟨(Lib.cut s.data.toList sep.data.toList).2.1.toArray⟩,.bool (Lib.cut s.data.toList sep.data.toList).2.2])∧ ∃n,w'=w.drewN n:=Any.strings_Cut Tryz.lays145 s sep m w hs hm
def Tryz.lays146_ren:Go.Shelf.Ren:=⟨fun | 146=>162 | 221=>209 | 268=>244 | 138=>245 | 143=>146 | 195=>263 | 197=>256 | 218=>264 | 219=>201 | 260=>277 | 217=>238 | 225=>239 | 224=>240 | 267=>241 | 266=>259 | 314=>260 | n=>n,fun | 9=>9 | 31=>35 | 3=>3 | 4=>4 | 0=>0 | 105=>315 | 21=>21 | 5=>5 | 46=>169 | 119=>347 | 139=>350 | 138=>349 | 146=>318 | 51=>25 | n=>n,fun | 1=>1 | 3=>5 | 4=>6 | n=>n⟩
theorem Tryz.lays146:Go.Proofs.Lays.n146 Tryz.prog Tryz.lays146_ren:= {
 mixed:=by kernel_rfl
 f138:=Tryz.func245.trans (congrArg some (by kernel_rfl))
 f143:=Tryz.func146.trans (congrArg some (by kernel_rfl))
 f146:=Tryz.func162.trans (congrArg some (by kernel_rfl))
 f195:=Tryz.func263.trans (congrArg some (by kernel_rfl))
 f197:=Tryz.func256.trans (congrArg some (by kernel_rfl))
 f217:=Tryz.func238.trans (congrArg some (by kernel_rfl))
 f218:=Tryz.func264.trans (congrArg some (by kernel_rfl))
 f219:=Tryz.func201.trans (congrArg some (by kernel_rfl))
 f221:=Tryz.func209.trans (congrArg some (by kernel_rfl))
 f224:=Tryz.func240.trans (congrArg some (by kernel_rfl))
 f225:=Tryz.func239.trans (congrArg some (by kernel_rfl))
 f260:=Tryz.func277.trans (congrArg some (by kernel_rfl))
 f266:=Tryz.func259.trans (congrArg some (by kernel_rfl))
 f267:=Tryz.func241.trans (congrArg some (by kernel_rfl))
 f268:=Tryz.func244.trans (congrArg some (by kernel_rfl))
 f314:=Tryz.func260.trans (congrArg some (by kernel_rfl))
 t0:=Tryz.underlying0
 a0:=Tryz.isAgg0
 z0:=Tryz.sizeOf0
 v0:=Tryz.zeroValue0
 t3:=Tryz.underlying3
 a3:=Tryz.isAgg3
 z3:=Tryz.sizeOf3
 v3:=Tryz.zeroValue3
 t4:=Tryz.underlying4
 a4:=Tryz.isAgg4
 z4:=Tryz.sizeOf4
 v4:=Tryz.zeroValue4
 t5:=Tryz.underlying5
 a5:=Tryz.isAgg5
 z5:=Tryz.sizeOf5
 v5:=Tryz.zeroValue5
 t9:=Tryz.underlying9
 a9:=Tryz.isAgg9
 z9:=Tryz.sizeOf9
 v9:=Tryz.zeroValue9
 t21:=Tryz.underlying21
 a21:=Tryz.isAgg21
 z21:=Tryz.sizeOf21
 v21:=Tryz.zeroValue21
 t31:=Tryz.underlying35
 a31:=Tryz.isAgg35
 z31:=Tryz.sizeOf35
 v31:=Tryz.zeroValue35
 t46:=Tryz.underlying169
 a46:=Tryz.isAgg169
 z46:=Tryz.sizeOf169
 v46:=Tryz.zeroValue169
 t51:=Tryz.underlying25
 a51:=Tryz.isAgg25
 z51:=Tryz.sizeOf25
 v51:=Tryz.zeroValue25
 t105:=Tryz.underlying315
 a105:=Tryz.isAgg315
 z105:=Tryz.sizeOf315
 v105:=Tryz.zeroValue315
 t119:=Tryz.underlying347
 a119:=Tryz.isAgg347
 z119:=Tryz.sizeOf347
 t138:=Tryz.underlying349
 a138:=Tryz.isAgg349
 z138:=Tryz.sizeOf349
 v138:=Tryz.zeroValue349
 t139:=Tryz.underlying350
 a139:=Tryz.isAgg350
 z139:=Tryz.sizeOf350
 v139:=Tryz.zeroValue350
 t146:=Tryz.underlying318
 a146:=Tryz.isAgg318
 z146:=Tryz.sizeOf318
 v146:=Tryz.zeroValue318
 g1:=by kernel_rfl
 g3:=by kernel_rfl
 g4:=by kernel_rfl}
open Go.RowKit Go.Lib in
theorem Tryz.strings_Split (s sep:ByteArray) (m:Int) (w:World) (hs:s.size<4294967281) (hm:w.cell? ⟨1,0,none⟩=some (.int .i64 m)) (h1:1≤sep.size):
  Calls Tryz.prog 162 #[.string s,.string sep] w fun e w'=>
   e= .returned (.slice (some ⟨w.heap.size,0,none⟩) (Lib.countB s sep+1) (Lib.countB s sep+1))∧w'=w.alloc (.cells ((Lib.splitB sep 0 (Lib.countB s sep) s).map Value.string).toArray 9):=Any.strings_Split Tryz.lays146 (by kernel_rfl) s sep m w hs hm h1
def Tryz.lays105_ren:Go.Shelf.Ren:=⟨fun | 105=>305 | 212=>314 | 99=>315 | 165=>182 | 166=>143 | 170=>142 | 169=>145 | 263=>323 | 264=>324 | 206=>325 | 240=>199 | 241=>221 | 276=>236 | 277=>252 | n=>n,fun | 9=>9 | 3=>3 | 4=>4 | 20=>20 | 0=>0 | 46=>169 | 109=>374 | 5=>5 | 72=>218 | 76=>221 | 51=>25 | 146=>318 | 53=>24 | 148=>388 | 70=>215 | 37=>216 | 75=>46 | 127=>275 | 164=>179 | 80=>159 | n=>n,fun | n=>n⟩
theorem Tryz.lays105:Go.Proofs.Lays.n105 Tryz.prog Tryz.lays105_ren:= {
 mixed:=by kernel_rfl
 f99:=Tryz.func315.trans (congrArg some (by kernel_rfl))
 f105:=Tryz.func305.trans (congrArg some (by kernel_rfl))
 f165:=Tryz.func182.trans (congrArg some (by kernel_rfl))
 f166:=Tryz.func143.trans (congrArg some (by kernel_rfl))
 f169:=Tryz.func145.trans (congrArg some (by kernel_rfl))
 f170:=Tryz.func142.trans (congrArg some (by kernel_rfl))
 f206:=Tryz.func325.trans (congrArg some (by kernel_rfl))
 f212:=Tryz.func314.trans (congrArg some (by kernel_rfl))
 f240:=Tryz.func199.trans (congrArg some (by kernel_rfl))
 f241:=Tryz.func221.trans (congrArg some (by kernel_rfl))
 f263:=Tryz.func323.trans (congrArg some (by kernel_rfl))
 f264:=Tryz.func324.trans (congrArg some (by kernel_rfl))
 f276:=Tryz.func236.trans (congrArg some (by kernel_rfl))
 f277:=Tryz.func252.trans (congrArg some (by kernel_rfl))
 t0:=Tryz.underlying0
 a0:=Tryz.isAgg0
 z0:=Tryz.sizeOf0
 v0:=Tryz.zeroValue0
 t3:=Tryz.underlying3
 a3:=Tryz.isAgg3
 z3:=Tryz.sizeOf3
 v3:=Tryz.zeroValue3
 t4:=Tryz.underlying4
 a4:=Tryz.isAgg4
 z4:=Tryz.sizeOf4
 v4:=Tryz.zeroValue4
 t5:=Tryz.underlying5
 a5:=Tryz.isAgg5
 z5:=Tryz.sizeOf5
 v5:=Tryz.zeroValue5
 t9:=Tryz.underlying9
 a9:=Tryz.isAgg9
 z9:=Tryz.sizeOf9
 v9:=Tryz.zeroValue9
 t20:=Tryz.underlying20
 a20:=Tryz.isAgg20
 z20:=Tryz.sizeOf20
 v20:=Tryz.zeroValue20
 t37:=Tryz.underlying216
 a37:=Tryz.isAgg216
 z37:=Tryz.sizeOf216
 v37:=Tryz.zeroValue216
 t46:=Tryz.underlying169
 a46:=Tryz.isAgg169
 z46:=Tryz.sizeOf169
 v46:=Tryz.zeroValue169
 t51:=Tryz.underlying25
 a51:=Tryz.isAgg25
 z51:=Tryz.sizeOf25
 v51:=Tryz.zeroValue25
 t53:=Tryz.underlying24
 a53:=Tryz.isAgg24
 z53:=Tryz.sizeOf24
 v53:=Tryz.zeroValue24
 t70:=Tryz.underlying215
 a70:=Tryz.isAgg215
 z70:=Tryz.sizeOf215
 v70:=Tryz.zeroValue215
 t72:=Tryz.underlying218
 a72:=Tryz.isAgg218
 z72:=Tryz.sizeOf218
 v72:=Tryz.zeroValue218
 t75:=Tryz.underlying46
 a75:=Tryz.isAgg46
 z75:=Tryz.sizeOf46
 v75:=Tryz.zeroValue46
 t76:=Tryz.underlying221
 a76:=Tryz.isAgg221
 z76:=Tryz.sizeOf221
 v76:=Tryz.zeroValue221
 t109:=Tryz.underlying374
 a109:=Tryz.isAgg374
 z109:=Tryz.sizeOf374
 v109:=Tryz.zeroValue374
 t127:=Tryz.underlying275
 a127:=Tryz.isAgg275
 z127:=Tryz.sizeOf275
 v127:=Tryz.zeroValue275
 t146:=Tryz.underlying318
 a146:=Tryz.isAgg318
 z146:=Tryz.sizeOf318
 v146:=Tryz.zeroValue318
 t148:=Tryz.underlying388
 a148:=Tryz.isAgg388
 z148:=Tryz.sizeOf388
 v148:=Tryz.zeroValue388
 t164:=Tryz.underlying179
 a164:=Tryz.isAgg179
 z164:=Tryz.sizeOf179
 v164:=Tryz.zeroValue179}
theorem Tryz.Builder_Extra_105:Builder.Extra Tryz.prog Tryz.lays105_ren:= {
 sizeBuilder:=by kernel_rfl
 liesBuilder:=by kernel_rfl
 t5:=Tryz.underlying5
 a5:=Tryz.isAgg5
 z5:=Tryz.sizeOf5
 v5:=Tryz.zeroValue5
 infoByte:=by kernel_rfl
 cellsByte:=by kernel_rfl
 sizeByte:=by kernel_rfl
 neB5:=by decide}
open Go.RowKit Go.Lib in
theorem Tryz.strings_Repeat (s:ByteArray) (c:Nat) (w:World) (hc:c≤9223372036854775807) (hlen:s.size*c≤140737488355328):
  Calls Tryz.prog 305 #[.string s,.int .i64 c] w fun e w'=>e= .returned (.string ⟨(Lib.repeatL s.data.toList c).toArray⟩)∧Below w.heap.size w w':=Any.strings_Repeat Tryz.lays105 Tryz.Builder_Extra_105 s c w hc hlen
end Go.Proofs
namespace Go.Proofs.YthkilaondjgemaaGreatDoor.Abs
open Go.Proofs
open Go.Shelf Go.RowKit Go.Sort Go.Lib
theorem ph (w:World) (T:TypeId) (nd:Nat) (hs:nd≤24):Holds (fun (b:UInt8)=>Value.int .u8 (b.toNat:Int)) (w.alloc (.cells zeros24 T)) w.heap.size 0 (Array.replicate nd (0:UInt8)):=fun j hj=>by
 have hj':j<nd:=by simpa using hj
 refine ⟨?_,World.frozen?_alloc_new _ _ _ _⟩
 rw [World.cell?_alloc_new,zeros24_at _ (by omega),getElem!_pos _ j hj]
 simp
theorem pi (w:World) (o:Obj) (dk:Array UInt8) (k:Nat): ∃os,(putRow (fun (b:UInt8)=>Value.int .u8 (b.toNat:Int)) (w.alloc o) w.heap.size 0 dk).drewN k=grow (w.drewN k) os:=by
 rw [alloc_eq_grow]
 obtain ⟨os',_,e⟩:=putRow_grow_new (fun (b:UInt8)=>Value.int .u8 (b.toNat:Int)) w #[o] w.heap.size 0 dk (Nat.le_refl _)
 exact ⟨os',by rw [e];rfl⟩
set_option maxHeartbeats 6400000 in
set_option maxRecDepth 100000 in
theorem pj (u:Nat) (hu64:u<18446744073709551616) (w:World) (htab:Lib.TabIs Tryz.prog w "internal/strconv.uint64pow10" .u64 Lib.pow10Tab):
  Calls Tryz.prog 275 #[.int .u64 u,.int .i64 10] w fun e w'=>e= .returned (.string ⟨(Lib.decDigits u).toArray⟩)∧ ∃k os,w'=grow (w.drewN k) os:=by
 have mixed:Tryz.prog.follows .mixedOrders=true:=by kernel_rfl
 have e171: ∀args w,(callFunc 248 args).run Tryz.prog w= .ok (.enter 248 args) w:=enters_of (fn:=Tryz.f248) (by kernel_rfl) (by kernel_rfl) rfl
 have e172: ∀args w,(callFunc 249 args).run Tryz.prog w= .ok (.enter 249 args) w:=enters_of (fn:=Tryz.f249) (by kernel_rfl) (by kernel_rfl) rfl
 have e173: ∀args w,(callFunc 250 args).run Tryz.prog w= .ok (.enter 250 args) w:=enters_of (fn:=Tryz.f250) (by kernel_rfl) (by kernel_rfl) rfl
 have hf:Tryz.prog.funcs[275]? =some Tryz.f275:=by kernel_rfl
 have hn:Tryz.f275.ntmps=32:=rfl
 by_cases hs:u<100
 ·go_enter hf,hn
  go_wp2_with (go_at_fn 248;refine (Tryz.internal_strconv_small u hs _).mono ?_;rintro e w' ⟨rfl,rfl⟩)
  go_ret
  exact ⟨rfl,0,#[],by simp [World.drewN_zero]⟩
 ·have hu1:1≤u:=by omega
  have hnd20:Lib.nDigits u≤20:=by have:=Lib.numDigits_eq u hu1 hu64;split at this<;>omega
  have hb3:Lib.nDigits u≤24:=by omega
  have hal:Tryz.prog.arrayLen 308=24:=by simp [Program.arrayLen,Tryz.underlying308]
  have hsl1: ∀W,(Instr.sliceAt 308 (.pointer (some ⟨w.heap.size,0,none⟩)) none (some (.int .i64 (Lib.nDigits u:Int))) none).run Tryz.prog W= .ok (.slice (some ⟨w.heap.size,0,none⟩) (Lib.nDigits u) 24) W:=fun W=>by
   rw [run_sliceAt_array_h W 308 ⟨w.heap.size,0,none⟩ (by simp [Program.arrayLen,Program.elem,Tryz.underlying308]) .i64 (Lib.nDigits u:Int) (by omega) (by rw [hal];omega)]
   go_simp
  have hH0:=ph w 308 (Lib.nDigits u) (by omega)
  have hfmt:=Tryz.internal_strconv_formatBase10 w.heap.size 0 24 u (Array.replicate (Lib.nDigits u) 0) (w.alloc (.cells Lib.zeros24 308)) hH0 (by rw [Array.size_replicate];exact Lib.lt_pow_nDigits u) hu64 (by rw [Array.size_replicate];omega)
  rw [Array.size_replicate] at hfmt
  have HH0:=Lib.hid hH0
  clear hH0 hal
  go_enter hf,hn
  go_wp2_with (first
   | (go_at_fn 249;refine (Tryz.internal_strconv_numDigits u hu1 hu64 _ (Lib.tabIs_alloc htab _)).mono ?_;rintro e w' ⟨rfl,rfl⟩))
  go_at_fn 250
  refine hfmt.mono ?_
  rintro e w' ⟨rfl,k,v',dk,rfl,hF⟩
  have hcv:(convert 216 9 (.slice (some ⟨w.heap.size,0,none⟩) (Lib.nDigits u) 24)).run Tryz.prog ((putRow (fun (b:UInt8)=>Value.int .u8 (b.toNat:Int)) (w.alloc (.cells Lib.zeros24 308)) w.heap.size 0 dk).drewN k)= .ok (.string ⟨(Lib.decDigits u).toArray⟩) ((putRow (fun (b:UInt8)=>Value.int .u8 (b.toNat:Int)) (w.alloc (.cells Lib.zeros24 308)) w.heap.size 0 dk).drewN k):=by
   have h:=run_convert_bytes_back (P:=Tryz.prog) ((putRow (fun (b:UInt8)=>Value.int .u8 (b.toNat:Int)) (w.alloc (.cells Lib.zeros24 308)) w.heap.size 0 dk).drewN k) 216 9 5 ⟨w.heap.size,0,none⟩ 24 (Lib.decDigits u) Tryz.underlying216 Tryz.underlying5 Tryz.underlying9 (fun j hj=>by
    rw [Lib.row_is_numeral hF j hj,Lib.add_plain,World.cell?_drewN]
    exact cell?_putRow (fun (b:UInt8)=>Value.int .u8 (b.toNat:Int)) _ w.heap.size 0 _ dk HH0.out (by rw [hF.size,Array.size_replicate]) j (by rw [hF.size];rw [Lib.decDigits_length] at hj;exact hj))
   rw [Lib.decDigits_length] at h
   exact h
  go_wp2
  go_ret
  obtain ⟨os,eo⟩:=pi w (.cells Lib.zeros24 308) dk k
  exact ⟨rfl,k,os,eo⟩
set_option maxRecDepth 100000 in
theorem pm (u:Nat) (hu64:u<18446744073709551616) (w:World) (htab:Lib.TabIs Tryz.prog w "internal/strconv.uint64pow10" .u64 Lib.pow10Tab):
  Calls Tryz.prog 253 #[.int .u64 u,.int .i64 10] w fun e w'=>e= .returned (.string ⟨(Lib.decDigits u).toArray⟩)∧ ∃k os,w'=grow (w.drewN k) os:=by
 have mixed:Tryz.prog.follows .mixedOrders=true:=by kernel_rfl
 have e141: ∀args w,(callFunc 275 args).run Tryz.prog w= .ok (.enter 275 args) w:=enters_of (fn:=Tryz.f275) (by kernel_rfl) (by kernel_rfl) rfl
 have hf:Tryz.prog.funcs[253]? =some Tryz.f253:=by kernel_rfl
 have hn:Tryz.f253.ntmps=8:=rfl
 go_enter hf,hn
 go_wp2_with (go_at_fn 275;refine (pj u hu64 _ htab).mono ?_;rintro e w' ⟨rfl,k,os,rfl⟩)
 go_ret
 exact ⟨rfl,k,os,rfl⟩
end Go.Proofs.YthkilaondjgemaaGreatDoor.Abs
namespace Go.Proofs.YthkilaondjgemaaGreatDoor.Abs
open Go Go.Proofs Go.RowKit Go.Extern.Stop Go.Stop Go.Extern
theorem pn (t:Value) (w:World):
  Calls Tryz.prog 82 #[.nilIface,t] w fun e w'=>e= .returned (.bool false)∧w'=w:=by
 go_enter Tryz.func82,Tryz.ntmps82
 go_wp2
 go_ret
 exact ⟨rfl,rfl⟩
theorem jh (t:Addr) (w:World):(ReflectliteValue.unpack (.iface 131 (.pointer (some t)))).run Tryz.prog w
  = .ok (.agg #[.pointer (some ⟨14,131,none⟩),.pointer (some ⟨w.heap.size,0,none⟩),.int .u64 150]) (w.alloc (.cells #[.pointer (some t)] 131)):=by kernel_rfl
theorem jj (a:Addr) (w:World):(ReflectliteValue.methodAny (ReflectliteValue.valueError "reflectlite.Value.Type" 0) (fun t _ _ _=>ReflectliteType.toType t) #[.agg #[.pointer (some ⟨14,131,none⟩),.pointer (some a),.int .u64 150]]).run Tryz.prog w
  = .ok (.iface 204 (.agg #[.pointer (some ⟨14,131,none⟩)])) w:=by kernel_rfl
theorem jk (h:Value) (w:World):(Go.method 526 204 (.agg #[h]) "Kind").run Tryz.prog w= .ok (346,h) w:=by kernel_rfl
theorem jl (w:World):((ReflectliteType.abiMethod fun t=>(fun a:Nat=>Value.int IntKind.u8 (a:Int)) <$> Rtype.kind t) #[.pointer (some ⟨14,131,none⟩)]).run Tryz.prog w= .ok (.int .u8 22) w:=by kernel_rfl
theorem jm (w:World):((ReflectliteType.abiMethod fun t=>(fun a:Nat=>Value.int IntKind.u8 (a:Int)) <$> Rtype.kind t) #[.pointer (some ⟨14,129,none⟩)]).run Tryz.prog w= .ok (.int .u8 22) w:=by kernel_rfl
theorem lP (z:Sem Value) (f:TypeId→Addr→Nat→Nat→Sem Value) (v:Value):
  ReflectliteValue.method z f #[v]=(do match ←ReflectliteValue.parts v with | none=>z | some (t,a,fl)=>f t a fl (fl%32)):=rfl
theorem lQ (a:Addr) (w:World):(ReflectliteValue.parts (.agg #[.pointer (some ⟨14,131,none⟩),.pointer (some a),.int .u64 150])).run Tryz.prog w= .ok (some (131,a,150)) w:=by kernel_rfl
theorem jo (a p:Addr) (W:World) (ha:W.cell? a=some (.pointer (some p))):
  (ReflectliteValue.method (ReflectliteValue.valueError "reflectlite.Value.IsNil" 0) ReflectliteValue.isNil #[.agg #[.pointer (some ⟨14,131,none⟩),.pointer (some a),.int .u64 150]]).run Tryz.prog W= .ok (.bool false) W:=by
 rw [lP]
 simp only [Sem.run_bind,lQ,Result.andThen]
 simp [ReflectliteValue.isNil,loadVar,isAgg,underlying,Tryz.underlying131,ha,Result.andThen]
theorem jp (h:Value) (w:World):(Go.method 526 204 (.agg #[h]) "Elem").run Tryz.prog w= .ok (359,.agg #[h]) w:=by kernel_rfl
theorem jq (h:Value) (w:World):(Go.method 526 204 (.agg #[h]) "Implements").run Tryz.prog w= .ok (360,.agg #[h]) w:=by kernel_rfl
theorem jt (h:Value) (w:World):(Go.method 526 204 (.agg #[h]) "AssignableTo").run Tryz.prog w= .ok (357,.agg #[h]) w:=by kernel_rfl
theorem ju (w:World):(ReflectliteType.method ReflectliteType.elem #[.agg #[.pointer (some ⟨14,131,none⟩)]]).run Tryz.prog w= .ok (.iface 204 (.agg #[.pointer (some ⟨14,129,none⟩)])) w:=by kernel_rfl
theorem jv (w:World):(ReflectliteType.relation "Implements" ReflectliteType.implements_ #[.agg #[.pointer (some ⟨14,129,none⟩)],.iface 204 (.agg #[.pointer (some ⟨14,46,none⟩)])]).run Tryz.prog w= .ok (.bool true) w:=by kernel_rfl
theorem po (v:Value) (w:World):(ReflectliteType.typeOf #[.iface 129 v]).run Tryz.prog w= .ok (.iface 204 (.agg #[.pointer (some ⟨14,129,none⟩)])) w:=by kernel_rfl
theorem pp (w:World):(ReflectliteType.relation "AssignableTo" ReflectliteType.assignableTo #[.agg #[.pointer (some ⟨14,129,none⟩)],.iface 204 (.agg #[.pointer (some ⟨14,129,none⟩)])]).run Tryz.prog w= .ok (.bool true) w:=by kernel_rfl
theorem pq (e:Addr) (w:World):(ReflectliteValue.unpack (.iface 129 (.pointer (some e)))).run Tryz.prog w
  = .ok (.agg #[.pointer (some ⟨14,129,none⟩),.pointer (some ⟨w.heap.size,0,none⟩),.int .u64 150]) (w.alloc (.cells #[.pointer (some e)] 129)):=by kernel_rfl
theorem pr (w:World):(Rtype.elem? 131).run Tryz.prog w= .ok (some 129) w:=by kernel_rfl
theorem pw (p:Addr) (w:World):(ReflectliteValue.mk 129 p ReflectliteValue.flagAddr).run Tryz.prog w= .ok (.agg #[.pointer (some ⟨14,129,none⟩),.pointer (some p),.int .u64 406]) w:=by kernel_rfl
theorem px (a p:Addr) (W:World) (ha:W.cell? a=some (.pointer (some p))):
  (ReflectliteValue.method (ReflectliteValue.valueError "reflectlite.Value.Elem" 0) ReflectliteValue.elem #[.agg #[.pointer (some ⟨14,131,none⟩),.pointer (some a),.int .u64 150]]).run Tryz.prog W
   = .ok (.agg #[.pointer (some ⟨14,129,none⟩),.pointer (some p),.int .u64 406]) W:=by
 rw [lP]
 simp only [Sem.run_bind,lQ,Result.andThen]
 simp [ReflectliteValue.elem,loadVar,isAgg,underlying,Tryz.underlying131,ha,Result.andThen,pr,pw]
theorem py (v x:Value):ReflectliteValue.set #[v,x]=(do
  let (some (dst,a,fl),some (src,b,_)):=(←ReflectliteValue.parts v,←ReflectliteValue.parts x)
   | unsupported (.noEntry "extern/(internal/reflectlite.Value).Set.zeroValue")
  if fl/ReflectliteValue.flagAddr%2==0 then unsupported (.noEntry "extern/(internal/reflectlite.Value).Set.unaddressable")
  let val ←loadVar src b
  if ←Rtype.directlyAssignable dst src then storeVar dst a val
  else if ←Rtype.implements dst src then
   if (←Rtype.kind src)==20 then
    match val with
    | .nilIface=>unsupported (.noEntry "extern/reflectlite: a nil value of one interface type handed on as a value of another")
    | _=>storeVar dst a val
   else storeVar dst a (.iface src val)
  else panicString ("reflectlite.Set: value of type "++(←Rtype.spelt src)++" is not assignable to type "++(←Rtype.spelt dst))
  pure (.tuple #[])):=rfl
theorem pz (a:Addr) (w:World):(ReflectliteValue.parts (.agg #[.pointer (some ⟨14,129,none⟩),.pointer (some a),.int .u64 406])).run Tryz.prog w= .ok (some (129,a,406)) w:=by kernel_rfl
theorem pA (a:Addr) (w:World):(ReflectliteValue.parts (.agg #[.pointer (some ⟨14,129,none⟩),.pointer (some a),.int .u64 150])).run Tryz.prog w= .ok (some (129,a,150)) w:=by kernel_rfl
theorem pB (w:World):(Rtype.directlyAssignable 129 129).run Tryz.prog w= .ok true w:=by kernel_rfl
theorem pC (ta b e:Addr) (old:Value) (W:World) (hb:W.cell? b=some (.pointer (some e))) (ht:W.cell? ta=some old) (hf:W.frozen? ta=false):
  (ReflectliteValue.set #[.agg #[.pointer (some ⟨14,129,none⟩),.pointer (some ta),.int .u64 406],.agg #[.pointer (some ⟨14,129,none⟩),.pointer (some b),.int .u64 150]]).run Tryz.prog W
   = .ok (.tuple #[]) (W.setCell ta (.pointer (some e))):=by
 rw [py]
 simp only [Sem.run_bind,pz,pA,Result.andThen]
 simp [ReflectliteValue.flagAddr,loadVar,isAgg,underlying,Tryz.underlying129,hb,Result.andThen,pB,storeVar,Value.cells,storeCells,Addr.add]
 rw [run_store Tryz.prog W ta _ _ (by rfl)]
 simp [ht,hf]
set_option maxHeartbeats 4000000 in
theorem pD (e t:Addr) (old:Value) (w:World) (hg:w.cell? ⟨0,0,none⟩=some (.iface 204 (.agg #[.pointer (some ⟨14,46,none⟩)]))) (ht0:w.cell? t=some old) (hf0:w.frozen? t=false):
  Calls Tryz.prog 82 #[.iface 129 (.pointer (some e)),.iface 131 (.pointer (some t))] w fun ev w'=>ev= .returned (.bool true)∧w'=((((w.alloc (.cells #[.pointer (some t)] 131)).alloc (.cells #[.pointer (some ⟨14,131,none⟩),.pointer (some ⟨w.heap.size,0,none⟩),.int .u64 150] 182)).alloc (.cells #[.pointer (some ⟨14,131,none⟩),.pointer (some ⟨w.heap.size,0,none⟩),.int .u64 150] 182)).alloc (.cells #[.pointer (some e)] 129)).setCell t (.pointer (some e)):=by
 have h6:= @run_callFunc_extern Tryz.prog 120 _ (fun args=>ReflectliteValue.unpack (args.getD 0 (.tuple #[]))) Tryz.func120 (by kernel_rfl) (by kernel_rfl) (by kernel_rfl) (by kernel_rfl)
 have h7:= @run_callFunc_extern Tryz.prog 121 _ (ReflectliteValue.methodAny (ReflectliteValue.valueError "reflectlite.Value.Type" 0) (fun t _ _ _=>ReflectliteType.toType t)) Tryz.func121 (by kernel_rfl) (by kernel_rfl) (by kernel_rfl) (by kernel_rfl)
 have h8:= @run_callFunc_extern Tryz.prog 122 _ (ReflectliteValue.method (ReflectliteValue.valueError "reflectlite.Value.IsNil" 0) ReflectliteValue.isNil) Tryz.func122 (by kernel_rfl) (by kernel_rfl) (by kernel_rfl) (by kernel_rfl)
 have h27:= @run_callFunc_extern Tryz.prog 346 _ (ReflectliteType.abiMethod fun t=>do pure (.int .u8 (←Rtype.kind t))) Tryz.func346 (by kernel_rfl) (by kernel_rfl) (by kernel_rfl) (by kernel_rfl)
 have h37:= @run_callFunc_extern Tryz.prog 359 _ (ReflectliteType.method ReflectliteType.elem) Tryz.func359 (by kernel_rfl) (by kernel_rfl) (by kernel_rfl) (by kernel_rfl)
 have h38:= @run_callFunc_extern Tryz.prog 360 _ (ReflectliteType.relation "Implements" ReflectliteType.implements_) Tryz.func360 (by kernel_rfl) (by kernel_rfl) (by kernel_rfl) (by kernel_rfl)
 have h10:= @run_callFunc_extern Tryz.prog 95 _ ReflectliteType.typeOf Tryz.func95 (by kernel_rfl) (by kernel_rfl) (by kernel_rfl) (by kernel_rfl)
 have h35:= @run_callFunc_extern Tryz.prog 357 _ (ReflectliteType.relation "AssignableTo" ReflectliteType.assignableTo) Tryz.func357 (by kernel_rfl) (by kernel_rfl) (by kernel_rfl) (by kernel_rfl)
 have h11:= @run_callFunc_extern Tryz.prog 171 _ (ReflectliteValue.method (ReflectliteValue.valueError "reflectlite.Value.Elem" 0) ReflectliteValue.elem) Tryz.func171 (by kernel_rfl) (by kernel_rfl) (by kernel_rfl) (by kernel_rfl)
 have h12:= @run_callFunc_extern Tryz.prog 172 _ ReflectliteValue.set Tryz.func172 (by kernel_rfl) (by kernel_rfl) (by kernel_rfl) (by kernel_rfl)
 have tO:=po
 have mA:=jt
 have a25:=pp
 have v25:=pq
 have f6:=jh
 have f7:=jj
 have mK:=jk
 have mE:=jp
 have mI:=jq
 have k27:=jl
 have k25:=jm
 have e27:=ju
 have i25:=jv
 have n8:=jo ⟨w.heap.size,0,none⟩ t ((w.alloc (.cells #[.pointer (some t)] 131)).alloc (.cells #[.pointer (some ⟨14,131,none⟩),.pointer (some ⟨w.heap.size,0,none⟩),.int .u64 150] 182)) (by simp)
 have hlt:0<w.heap.size:=by
  rcases Nat.eq_zero_or_pos w.heap.size with h0 | h
  ·simp [World.cell?,h0] at hg
  ·exact h
 have hg2:((w.alloc (.cells #[.pointer (some t)] 131)).alloc (.cells #[.pointer (some ⟨14,131,none⟩),.pointer (some ⟨w.heap.size,0,none⟩),.int .u64 150] 182)).cell? ⟨0,0,none⟩=some (.iface 204 (.agg #[.pointer (some ⟨14,46,none⟩)])):=by
  rw [World.cell?_alloc_lt _ _ ⟨0,0,none⟩ (by simp),World.cell?_alloc_lt _ _ ⟨0,0,none⟩ hlt];exact hg
 have htl:t.block<w.heap.size:=by
  rcases Nat.lt_or_ge t.block w.heap.size with h | h
  ·exact h
  ·simp [World.cell?,Array.getElem?_eq_none h] at ht0
 have el:=px ⟨w.heap.size,0,none⟩ t (((w.alloc (.cells #[.pointer (some t)] 131)).alloc (.cells #[.pointer (some ⟨14,131,none⟩),.pointer (some ⟨w.heap.size,0,none⟩),.int .u64 150] 182)).alloc (.cells #[.pointer (some ⟨14,131,none⟩),.pointer (some ⟨w.heap.size,0,none⟩),.int .u64 150] 182)) (by rw [World.cell?_alloc_lt _ _ ⟨w.heap.size,0,none⟩ (by simp;omega)];simp)
 have st:=pC t ⟨w.heap.size+1+1+1,0,none⟩ e old ((((w.alloc (.cells #[.pointer (some t)] 131)).alloc (.cells #[.pointer (some ⟨14,131,none⟩),.pointer (some ⟨w.heap.size,0,none⟩),.int .u64 150] 182)).alloc (.cells #[.pointer (some ⟨14,131,none⟩),.pointer (some ⟨w.heap.size,0,none⟩),.int .u64 150] 182)).alloc (.cells #[.pointer (some e)] 129))
  (by rw [World.cell?_alloc_at _ _ _ _ (by simp)];rfl)
  (by rw [World.cell?_alloc_lt _ _ t (by simp;omega),World.cell?_alloc_lt _ _ t (by simp;omega),World.cell?_alloc_lt _ _ t (by simp;omega),World.cell?_alloc_lt _ _ t htl];exact ht0)
  (by rw [World.frozen?_alloc_old _ _ t (by simp;omega),World.frozen?_alloc_old _ _ t (by simp;omega),World.frozen?_alloc_old _ _ t (by simp;omega),World.frozen?_alloc_old _ _ t (Nat.ne_of_lt htl)];exact hf0)
 go_enter Tryz.func82,Tryz.ntmps82
 go_wp2
 refine wp_loop_rounds 1 ?_
 rw [rounds_succ]
 go_wp2
 go_ret
 exact ⟨rfl,rfl⟩
theorem pE {P:Program} {w:World} {v:Value} {xT aT t:TypeId} {want:Array (String×TypeId)} {i:TypeInfo} {z:Value} (hd:P.underlying aT=some (.interface want)) (hi:P.info? t=some i) (hl:dV want i.methods=true) (hz:bo P aT=some z):
  (Instr.typeAssert (.iface t v) xT aT true).run P w= .ok (.tuple #[z,.bool false]) w:=by
 obtain ⟨m,hm⟩:=im.2 hl
 unfold Instr.typeAssert
 simp only [Sem.run_bind,aq hd,dH hi,Result.andThen_ok,hm]
 simp [c6 hz]
theorem eA {t I:TypeId} (hb:((Tryz.prog.info? t).any fun i=>match Tryz.prog.underlying I with
 | some (.interface want)=>dV want i.methods
 | _=>false)=true) (hz:bo Tryz.prog I=some .nilIface) (v:Value) (xT:TypeId) (w:World):(Instr.typeAssert (.iface t v) xT I true).run Tryz.prog w= .ok (.tuple #[.nilIface,.bool false]) w:=by
 cases hi:Tryz.prog.info? t with
 | none=>rw [hi] at hb;cases hb
 | some i=>
  rw [hi] at hb
  simp only [Option.any_some] at hb
  split at hb
  ·rename_i want hd;exact pE hd hi hb hz
  ·cases hb
theorem pF (v:Value) (w:World):(ReflectliteType.typeOf #[.iface 64 v]).run Tryz.prog w= .ok (.iface 204 (.agg #[.pointer (some ⟨14,64,none⟩)])) w:=by kernel_rfl
theorem pG (w:World):(ReflectliteType.relation "AssignableTo" ReflectliteType.assignableTo #[.agg #[.pointer (some ⟨14,64,none⟩)],.iface 204 (.agg #[.pointer (some ⟨14,129,none⟩)])]).run Tryz.prog w= .ok (.bool false) w:=by kernel_rfl
theorem pH (v:Value) (xT:TypeId) (w:World):(Instr.typeAssert (.iface 64 v) xT 251 true).run Tryz.prog w= .ok (.tuple #[.nilIface,.bool false]) w:=eA (by kernel_rfl) (by kernel_rfl) v xT w
theorem pI (v:Value) (xT:TypeId) (w:World):(Instr.typeAssert (.iface 64 v) xT 209 true).run Tryz.prog w= .ok (.tuple #[.nilIface,.bool false]) w:=eA (by kernel_rfl) (by kernel_rfl) v xT w
theorem pJ (v:Value) (xT:TypeId) (w:World):(Instr.typeAssert (.iface 64 v) xT 211 true).run Tryz.prog w= .ok (.tuple #[.nilIface,.bool false]) w:=eA (by kernel_rfl) (by kernel_rfl) v xT w
set_option maxHeartbeats 4000000 in
theorem pK (v:Value) (t:Addr) (w:World) (hg:w.cell? ⟨0,0,none⟩=some (.iface 204 (.agg #[.pointer (some ⟨14,46,none⟩)]))):
  Calls Tryz.prog 82 #[.iface 64 v,.iface 131 (.pointer (some t))] w fun ev w'=>ev= .returned (.bool false)∧w'=(((w.alloc (.cells #[.pointer (some t)] 131)).alloc (.cells #[.pointer (some ⟨14,131,none⟩),.pointer (some ⟨w.heap.size,0,none⟩),.int .u64 150] 182)).alloc (.cells #[.pointer (some ⟨14,131,none⟩),.pointer (some ⟨w.heap.size,0,none⟩),.int .u64 150] 182)):=by
 have h6:= @run_callFunc_extern Tryz.prog 120 _ (fun args=>ReflectliteValue.unpack (args.getD 0 (.tuple #[]))) Tryz.func120 (by kernel_rfl) (by kernel_rfl) (by kernel_rfl) (by kernel_rfl)
 have h7:= @run_callFunc_extern Tryz.prog 121 _ (ReflectliteValue.methodAny (ReflectliteValue.valueError "reflectlite.Value.Type" 0) (fun t _ _ _=>ReflectliteType.toType t)) Tryz.func121 (by kernel_rfl) (by kernel_rfl) (by kernel_rfl) (by kernel_rfl)
 have h8:= @run_callFunc_extern Tryz.prog 122 _ (ReflectliteValue.method (ReflectliteValue.valueError "reflectlite.Value.IsNil" 0) ReflectliteValue.isNil) Tryz.func122 (by kernel_rfl) (by kernel_rfl) (by kernel_rfl) (by kernel_rfl)
 have h27:= @run_callFunc_extern Tryz.prog 346 _ (ReflectliteType.abiMethod fun t=>do pure (.int .u8 (←Rtype.kind t))) Tryz.func346 (by kernel_rfl) (by kernel_rfl) (by kernel_rfl) (by kernel_rfl)
 have h37:= @run_callFunc_extern Tryz.prog 359 _ (ReflectliteType.method ReflectliteType.elem) Tryz.func359 (by kernel_rfl) (by kernel_rfl) (by kernel_rfl) (by kernel_rfl)
 have h38:= @run_callFunc_extern Tryz.prog 360 _ (ReflectliteType.relation "Implements" ReflectliteType.implements_) Tryz.func360 (by kernel_rfl) (by kernel_rfl) (by kernel_rfl) (by kernel_rfl)
 have h10:= @run_callFunc_extern Tryz.prog 95 _ ReflectliteType.typeOf Tryz.func95 (by kernel_rfl) (by kernel_rfl) (by kernel_rfl) (by kernel_rfl)
 have h35:= @run_callFunc_extern Tryz.prog 357 _ (ReflectliteType.relation "AssignableTo" ReflectliteType.assignableTo) Tryz.func357 (by kernel_rfl) (by kernel_rfl) (by kernel_rfl) (by kernel_rfl)
 have tO:=pF v
 have mA:=jt
 have aE:=pG
 have m0:=pH v
 have m1:=pI v
 have m2:=pJ v
 have f6:=jh
 have f7:=jj
 have mK:=jk
 have mE:=jp
 have mI:=jq
 have k27:=jl
 have k25:=jm
 have e27:=ju
 have i25:=jv
 have n8:=jo ⟨w.heap.size,0,none⟩ t ((w.alloc (.cells #[.pointer (some t)] 131)).alloc (.cells #[.pointer (some ⟨14,131,none⟩),.pointer (some ⟨w.heap.size,0,none⟩),.int .u64 150] 182)) (by simp)
 have hlt:0<w.heap.size:=by
  rcases Nat.eq_zero_or_pos w.heap.size with h0 | h
  ·simp [World.cell?,h0] at hg
  ·exact h
 have hg2:((w.alloc (.cells #[.pointer (some t)] 131)).alloc (.cells #[.pointer (some ⟨14,131,none⟩),.pointer (some ⟨w.heap.size,0,none⟩),.int .u64 150] 182)).cell? ⟨0,0,none⟩=some (.iface 204 (.agg #[.pointer (some ⟨14,46,none⟩)])):=by
  rw [World.cell?_alloc_lt _ _ ⟨0,0,none⟩ (by simp),World.cell?_alloc_lt _ _ ⟨0,0,none⟩ hlt];exact hg
 go_enter Tryz.func82,Tryz.ntmps82
 go_wp2
 refine wp_loop_rounds 1 ?_
 rw [rounds_succ]
 go_wp2
 go_ret
 exact ⟨rfl,rfl⟩
theorem pL (v:Value) (w:World):(ReflectliteType.typeOf #[.iface 135 v]).run Tryz.prog w= .ok (.iface 204 (.agg #[.pointer (some ⟨14,135,none⟩)])) w:=by kernel_rfl
theorem pM (w:World):(ReflectliteType.relation "AssignableTo" ReflectliteType.assignableTo #[.agg #[.pointer (some ⟨14,135,none⟩)],.iface 204 (.agg #[.pointer (some ⟨14,129,none⟩)])]).run Tryz.prog w= .ok (.bool false) w:=by kernel_rfl
theorem pN (v:Value) (xT:TypeId) (w:World):(Instr.typeAssert (.iface 135 v) xT 251 true).run Tryz.prog w= .ok (.tuple #[.nilIface,.bool false]) w:=eA (by kernel_rfl) (by kernel_rfl) v xT w
theorem pO (v:Value) (xT:TypeId) (w:World):(Instr.typeAssert (.iface 135 v) xT 209 true).run Tryz.prog w= .ok (.tuple #[.nilIface,.bool false]) w:=eA (by kernel_rfl) (by kernel_rfl) v xT w
theorem pP (v:Value) (xT:TypeId) (w:World):(Instr.typeAssert (.iface 135 v) xT 211 true).run Tryz.prog w= .ok (.tuple #[.nilIface,.bool false]) w:=eA (by kernel_rfl) (by kernel_rfl) v xT w
set_option maxHeartbeats 4000000 in
theorem pQ (v:Value) (t:Addr) (w:World) (hg:w.cell? ⟨0,0,none⟩=some (.iface 204 (.agg #[.pointer (some ⟨14,46,none⟩)]))):
  Calls Tryz.prog 82 #[.iface 135 v,.iface 131 (.pointer (some t))] w fun ev w'=>ev= .returned (.bool false)∧w'=(((w.alloc (.cells #[.pointer (some t)] 131)).alloc (.cells #[.pointer (some ⟨14,131,none⟩),.pointer (some ⟨w.heap.size,0,none⟩),.int .u64 150] 182)).alloc (.cells #[.pointer (some ⟨14,131,none⟩),.pointer (some ⟨w.heap.size,0,none⟩),.int .u64 150] 182)):=by
 have h6:= @run_callFunc_extern Tryz.prog 120 _ (fun args=>ReflectliteValue.unpack (args.getD 0 (.tuple #[]))) Tryz.func120 (by kernel_rfl) (by kernel_rfl) (by kernel_rfl) (by kernel_rfl)
 have h7:= @run_callFunc_extern Tryz.prog 121 _ (ReflectliteValue.methodAny (ReflectliteValue.valueError "reflectlite.Value.Type" 0) (fun t _ _ _=>ReflectliteType.toType t)) Tryz.func121 (by kernel_rfl) (by kernel_rfl) (by kernel_rfl) (by kernel_rfl)
 have h8:= @run_callFunc_extern Tryz.prog 122 _ (ReflectliteValue.method (ReflectliteValue.valueError "reflectlite.Value.IsNil" 0) ReflectliteValue.isNil) Tryz.func122 (by kernel_rfl) (by kernel_rfl) (by kernel_rfl) (by kernel_rfl)
 have h27:= @run_callFunc_extern Tryz.prog 346 _ (ReflectliteType.abiMethod fun t=>do pure (.int .u8 (←Rtype.kind t))) Tryz.func346 (by kernel_rfl) (by kernel_rfl) (by kernel_rfl) (by kernel_rfl)
 have h37:= @run_callFunc_extern Tryz.prog 359 _ (ReflectliteType.method ReflectliteType.elem) Tryz.func359 (by kernel_rfl) (by kernel_rfl) (by kernel_rfl) (by kernel_rfl)
 have h38:= @run_callFunc_extern Tryz.prog 360 _ (ReflectliteType.relation "Implements" ReflectliteType.implements_) Tryz.func360 (by kernel_rfl) (by kernel_rfl) (by kernel_rfl) (by kernel_rfl)
 have h10:= @run_callFunc_extern Tryz.prog 95 _ ReflectliteType.typeOf Tryz.func95 (by kernel_rfl) (by kernel_rfl) (by kernel_rfl) (by kernel_rfl)
 have h35:= @run_callFunc_extern Tryz.prog 357 _ (ReflectliteType.relation "AssignableTo" ReflectliteType.assignableTo) Tryz.func357 (by kernel_rfl) (by kernel_rfl) (by kernel_rfl) (by kernel_rfl)
 have tO:=pL v
 have mA:=jt
 have aE:=pM
 have m0:=pN v
 have m1:=pO v
 have m2:=pP v
 have f6:=jh
 have f7:=jj
 have mK:=jk
 have mE:=jp
 have mI:=jq
 have k27:=jl
 have k25:=jm
 have e27:=ju
 have i25:=jv
 have n8:=jo ⟨w.heap.size,0,none⟩ t ((w.alloc (.cells #[.pointer (some t)] 131)).alloc (.cells #[.pointer (some ⟨14,131,none⟩),.pointer (some ⟨w.heap.size,0,none⟩),.int .u64 150] 182)) (by simp)
 have hlt:0<w.heap.size:=by
  rcases Nat.eq_zero_or_pos w.heap.size with h0 | h
  ·simp [World.cell?,h0] at hg
  ·exact h
 have hg2:((w.alloc (.cells #[.pointer (some t)] 131)).alloc (.cells #[.pointer (some ⟨14,131,none⟩),.pointer (some ⟨w.heap.size,0,none⟩),.int .u64 150] 182)).cell? ⟨0,0,none⟩=some (.iface 204 (.agg #[.pointer (some ⟨14,46,none⟩)])):=by
  rw [World.cell?_alloc_lt _ _ ⟨0,0,none⟩ (by simp),World.cell?_alloc_lt _ _ ⟨0,0,none⟩ hlt];exact hg
 go_enter Tryz.func82,Tryz.ntmps82
 go_wp2
 refine wp_loop_rounds 1 ?_
 rw [rounds_succ]
 go_wp2
 go_ret
 exact ⟨rfl,rfl⟩
end Go.Proofs.YthkilaondjgemaaGreatDoor.Abs
namespace Go.Proofs.YthkilaondjgemaaGreatDoor.Abs
open Go Go.Proofs Go.RowKit
theorem lR:(Tryz.prog.info? 218).map (·.size)=some 2:=by kernel_rfl
set_option maxHeartbeats 1000000 in
set_option maxRecDepth 100000 in
theorem pR (b:Nat) (w:World) (h0:w.cell? ⟨b,0,none⟩=some (.pointer (some ⟨b,0,none⟩))):
  Calls Tryz.prog 199 #[.pointer (some ⟨b,0,none⟩)] w fun e w'=>e= .returned (.tuple #[])∧w'=w:=by
 obtain ⟨j,hj,_⟩:=Option.map_eq_some_iff.1 lR
 go_enter Tryz.func199,Tryz.ntmps199
 go_wp2
 rw [Lib.run_neq_ptr_same w _ Tryz.underlying215 hj]
 go_wp2
 go_end0
 exact ⟨rfl,rfl⟩
set_option maxHeartbeats 1000000 in
set_option maxRecDepth 100000 in
theorem pS (b:Nat) (w:World) (h0:w.cell? ⟨b,0,none⟩=some (.pointer none)) (hsh:w.shape? b=some (218,2)) (hfz:w.frozen? ⟨b,0,none⟩=false):
  Calls Tryz.prog 199 #[.pointer (some ⟨b,0,none⟩)] w fun e w'=>e= .returned (.tuple #[])∧w'=w.setCell ⟨b,0,none⟩ (.pointer (some ⟨b,0,none⟩)):=by
 obtain ⟨j,hj,hjs⟩:=Option.map_eq_some_iff.1 lR
 go_enter Tryz.func199,Tryz.ntmps199
 go_wp2
 rw [Lib.run_to_unsafe w ⟨b,0,none⟩ Tryz.underlying215 Tryz.underlying179 hj (by rw [hjs];decide) hsh (Nat.zero_lt_succ 1)]
 simp only [Result.andThen]
 rw [Oper.upon_value]
 go_wp2
 rw [run_callFunc_extern Tryz.func236 (by kernel_rfl) (by kernel_rfl) (by kernel_rfl) (e:=Extern.AbiNoEscape.same) (by kernel_rfl)]
 rw [Lib.run_noEscape]
 simp only [Result.andThen]
 rw [Oper.upon_value]
 go_wp2
 rw [Lib.run_from_unsafe w ⟨b,0,none⟩ Tryz.underlying179 Tryz.underlying215 hj hsh (by kernel_rfl)]
 simp only [Result.andThen]
 rw [Oper.upon_value]
 go_wp2
 go_end0
 exact ⟨rfl,rfl⟩
end Go.Proofs.YthkilaondjgemaaGreatDoor.Abs

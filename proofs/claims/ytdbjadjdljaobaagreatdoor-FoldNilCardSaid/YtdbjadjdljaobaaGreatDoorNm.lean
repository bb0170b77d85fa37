/-
  The abstract machine over the model, its soundness, walks of the program's functions and what they compute. Conditions: the values are of their types.
-/
import Derived.Test.YtdbjadjdljaobaaGreatDoorNc
import Derived.Test.YtdbjadjdljaobaaGreatDoorNd

set_option linter.all false
set_option linter.unnecessarySimpa false

namespace Go.Proofs.YtdbjadjdljaobaaGreatDoor.Abs
open Go Go.Proofs
theorem pX {n:Nat} {r:List PV} (h:bq Tryz.prog n 48 r): ∃x,r=[.lit (.int .u32 x)]∧u32 x:=by
 have h:=pw Tryz.underlying48 h
 obtain ⟨x,h1,h2⟩:=h
 refine ⟨x,h1,?_⟩
 simp [Lit.wf] at h2
 have e1:IntKind.u32.min=0:=rfl
 have e2:IntKind.u32.max=4294967295:=rfl
 rw [e1,e2] at h2
 unfold u32
 omega
theorem eN {n:Nat} {r:List PV} (h:bq Tryz.prog n 9 r): ∃s:List UInt8,r=[az s]∧s.length≤reachBytes:=by
 have h:=ub Tryz.underlying9 h
 obtain ⟨s,h1,h2⟩:=h
 refine ⟨s.data.toList,h1,?_⟩
 rw [Array.length_toList]
 exact h2
theorem v8 {W:TypeId→List PV→Prop} {a b:Field} {r:List PV} (h:iu W [a,b] r): ∃w x,r=w++x∧W a.type w∧W b.type x:=by
 obtain ⟨w,_,rfl,h1,x,_,rfl,h2,rfl⟩:=h
 exact ⟨w,x,by simp,h1,h2⟩
structure Nd where
 name:List UInt8
 span:List UInt8
 deriving Inhabited
abbrev Nd.p (x:Nd):PV:= .agg [az x.name,az x.span]
abbrev pY (k:Nat) (nl full:Bool) (l:List Nd):PV:= .sl k nl full (l.map Nd.p)
abbrev pZ (kind:Int) (who name version:List UInt8) (nd:PV) (sum n size:Int) (holder note:List UInt8):PV:=
 .agg [.lit (.int .u8 kind),az who,az name,az version,nd,.lit (.int .u64 sum),.lit (.int .u32 n),.lit (.int .u32 size),az holder,az note]
structure Ev where
 kind:Int
 who:List UInt8
 name:List UInt8
 version:List UInt8
 k:Nat
 nl:Bool
 full:Bool
 needs:List Nd
 sum:Int
 n:Int
 size:Int
 holder:List UInt8
 note:List UInt8
 deriving Inhabited
abbrev Ev.p (e:Ev):PV:=pZ e.kind e.who e.name e.version (pY e.k e.nl e.full e.needs) e.sum e.n e.size e.holder e.note
abbrev Ev.q (e:Ev) (nd:PV):PV:=pZ e.kind e.who e.name e.version nd e.sum e.n e.size e.holder e.note
theorem p3 {n:Nat} {t:TypeId} {k:IntKind} {r:List PV} (ht:Tryz.prog.underlying t=some (.int k)) (h:bq Tryz.prog n t r): ∃x,r=[.lit (.int k x)]∧k.min≤x∧x≤k.max:=by
 obtain ⟨x,h1,h2⟩:=pw ht h
 refine ⟨x,h1,?_⟩
 simpa [Lit.wf] using h2
theorem wa {n:Nat} {r:List PV} (h:bq Tryz.prog n 96 r): ∃x:Nd,.agg r=x.p∧x.name.length≤reachBytes∧x.span.length≤reachBytes:=by
 obtain ⟨n,h⟩:=px Tryz.underlying96 h
 obtain ⟨w,x,rfl,h1,h2⟩:=v8 h
 obtain ⟨s,rfl,g1⟩:=eN h1
 obtain ⟨t,rfl,g2⟩:=eN h2
 exact ⟨⟨s,t⟩,rfl,g1,g2⟩
theorem wb {n:Nat} {r:List PV} (h:bq Tryz.prog n 46 r): ∃k nl l,r=[pY k nl false l]∧ir 2 k nl l.length∧l.length*32≤reachBytes∧ ∀x∈l,x.name.length≤reachBytes∧x.span.length≤reachBytes:=by
 obtain ⟨n,h⟩:=uc Tryz.underlying46 h
 obtain ⟨k,nl,rs,rfl,h1,h2,h3⟩:=h
 have hc:Tryz.prog.cellsOf 96=2:=by kernel_rfl
 have hb:Tryz.prog.bytesOf 96=32:=by kernel_rfl
 have hs:bM Tryz.prog 96=true:=ud Tryz.underlying96
 rw [hc] at h1
 rw [hb] at h2
 rw [hs]
 have hx: ∀rs:List (List PV),(∀r∈rs,bq Tryz.prog n 96 r)→ ∃l:List Nd,rs.map (cK true)=l.map Nd.p∧l.length=rs.length∧ ∀x∈l,x.name.length≤reachBytes∧x.span.length≤reachBytes:=by
  intro rs
  induction rs with
  | nil=>intro _;exact ⟨[],rfl,rfl,fun s hs=>absurd hs List.not_mem_nil⟩
  | cons r rs ih=>
   intro h
   obtain ⟨x,h1,h2⟩:=wa (h r (by simp))
   obtain ⟨l,h4,h5,h6⟩:=ih (fun r hr=>h r (by simp [hr]))
   refine ⟨x::l,?_,by simp [h5],fun t ht=> ?_⟩
   ·rw [List.map_cons,List.map_cons,h4,←h1];rfl
   ·cases List.mem_cons.1 ht with
    | inl e=>rw [e];exact h2
    | inr e=>exact h6 t e
 obtain ⟨l,h4,h5,h6⟩:=hx rs h3
 refine ⟨k,nl,l,?_,?_,?_,h6⟩
 ·rw [h4]
 ·rw [h5];exact h1
 ·rw [h5];exact h2
structure Ev.ok (e:Ev):Prop where
 kind:0≤e.kind∧e.kind<256
 sum:0≤e.sum∧e.sum<18446744073709551616
 n:u32 e.n
 size:u32 e.size
 sl:ir 2 e.k e.nl e.needs.length
 len:e.needs.length*32≤reachBytes
 nds: ∀x∈e.needs,x.name.length≤reachBytes∧x.span.length≤reachBytes
 who:e.who.length≤reachBytes
 name:e.name.length≤reachBytes
 version:e.version.length≤reachBytes
 holder:e.holder.length≤reachBytes
 note:e.note.length≤reachBytes
theorem wc {n:Nat} {r:List PV} (h:bq Tryz.prog n 79 r): ∃e:Ev,.agg r=e.p∧e.ok:=by
 obtain ⟨n,h⟩:=px Tryz.underlying79 h
 obtain ⟨a0,_,rfl,h0,a1,_,rfl,h1,a2,_,rfl,h2,a3,_,rfl,h3,a4,_,rfl,h4,a5,_,rfl,h5,a6,_,rfl,h6,a7,_,rfl,h7,a8,_,rfl,h8,a9,_,rfl,h9,rfl⟩:=h
 obtain ⟨kd,rfl,k1,k2⟩:=p3 Tryz.underlying77 h0
 obtain ⟨s1,rfl,g1⟩:=eN h1
 obtain ⟨s2,rfl,g2⟩:=eN h2
 obtain ⟨s3,rfl,g3⟩:=eN h3
 obtain ⟨k,nl,l,rfl,l1,l2,l3⟩:=wb h4
 obtain ⟨sm,rfl,m1,m2⟩:=p3 Tryz.underlying47 h5
 obtain ⟨x6,rfl,n1⟩:=pX h6
 obtain ⟨x7,rfl,n2⟩:=pX h7
 obtain ⟨s8,rfl,g8⟩:=eN h8
 obtain ⟨s9,rfl,g9⟩:=eN h9
 have e1:IntKind.u8.min=0:=rfl
 have e2:IntKind.u8.max=255:=rfl
 have e3:IntKind.u64.min=0:=rfl
 have e4:IntKind.u64.max=18446744073709551615:=rfl
 rw [e1] at k1;rw [e2] at k2;rw [e3] at m1;rw [e4] at m2
 exact ⟨⟨kd,s1,s2,s3,k,nl,false,l,sm,x6,x7,s8,s9⟩,rfl,⟨k1,by show kd<256;omega⟩,⟨m1,by show sm<18446744073709551616;omega⟩,n1,n2,l1,l2,l3,g1,g2,g3,g8,g9⟩
end Go.Proofs.YtdbjadjdljaobaaGreatDoor.Abs

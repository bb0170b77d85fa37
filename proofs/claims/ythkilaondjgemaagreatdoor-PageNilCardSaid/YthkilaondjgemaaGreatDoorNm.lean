/-
  The abstract machine over the model, its soundness, walks of the program's functions and what they compute. Conditions: the values are of their types.
-/
import Derived.Test.YthkilaondjgemaaGreatDoorNc

set_option linter.all false
set_option linter.unnecessarySimpa false

namespace Go.Proofs.YthkilaondjgemaaGreatDoor.Abs
open Go Go.Proofs
theorem qF {n:Nat} {r:List PV} (h:bR Tryz.prog n 9 r): ∃s:List UInt8,r=[bE s]∧s.length≤reachBytes:=by
 have h:=pg Tryz.underlying9 h
 obtain ⟨s,h1,h2⟩:=h
 refine ⟨s.data.toList,h1,?_⟩
 rw [Array.length_toList]
 exact h2
structure Nd where
 name:List UInt8
 span:List UInt8
 deriving Inhabited
abbrev Nd.p (x:Nd):PV:= .agg [bE x.name,bE x.span]
abbrev qG (k:Nat) (nl full:Bool) (l:List Nd):PV:= .sl k nl full (l.map Nd.p)
abbrev l5 (kind:Int) (who name version:List UInt8) (nd:PV) (sum n size:Int) (holder note:List UInt8):PV:=
 .agg [.lit (.int .u8 kind),bE who,bE name,bE version,nd,.lit (.int .u64 sum),.lit (.int .u32 n),.lit (.int .u32 size),bE holder,bE note]
structure Ev where
 kind:Int
 who:List UInt8
 name:List UInt8
 version:List UInt8
 k:Nat
 nl:Bool
 full:Bool
 needs:List Nd
 sum:Int
 n:Int
 size:Int
 holder:List UInt8
 note:List UInt8
 deriving Inhabited
abbrev Ev.p (e:Ev):PV:=l5 e.kind e.who e.name e.version (qG e.k e.nl e.full e.needs) e.sum e.n e.size e.holder e.note
abbrev Ev.q (e:Ev) (nd:PV):PV:=l5 e.kind e.who e.name e.version nd e.sum e.n e.size e.holder e.note
structure Ev.ok (e:Ev):Prop where
 kind:0≤e.kind∧e.kind<256
 sum:0≤e.sum∧e.sum<18446744073709551616
 n:u32 e.n
 size:u32 e.size
 sl:jd 2 e.k e.nl e.needs.length
 len:e.needs.length*32≤reachBytes
 nds: ∀x∈e.needs,x.name.length≤reachBytes∧x.span.length≤reachBytes
 who:e.who.length≤reachBytes
 name:e.name.length≤reachBytes
 version:e.version.length≤reachBytes
 holder:e.holder.length≤reachBytes
 note:e.note.length≤reachBytes
end Go.Proofs.YthkilaondjgemaaGreatDoor.Abs

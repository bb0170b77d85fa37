/-
  The abstract machine over the model, its soundness, walks of the program's functions and what they compute. Conditions: the values are of their types.
-/
import Derived.Test.YtdbjadjdljaobaaGreatDoorNc
import Derived.Laws.RangeString
import Derived.Laws.RangeAny

set_option linter.all false
set_option linter.unnecessarySimpa false

namespace Go.Proofs.YtdbjadjdljaobaaGreatDoor.Abs
open Go Go.Proofs
theorem drop_nil {α:Type} {l:List α} {i:Nat} (h:l.length≤i):l.drop i=[]:=List.drop_eq_nil_of_le h
noncomputable def hid {α:Type} (x:α):α:=Classical.choose (⟨x,rfl⟩: ∃y,y=x)
theorem mb {α:Type} (x:α):hid x=x:=Classical.choose_spec (⟨x,rfl⟩: ∃y,y=x)
def de (c:Int):Int:=if (65≤c∧c≤90)∨(97≤c∧c≤122)∨(48≤c∧c≤57) then 1 else if c=45∨c=95∨c=46 then 2 else 0
def eK (c:Int):Int:=if 65≤c∧c≤90 then c+32 else c
noncomputable def aR:Int→Int:=hid de
noncomputable def aS:Int→Int:=hid eK
theorem iy (c:Int):aR c=de c:=by rw [aR,mb]
theorem mc (c:Int):aS c=eK c:=by rw [aS,mb]
noncomputable def df:List UInt8→List UInt8→List UInt8×Bool:=hid eG
theorem md (a b:List UInt8):df a b=eG a b:=by rw [df,mb]
theorem vg (c:Int) (v:AV) (rs:List ak):d4 E0 Tryz.f256 [.pv (.sl 0 true true []),.pv (PV.lit (.int .i32 c))] [] v rs 2000 (.fork (.lit (.lit (.hole 0))) (.resC (.pv (.sl 0 true true [])) [] (.hole 0)))=
  (((decide (IntKind.u32.wrap c≤(127:Int)))=true→
 ((7:Nat)=7)∧
 (((1:Nat)=1)∧((1:Nat)≤(1:Nat)))∧
 (((0:Nat)=0)∧(true=true))∧
 ((8:Nat)=8)∧
 ((.msl 0 0 0 0 1 false)=v)∧
 [⟨0,.row 1 5 [PV.lit (.int .u8 (IntKind.u8.wrap c))] false⟩]=rs)∧
 ((decide (IntKind.u32.wrap c≤(127:Int)))=false→
 (bg E0 300 [.pv (.sl 0 true true []),.pv (PV.lit (.int .i32 c))] [] (.pv (.sl 0 true true [])) [])∧
 ((.pv (.sl 0 true true []))=v)∧
 ([]:List ak)=rs)):=by kernel_rfl
theorem vh (c:Int) (n:Nat) (xs:List PV) (v:AV) (rs:List ak):d4 E0 Tryz.f256 [.msl 0 0 0 0 n false,.pv (PV.lit (.int .i32 c))] [⟨0,.row 1 5 xs false⟩] v rs 2000 (.fork (.lit (.hole 0)) (.resC (.msl 0 0 0 0 n false) [⟨0,.row 1 5 xs false⟩] (.hole 0)))=
  (((decide (IntKind.u32.wrap c≤(127:Int)))=true→
 ((8:Nat)=8)∧
 (((1:Nat)=1)∧((1:Nat)≤(1:Nat)))∧
 ((0:Nat)=0)∧
 ((false=false)∧(((1:Nat)=1)∧(((5:Nat)=5)∧((((0:Nat)+n)=List.length xs)∧((bO (n+1) (1:Nat))=true)))))∧
 ((9:Nat)=9)∧
 (True)∧
 ((.msl 0 0 1 0 (n+1) false)=v)∧
 [⟨1,.row 1 5 (List.drop (0:Nat) xs++List.take (1:Nat) (List.drop (0:Nat) [PV.lit (Value.int IntKind.u8 (IntKind.u8.wrap c))])) false⟩]=rs)∧
 ((decide (IntKind.u32.wrap c≤(127:Int)))=false→
 ((0:Nat)=0)∧
 (bg E0 300 [.msl 0 0 0 0 n false,.pv (PV.lit (.int .i32 c))] [⟨0,.row 1 5 xs false⟩] (.msl 0 0 0 0 n false) [⟨0,.row 1 5 xs false⟩])∧
 ((0:Nat)=0)∧
 ((0:Nat)=0)∧
 ((.msl 0 0 0 0 n false)=v)∧
 [⟨0,.row 1 5 xs false⟩]=rs)):=by kernel_rfl
theorem _strings_Builder_WriteRuneA_go (c:Int) (v:AV) (rs:List ak):d4 E0 Tryz.f196 [.mptr 0 0 0 0 0,.pv (PV.lit (.int .i32 c))] [⟨0,.box (.agg [.btag 302,.pv (.sl 0 true true [])]) false⟩] v rs 2000 (.resC (.msl 0 0 0 0 1 false) [⟨0,.row 1 5 [PV.lit (.int .u8 (IntKind.u8.wrap c))] false⟩] (.hole 0))=
  (((0:Nat)=0)∧
 ((0:Nat)=0)∧
 ((0:Nat)=0)∧
 (bg E0 256 [.pv (.sl 0 true true []),.pv (PV.lit (.int .i32 c))] [] (.msl 0 0 0 0 1 false) [⟨0,.row 1 5 [PV.lit (.int .u8 (IntKind.u8.wrap c))] false⟩])∧
 ((0:Nat)=0)∧
 ((0:Nat)=0)∧
 ((0:Nat)=0)∧
 ((0:Nat)=0)∧
 ((17:Nat)=17)∧
 ((.pv (.tup [au 1,.lit .nilIface]))=v)∧
 [⟨0,.box (.agg [.mptr 0 0 0 0 0,.msl 0 1 1 0 1 false]) false⟩,⟨1,.row 1 5 [PV.lit (.int .u8 (IntKind.u8.wrap c))] false⟩]=rs):=by kernel_rfl
theorem _strings_Builder_LenA_go (c:Int) (v:AV) (rs:List ak):d4 E0 Tryz.f194 [.mptr 0 0 0 0 0] [⟨0,.box (.agg [.btag 302,.pv (.sl 0 true true [])]) false⟩] v rs 2000 (.hole 0)=
  (((0:Nat)=0)∧
 ((0:Nat)=0)∧
 ((b7 0)=v)∧
 [⟨0,.box (.agg [.btag 302,.pv (.sl 0 true true [])]) false⟩]=rs):=by kernel_rfl
theorem _strings_Builder_WriteRuneB_go (c:Int) (n:Nat) (xs:List PV) (v:AV) (rs:List ak):d4 E0 Tryz.f196 [.mptr 0 0 0 0 0,.pv (PV.lit (.int .i32 c))] [⟨0,.box (.agg [.mptr 0 0 0 0 0,.msl 0 1 1 0 n false]) false⟩,⟨1,.row 1 5 xs false⟩] v rs 2000 (.resC (.msl 0 0 1 0 (n+1) false) [⟨1,.row 1 5 (xs++[PV.lit (Value.int IntKind.u8 (IntKind.u8.wrap c))]) false⟩] (.hole 0))=
  (((0:Nat)=0)∧
 (((0:Nat)=0)∧(((0:Nat)=0)∧((0:Nat)=0)))∧
 ((0:Nat)=0)∧
 ((0:Nat)=0)∧
 ((1:Nat)=1)∧
 (bg E0 256 [.msl 0 0 0 0 n false,.pv (PV.lit (.int .i32 c))] [⟨0,.row 1 5 xs false⟩] (.msl 0 0 1 0 (n+1) false) [⟨1,.row 1 5 (xs++[PV.lit (Value.int IntKind.u8 (IntKind.u8.wrap c))]) false⟩])∧
 ((0:Nat)=0)∧
 ((0:Nat)=0)∧
 ((0:Nat)=0)∧
 ((0:Nat)=0)∧
 ((18:Nat)=18)∧
 (True)∧
 ((.pv (.tup [au (IntKind.i64.wrap ((↑(n+1):Int)-(↑n:Int))),.lit .nilIface]))=v)∧
 [⟨0,.box (.agg [.mptr 0 0 0 0 0,.msl 0 1 2 0 (n+1) false]) false⟩,⟨2,.row 1 5 (xs++[PV.lit (Value.int IntKind.u8 (IntKind.u8.wrap c))]) false⟩]=rs):=by kernel_rfl
theorem _strings_Builder_WriteStringB_go (s:List UInt8) (n:Nat) (xs:List PV) (v:AV) (rs:List ak):d4 E0 Tryz.f195 [.mptr 0 0 0 0 0,cJ (bs s)] [⟨0,.box (.agg [.mptr 0 0 0 0 0,.msl 0 1 1 0 n false]) false⟩,⟨1,.row 1 5 xs false⟩] v rs 2000 (.lit (.hole 0))=
  (((0:Nat)=0)∧
 (((0:Nat)=0)∧(((0:Nat)=0)∧((0:Nat)=0)))∧
 ((0:Nat)=0)∧
 ((1:Nat)=1)∧
 ((1:Nat)=1)∧
 ((false=false)∧(((1:Nat)=1)∧(((5:Nat)=5)∧((((0:Nat)+n)=List.length xs)∧((bO (n+List.length (ar (bs s))) (1:Nat))=true)))))∧
 ((0:Nat)=0)∧
 ((0:Nat)=0)∧
 ((0:Nat)=0)∧
 ((12:Nat)=12)∧
 (True)∧
 ((.pv (.tup [au ((↑(ByteArray.size (bs s)):Int)),.lit .nilIface]))=v)∧
 [⟨0,.box (.agg [.mptr 0 0 0 0 0,.msl 0 1 2 0 (n+List.length (ar (bs s))) false]) false⟩,⟨2,.row 1 5 (List.drop (0:Nat) xs++ar (bs s)) false⟩]=rs):=by kernel_rfl
theorem _strings_Builder_LenB_go (n:Nat) (xs:List PV) (v:AV) (rs:List ak):d4 E0 Tryz.f194 [.mptr 0 0 0 0 0] [⟨0,.box (.agg [.mptr 0 0 0 0 0,.msl 0 1 1 0 n false]) false⟩,⟨1,.row 1 5 xs false⟩] v rs 2000 (.hole 0)=
  (((0:Nat)=0)∧
 ((0:Nat)=0)∧
 ((0:Nat)=0)∧
 ((1:Nat)=1)∧
 ((1:Nat)=1)∧
 ((b7 ((↑n:Int)))=v)∧
 [⟨0,.box (.agg [.mptr 0 0 0 0 0,.msl 0 1 1 0 n false]) false⟩,⟨1,.row 1 5 xs false⟩]=rs):=by kernel_rfl
theorem _strings_Builder_StringB_go (n:Nat) (xs:List PV) (v:AV) (rs:List ak):d4 E0 Tryz.f197 [.mptr 0 0 0 0 0] [⟨0,.box (.agg [.mptr 0 0 0 0 0,.msl 0 1 1 0 (n+1) false]) false⟩,⟨1,.row 1 5 xs false⟩] v rs 2000 (.hole 0)=
  (((0:Nat)=0)∧
 ((0:Nat)=0)∧
 ((1:Nat)=1)∧
 ((((1:Int)≤(↑(n+1):Int))∧(((↑(n+1):Int)≤(9223372036854775807:Int))∧(((0:Nat)+Int.toNat (↑(n+1):Int)≤List.length xs)∧(((5:Nat)=5)∧((1:Nat)=1)))))∧((Option.isSome (cB (List.take (Int.toNat (↑(n+1):Int)) (List.drop (0:Nat) xs))))=true))∧
 ((0:Nat)=0)∧
 ((0:Nat)=0)∧
 ((1:Nat)=1)∧
 ((1:Nat)=1)∧
 ((cJ (bs (eB (List.take (Int.toNat (↑(n+1):Int)) (List.drop (0:Nat) xs)))))=v)∧
 [⟨0,.box (.agg [.mptr 0 0 0 0 0,.msl 0 1 1 0 (n+1) false]) false⟩,⟨1,.row 1 5 xs true⟩]=rs):=by kernel_rfl
theorem vi (c:Int) (r:PV):jS E0 Tryz.f193 [PV.lit (.int .i32 c)] r 2000 (.fork (.lts 3 (.fork (.hole 0) (.fork (.lts 3 (.fork (.br true (.hole 0)) (.fork (.lts 3 (.fork (.hole 0) (.fork (.lts 8 (.hole 0)) (.lts 3 (.fork (.lts 4 (.hole 0)) (.lts 3 (.fork (.hole 0) (.hole 0)))))))) (.lts 4 (.fork (.lts 8 (.hole 0)) (.lts 3 (.fork (.lts 4 (.hole 0)) (.lts 3 (.fork (.hole 0) (.hole 0)))))))))) (.lts 4 (.fork (.lts 3 (.fork (.hole 0) (.fork (.lts 8 (.hole 0)) (.lts 3 (.fork (.lts 4 (.hole 0)) (.lts 3 (.fork (.hole 0) (.hole 0)))))))) (.lts 4 (.fork (.lts 8 (.hole 0)) (.lts 3 (.fork (.lts 4 (.hole 0)) (.lts 3 (.fork (.hole 0) (.hole 0)))))))))))) (.lts 4 (.fork (.lts 3 (.fork (.br true (.hole 0)) (.fork (.lts 3 (.fork (.hole 0) (.fork (.lts 8 (.hole 0)) (.lts 3 (.fork (.lts 4 (.hole 0)) (.lts 3 (.fork (.hole 0) (.hole 0)))))))) (.lts 4 (.fork (.lts 8 (.hole 0)) (.lts 3 (.fork (.lts 4 (.hole 0)) (.lts 3 (.fork (.hole 0) (.hole 0)))))))))) (.lts 4 (.fork (.lts 3 (.fork (.hole 0) (.fork (.lts 8 (.hole 0)) (.lts 3 (.fork (.lts 4 (.hole 0)) (.lts 3 (.fork (.hole 0) (.hole 0)))))))) (.lts 4 (.fork (.lts 8 (.hole 0)) (.lts 3 (.fork (.lts 4 (.hole 0)) (.lts 3 (.fork (.hole 0) (.hole 0))))))))))))=
  (((decide (c≥(65:Int)))=true→
 ((decide (c≤(90:Int)))=true→
 ((.tup [au 1,PV.lit (.int .i32 (IntKind.i32.wrap (c+(32:Int))))]):PV)=r)∧
 ((decide (c≤(90:Int)))=false→
 ((decide (c≥(97:Int)))=true→
 ((decide (c≤(122:Int)))=true→
 ((decide (c≤(122:Int)))=true)∧
 ((.tup [au 1,PV.lit (.int .i32 c)]):PV)=r)∧
 ((decide (c≤(122:Int)))=false→
 ((decide (c≥(48:Int)))=true→
 ((decide (c≤(57:Int)))=true→
 ((.tup [au 1,PV.lit (.int .i32 c)]):PV)=r)∧
 ((decide (c≤(57:Int)))=false→
 ((c==(45:Int))=true→
 ((.tup [au 2,PV.lit (.int .i32 c)]):PV)=r)∧
 ((c==(45:Int))=false→
 ((c==(95:Int))=true→
 ((.tup [au 2,PV.lit (.int .i32 c)]):PV)=r)∧
 ((c==(95:Int))=false→
 ((c==(46:Int))=true→
 ((.tup [au 2,PV.lit (.int .i32 c)]):PV)=r)∧
 ((c==(46:Int))=false→
 ((.tup [au 0,PV.lit (.int .i32 c)]):PV)=r)))))∧
 ((decide (c≥(48:Int)))=false→
 ((c==(45:Int))=true→
 ((.tup [au 2,PV.lit (.int .i32 c)]):PV)=r)∧
 ((c==(45:Int))=false→
 ((c==(95:Int))=true→
 ((.tup [au 2,PV.lit (.int .i32 c)]):PV)=r)∧
 ((c==(95:Int))=false→
 ((c==(46:Int))=true→
 ((.tup [au 2,PV.lit (.int .i32 c)]):PV)=r)∧
 ((c==(46:Int))=false→
 ((.tup [au 0,PV.lit (.int .i32 c)]):PV)=r))))))∧
 ((decide (c≥(97:Int)))=false→
 ((decide (c≥(48:Int)))=true→
 ((decide (c≤(57:Int)))=true→
 ((.tup [au 1,PV.lit (.int .i32 c)]):PV)=r)∧
 ((decide (c≤(57:Int)))=false→
 ((c==(45:Int))=true→
 ((.tup [au 2,PV.lit (.int .i32 c)]):PV)=r)∧
 ((c==(45:Int))=false→
 ((c==(95:Int))=true→
 ((.tup [au 2,PV.lit (.int .i32 c)]):PV)=r)∧
 ((c==(95:Int))=false→
 ((c==(46:Int))=true→
 ((.tup [au 2,PV.lit (.int .i32 c)]):PV)=r)∧
 ((c==(46:Int))=false→
 ((.tup [au 0,PV.lit (.int .i32 c)]):PV)=r)))))∧
 ((decide (c≥(48:Int)))=false→
 ((c==(45:Int))=true→
 ((.tup [au 2,PV.lit (.int .i32 c)]):PV)=r)∧
 ((c==(45:Int))=false→
 ((c==(95:Int))=true→
 ((.tup [au 2,PV.lit (.int .i32 c)]):PV)=r)∧
 ((c==(95:Int))=false→
 ((c==(46:Int))=true→
 ((.tup [au 2,PV.lit (.int .i32 c)]):PV)=r)∧
 ((c==(46:Int))=false→
 ((.tup [au 0,PV.lit (.int .i32 c)]):PV)=r)))))))∧
 ((decide (c≥(65:Int)))=false→
 ((decide (c≥(97:Int)))=true→
 ((decide (c≤(122:Int)))=true→
 ((decide (c≤(122:Int)))=true)∧
 ((.tup [au 1,PV.lit (.int .i32 c)]):PV)=r)∧
 ((decide (c≤(122:Int)))=false→
 ((decide (c≥(48:Int)))=true→
 ((decide (c≤(57:Int)))=true→
 ((.tup [au 1,PV.lit (.int .i32 c)]):PV)=r)∧
 ((decide (c≤(57:Int)))=false→
 ((c==(45:Int))=true→
 ((.tup [au 2,PV.lit (.int .i32 c)]):PV)=r)∧
 ((c==(45:Int))=false→
 ((c==(95:Int))=true→
 ((.tup [au 2,PV.lit (.int .i32 c)]):PV)=r)∧
 ((c==(95:Int))=false→
 ((c==(46:Int))=true→
 ((.tup [au 2,PV.lit (.int .i32 c)]):PV)=r)∧
 ((c==(46:Int))=false→
 ((.tup [au 0,PV.lit (.int .i32 c)]):PV)=r)))))∧
 ((decide (c≥(48:Int)))=false→
 ((c==(45:Int))=true→
 ((.tup [au 2,PV.lit (.int .i32 c)]):PV)=r)∧
 ((c==(45:Int))=false→
 ((c==(95:Int))=true→
 ((.tup [au 2,PV.lit (.int .i32 c)]):PV)=r)∧
 ((c==(95:Int))=false→
 ((c==(46:Int))=true→
 ((.tup [au 2,PV.lit (.int .i32 c)]):PV)=r)∧
 ((c==(46:Int))=false→
 ((.tup [au 0,PV.lit (.int .i32 c)]):PV)=r))))))∧
 ((decide (c≥(97:Int)))=false→
 ((decide (c≥(48:Int)))=true→
 ((decide (c≤(57:Int)))=true→
 ((.tup [au 1,PV.lit (.int .i32 c)]):PV)=r)∧
 ((decide (c≤(57:Int)))=false→
 ((c==(45:Int))=true→
 ((.tup [au 2,PV.lit (.int .i32 c)]):PV)=r)∧
 ((c==(45:Int))=false→
 ((c==(95:Int))=true→
 ((.tup [au 2,PV.lit (.int .i32 c)]):PV)=r)∧
 ((c==(95:Int))=false→
 ((c==(46:Int))=true→
 ((.tup [au 2,PV.lit (.int .i32 c)]):PV)=r)∧
 ((c==(46:Int))=false→
 ((.tup [au 0,PV.lit (.int .i32 c)]):PV)=r)))))∧
 ((decide (c≥(48:Int)))=false→
 ((c==(45:Int))=true→
 ((.tup [au 2,PV.lit (.int .i32 c)]):PV)=r)∧
 ((c==(45:Int))=false→
 ((c==(95:Int))=true→
 ((.tup [au 2,PV.lit (.int .i32 c)]):PV)=r)∧
 ((c==(95:Int))=false→
 ((c==(46:Int))=true→
 ((.tup [au 2,PV.lit (.int .i32 c)]):PV)=r)∧
 ((c==(46:Int))=false→
 ((.tup [au 0,PV.lit (.int .i32 c)]):PV)=r))))))):=by kernel_rfl
def cN (raw:List UInt8) (by_:List UInt8) (p:Nat) (last:Int) (n:Nat) (gr:Nat) (xs:List PV) (j:Nat→AV) (jr:Nat→ak) (g:Nat):St:=
 { t:=[j 0,cJ (bs by_),j 2,j 3,j 4,j 5,.mptr 0 6 10 0 0,b7 last]++jj j 8 13++[.mptr 0 21 13 0 0]++jj j 22 34,h:=[List.replicate 6 ae++[⟨10,.box (.agg [.mptr 0 6 10 0 0,.msl 0 51 gr 0 n false]) false⟩,ae,ae,ae,ae,ae,ae,ae,ae,ae,ae,ae,ae,ae,ae,⟨13,.iter (bs raw) p⟩,ae,ae,ae,ae,ae,ae,ae,ae,ae,ae,ae,ae,ae,ae,ae,ae,ae,ae,ae,ae,ae,ae,ae,ae,ae,ae,ae,jr 49,ae,⟨gr,.row 1 5 xs false⟩]++List.replicate 4 ae],g:=g}
def pG (raw:List UInt8) (by_:List UInt8) (j:Nat→AV) (jr:Nat→ak) (g:Nat):St:=
 { t:=[j 0,cJ (bs by_),j 2,j 3,j 4,j 5,.mptr 0 6 10 0 0,b7 2]++jj j 8 13++[.mptr 0 21 13 0 0]++jj j 22 34,h:=[List.replicate 6 ae++[⟨10,.box (.agg [.btag 302,.pv (.sl 0 true true [])]) false⟩,ae,ae,ae,ae,ae,ae,ae,ae,ae,ae,ae,ae,ae,ae,⟨13,.iter (bs raw) 0⟩,ae,ae,ae,ae,ae,ae,ae,ae,ae,ae,ae,ae,ae,ae,ae,ae,ae,ae,ae,ae,ae,ae,ae,ae,ae,ae,ae,jr 49]++List.replicate 6 ae],g:=g}
theorem vj (raw:List UInt8) (by_:List UInt8) (r:PV):jS E0 Tryz.f147 [az raw,az by_] r 2000 (.fork (.lts 5 (.hole 0)) (.lts 4 (.fork (.hole 0) (.mask (iv [(0,0),(2,5),(8,20),(22,55)]) [49]))))=
  (((decide ((↑(ByteArray.size (bs raw)):Int)<(1:Int)))=true→
 ((.tup [az [],bW false]):PV)=r)∧
 ((decide ((↑(ByteArray.size (bs raw)):Int)<(1:Int)))=false→
 ((decide ((↑(ByteArray.size (bs raw)):Int)>(64:Int)))=true→
 ((.tup [az [],bW false]):PV)=r)∧
 ((decide ((↑(ByteArray.size (bs raw)):Int)>(64:Int)))=false→
 ∀(j':Nat→AV) (jr':Nat→ak) (g':Nat),cd E0 Tryz.f147 r 0 (pG raw by_ j' jr' g')))):=by kernel_rfl
theorem pH (raw:List UInt8) (by_:List UInt8) (p:Nat) (last:Int) (n:Nat) (gr:Nat) (xs:List PV) (j:Nat→AV) (jr:Nat→ak) (g:Nat) (r:PV):jU E0 Tryz.f147 r 0 2000 (.fork (.lit (.res (.tup [au (aR (↑(Prod.fst (Utf8.decode (bs raw) p)):Int)),PV.lit (.int .i32 (aS (↑(Prod.fst (Utf8.decode (bs raw) p)):Int)))]) (.fork (.br true (.hole 0)) (.fork (.lit (.resC (b7 ((↑n:Int))) [⟨0,.box (.agg [.mptr 0 0 0 0 0,.msl 0 1 1 0 n false]) false⟩,⟨1,.row 1 5 xs false⟩] (.lit (.lit (.fork (.hole 0) (.fork (.fork (.lit (.resC (b7 ((↑n:Int))) [⟨0,.box (.agg [.mptr 0 0 0 0 0,.msl 0 1 1 0 n false]) false⟩,⟨1,.row 1 5 xs false⟩] (.lit (.lit (.fork (.resC (.pv (.tup [au ((↑(ByteArray.size (bs by_)):Int)),.lit .nilIface])) [⟨0,.box (.agg [.mptr 0 0 0 0 0,.msl 0 1 2 0 (n+List.length (ar (bs by_))) false]) false⟩,⟨2,.row 1 5 (xs++ar (bs by_)) false⟩] (.resC (.pv (.tup [au (IntKind.i64.wrap ((↑(n+List.length (ar (bs by_))+1):Int)-(↑(n+List.length (ar (bs by_))):Int))),.lit .nilIface])) [⟨0,.box (.agg [.mptr 0 0 0 0 0,.msl 0 1 2 0 (n+List.length (ar (bs by_))+1) false]) false⟩,⟨2,.row 1 5 (xs++ar (bs by_)++[PV.lit (Value.int IntKind.u8 (IntKind.u8.wrap (aS (↑(Prod.fst (Utf8.decode (bs raw) p)):Int))))]) false⟩] (.mask (iv [(0,0),(2,5),(8,20),(22,55)]) [49]))) (.resC (.pv (.tup [au (IntKind.i64.wrap ((↑(n+1):Int)-(↑n:Int))),.lit .nilIface])) [⟨0,.box (.agg [.mptr 0 0 0 0 0,.msl 0 1 2 0 (n+1) false]) false⟩,⟨2,.row 1 5 (xs++[PV.lit (Value.int IntKind.u8 (IntKind.u8.wrap (aS (↑(Prod.fst (Utf8.decode (bs raw) p)):Int))))]) false⟩] (.mask (iv [(0,0),(2,5),(8,20),(22,55)]) [49]))))))) (.lts 4 (.resC (.pv (.tup [au (IntKind.i64.wrap ((↑(n+1):Int)-(↑n:Int))),.lit .nilIface])) [⟨0,.box (.agg [.mptr 0 0 0 0 0,.msl 0 1 2 0 (n+1) false]) false⟩,⟨2,.row 1 5 (xs++[PV.lit (Value.int IntKind.u8 (IntKind.u8.wrap (aS (↑(Prod.fst (Utf8.decode (bs raw) p)):Int))))]) false⟩] (.mask (iv [(0,0),(2,5),(8,20),(22,55)]) [49])))) (.mask (iv [(0,0),(2,5),(8,20),(22,55)]) [49]))))))) (.lts 4 (.fork (.fork (.lit (.resC (b7 ((↑n:Int))) [⟨0,.box (.agg [.mptr 0 0 0 0 0,.msl 0 1 1 0 n false]) false⟩,⟨1,.row 1 5 xs false⟩] (.lit (.lit (.fork (.resC (.pv (.tup [au ((↑(ByteArray.size (bs by_)):Int)),.lit .nilIface])) [⟨0,.box (.agg [.mptr 0 0 0 0 0,.msl 0 1 2 0 (n+List.length (ar (bs by_))) false]) false⟩,⟨2,.row 1 5 (xs++ar (bs by_)) false⟩] (.resC (.pv (.tup [au (IntKind.i64.wrap ((↑(n+List.length (ar (bs by_))+1):Int)-(↑(n+List.length (ar (bs by_))):Int))),.lit .nilIface])) [⟨0,.box (.agg [.mptr 0 0 0 0 0,.msl 0 1 2 0 (n+List.length (ar (bs by_))+1) false]) false⟩,⟨2,.row 1 5 (xs++ar (bs by_)++[PV.lit (Value.int IntKind.u8 (IntKind.u8.wrap (aS (↑(Prod.fst (Utf8.decode (bs raw) p)):Int))))]) false⟩] (.mask (iv [(0,0),(2,5),(8,20),(22,55)]) [49]))) (.resC (.pv (.tup [au (IntKind.i64.wrap ((↑(n+1):Int)-(↑n:Int))),.lit .nilIface])) [⟨0,.box (.agg [.mptr 0 0 0 0 0,.msl 0 1 2 0 (n+1) false]) false⟩,⟨2,.row 1 5 (xs++[PV.lit (Value.int IntKind.u8 (IntKind.u8.wrap (aS (↑(Prod.fst (Utf8.decode (bs raw) p)):Int))))]) false⟩] (.mask (iv [(0,0),(2,5),(8,20),(22,55)]) [49]))))))) (.lts 4 (.resC (.pv (.tup [au (IntKind.i64.wrap ((↑(n+1):Int)-(↑n:Int))),.lit .nilIface])) [⟨0,.box (.agg [.mptr 0 0 0 0 0,.msl 0 1 2 0 (n+1) false]) false⟩,⟨2,.row 1 5 (xs++[PV.lit (Value.int IntKind.u8 (IntKind.u8.wrap (aS (↑(Prod.fst (Utf8.decode (bs raw) p)):Int))))]) false⟩] (.mask (iv [(0,0),(2,5),(8,20),(22,55)]) [49])))) (.mask (iv [(0,0),(2,5),(8,20),(22,55)]) [49]))))))) (.lit (.resC (cJ (bs (eB (List.take n xs)))) [⟨0,.box (.agg [.mptr 0 0 0 0 0,.msl 0 1 1 0 n false]) false⟩,⟨1,.row 1 5 xs true⟩] (.hole 0)))) (cN raw by_ p last n gr xs j jr g)=
  (((13:Nat)=13)∧
 ((decide (p<ByteArray.size (bs raw)))=true→
 (cU E0 193 [PV.lit (.int .i32 ((↑(Prod.fst (Utf8.decode (bs raw) p)):Int)))] (.tup [au (aR (↑(Prod.fst (Utf8.decode (bs raw) p)):Int)),PV.lit (.int .i32 (aS (↑(Prod.fst (Utf8.decode (bs raw) p)):Int)))]))∧
 ((aR (↑(Prod.fst (Utf8.decode (bs raw) p)):Int)==(0:Int))=true→
 ((aR (↑(Prod.fst (Utf8.decode (bs raw) p)):Int)==(0:Int))=true)∧
 ((.tup [az [],bW false]):PV)=r)∧
 ((aR (↑(Prod.fst (Utf8.decode (bs raw) p)):Int)==(0:Int))=false→
 ((aR (↑(Prod.fst (Utf8.decode (bs raw) p)):Int)==(2:Int))=true→
 ((10:Nat)=10)∧
 ((10:Nat)=10)∧
 (gr=gr)∧
 (bg E0 194 [.mptr 0 0 0 0 0] [⟨0,.box (.agg [.mptr 0 0 0 0 0,.msl 0 1 1 0 n false]) false⟩,⟨1,.row 1 5 xs false⟩] (b7 ((↑n:Int))) [⟨0,.box (.agg [.mptr 0 0 0 0 0,.msl 0 1 1 0 n false]) false⟩,⟨1,.row 1 5 xs false⟩])∧
 (((↑n:Int)==(0:Int))=true→
 ((.tup [az [],bW false]):PV)=r)∧
 (((↑n:Int)==(0:Int))=false→
 ((aR (↑(Prod.fst (Utf8.decode (bs raw) p)):Int)==(1:Int))=true→
 ((last==(2:Int))=true→
 ((10:Nat)=10)∧
 ((10:Nat)=10)∧
 (gr=gr)∧
 (bg E0 194 [.mptr 0 0 0 0 0] [⟨0,.box (.agg [.mptr 0 0 0 0 0,.msl 0 1 1 0 n false]) false⟩,⟨1,.row 1 5 xs false⟩] (b7 ((↑n:Int))) [⟨0,.box (.agg [.mptr 0 0 0 0 0,.msl 0 1 1 0 n false]) false⟩,⟨1,.row 1 5 xs false⟩])∧
 ((decide ((↑n:Int)>(0:Int)))=true→
 ((10:Nat)=10)∧
 ((10:Nat)=10)∧
 (gr=gr)∧
 (bg E0 195 [.mptr 0 0 0 0 0,cJ (bs by_)] [⟨0,.box (.agg [.mptr 0 0 0 0 0,.msl 0 1 1 0 n false]) false⟩,⟨1,.row 1 5 xs false⟩] (.pv (.tup [au ((↑(ByteArray.size (bs by_)):Int)),.lit .nilIface])) [⟨0,.box (.agg [.mptr 0 0 0 0 0,.msl 0 1 2 0 (n+List.length (ar (bs by_))) false]) false⟩,⟨2,.row 1 5 (xs++ar (bs by_)) false⟩])∧
 ((10:Nat)=10)∧
 ((10:Nat)=10)∧
 ((g+2+2+7+3+7+3+6+1)=g+2+2+7+3+7+3+6+1)∧
 (bg E0 196 [.mptr 0 0 0 0 0,.pv (PV.lit (.int .i32 (aS (↑(Prod.fst (Utf8.decode (bs raw) p)):Int))))] [⟨0,.box (.agg [.mptr 0 0 0 0 0,.msl 0 1 1 0 (n+List.length (ar (bs by_))) false]) false⟩,⟨1,.row 1 5 (xs++ar (bs by_)) false⟩] (.pv (.tup [au (IntKind.i64.wrap ((↑(n+List.length (ar (bs by_))+1):Int)-(↑(n+List.length (ar (bs by_))):Int))),.lit .nilIface])) [⟨0,.box (.agg [.mptr 0 0 0 0 0,.msl 0 1 2 0 (n+List.length (ar (bs by_))+1) false]) false⟩,⟨2,.row 1 5 (xs++ar (bs by_)++[PV.lit (Value.int IntKind.u8 (IntKind.u8.wrap (aS (↑(Prod.fst (Utf8.decode (bs raw) p)):Int))))]) false⟩])∧
 (∀(j':Nat→AV) (jr':Nat→ak) (g':Nat),cd E0 Tryz.f147 r 0 (cN raw by_ (p+Prod.snd (Utf8.decode (bs raw) p)) (aR (↑(Prod.fst (Utf8.decode (bs raw) p)):Int)) (n+List.length (ar (bs by_))+1) (g+2+2+7+3+7+3+6+2+1) (xs++ar (bs by_)++[PV.lit (Value.int IntKind.u8 (IntKind.u8.wrap (aS (↑(Prod.fst (Utf8.decode (bs raw) p)):Int))))]) j' jr' g')))∧
 ((decide ((↑n:Int)>(0:Int)))=false→
 ((10:Nat)=10)∧
 ((10:Nat)=10)∧
 (gr=gr)∧
 (bg E0 196 [.mptr 0 0 0 0 0,.pv (PV.lit (.int .i32 (aS (↑(Prod.fst (Utf8.decode (bs raw) p)):Int))))] [⟨0,.box (.agg [.mptr 0 0 0 0 0,.msl 0 1 1 0 n false]) false⟩,⟨1,.row 1 5 xs false⟩] (.pv (.tup [au (IntKind.i64.wrap ((↑(n+1):Int)-(↑n:Int))),.lit .nilIface])) [⟨0,.box (.agg [.mptr 0 0 0 0 0,.msl 0 1 2 0 (n+1) false]) false⟩,⟨2,.row 1 5 (xs++[PV.lit (Value.int IntKind.u8 (IntKind.u8.wrap (aS (↑(Prod.fst (Utf8.decode (bs raw) p)):Int))))]) false⟩])∧
 (∀(j':Nat→AV) (jr':Nat→ak) (g':Nat),cd E0 Tryz.f147 r 0 (cN raw by_ (p+Prod.snd (Utf8.decode (bs raw) p)) (aR (↑(Prod.fst (Utf8.decode (bs raw) p)):Int)) (n+1) (g+2+2+7+3+7+3+6+1) (xs++[PV.lit (Value.int IntKind.u8 (IntKind.u8.wrap (aS (↑(Prod.fst (Utf8.decode (bs raw) p)):Int))))]) j' jr' g'))))∧
 ((last==(2:Int))=false→
 ((10:Nat)=10)∧
 ((10:Nat)=10)∧
 (gr=gr)∧
 (bg E0 196 [.mptr 0 0 0 0 0,.pv (PV.lit (.int .i32 (aS (↑(Prod.fst (Utf8.decode (bs raw) p)):Int))))] [⟨0,.box (.agg [.mptr 0 0 0 0 0,.msl 0 1 1 0 n false]) false⟩,⟨1,.row 1 5 xs false⟩] (.pv (.tup [au (IntKind.i64.wrap ((↑(n+1):Int)-(↑n:Int))),.lit .nilIface])) [⟨0,.box (.agg [.mptr 0 0 0 0 0,.msl 0 1 2 0 (n+1) false]) false⟩,⟨2,.row 1 5 (xs++[PV.lit (Value.int IntKind.u8 (IntKind.u8.wrap (aS (↑(Prod.fst (Utf8.decode (bs raw) p)):Int))))]) false⟩])∧
 (∀(j':Nat→AV) (jr':Nat→ak) (g':Nat),cd E0 Tryz.f147 r 0 (cN raw by_ (p+Prod.snd (Utf8.decode (bs raw) p)) (aR (↑(Prod.fst (Utf8.decode (bs raw) p)):Int)) (n+1) (g+2+2+7+3+7+3+6+1) (xs++[PV.lit (Value.int IntKind.u8 (IntKind.u8.wrap (aS (↑(Prod.fst (Utf8.decode (bs raw) p)):Int))))]) j' jr' g'))))∧
 ((aR (↑(Prod.fst (Utf8.decode (bs raw) p)):Int)==(1:Int))=false→
 ∀(j':Nat→AV) (jr':Nat→ak) (g':Nat),cd E0 Tryz.f147 r 0 (cN raw by_ (p+Prod.snd (Utf8.decode (bs raw) p)) (aR (↑(Prod.fst (Utf8.decode (bs raw) p)):Int)) n gr xs j' jr' g'))))∧
 ((aR (↑(Prod.fst (Utf8.decode (bs raw) p)):Int)==(2:Int))=false→
 ((aR (↑(Prod.fst (Utf8.decode (bs raw) p)):Int)==(1:Int))=true→
 ((last==(2:Int))=true→
 ((10:Nat)=10)∧
 ((10:Nat)=10)∧
 (gr=gr)∧
 (bg E0 194 [.mptr 0 0 0 0 0] [⟨0,.box (.agg [.mptr 0 0 0 0 0,.msl 0 1 1 0 n false]) false⟩,⟨1,.row 1 5 xs false⟩] (b7 ((↑n:Int))) [⟨0,.box (.agg [.mptr 0 0 0 0 0,.msl 0 1 1 0 n false]) false⟩,⟨1,.row 1 5 xs false⟩])∧
 ((decide ((↑n:Int)>(0:Int)))=true→
 ((10:Nat)=10)∧
 ((10:Nat)=10)∧
 (gr=gr)∧
 (bg E0 195 [.mptr 0 0 0 0 0,cJ (bs by_)] [⟨0,.box (.agg [.mptr 0 0 0 0 0,.msl 0 1 1 0 n false]) false⟩,⟨1,.row 1 5 xs false⟩] (.pv (.tup [au ((↑(ByteArray.size (bs by_)):Int)),.lit .nilIface])) [⟨0,.box (.agg [.mptr 0 0 0 0 0,.msl 0 1 2 0 (n+List.length (ar (bs by_))) false]) false⟩,⟨2,.row 1 5 (xs++ar (bs by_)) false⟩])∧
 ((10:Nat)=10)∧
 ((10:Nat)=10)∧
 ((g+2+2+7+3+7+3+6+1)=g+2+2+7+3+7+3+6+1)∧
 (bg E0 196 [.mptr 0 0 0 0 0,.pv (PV.lit (.int .i32 (aS (↑(Prod.fst (Utf8.decode (bs raw) p)):Int))))] [⟨0,.box (.agg [.mptr 0 0 0 0 0,.msl 0 1 1 0 (n+List.length (ar (bs by_))) false]) false⟩,⟨1,.row 1 5 (xs++ar (bs by_)) false⟩] (.pv (.tup [au (IntKind.i64.wrap ((↑(n+List.length (ar (bs by_))+1):Int)-(↑(n+List.length (ar (bs by_))):Int))),.lit .nilIface])) [⟨0,.box (.agg [.mptr 0 0 0 0 0,.msl 0 1 2 0 (n+List.length (ar (bs by_))+1) false]) false⟩,⟨2,.row 1 5 (xs++ar (bs by_)++[PV.lit (Value.int IntKind.u8 (IntKind.u8.wrap (aS (↑(Prod.fst (Utf8.decode (bs raw) p)):Int))))]) false⟩])∧
 (∀(j':Nat→AV) (jr':Nat→ak) (g':Nat),cd E0 Tryz.f147 r 0 (cN raw by_ (p+Prod.snd (Utf8.decode (bs raw) p)) (aR (↑(Prod.fst (Utf8.decode (bs raw) p)):Int)) (n+List.length (ar (bs by_))+1) (g+2+2+7+3+7+3+6+2+1) (xs++ar (bs by_)++[PV.lit (Value.int IntKind.u8 (IntKind.u8.wrap (aS (↑(Prod.fst (Utf8.decode (bs raw) p)):Int))))]) j' jr' g')))∧
 ((decide ((↑n:Int)>(0:Int)))=false→
 ((10:Nat)=10)∧
 ((10:Nat)=10)∧
 (gr=gr)∧
 (bg E0 196 [.mptr 0 0 0 0 0,.pv (PV.lit (.int .i32 (aS (↑(Prod.fst (Utf8.decode (bs raw) p)):Int))))] [⟨0,.box (.agg [.mptr 0 0 0 0 0,.msl 0 1 1 0 n false]) false⟩,⟨1,.row 1 5 xs false⟩] (.pv (.tup [au (IntKind.i64.wrap ((↑(n+1):Int)-(↑n:Int))),.lit .nilIface])) [⟨0,.box (.agg [.mptr 0 0 0 0 0,.msl 0 1 2 0 (n+1) false]) false⟩,⟨2,.row 1 5 (xs++[PV.lit (Value.int IntKind.u8 (IntKind.u8.wrap (aS (↑(Prod.fst (Utf8.decode (bs raw) p)):Int))))]) false⟩])∧
 (∀(j':Nat→AV) (jr':Nat→ak) (g':Nat),cd E0 Tryz.f147 r 0 (cN raw by_ (p+Prod.snd (Utf8.decode (bs raw) p)) (aR (↑(Prod.fst (Utf8.decode (bs raw) p)):Int)) (n+1) (g+2+2+7+3+7+3+6+1) (xs++[PV.lit (Value.int IntKind.u8 (IntKind.u8.wrap (aS (↑(Prod.fst (Utf8.decode (bs raw) p)):Int))))]) j' jr' g'))))∧
 ((last==(2:Int))=false→
 ((10:Nat)=10)∧
 ((10:Nat)=10)∧
 (gr=gr)∧
 (bg E0 196 [.mptr 0 0 0 0 0,.pv (PV.lit (.int .i32 (aS (↑(Prod.fst (Utf8.decode (bs raw) p)):Int))))] [⟨0,.box (.agg [.mptr 0 0 0 0 0,.msl 0 1 1 0 n false]) false⟩,⟨1,.row 1 5 xs false⟩] (.pv (.tup [au (IntKind.i64.wrap ((↑(n+1):Int)-(↑n:Int))),.lit .nilIface])) [⟨0,.box (.agg [.mptr 0 0 0 0 0,.msl 0 1 2 0 (n+1) false]) false⟩,⟨2,.row 1 5 (xs++[PV.lit (Value.int IntKind.u8 (IntKind.u8.wrap (aS (↑(Prod.fst (Utf8.decode (bs raw) p)):Int))))]) false⟩])∧
 (∀(j':Nat→AV) (jr':Nat→ak) (g':Nat),cd E0 Tryz.f147 r 0 (cN raw by_ (p+Prod.snd (Utf8.decode (bs raw) p)) (aR (↑(Prod.fst (Utf8.decode (bs raw) p)):Int)) (n+1) (g+2+2+7+3+7+3+6+1) (xs++[PV.lit (Value.int IntKind.u8 (IntKind.u8.wrap (aS (↑(Prod.fst (Utf8.decode (bs raw) p)):Int))))]) j' jr' g'))))∧
 ((aR (↑(Prod.fst (Utf8.decode (bs raw) p)):Int)==(1:Int))=false→
 ∀(j':Nat→AV) (jr':Nat→ak) (g':Nat),cd E0 Tryz.f147 r 0 (cN raw by_ (p+Prod.snd (Utf8.decode (bs raw) p)) (aR (↑(Prod.fst (Utf8.decode (bs raw) p)):Int)) n gr xs j' jr' g')))))∧
 ((decide (p<ByteArray.size (bs raw)))=false→
 ((10:Nat)=10)∧
 ((10:Nat)=10)∧
 (gr=gr)∧
 (bg E0 197 [.mptr 0 0 0 0 0] [⟨0,.box (.agg [.mptr 0 0 0 0 0,.msl 0 1 1 0 n false]) false⟩,⟨1,.row 1 5 xs false⟩] (cJ (bs (eB (List.take n xs)))) [⟨0,.box (.agg [.mptr 0 0 0 0 0,.msl 0 1 1 0 n false]) false⟩,⟨1,.row 1 5 xs true⟩])∧
 ((.tup [az (eB (List.take n xs)),bW (last==(1:Int))]):PV)=r)):=by kernel_rfl
theorem vk (raw:List UInt8) (by_:List UInt8) (j:Nat→AV) (jr:Nat→ak) (g:Nat) (r:PV):jU E0 Tryz.f147 r 0 2000 (.fork (.lit (.res (.tup [au (aR (↑(Prod.fst (Utf8.decode (bs raw) (0:Nat))):Int)),PV.lit (.int .i32 (aS (↑(Prod.fst (Utf8.decode (bs raw) (0:Nat))):Int)))]) (.fork (.br true (.hole 0)) (.fork (.lit (.resC (b7 0) [⟨0,.box (.agg [.btag 302,.pv (.sl 0 true true [])]) false⟩] (.lts 3 (.hole 0)))) (.lts 4 (.fork (.lit (.lit (.resC (b7 0) [⟨0,.box (.agg [.btag 302,.pv (.sl 0 true true [])]) false⟩] (.lts 3 (.resC (.pv (.tup [au 1,.lit .nilIface])) [⟨0,.box (.agg [.mptr 0 0 0 0 0,.msl 0 1 1 0 1 false]) false⟩,⟨1,.row 1 5 [PV.lit (.int .u8 (IntKind.u8.wrap (aS (↑(Prod.fst (Utf8.decode (bs raw) (0:Nat))):Int))))] false⟩] (.mask (iv [(0,0),(2,5),(8,20),(22,55)]) [49])))))) (.mask (iv [(0,0),(2,5),(8,20),(22,55)]) [49]))))))) (.lit (.resC (cJ (bs [])) [⟨0,.box (.agg [.btag 302,.pv (.sl 0 true true [])]) false⟩] (.hole 0)))) (pG raw by_ j jr g)=
  (((13:Nat)=13)∧
 ((decide ((0:Nat)<ByteArray.size (bs raw)))=true→
 (cU E0 193 [PV.lit (.int .i32 ((↑(Prod.fst (Utf8.decode (bs raw) (0:Nat))):Int)))] (.tup [au (aR (↑(Prod.fst (Utf8.decode (bs raw) (0:Nat))):Int)),PV.lit (.int .i32 (aS (↑(Prod.fst (Utf8.decode (bs raw) (0:Nat))):Int)))]))∧
 ((aR (↑(Prod.fst (Utf8.decode (bs raw) (0:Nat))):Int)==(0:Int))=true→
 ((aR (↑(Prod.fst (Utf8.decode (bs raw) (0:Nat))):Int)==(0:Int))=true)∧
 ((.tup [az [],bW false]):PV)=r)∧
 ((aR (↑(Prod.fst (Utf8.decode (bs raw) (0:Nat))):Int)==(0:Int))=false→
 ((aR (↑(Prod.fst (Utf8.decode (bs raw) (0:Nat))):Int)==(2:Int))=true→
 ((10:Nat)=10)∧
 (bg E0 194 [.mptr 0 0 0 0 0] [⟨0,.box (.agg [.btag 302,.pv (.sl 0 true true [])]) false⟩] (b7 0) [⟨0,.box (.agg [.btag 302,.pv (.sl 0 true true [])]) false⟩])∧
 ((.tup [az [],bW false]):PV)=r)∧
 ((aR (↑(Prod.fst (Utf8.decode (bs raw) (0:Nat))):Int)==(2:Int))=false→
 ((aR (↑(Prod.fst (Utf8.decode (bs raw) (0:Nat))):Int)==(1:Int))=true→
 ((10:Nat)=10)∧
 (bg E0 194 [.mptr 0 0 0 0 0] [⟨0,.box (.agg [.btag 302,.pv (.sl 0 true true [])]) false⟩] (b7 0) [⟨0,.box (.agg [.btag 302,.pv (.sl 0 true true [])]) false⟩])∧
 ((10:Nat)=10)∧
 (bg E0 196 [.mptr 0 0 0 0 0,.pv (PV.lit (.int .i32 (aS (↑(Prod.fst (Utf8.decode (bs raw) (0:Nat))):Int))))] [⟨0,.box (.agg [.btag 302,.pv (.sl 0 true true [])]) false⟩] (.pv (.tup [au 1,.lit .nilIface])) [⟨0,.box (.agg [.mptr 0 0 0 0 0,.msl 0 1 1 0 1 false]) false⟩,⟨1,.row 1 5 [PV.lit (.int .u8 (IntKind.u8.wrap (aS (↑(Prod.fst (Utf8.decode (bs raw) (0:Nat))):Int))))] false⟩])∧
 (∀(j':Nat→AV) (jr':Nat→ak) (g':Nat),cd E0 Tryz.f147 r 0 (cN raw by_ ((0:Nat)+Prod.snd (Utf8.decode (bs raw) (0:Nat))) (aR (↑(Prod.fst (Utf8.decode (bs raw) (0:Nat))):Int)) 1 (g+2+2+7+3+7+3+6+1) [PV.lit (.int .u8 (IntKind.u8.wrap (aS (↑(Prod.fst (Utf8.decode (bs raw) (0:Nat))):Int))))] j' jr' g')))∧
 ((aR (↑(Prod.fst (Utf8.decode (bs raw) (0:Nat))):Int)==(1:Int))=false→
 ∀(j':Nat→AV) (jr':Nat→ak) (g':Nat),cd E0 Tryz.f147 r 0 { t:=[j' 0,cJ (bs by_),j' 2,j' 3,j' 4,j' 5,.mptr 0 6 10 0 0,b7 (aR (↑(Prod.fst (Utf8.decode (bs raw) (0:Nat))):Int))]++jj j' 8 13++[.mptr 0 21 13 0 0]++jj j' 22 34,h:=[List.replicate 6 ae++[⟨10,.box (.agg [.btag 302,.pv (.sl 0 true true [])]) false⟩,ae,ae,ae,ae,ae,ae,ae,ae,ae,ae,ae,ae,ae,ae,⟨13,.iter (bs raw) ((0:Nat)+Prod.snd (Utf8.decode (bs raw) (0:Nat)))⟩,ae,ae,ae,ae,ae,ae,ae,ae,ae,ae,ae,ae,ae,ae,ae,ae,ae,ae,ae,ae,ae,ae,ae,ae,ae,ae,ae,jr' 49]++List.replicate 6 ae],g:=g'}))))∧
 ((decide ((0:Nat)<ByteArray.size (bs raw)))=false→
 ((10:Nat)=10)∧
 (bg E0 197 [.mptr 0 0 0 0 0] [⟨0,.box (.agg [.btag 302,.pv (.sl 0 true true [])]) false⟩] (cJ (bs [])) [⟨0,.box (.agg [.btag 302,.pv (.sl 0 true true [])]) false⟩])∧
 ((.tup [az [],bW false]):PV)=r)):=by kernel_rfl
theorem vl (raw:List UInt8) (r:PV):jS E0 Tryz.f83 [az raw] r 2000 (.res (.tup [az (Prod.fst (df raw [45])),bW (Prod.snd (df raw [45]))]) (.fork (.hole 0) (.hole 0)))=
  ((cU E0 147 [az raw,az [45]] (.tup [az (Prod.fst (df raw [45])),bW (Prod.snd (df raw [45]))]))∧
 ((!Prod.snd (df raw [45]))=true→
 ((.tup [az [],au 60]):PV)=r)∧
 ((!Prod.snd (df raw [45]))=false→
 ((.tup [az (Prod.fst (df raw [45])),au 0]):PV)=r)):=by kernel_rfl
theorem vm (x:Int) (h1: -2147483648≤x) (h2:x<2147483648):IntKind.wrap IntKind.i32 x=x:=by
 simp only [IntKind.wrap,IntKind.bits,IntKind.signed]
 simp
 omega
theorem pI (x:Int) (h1:0≤x) (h2:x<4294967296):IntKind.wrap IntKind.u32 x=x:=by
 simp only [IntKind.wrap,IntKind.bits,IntKind.signed]
 simp
 omega
theorem pJ (x:Int) (h1:0≤x) (h2:x<256):IntKind.wrap IntKind.u8 x=x:=by
 simp only [IntKind.wrap,IntKind.bits,IntKind.signed]
 simp
 omega
theorem pK {c k v:Int} (h1:de c=k) (h2:eK c=v):(.tup [au k,.lit (.int .i32 v)]:PV)= .tup [au (de c),.lit (.int .i32 (eK c))]:=by rw [h1,h2]
theorem eL (c:Int):cU E0 193 [.lit (.int .i32 c)] (.tup [au (aR c),.lit (.int .i32 (aS c))]):=by
  rw [iy,mc]
  refine lw 2000 _ rfl (by kernel_rfl) rfl rfl rfl rfl (Eq.mpr (vi c _) ?_)
  repeat' (first | intro _ | apply And.intro)
  all_goals first
    | assumption
    | (simp only [decide_eq_true_eq,decide_eq_false_iff_not,beq_iff_eq,beq_eq_false_iff_ne,ne_eq] at*
       first
         | (rw [vm _ (by omega) (by omega)]
            exact pK (by unfold de;(repeat' split)<;>omega) (by unfold eK;(repeat' split)<;>omega))
         | exact pK (by unfold de;(repeat' split)<;>omega) (by unfold eK;(repeat' split)<;>omega))
theorem vn {Q:UInt8→Prop} (h: ∀i:Fin 256,Q (UInt8.ofNat i.val)) (b:UInt8):Q b:=by
 have:=h ⟨b.toNat,b.toNat_lt⟩
 simpa using this
theorem me (b:UInt8):de b.toNat=((aI b).1:Int)∧((aI b).1=1→eK b.toNat=((aI b).2.toNat:Int)∧(aI b).2.toNat<128)∧(128≤b.toNat→(aI b).1=0)∧(aI b).1≤2:=
 vn (Q:=fun b=>de b.toNat=((aI b).1:Int)∧((aI b).1=1→eK b.toNat=((aI b).2.toNat:Int)∧(aI b).2.toNat<128)∧(128≤b.toNat→(aI b).1=0)∧(aI b).1≤2) (by decide+kernel) b
theorem vo (c:Int) (h:128≤c):de c=0:=by
 unfold de
 rw [if_neg (by omega),if_neg (by omega)]
theorem d5 (l:List UInt8):(ar (bs l)).length=l.length:=by simp [ar]
theorem jW (a b:List UInt8):ar (bs a)++ar (bs b)=ar (bs (a++b)):=by simp [ar]
theorem pL (b:UInt8):[PV.lit (.int .u8 (b.toNat:Int))]=ar (bs [b]):=by simp [ar]
theorem pM (l:List UInt8):cB (ar (bs l))=some l:=by
 show cB (l.map fun b=> .lit (.int .u8 (b.toNat:Int)))=some l
 induction l with
 | nil=>rfl
 | cons b l ih=>simp [cB,ih]
theorem pN (n:Nat) (h:n≤1000000):bO n 1=true:=by
 unfold bO
 simp only [Nat.mul_one,Bool.and_eq_true,decide_eq_true_eq]
 exact ⟨by show n≤140737488355328;omega,by show n≤9223372036854775807;omega⟩
theorem vp (c:Int) (h0:0≤c) (h1:c<128):bg E0 256 [.pv (.sl 0 true true []),.pv (PV.lit (.int .i32 c))] [] (.msl 0 0 0 0 1 false) [⟨0,.row 1 5 [PV.lit (.int .u8 (IntKind.u8.wrap c))] false⟩]:=by
 refine eC 2000 _ (fn:=Tryz.f256) (by kernel_rfl) rfl (Eq.mpr (vg c _ _) ⟨fun _=>⟨rfl,⟨rfl,Nat.le_refl _⟩,⟨rfl,rfl⟩,rfl,rfl,rfl⟩,fun h=> ?_⟩)
 rw [pI c h0 (by omega)] at h
 simp only [decide_eq_false_iff_not] at h
 omega
theorem vq (c:Int) (h0:0≤c) (h1:c<128) (n:Nat) (xs:List PV) (hn:xs.length=n) (hs:n+1≤1000000):bg E0 256 [.msl 0 0 0 0 n false,.pv (PV.lit (.int .i32 c))] [⟨0,.row 1 5 xs false⟩] (.msl 0 0 1 0 (n+1) false) [⟨1,.row 1 5 (xs++[PV.lit (Value.int IntKind.u8 (IntKind.u8.wrap c))]) false⟩]:=by
 refine eC 2000 _ (fn:=Tryz.f256) (by kernel_rfl) rfl (Eq.mpr (vh c n xs _ _) ⟨fun _=>⟨rfl,⟨rfl,Nat.le_refl _⟩,rfl,⟨rfl,rfl,rfl,by omega,pN _ hs⟩,rfl,trivial,rfl,rfl⟩,fun h=> ?_⟩)
 rw [pI c h0 (by omega)] at h
 simp only [decide_eq_false_iff_not] at h
 omega
theorem vr (c:Int) (h0:0≤c) (h1:c<128):bg E0 196 [.mptr 0 0 0 0 0,.pv (PV.lit (.int .i32 c))] [⟨0,.box (.agg [.btag 302,.pv (.sl 0 true true [])]) false⟩] (.pv (.tup [au 1,PV.lit .nilIface])) [⟨0,.box (.agg [.mptr 0 0 0 0 0,.msl 0 1 1 0 1 false]) false⟩,⟨1,.row 1 5 [PV.lit (.int .u8 (IntKind.u8.wrap c))] false⟩]:=
 eC 2000 _ (fn:=Tryz.f196) (by kernel_rfl) rfl (Eq.mpr (_strings_Builder_WriteRuneA_go c _ _) ⟨rfl,rfl,rfl,vp c h0 h1,rfl,rfl,rfl,rfl,rfl,rfl,rfl⟩)
theorem vu (c:Int) (h0:0≤c) (h1:c<128) (n:Nat) (xs:List PV) (hn:xs.length=n) (hs:n+1≤1000000):bg E0 196 [.mptr 0 0 0 0 0,.pv (PV.lit (.int .i32 c))] [⟨0,.box (.agg [.mptr 0 0 0 0 0,.msl 0 1 1 0 n false]) false⟩,⟨1,.row 1 5 xs false⟩] (.pv (.tup [au (IntKind.wrap IntKind.i64 ((↑(n+1):Int)-(↑n:Int))),PV.lit .nilIface])) [⟨0,.box (.agg [.mptr 0 0 0 0 0,.msl 0 1 2 0 (n+1) false]) false⟩,⟨2,.row 1 5 (xs++[PV.lit (Value.int IntKind.u8 (IntKind.u8.wrap c))]) false⟩]:=
 eC 2000 _ (fn:=Tryz.f196) (by kernel_rfl) rfl (Eq.mpr (_strings_Builder_WriteRuneB_go c n xs _ _) ⟨rfl,⟨rfl,rfl,rfl⟩,rfl,rfl,rfl,vq c h0 h1 n xs hn hs,rfl,rfl,rfl,rfl,rfl,trivial,rfl,rfl⟩)
theorem vv (s:List UInt8) (n:Nat) (xs:List PV) (hn:xs.length=n) (hs:n+s.length≤1000000):bg E0 195 [.mptr 0 0 0 0 0,cJ (bs s)] [⟨0,.box (.agg [.mptr 0 0 0 0 0,.msl 0 1 1 0 n false]) false⟩,⟨1,.row 1 5 xs false⟩] (.pv (.tup [au ((↑(ByteArray.size (bs s)):Int)),PV.lit .nilIface])) [⟨0,.box (.agg [.mptr 0 0 0 0 0,.msl 0 1 2 0 (n+List.length (ar (bs s))) false]) false⟩,⟨2,.row 1 5 (xs++ar (bs s)) false⟩]:=
 eC 2000 _ (fn:=Tryz.f195) (by kernel_rfl) rfl (Eq.mpr (_strings_Builder_WriteStringB_go s n xs _ _) ⟨rfl,⟨rfl,rfl,rfl⟩,rfl,rfl,rfl,⟨rfl,rfl,rfl,by omega,pN _ (by rw [d5];exact hs)⟩,rfl,rfl,rfl,rfl,trivial,rfl,rfl⟩)
theorem pO:bg E0 194 [.mptr 0 0 0 0 0] [⟨0,.box (.agg [.btag 302,.pv (.sl 0 true true [])]) false⟩] (b7 0) [⟨0,.box (.agg [.btag 302,.pv (.sl 0 true true [])]) false⟩]:=
 eC 2000 _ (fn:=Tryz.f194) (by kernel_rfl) rfl (Eq.mpr (_strings_Builder_LenA_go 0 _ _) ⟨rfl,rfl,rfl,rfl⟩)
theorem pP (n:Nat) (xs:List PV):bg E0 194 [.mptr 0 0 0 0 0] [⟨0,.box (.agg [.mptr 0 0 0 0 0,.msl 0 1 1 0 n false]) false⟩,⟨1,.row 1 5 xs false⟩] (b7 (n:Int)) [⟨0,.box (.agg [.mptr 0 0 0 0 0,.msl 0 1 1 0 n false]) false⟩,⟨1,.row 1 5 xs false⟩]:=
 eC 2000 _ (fn:=Tryz.f194) (by kernel_rfl) rfl (Eq.mpr (_strings_Builder_LenB_go n xs _ _) ⟨rfl,rfl,rfl,rfl,rfl,rfl,rfl⟩)
theorem vw (l:List UInt8) (hl:l≠[]) (hs:l.length≤1000000):bg E0 197 [.mptr 0 0 0 0 0] [⟨0,.box (.agg [.mptr 0 0 0 0 0,.msl 0 1 1 0 l.length false]) false⟩,⟨1,.row 1 5 (ar (bs l)) false⟩] (cJ (bs (eB (List.take l.length (ar (bs l)))))) [⟨0,.box (.agg [.mptr 0 0 0 0 0,.msl 0 1 1 0 l.length false]) false⟩,⟨1,.row 1 5 (ar (bs l)) true⟩]:=by
 obtain ⟨n,hn⟩: ∃n,l.length=n+1:=⟨l.length-1,by have:=List.length_pos_iff.2 hl;omega⟩
 rw [hn]
 have ht:List.take (Int.toNat (↑(n+1):Int)) (List.drop (0:Nat) (ar (bs l)))=ar (bs l):=by
  rw [Int.toNat_natCast,List.drop_zero,List.take_of_length_le (by rw [d5];omega)]
 have h2:List.take (n+1) (ar (bs l))=ar (bs l):=List.take_of_length_le (by rw [d5];omega)
 refine eC 2000 _ (fn:=Tryz.f197) (by kernel_rfl) rfl (Eq.mpr (_strings_Builder_StringB_go n (ar (bs l)) _ _) ?_)
 rw [ht,h2]
 refine ⟨rfl,rfl,rfl,⟨⟨by omega,by omega,?_,rfl,rfl⟩,by rw [pM];rfl⟩,rfl,rfl,rfl,rfl,rfl,rfl⟩
 rw [d5,Int.toNat_natCast]
 omega
theorem pQ (by_:List UInt8) (b:UInt8) (l out:List UInt8) (sg:Bool):cf by_ (b::l) out sg=if (aI b).1=1 then cf by_ l ((if sg&& !out.isEmpty then out++by_ else out)++[(aI b).2]) false
  else if (aI b).1=2∧out.isEmpty=false then cf by_ l out true else ([],false):=rfl
theorem pR (raw:List UInt8) (p:Nat) (hp:p<raw.length):(∃w,Utf8.decode (bs raw) p=(raw[p].toNat,1)∧w=1∧raw[p].toNat<128)∨(∃c w,Utf8.decode (bs raw) p=(c,w)∧de c=0∧(aI raw[p]).1=0):=by
 have hp':p<(bs raw).size:=hp
 have hg:(bs raw)[p]'hp'=raw[p]:=rfl
 by_cases h:raw[p].toNat<128
 ·exact .inl ⟨1,by have:=decode_ascii (bs raw) p hp' (by rw [hg];exact h);rw [hg] at this;exact this,rfl,h⟩
 ·have h1:=decode_high (bs raw) p hp' (by rw [hg];omega)
  exact .inr ⟨(Utf8.decode (bs raw) p).1,(Utf8.decode (bs raw) p).2,rfl,vo _ (by omega),(me raw[p]).2.2.1 (by omega)⟩
def eM (sg:Bool):Int:=if sg then 2 else 1
set_option maxRecDepth 100000 in
theorem vz (raw by_:List UInt8) (hr:raw.length≤64) (hb:by_.length≤1000): ∀(m p:Nat) (out:List UInt8) (sg:Bool) (gr:Nat) j jr g,p+m=raw.length→out≠[]→out.length≤p*1001→
  cd E0 Tryz.f147 (.tup [az (cf by_ (raw.drop p) out sg).1,bW (cf by_ (raw.drop p) out sg).2]) 0 (cN raw by_ p (eM sg) out.length gr (ar (bs out)) j jr g):=by
 intro m
 induction m with
 | zero=>
  intro p out sg gr j jr g hm ho hl
  refine lB 2000 _ (Eq.mpr (pH raw by_ p (eM sg) out.length gr (ar (bs out)) j jr g _) ⟨rfl,fun h=> ?_,fun h=>⟨rfl,rfl,rfl,vw out ho (by omega),?_⟩⟩)
  ·simp [gj] at h;omega
  ·have h2:List.take out.length (ar (bs out))=ar (bs out):=List.take_of_length_le (by rw [d5];omega)
   rw [List.drop_eq_nil_of_le (by omega),h2]
   unfold eB
   rw [pM]
   cases sg<;>rfl
 | succ m ih=>
  intro p out sg gr j jr g hm ho hl
  have hp:p<raw.length:=by omega
  have hne:((out.length:Int)==(0:Int))=false:=by
   have:=List.length_pos_iff.2 ho
   simp;omega
  have hgt:(decide ((out.length:Int)>(0:Int)))=true:=by
   have:=List.length_pos_iff.2 ho
   simp;omega
  have hie:out.isEmpty=false:=by cases out with
   | nil=>exact absurd rfl ho
   | cons a l=>rfl
  have hsz:(decide (p<ByteArray.size (bs raw)))=true:=by simp [gj];exact hp
  refine lB 2000 _ (Eq.mpr (pH raw by_ p (eM sg) out.length gr (ar (bs out)) j jr g _) ?_)
  rw [List.drop_eq_getElem_cons hp,pQ]
  rcases pR raw p hp with ⟨w,hd,_,hlt⟩ | ⟨c,w,hd,hK,hw⟩
  ·obtain ⟨k1,k2,_,k4⟩:=me raw[p]
   rw [hd]
   dsimp only
   rw [hsz]
   have hcK:aR (raw[p].toNat:Int)=((aI raw[p]).1:Int):=by rw [iy,k1]
   by_cases e1:(aI raw[p]).1=1
   ·obtain ⟨v1,v2⟩:=k2 e1
    have hcV:aS (raw[p].toNat:Int)=((aI raw[p]).2.toNat:Int):=by rw [mc,v1]
    have hw8:IntKind.u8.wrap ((aI raw[p]).2.toNat:Int)=((aI raw[p]).2.toNat:Int):=pJ _ (by omega) (by omega)
    have hden:=eL (raw[p].toNat:Int)
    rw [hcK,hcV] at hden ⊢
    rw [if_pos e1]
    rw [e1] at hden ⊢
    rw [hw8]
    have hrun: ∀(x:List UInt8),x.length≤1000000-1→bg E0 196 [.mptr 0 0 0 0 0,.pv (PV.lit (.int .i32 ((aI raw[p]).2.toNat:Int)))] [⟨0,.box (.agg [.mptr 0 0 0 0 0,.msl 0 1 1 0 x.length false]) false⟩,⟨1,.row 1 5 (ar (bs x)) false⟩] (.pv (.tup [au (IntKind.wrap IntKind.i64 ((↑(x.length+1):Int)-(↑x.length:Int))),PV.lit .nilIface])) [⟨0,.box (.agg [.mptr 0 0 0 0 0,.msl 0 1 2 0 (x.length+1) false]) false⟩,⟨2,.row 1 5 (ar (bs x)++[PV.lit (Value.int IntKind.u8 ((aI raw[p]).2.toNat:Int))]) false⟩]:=by
     intro x hx
     have:=vu ((aI raw[p]).2.toNat:Int) (by omega) (by omega) x.length (ar (bs x)) (d5 x) (by omega)
     rw [hw8] at this
     exact this
    have fin1: ∀(j':Nat→AV) (jr':Nat→ak) (g' gr':Nat),(sg&& !out.isEmpty)=false→cd E0 Tryz.f147 (.tup [az (cf by_ (raw.drop (p+1)) ((if sg&& !out.isEmpty then out++by_ else out)++[(aI raw[p]).2]) false).1,bW (cf by_ (raw.drop (p+1)) ((if sg&& !out.isEmpty then out++by_ else out)++[(aI raw[p]).2]) false).2]) 0 (cN raw by_ (p+1) ((1:Nat):Int) (out.length+1) gr' (ar (bs out)++[PV.lit (Value.int IntKind.u8 ((aI raw[p]).2.toNat:Int))]) j' jr' g'):=by
     intro j' jr' g' gr' hsg
     rw [hsg]
     simp only [Bool.false_eq_true,if_false]
     have:=ih (p+1) (out++[(aI raw[p]).2]) false gr' j' jr' g' (by omega) (by simp) (by simp;omega)
     rw [pL,jW]
     simpa [eM] using this
    have fin2: ∀(j':Nat→AV) (jr':Nat→ak) (g' gr':Nat),(sg&& !out.isEmpty)=true→cd E0 Tryz.f147 (.tup [az (cf by_ (raw.drop (p+1)) ((if sg&& !out.isEmpty then out++by_ else out)++[(aI raw[p]).2]) false).1,bW (cf by_ (raw.drop (p+1)) ((if sg&& !out.isEmpty then out++by_ else out)++[(aI raw[p]).2]) false).2]) 0 (cN raw by_ (p+1) ((1:Nat):Int) (out.length+List.length (ar (bs by_))+1) gr' (ar (bs out)++ar (bs by_)++[PV.lit (Value.int IntKind.u8 ((aI raw[p]).2.toNat:Int))]) j' jr' g'):=by
     intro j' jr' g' gr' hsg
     rw [hsg]
     simp only [if_true]
     have:=ih (p+1) (out++by_++[(aI raw[p]).2]) false gr' j' jr' g' (by omega) (by simp) (by simp;omega)
     rw [pL,jW,jW,d5]
     simpa [eM,Nat.add_assoc] using this
    refine ⟨rfl,fun _=>⟨hden,fun h=>(by simp at h),fun _=>⟨fun h=>(by simp at h),fun _=>⟨fun _=>⟨fun hs=>⟨rfl,rfl,rfl,pP _ _,fun _=>⟨rfl,rfl,rfl,vv by_ out.length _ (d5 out) (by omega),rfl,rfl,rfl,?_,fun j' jr' g'=> ?_⟩,fun h=> ?_⟩,fun hs=>⟨rfl,rfl,rfl,hrun out (by omega),fun j' jr' g'=> ?_⟩⟩,fun h=>(by simp at h)⟩⟩⟩,fun h=>(by simp at h)⟩
    ·have:=hrun (out++by_) (by simp;omega)
     rw [←jW,List.length_append] at this
     rw [d5]
     exact this
    ·refine fin2 j' jr' g' _ ?_
     cases sg with
     | true=>rw [hie];rfl
     | false=>simp [eM] at hs
    ·rw [hgt] at h;cases h
    ·refine fin1 j' jr' g' _ ?_
     cases sg with
     | false=>rfl
     | true=>simp [eM] at hs
   ·by_cases e2:(aI raw[p]).1=2
    ·have hden:=eL (raw[p].toNat:Int)
     rw [hcK] at hden ⊢
     rw [if_neg e1,if_pos ⟨e2,hie⟩]
     rw [e2] at hden ⊢
     refine ⟨rfl,fun _=>⟨hden,fun h=>(by simp at h),fun _=>⟨fun _=>⟨rfl,rfl,rfl,pP _ _,fun h=>(by rw [hne] at h;cases h),fun _=>⟨fun h=>(by simp at h),fun _ j' jr' g'=> ?_⟩⟩,fun h=>(by simp at h)⟩⟩,fun h=>(by simp at h)⟩
     have:=ih (p+1) out true gr j' jr' g' (by omega) ho (by omega)
     simpa [eM] using this
    ·have e0:(aI raw[p]).1=0:=by omega
     have hden:=eL (raw[p].toNat:Int)
     rw [hcK] at hden ⊢
     rw [if_neg e1,if_neg (fun h=>e2 h.1)]
     rw [e0] at hden ⊢
     exact ⟨rfl,fun _=>⟨hden,fun _=>⟨by simp,rfl⟩,fun h=>(by simp at h)⟩,fun h=>(by simp at h)⟩
  ·rw [hd]
   dsimp only
   rw [hsz,if_neg (by omega),if_neg (fun h=>by have:=h.1;omega)]
   have hden:=eL (c:Int)
   have hcK:aR (c:Int)=0:=by rw [iy,hK]
   rw [hcK] at hden ⊢
   exact ⟨rfl,fun _=>⟨hden,fun _=>⟨rfl,rfl⟩,fun h=>(by simp at h)⟩,fun h=>(by simp at h)⟩
set_option maxRecDepth 100000 in
theorem vA (raw by_:List UInt8) (hb:by_.length≤1000):cU E0 147 [az raw,az by_] (.tup [az (df raw by_).1,bW (df raw by_).2]):=by
 rw [md]
 refine lw 2000 _ rfl (by kernel_rfl) rfl rfl rfl rfl (Eq.mpr (vj raw by_ _) ⟨fun h=> ?_,fun h=>⟨fun h2=> ?_,fun h2 j jr g=> ?_⟩⟩)
 ·simp only [decide_eq_true_eq,gj] at h
  unfold eG
  rw [if_pos (.inl (by omega))]
 ·simp only [decide_eq_true_eq,gj] at h2
  unfold eG
  rw [if_pos (.inr (by omega))]
 simp only [decide_eq_false_iff_not,gj] at h h2
 have hS:eG raw by_=cf by_ raw [] true:=by
  unfold eG
  rw [if_neg (by omega)]
 rw [hS]
 have hp:0<raw.length:=by omega
 have hsz:(decide (0<ByteArray.size (bs raw)))=true:=by simp [gj];exact hp
 refine lB 2000 _ (Eq.mpr (vk raw by_ j jr g _) ?_)
 have hraw:cf by_ raw [] true=cf by_ (raw[0]::raw.drop 1) [] true:=by
  have:=List.drop_eq_getElem_cons hp
  rw [List.drop_zero] at this
  exact congrArg (fun x=>cf by_ x [] true) this
 rw [hraw,pQ]
 rcases pR raw 0 hp with ⟨w,hd,_,hlt⟩ | ⟨c,w,hd,hK,hw⟩
 ·obtain ⟨k1,k2,_,k4⟩:=me raw[0]
  rw [hd]
  dsimp only
  rw [hsz]
  have hcK:aR (raw[0].toNat:Int)=((aI raw[0]).1:Int):=by rw [iy,k1]
  by_cases e1:(aI raw[0]).1=1
  ·obtain ⟨v1,v2⟩:=k2 e1
   have hcV:aS (raw[0].toNat:Int)=((aI raw[0]).2.toNat:Int):=by rw [mc,v1]
   have hw8:IntKind.u8.wrap ((aI raw[0]).2.toNat:Int)=((aI raw[0]).2.toNat:Int):=pJ _ (by omega) (by omega)
   have hden:=eL (raw[0].toNat:Int)
   rw [hcK,hcV] at hden ⊢
   rw [if_pos e1]
   rw [e1] at hden ⊢
   have hr:=vr ((aI raw[0]).2.toNat:Int) (by omega) (by omega)
   refine ⟨rfl,fun _=>⟨hden,fun h=>(by simp at h),fun _=>⟨fun h=>(by simp at h),fun _=>⟨fun _=>⟨rfl,pO,rfl,hr,fun j' jr' g'=> ?_⟩,fun h=>(by simp at h)⟩⟩⟩,fun h=>(by simp at h)⟩
   have:=vz raw by_ (by omega) hb (raw.length-1) 1 [(aI raw[0]).2] false (g+2+2+7+3+7+3+6+1) j' jr' g' (by omega) (by simp) (by simp)
   rw [hw8]
   exact this
  ·by_cases e2:(aI raw[0]).1=2
   ·have hden:=eL (raw[0].toNat:Int)
    rw [hcK] at hden ⊢
    rw [if_neg e1,if_neg (by simp)]
    rw [e2] at hden ⊢
    exact ⟨rfl,fun _=>⟨hden,fun h=>(by simp at h),fun _=>⟨fun _=>⟨rfl,pO,rfl⟩,fun h=>(by simp at h)⟩⟩,fun h=>(by simp at h)⟩
   ·have e0:(aI raw[0]).1=0:=by omega
    have hden:=eL (raw[0].toNat:Int)
    rw [hcK] at hden ⊢
    rw [if_neg e1,if_neg (fun h=>e2 h.1)]
    rw [e0] at hden ⊢
    exact ⟨rfl,fun _=>⟨hden,fun _=>⟨by simp,rfl⟩,fun h=>(by simp at h)⟩,fun h=>(by simp at h)⟩
 ·rw [hd]
  dsimp only
  rw [hsz,if_neg (by omega),if_neg (fun h=>by have:=h.1;omega)]
  have hden:=eL (c:Int)
  have hcK:aR (c:Int)=0:=by rw [iy,hK]
  rw [hcK] at hden ⊢
  exact ⟨rfl,fun _=>⟨hden,fun _=>⟨by simp,rfl⟩,fun h=>(by simp at h)⟩,fun h=>(by simp at h)⟩
theorem vB (raw:List UInt8):cU E0 83 [az raw] (.tup [az (gi raw).1,au (gi raw).2]):=by
 refine lw 2000 _ rfl (by kernel_rfl) rfl rfl rfl rfl (Eq.mpr (vl raw _) ⟨vA raw [45] (by simp),fun h=> ?_,fun h=> ?_⟩)
 ·rw [md] at h
  unfold gi
  simp only [Bool.not_eq_true'] at h
  rw [h];rfl
 ·rw [md] at h ⊢
  unfold gi
  simp only [Bool.not_eq_false'] at h
  rw [h];rfl
end Go.Proofs.YtdbjadjdljaobaaGreatDoor.Abs

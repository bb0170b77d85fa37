/-
  The abstract machine over the model, its soundness, walks of the program's functions and what they compute. Conditions: the values are of their types.
-/
import Derived.Test.YtdbjadjdljaobaaGreatDoorNf

set_option linter.all false
set_option linter.unnecessarySimpa false

namespace Go.Proofs.YtdbjadjdljaobaaGreatDoor.Abs
open Go Go.Proofs Go.RowKit
def iw (l:List (List PV×PV)) (ps:List PV):Option PV:=(l.find? fun q=>bJ (cD 8) ps q.1).map (·.2)
theorem u5 {l:List (List PV×PV)} {ps:List PV} {r:PV} (h:iw l ps=some r):(ps,r)∈l:=by
 unfold iw at h
 simp only [Option.map_eq_some_iff] at h
 obtain ⟨q,hq,rfl⟩:=h
 have h1:=List.find?_some hq
 have h2:=List.mem_of_find?_eq_some hq
 rw [b6 (dH 8) h1]
 exact h2
def eI (k:Int) (name ver:List UInt8) (n:Int):PV:= .agg [.lit (.int .u8 k),az [97,108,105,99,101],az name,az ver,.sl 0 true true [],.lit (.int .u64 0),.lit (.int .u32 n),.lit (.int .u32 0),az [],az []]
def gp:List UInt8:=[102,111,111]
def gq:List UInt8:=[49,46,48,46,48]
def eJ:List UInt8:=[49,46,49,46,48]
def pD:List (List PV×PV):=[([eI 1 [] [] 0],.lit (.int .i64 0)),([eI 2 gp gq 1],.lit (.int .i64 0)),([eI 2 gp eJ 1],.lit (.int .i64 0)),([eI 3 gp eJ 0],.lit (.int .i64 0))]
def pE:List (List PV×PV):=[([az (94::gq),.sl 1 false false [az eJ,az gq]],.tup [az eJ,.lit (.bool true),.lit (.int .i64 0)])]
theorem m1:cM (aL E0 60 [] 96 ([eI 1 [] [] 0].map .pv) 0 0 0 [[]] 1)=some (.lit (.int .i64 0)):=by kernel_rfl
theorem m2:cM (aL E0 60 [] 96 ([eI 2 gp gq 1].map .pv) 0 0 0 [[]] 1)=some (.lit (.int .i64 0)):=by kernel_rfl
theorem m3:cM (aL E0 60 [] 96 ([eI 2 gp eJ 1].map .pv) 0 0 0 [[]] 1)=some (.lit (.int .i64 0)):=by kernel_rfl
theorem m4:cM (aL E0 60 [] 96 ([eI 3 gp eJ 0].map .pv) 0 0 0 [[]] 1)=some (.lit (.int .i64 0)):=by kernel_rfl
theorem p1:cM (aL E0 60 [] 58 ([az (94::gq),.sl 1 false false [az eJ,az gq]].map .pv) 0 0 0 [[]] 1)=some (.tup [az eJ,.lit (.bool true),.lit (.int .i64 0)]):=by kernel_rfl
def ma (f:FuncId):Option (List PV→Option PV):=match f with
 | 96=>some (iw pD)
 | 58=>some (iw pE)
 | f=>iq f
noncomputable def dK:ap:= { E0 with intr:=ma}
theorem u6:cM (aL dK 60 [] 7 (([]:List PV).map .pv) 0 0 0 [[]] 1)=some (.lit (.bool true)):=by kernel_rfl
theorem pF {f:FuncId} {l:List (List PV×PV)} (h: ∀q∈l,cM (aL E0 60 [] f (q.1.map .pv) 0 0 0 [[]] 1)=some q.2):ce dK f (iw l):=by
 intro ps r hF I w us hgl hl hr hin
 have hm:=u5 hF
 exact run_pure l9 (h _ hm) hgl hl hr hin
theorem u7:(Tryz.prog.funcs.toList.zipIdx.all fun q=> !(dK.ok q.2)||b9 dK q.1)=true:=by kernel_rfl
theorem u9 (f:FuncId) (fn:Func) (h1:dK.ok f=true) (h2:Tryz.prog.funcs[f]? =some fn):b9 dK fn=true:=by
 have h:(!(dK.ok f)||b9 dK fn)=true:=List.all_eq_true.1 u7 (fn,f) (by
  rw [List.mem_zipIdx_iff_getElem?]
  simpa using h2)
 rw [h1] at h
 simpa using h
theorem vd (f:FuncId) (F:List PV→Option PV) (h:ma f=some F):ce dK f F:=by
 unfold ma at h
 split at h
 ·cases h
  refine pF fun q hq=> ?_
  simp only [pD,List.mem_cons,List.not_mem_nil,or_false] at hq
  rcases hq with rfl | rfl | rfl | rfl
  ·exact m1
  ·exact m2
  ·exact m3
  ·exact m4
 ·cases h
  refine pF fun q hq=> ?_
  simp only [pE,List.mem_cons,List.not_mem_nil,or_false] at hq
  subst hq
  exact p1
 ·exact l6 f F h
theorem ve:dI dK:=⟨l7,l8,l5,u9,fun f F hF ps r hr I w us h1 h2 h3 h4=>vd f F hF ps r hr I w us h1 h2 h3 h4⟩
theorem vf (I:ah) (w:World) (hgl:Gl E0 I w) (hin: ∀b,I b→bn w b):cS Tryz.prog 7 #[] w I (.lit (.bool true)):=
 run_pure (us:=[]) ve u6 hgl rfl (fun j p u h=>by simp at h) hin
end Go.Proofs.YtdbjadjdljaobaaGreatDoor.Abs

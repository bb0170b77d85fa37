/-
  The environment with the closed check keeps its promises. Conditions: none.
-/
import Derived.Test.YtdbjadjdljaobaaGreatDoorNe
import Derived.Test.YtdbjadjdljaobaaGreatDoorNg
import Derived.Test.YtdbjadjdljaobaaGreatDoorNh
import Derived.Test.YtdbjadjdljaobaaGreatDoorNi

set_option linter.all false
set_option linter.unnecessarySimpa false

namespace Go.Proofs.YtdbjadjdljaobaaGreatDoor.Abs
open Go Go.Proofs Go.RowKit
theorem vC:(Tryz.prog.funcs.toList.zipIdx.all fun q=> !(E1.ok q.2)||b9 E1 q.1)=true:=by kernel_rfl
theorem vD (f:FuncId) (fn:Func) (h1:E1.ok f=true) (h2:Tryz.prog.funcs[f]? =some fn):b9 E1 fn=true:=by
 have h:(!(E1.ok f)||b9 E1 fn)=true:=List.all_eq_true.1 vC (fn,f) (by
  rw [List.mem_zipIdx_iff_getElem?]
  simpa using h2)
 rw [h1] at h
 simpa using h
theorem pS {f:FuncId} (h: ∀(I:ah) (w:World),Gl E0 I w→(∀b,I b→bn w b)→cS Tryz.prog f #[] w I (.lit (.bool true))):ce E1 f jV:=by
 intro ps r hF I w us hgl hl hr hin
 unfold jV at hF
 split at hF
 ·cases hF
  have:us=[]:=by simpa using hl
  subst this
  exact h I w hgl hin
 ·cases hF
theorem vE:ce E1 83 lN:=by
 intro ps r hF I w us hgl hl hr hin
 unfold lN at hF
 split at hF
 ·rename_i b
  cases hF
  have hb:(PV.lit (.string b))=az b.data.toList:=by cases b;simp [az]
  rw [hb] at hr
  exact sZ (E:=E0) (ps:=[az b.data.toList]) l9 (vB b.data.toList) hgl hl hr hin
 ·cases hF
theorem vF (f:FuncId) (F:List PV→Option PV) (h:lO f=some F):ce E1 f F:=by
 unfold lO at h
 split at h
 ·cases h;exact pS u4
 ·cases h;exact pS vf
 ·cases h;exact vE
 ·exact l6 f F h
theorem vG:dI E1:=⟨l7,l8,l5,vD,fun f F hF ps r hr I w us h1 h2 h3 h4=>vF f F hF ps r hr I w us h1 h2 h3 h4⟩
end Go.Proofs.YtdbjadjdljaobaaGreatDoor.Abs

/-
  The environment with the closed check keeps its promises. Conditions: none.
-/
import Derived.Test.YthkilaondjgemaaGreatDoorNd
import Derived.Test.YthkilaondjgemaaGreatDoorNf
import Derived.Test.YthkilaondjgemaaGreatDoorNg
import Derived.Test.YthkilaondjgemaaGreatDoorNh
import Derived.Test.YthkilaondjgemaaGreatDoorNi

set_option linter.all false
set_option linter.unnecessarySimpa false

namespace Go.Proofs.YthkilaondjgemaaGreatDoor.Abs
open Go Go.Proofs Go.RowKit
theorem qf:(Tryz.prog.funcs.toList.zipIdx.all fun q=> !(E1.ok q.2)||cv E1 q.1)=true:=by kernel_rfl
theorem qg (f:FuncId) (fn:Func) (h1:E1.ok f=true) (h2:Tryz.prog.funcs[f]? =some fn):cv E1 fn=true:=by
 have h:(!(E1.ok f)||cv E1 fn)=true:=List.all_eq_true.1 qf (fn,f) (by
  rw [List.mem_zipIdx_iff_getElem?]
  simpa using h2)
 rw [h1] at h
 simpa using h
theorem gH {f:FuncId} (h: ∀(I:af) (w:World),Gl E0 I w→(∀b,I b→aO w b)→b4 Tryz.prog f #[] w I (.lit (.bool true))):b5 E1 f ew:=by
 intro ps r hF I w us hgl hl hr hin
 unfold ew at hF
 split at hF
 ·cases hF
  have:us=[]:=by simpa using hl
  subst this
  exact h I w hgl hin
 ·cases hF
theorem qh (f:FuncId) (F:List PV→Option PV) (h:jc f=some F):b5 E1 f F:=by
 unfold jc at h
 split at h
 ·cases h;exact gH p8
 ·cases h;exact gH qa
 ·cases h;exact gH qc
 ·cases h;exact gH qe
 ·exact lV f F h
theorem qi:di E1:=⟨lW,lX,lS,qg,fun f F hF ps r hr I w us h1 h2 h3 h4=>qh f F hF ps r hr I w us h1 h2 h3 h4⟩
end Go.Proofs.YthkilaondjgemaaGreatDoor.Abs

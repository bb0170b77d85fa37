/-
  The abstract machine over the model, its soundness, walks of the program's functions and what they compute. Conditions: the values are of their types.
-/
import Derived.Test.YtdbjadjdljaobaaGreatDoorNf

set_option linter.all false
set_option linter.unnecessarySimpa false

namespace Go.Proofs.YtdbjadjdljaobaaGreatDoor.Abs
open Go Go.Proofs Go.RowKit
theorem u3:cM (aL E0 60 [] 29 (([]:List PV).map .pv) 0 0 0 [[]] 1)=some (.lit (.bool true)):=by kernel_rfl
theorem u4 (I:ah) (w:World) (hgl:Gl E0 I w) (hin: ∀b,I b→bn w b):cS Tryz.prog 29 #[] w I (.lit (.bool true)):=
 run_pure (us:=[]) l9 u3 hgl rfl (fun j p u h=>by simp at h) hin
end Go.Proofs.YtdbjadjdljaobaaGreatDoor.Abs

/-
  The abstract machine over the model, its soundness, walks of the program's functions and what they compute. Conditions: the values are of their types.
-/
import Derived.Test.YthkilaondjgemaaGreatDoorNe

set_option linter.all false
set_option linter.unnecessarySimpa false

namespace Go.Proofs.YthkilaondjgemaaGreatDoor.Abs
open Go Go.Proofs Go.RowKit
theorem p7:cT (bc E0 60 [] 7 (([]:List PV).map .pv) 0 0 0 [[]] 1)=some (.lit (.bool true)):=by kernel_rfl
theorem p8 (I:af) (w:World) (hgl:Gl E0 I w) (hin: ∀b,I b→aO w b):b4 Tryz.prog 7 #[] w I (.lit (.bool true)):=
 run_pure (us:=[]) gG p7 hgl rfl (fun j p u h=>by simp at h) hin
end Go.Proofs.YthkilaondjgemaaGreatDoor.Abs

/-
  A call of the law's closed check, by computing the abstract machine. Conditions: none.
-/
import Derived.Test.YtlhfgonjcpapnaaGreatDoorNe

set_option linter.all false
set_option linter.unnecessarySimpa false

namespace Go.Proofs.YtlhfgonjcpapnaaGreatDoor.Abs
open Go Go.Proofs
def form2A : List PV := [strP [62, 61, 49, 46, 48, 46, 48, 32, 60, 50, 46, 48, 46, 48, 32, 124, 124, 32, 61, 50, 46, 48, 46, 48]]
def form2R : PV := .tup [strP [62, 61, 49, 46, 48, 46, 48, 32, 60, 61, 50, 46, 48, 46, 48], .lit (.int .i64 0)]
theorem form2_run : resP (callN E0 120 [] 21 (form2A.map .pv) 0 0 0 [[]] 1) = some form2R := by kernel_rfl
end Go.Proofs.YtlhfgonjcpapnaaGreatDoor.Abs

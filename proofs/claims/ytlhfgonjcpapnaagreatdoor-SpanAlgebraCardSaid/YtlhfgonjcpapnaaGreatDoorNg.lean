/-
  A call of the law's closed check, by computing the abstract machine. Conditions: none.
-/
import Derived.Test.YtlhfgonjcpapnaaGreatDoorNe

set_option linter.all false
set_option linter.unnecessarySimpa false

namespace Go.Proofs.YtlhfgonjcpapnaaGreatDoor.Abs
open Go Go.Proofs
def pick1A : List PV := [strP [94, 49, 46, 48, 46, 48], .sl 1 false true [strP [49, 46, 49, 46, 48], strP [50, 46, 48, 46, 48], strP [49, 46, 50, 46, 48]]]
def pick1R : PV := .tup [strP [49, 46, 50, 46, 48], .lit (.bool true), .lit (.int .i64 0)]
theorem pick1_run : resP (callN E0 120 [] 17 (pick1A.map .pv) 0 0 0 [[]] 1) = some pick1R := by kernel_rfl
end Go.Proofs.YtlhfgonjcpapnaaGreatDoor.Abs

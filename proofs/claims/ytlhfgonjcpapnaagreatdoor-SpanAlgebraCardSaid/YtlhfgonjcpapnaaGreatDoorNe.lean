/-
  A call of the law's closed check, by computing the abstract machine. Conditions: none.
-/
import Derived.Test.YtlhfgonjcpapnaaGreatDoorNc

set_option linter.all false
set_option linter.unnecessarySimpa false

namespace Go.Proofs.YtlhfgonjcpapnaaGreatDoor.Abs
open Go Go.Proofs
def resP : Option (AV × Heap × Nat) → Option PV
  | some (.pv p, _, _) => some p
  | _ => none
def form1A : List PV := [strP [94, 49, 46, 50, 46, 51]]
def form1R : PV := .tup [strP [62, 61, 49, 46, 50, 46, 51, 32, 60, 50, 46, 48, 46, 48, 45, 48], .lit (.int .i64 0)]
theorem form1_run : resP (callN E0 120 [] 21 (form1A.map .pv) 0 0 0 [[]] 1) = some form1R := by kernel_rfl
end Go.Proofs.YtlhfgonjcpapnaaGreatDoor.Abs

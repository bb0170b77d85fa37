/-
  The closed check that the law makes of itself is true, by computing the abstract machine. Conditions: none.
-/
import Derived.Test.YtlhfgonjcpapnaaGreatDoorMd

set_option linter.all false
set_option linter.unnecessarySimpa false

/- The law's closed check is true: by computing the abstract machine. -/
namespace Go.Proofs.YtlhfgonjcpapnaaGreatDoor.Abs
open Go Go.Proofs
def isT : Option (AV × Heap × Nat) → Bool
  | some (.pv (.lit (.bool b)), _, _) => b
  | _ => false
theorem alive_run : isT (callN E0 150 [] 10 [] 0 0 0 [[]] 1) = true := by kernel_rfl
theorem isT_some {o : Option (AV × Heap × Nat)} (h : isT o = true) : ∃ hp g, o = some (.pv (.lit (.bool true)), hp, g) := by
  unfold isT at h
  split at h
  · subst h; exact ⟨_, _, rfl⟩
  · cases h
end Go.Proofs.YtlhfgonjcpapnaaGreatDoor.Abs

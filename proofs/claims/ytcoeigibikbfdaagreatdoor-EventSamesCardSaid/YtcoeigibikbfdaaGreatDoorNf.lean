/-
  The environment with the closed check keeps its promises. Conditions: none.
-/
import Derived.Test.YtcoeigibikbfdaaGreatDoorNd
import Derived.Test.YtcoeigibikbfdaaGreatDoorNe

set_option linter.all false
set_option linter.unnecessarySimpa false

namespace Go.Proofs.YtcoeigibikbfdaaGreatDoor.Abs
open Go Go.Proofs Go.RowKit
theorem wf_list1 : (Tryz.prog.funcs.toList.zipIdx.all fun q => !(E1.ok q.2) || fnWf E1 q.1) = true := by kernel_rfl
theorem wf1 (f : FuncId) (fn : Func) (h1 : E1.ok f = true) (h2 : Tryz.prog.funcs[f]? = some fn) : fnWf E1 fn = true := by
  have h : (!(E1.ok f) || fnWf E1 fn) = true := List.all_eq_true.1 wf_list1 (fn, f) (by
    rw [List.mem_zipIdx_iff_getElem?]
    simpa using h2)
  rw [h1] at h
  simpa using h
theorem intr1 (f : FuncId) (F : List PV → Option PV) (h : libF f = some F) : IntrAt E1 f F := by
  unfold libF at h
  split at h
  · cases h
    intro ps r hF I w us hgl hl hr hin
    unfold aliveP at hF
    split at hF
    · cases hF
      have : us = [] := by simpa using hl
      subst this
      exact alive_pure I w hgl hin
    · cases hF
  · exact intr0 f F h
theorem envOk1 : EnvOk E1 := ⟨ck0, as0, mixed0, wf1, fun f F hF ps r hr I w us h1 h2 h3 h4 => intr1 f F hF ps r hr I w us h1 h2 h3 h4⟩
end Go.Proofs.YtcoeigibikbfdaaGreatDoor.Abs

/-
  The abstract machine over the model, its soundness, walks of the program's functions and what they compute. Conditions: the values are of their types.
-/
import Derived.Test.YthkilaondjgemaaGreatDoorNd

set_option linter.all false
set_option linter.unnecessarySimpa false

namespace Go.Proofs.YthkilaondjgemaaGreatDoor.Abs
open Go Go.Proofs Go.RowKit
def cT:Option (AV×aa×Nat)→Option PV
 | some (.pv p,_,_)=>some p
 | _=>none
theorem run_pure {E:ao} (hE:di E) {f:FuncId} {ps:List PV} {r:PV} {n:Nat} (h:cT (bc E n [] f (ps.map .pv) 0 0 0 [[]] 1)=some r) {I:af} {w:World} {us:List Value} (hgl:Gl E I w) (hl:us.length=ps.length)
  (hr: ∀(j:Nat) (p:PV) (u:Value),ps[j]? =some p→us[j]? =some u→aj I w p u) (hin: ∀b,I b→aO w b):b4 E.P f us.toArray w I r:=by
 unfold cT at h
 split at h
 ·rename_i p hp g hc
  cases h
  have H:ae (fun _=>none) I (ce w) w [[]]:=⟨fun d s=>by rw [gD];trivial,fun d s d' s' b h1=>by rw [gD] at h1;simp [ai,aC] at h1,hin⟩
  refine (oQ hE n [] (fun _=>none) I (ce w) w [[]] f _ 0 0 0 1 _ _ _ us hc (bA.nil hgl) H (ce.bnd w) (by simpa using hl) (lC hr) rfl (by omega) (fun _ _=>rfl)).mono ?_
  rintro u w' ⟨σ',I',hp⟩
  exact ⟨I',aw hp.rep,hp.ext.blk,fun b hb=>(hp.ext.new b hb).imp id Nat.le_of_not_lt,hp.ext.below.below,hp.heap.inW⟩
 ·cases h
end Go.Proofs.YthkilaondjgemaaGreatDoor.Abs

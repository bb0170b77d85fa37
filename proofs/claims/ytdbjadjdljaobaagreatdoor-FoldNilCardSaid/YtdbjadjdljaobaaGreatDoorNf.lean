/-
  The abstract machine over the model, its soundness, walks of the program's functions and what they compute. Conditions: the values are of their types.
-/
import Derived.Test.YtdbjadjdljaobaaGreatDoorNe

set_option linter.all false
set_option linter.unnecessarySimpa false

namespace Go.Proofs.YtdbjadjdljaobaaGreatDoor.Abs
open Go Go.Proofs Go.RowKit
def cM:Option (AV×aa×Nat)→Option PV
 | some (.pv p,_,_)=>some p
 | _=>none
theorem run_pure {E:ap} (hE:dI E) {f:FuncId} {ps:List PV} {r:PV} {n:Nat} (h:cM (aL E n [] f (ps.map .pv) 0 0 0 [[]] 1)=some r) {I:ah} {w:World} {us:List Value} (hgl:Gl E I w) (hl:us.length=ps.length)
  (hr: ∀(j:Nat) (p:PV) (u:Value),ps[j]? =some p→us[j]? =some u→am I w p u) (hin: ∀b,I b→bn w b):cS E.P f us.toArray w I r:=by
 unfold cM at h
 split at h
 ·rename_i p hp g hc
  cases h
  have H:af (fun _=>none) I (cw w) w [[]]:=⟨fun d s=>by rw [ga];trivial,fun d s d' s' b h1=>by rw [ga] at h1;simp [aj,ae] at h1,hin⟩
  refine (oK hE n [] (fun _=>none) I (cw w) w [[]] f _ 0 0 0 1 _ _ _ us hc (bK.nil hgl) H (cw.bnd w) (by simpa using hl) (k8 hr) rfl (by omega) (fun _ _=>rfl)).mono ?_
  rintro u w' ⟨σ',I',hp⟩
  exact ⟨I',aG hp.rep,hp.ext.blk,fun b hb=>(hp.ext.new b hb).imp id Nat.le_of_not_lt,hp.ext.below.below,hp.heap.inW⟩
 ·cases h
end Go.Proofs.YtdbjadjdljaobaaGreatDoor.Abs

/-
  The closed check that the law makes of itself is true, by computing the abstract machine. Conditions: none.
-/
import Derived.Test.YtcoeigibikbfdaaGreatDoorNd

set_option linter.all false
set_option linter.unnecessarySimpa false

namespace Go.Proofs.YtcoeigibikbfdaaGreatDoor.Abs
open Go Go.Proofs Go.RowKit
def resP : Option (AV × Heap × Nat) → Option PV
  | some (.pv p, _, _) => some p
  | _ => none
theorem run_pure {E : Env} (hE : EnvOk E) {f : FuncId} {ps : List PV} {r : PV} {n : Nat} (h : resP (callN E n [] f (ps.map .pv) 0 0 0 [[]] 1) = some r) {I : Blk} {w : World} {us : List Value} (hgl : Gl E I w) (hl : us.length = ps.length)
    (hr : ∀ (j : Nat) (p : PV) (u : Value), ps[j]? = some p → us[j]? = some u → PRep I w p u) (hin : ∀ b, I b → Solid w b) : PureDoes E.P f us.toArray w I r := by
  unfold resP at h
  split at h
  · rename_i p hp g hc
    cases h
    have H : HRep (fun _ => none) I (Old w) w [[]] := ⟨fun d s => by rw [hget_nil]; trivial, fun d s d' s' b h1 => by rw [hget_nil] at h1; simp [blkOf, row0] at h1, hin⟩
    refine (callN_sound hE n [] (fun _ => none) I (Old w) w [[]] f _ 0 0 0 1 _ _ _ us hc (YsOk.nil hgl) H (Old.bnd w) (by simpa using hl) (reps_pv hr) rfl (by omega) (fun _ _ => rfl)).mono ?_
    rintro u w' ⟨σ', I', hp⟩
    exact ⟨I', rep_pv hp.rep, hp.ext.blk, fun b hb => (hp.ext.new b hb).imp id Nat.le_of_not_lt, hp.ext.below.below, hp.heap.inW⟩
  · cases h
theorem alive_run : resP (callN E0 60 [] 12 (([] : List PV).map .pv) 0 0 0 [[]] 1) = some (.lit (.bool true)) := by kernel_rfl
theorem alive_pure (I : Blk) (w : World) (hgl : Gl E0 I w) (hin : ∀ b, I b → Solid w b) : PureDoes Tryz.prog 12 #[] w I (.lit (.bool true)) :=
  run_pure (us := []) envOk0 alive_run hgl rfl (fun j p u h => by simp at h) hin
end Go.Proofs.YtcoeigibikbfdaaGreatDoor.Abs

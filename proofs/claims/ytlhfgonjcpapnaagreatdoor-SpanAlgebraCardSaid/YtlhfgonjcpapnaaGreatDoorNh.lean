/-
  The closed check that the law makes of itself is true, by computing the abstract machine. Conditions: none.
-/
import Derived.Test.YtlhfgonjcpapnaaGreatDoorNd
import Derived.Test.YtlhfgonjcpapnaaGreatDoorNe
import Derived.Test.YtlhfgonjcpapnaaGreatDoorNf
import Derived.Test.YtlhfgonjcpapnaaGreatDoorNg

set_option linter.all false
set_option linter.unnecessarySimpa false

namespace Go.Proofs.YtlhfgonjcpapnaaGreatDoor.Abs
open Go Go.Proofs Go.RowKit
theorem bytes_eq {s : ByteArray} {l : List UInt8} (h : s.data.toList = l) : s = ⟨l.toArray⟩ := by
  subst h
  rfl
theorem run_pure {E : Env} (hE : EnvOk E) {f : FuncId} {ps : List PV} {r : PV} {n : Nat} (h : resP (callN E n [] f (ps.map .pv) 0 0 0 [[]] 1) = some r) {I : Blk} {w : World} {us : List Value} (hgl : Gl E I w) (hl : us.length = ps.length)
    (hr : ∀ (j : Nat) (p : PV) (u : Value), ps[j]? = some p → us[j]? = some u → PRep I w p u) (hin : ∀ b, I b → Solid w b) : PureDoes E.P f us.toArray w I r := by
  unfold resP at h
  split at h
  · rename_i p hp g hc
    cases h
    have H : HRep (fun _ => none) I (Old w) w [[]] := ⟨fun d s => by rw [hget_nil]; trivial, fun d s d' s' b h1 => by rw [hget_nil] at h1; simp [blkOf, row0] at h1, hin⟩
    refine (callN_sound hE n [] (fun _ => none) I (Old w) w [[]] f _ 0 0 0 1 _ _ _ us hc (YsOk.nil hgl) H (Old.bnd w) (by simpa using hl) (reps_pv hr) rfl (by omega) (fun _ _ => rfl)).mono ?_
    rintro u w' ⟨σ', I', hp⟩
    exact ⟨I', rep_pv hp.rep, hp.ext.blk, fun b hb => (hp.ext.new b hb).imp id Nat.le_of_not_lt, hp.ext.below.below, hp.heap.inW⟩
  · cases h
def formC : List PV → Option PV
  | [.lit (.string s)] => if s.data.toList = [94, 49, 46, 50, 46, 51] then some form1R
    else if s.data.toList = [62, 61, 49, 46, 48, 46, 48, 32, 60, 50, 46, 48, 46, 48, 32, 124, 124, 32, 61, 50, 46, 48, 46, 48] then some form2R else none
  | _ => none
def pickC : List PV → Option PV
  | [.lit (.string s), .sl 1 false true [.lit (.string a), .lit (.string b), .lit (.string c)]] =>
    if s.data.toList = [94, 49, 46, 48, 46, 48] ∧ a.data.toList = [49, 46, 49, 46, 48] ∧ b.data.toList = [50, 46, 48, 46, 48] ∧ c.data.toList = [49, 46, 50, 46, 48] then some pick1R else none
  | _ => none
def libG (f : FuncId) : Option (List PV → Option PV) := match f with
  | 21 => some formC
  | 17 => some pickC
  | f => libF0 f
noncomputable def E2 : Env := { E0 with intr := libG }
theorem intr2 (f : FuncId) (F : List PV → Option PV) (h : libG f = some F) : IntrAt E2 f F := by
  unfold libG at h
  split at h
  · cases h
    intro ps r hF I w us hgl hl hr hin
    unfold formC at hF
    split at hF
    · rename_i s
      split at hF
      · rename_i hs
        cases hF
        rw [bytes_eq hs] at hr
        exact run_pure (ps := form1A) envOk0 form1_run hgl hl hr hin
      · split at hF
        · rename_i hs
          cases hF
          rw [bytes_eq hs] at hr
          exact run_pure (ps := form2A) envOk0 form2_run hgl hl hr hin
        · cases hF
    · cases hF
  · cases h
    intro ps r hF I w us hgl hl hr hin
    unfold pickC at hF
    split at hF
    · rename_i s a b c
      split at hF
      · rename_i hs
        obtain ⟨h1, h2, h3, h4⟩ := hs
        cases hF
        rw [bytes_eq h1, bytes_eq h2, bytes_eq h3, bytes_eq h4] at hr
        exact run_pure (ps := pick1A) envOk0 pick1_run hgl hl hr hin
      · cases hF
    · cases hF
  · exact intr0 f F h
theorem wf_list2 : (Tryz.prog.funcs.toList.zipIdx.all fun q => q.2 == 79 || fnWf E2 q.1) = true := by kernel_rfl
theorem wf2 (f : FuncId) (fn : Func) (h1 : E2.ok f = true) (h2 : Tryz.prog.funcs[f]? = some fn) : fnWf E2 fn = true := by
  have h := List.all_eq_true.1 wf_list2 (fn, f) (by
    rw [List.mem_zipIdx_iff_getElem?]
    simpa using h2)
  simp only [Bool.or_eq_true] at h
  rcases h with h | h
  · have : (!(f == 79)) = true := h1
    rw [h] at this
    cases this
  · exact h
theorem envOk2 : EnvOk E2 := ⟨mixed0, wf2, fun f F hF ps r hr I w us h1 h2 h3 h4 => intr2 f F hF ps r hr I w us h1 h2 h3 h4⟩
theorem alive_run : resP (callN E2 40 [] 10 (([] : List PV).map .pv) 0 0 0 [[]] 1) = some (.lit (.bool true)) := by kernel_rfl
theorem alive_pure (I : Blk) (w : World) (hgl : Gl E0 I w) (hin : ∀ b, I b → Solid w b) : PureDoes Tryz.prog 10 #[] w I (.lit (.bool true)) :=
  run_pure (us := []) envOk2 alive_run hgl rfl (fun j p u h => by simp at h) hin
end Go.Proofs.YtlhfgonjcpapnaaGreatDoor.Abs

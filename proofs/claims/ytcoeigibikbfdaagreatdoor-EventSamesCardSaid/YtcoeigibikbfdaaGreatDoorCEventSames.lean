/-
  EventSames is true of whatever input: of any two events the program says that they are the same just where the document does. Conditions: none beyond the row's own (the listed package-level variables hold what the program's text lays).
-/
import Derived.Test.YtcoeigibikbfdaaGreatDoorCards
import Derived.Test.YtcoeigibikbfdaaGreatDoorTie
import Derived.Test.YtcoeigibikbfdaaGreatDoorNg
import Derived.WalkKit
import Derived.ProofKit
import Derived.OpenShut
import Derived.Lay
import Derived.SevenTiedAt
import Derived.Deep.DeepHandedRow

set_option linter.all false
set_option linter.unnecessarySimpa false

namespace Go.Proofs.YtcoeigibikbfdaaGreatDoor.EventSames
open Go.ChangeShapes Go.WideShapes Go.ChangeAt Go.RowKit Go.Proofs.YtcoeigibikbfdaaGreatDoor.Abs
theorem own : ownKnob Tryz.prog.godebug = none := by kernel_rfl
theorem den (ps : List PV) (h : argsWell Tryz.prog Tryz.f3.params.toList ps) : Den E1 3 ps (bolP true) := by
  rw [Tryz.params3] at h
  obtain ⟨n, cs, qs, rfl, h1, n2, cs2, qs2, rfl, h2, rfl⟩ := h
  obtain ⟨a, ha, oa⟩ := well_ev h1
  obtain ⟨b, hb, ob⟩ := well_ev h2
  have hs : isSt Tryz.prog 27 = true := by kernel_rfl
  rw [hs]
  unfold mkE
  rw [if_pos rfl, if_pos rfl, ha, hb]
  exact den_EventSames a b oa.sl ob.sl oa.len ob.len den_alive
def wargs : Array Value := #[.agg #[.int .u8 0, .string ⟨#[]⟩, .string ⟨#[]⟩, .string ⟨#[]⟩, .slice none 0 0, .int .u64 0, .int .u32 0, .int .u32 0, .string ⟨#[]⟩, .string ⟨#[]⟩], .agg #[.int .u8 0, .string ⟨#[]⟩, .string ⟨#[]⟩, .string ⟨#[]⟩, .slice none 0 0, .int .u64 0, .int .u32 0, .int .u32 0, .string ⟨#[]⟩, .string ⟨#[]⟩]]
theorem laid_met (os : Os) : laidMetH Tryz.prog Rows.eventSamesRow.laid ((lwE os).forCall (fun _ _ => 0) ⟨#[], wargs, []⟩).memory := laidMetH_of_parts (laidMet_lw wargs (by kernel_rfl) (by kernel_rfl)) (by kernel_rfl)
theorem reads (os : Os) {H : Type} (enc : TypeId × Value → H) : ∃ places, DataW.whole enc Tryz.prog ((lwE os).forCall (fun _ _ => 0) ⟨#[], wargs, []⟩).memory Tryz.f3.params.toList Rows.eventSamesSpec.vars false wargs.toList 8 = some ([.agg [.lit (.int .u8 0), .lit (.string []), .lit (.string []), .lit (.string []), .nil, .lit (.int .u64 0), .lit (.int .u32 0), .lit (.int .u32 0), .lit (.string []), .lit (.string [])], .agg [.lit (.int .u8 0), .lit (.string []), .lit (.string []), .lit (.string []), .nil, .lit (.int .u64 0), .lit (.int .u32 0), .lit (.int .u32 0), .lit (.string []), .lit (.string [])]], [], places) :=
  ⟨[], by kernel_rfl⟩
theorem witness (os : Os) {H : Type} (enc : TypeId × Value → H) : ∃ (w : World) (tape : Tape) (i : Input), w.os = os ∧ (w.forCall tape i).Shaped Tryz.checked.prog ∧ i.vars = [] ∧ Input.okWide Tryz.checked.prog (w.forCall tape i) .any w.heap.size 3 i ∧
    (OpenSpec.ofChange Rows.eventSamesSpec).preRow enc Tryz.checked.prog Tryz.f3 Rows.eventSamesRow.domain false Rows.eventSamesRow.laid (w.forCall tape i).memory i.args ∧
    ({} : Assume).holds Tryz.checked.prog (lone (Frame.enter Tryz.checked.prog 3 i.args .normal) [] (w.forCall tape i)) := by
  obtain ⟨places, hx⟩ := reads os enc
  have hok : Input.okWideB Tryz.prog ((lwE os).forCall (fun _ _ => 0) ⟨#[], wargs, []⟩) 3 ⟨#[], wargs, []⟩ = true := by kernel_rfl
  refine ⟨lwE os, fun _ _ => 0, ⟨#[], wargs, []⟩, lwE_os os, World.shaped_of_ZipB (by kernel_rfl) (by kernel_rfl), (Input.okWide_of_okWideB (base := 0) hok).1, (Input.okWide_of_okWideB hok).2,
    OpenSpec.preRow_of_cond 8 hx (by kernel_rfl) (fun k hk => by cases hk) (by kernel_rfl) ?_, ?_⟩
  · exact laid_met os
  · simp only [Assume.holds]
    exact ⟨by simp, by simp, fun _ => Modest.zero, by simp, by simp⟩
set_option maxRecDepth 100000 in
theorem lifted (os : Os) (started : os.Started) (H : Type) (enc : TypeId × Value → H) (F : Stop.Interp) :
    ReturnsInHanded {} Tryz.checked os 3 .any ((OpenSpec.ofChange Rows.eventSamesSpec).preRow enc Tryz.prog Tryz.f3 Rows.eventSamesRow.domain false Rows.eventSamesRow.laid) (((OpenSpec.ofChange Rows.eventSamesSpec).at F).post enc Tryz.prog Tryz.f3 false true false false) := by
  refine returnsInHanded_of_row (C := Tryz.checked) (s := OpenSpec.ofChange Rows.eventSamesSpec) own started (by kernel_rfl) Tryz.func3 (witness os enc) ?_
  intro W base args ds gs before hval hW _ _ hz hL hsh _
  exact law_contract (s := Rows.eventSamesSpec) Tryz.func3 (by kernel_rfl) rfl (by kernel_rfl) rfl (by kernel_rfl) (by kernel_rfl)
    (fun ds h => match ds, h with | [d1, d2], _ => rfl) den ⟨hval⟩ hW hz (gl_of hL hsh)
theorem jf : joinedFacts Tryz.pinned.checked.prog 3 Tryz.f3 (OpenSpec.ofChange Rows.eventSamesSpec).bare Rows.eventSamesRow = true := by kernel_rfl
theorem ji : Tryz.f3.isInstance Tryz.pinned.checked.prog Rows.eventSamesRow.origin Rows.eventSamesRow.targs := of_decide_eq_true (by kernel_rfl)
theorem jw : Tryz.f3.isWrapper Tryz.pinned.checked.prog Rows.eventSamesRow.wrapper Rows.eventSamesRow.mainSum := by unfold Func.isWrapper; first | (rw [if_pos (by decide +kernel)]; kernel_rfl) | (rw [if_neg (by decide +kernel)]; exact ⟨rfl, rfl⟩)
theorem jn : Tryz.pinned.checked.prog.funcNamed Rows.eventSamesRow.func = some 3 := by kernel_rfl
theorem said : Rows.EventSamesSaid :=
  OpenClaim.holds_of_cond 3 Tryz.f3 rfl rfl rfl rfl rfl rfl rfl ⟨rfl, rfl, rfl, rfl, rfl⟩ rfl rfl rfl rfl rfl jn Tryz.func3 jf ji jw
    (fun os started H enc _ F => by rw [OpenClaim.pre_eq_preRow]; exact lifted os started H enc F)
theorem plain (f : FuncId) (fn : Func) (hf : Tryz.pinned.checked.prog.funcNamed "yankline/yanklinelaw09.EventSames" = some f) (hfn : Tryz.pinned.checked.prog.funcs[f]? = some fn) :
    true = Tryz.pinned.checked.prog.looks [] ∧ ∀ (j : Nat) t, fn.params[j]? = some t → Tryz.pinned.checked.prog.wantsStandIn t = false := by
  obtain rfl : f = 3 := Option.some.inj ((show Tryz.prog.funcNamed "yankline/yanklinelaw09.EventSames" = some 3 by kernel_rfl).symm.trans hf) |>.symm
  obtain rfl : fn = Tryz.f3 := (Option.some.inj (Tryz.func3.symm.trans hfn)).symm
  refine ⟨by kernel_rfl, fun j t ht => ?_⟩
  rw [Tryz.params3] at ht
  obtain rfl : t = 27 := by simpa using Array.mem_of_getElem? ht
  exact (show Tryz.prog.wantsStandIn 27 = false by kernel_rfl)
theorem card : Rows.EventSamesCardSaid :=
  Claim7.holds_tied_plain_at .later [] _ _ _ _ said (fun _ h => by cases h) (by kernel_rfl) (fun _ h => by cases h) eventSames_row_tie rfl ⟨rfl, rfl⟩ (by kernel_rfl) rfl plain (by kernel_rfl)
#print axioms card
end Go.Proofs.YtcoeigibikbfdaaGreatDoor.EventSames

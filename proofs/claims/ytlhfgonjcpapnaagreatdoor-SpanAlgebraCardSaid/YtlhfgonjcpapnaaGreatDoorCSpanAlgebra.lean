/-
  SpanAlgebra is true of whatever input: of any version what Has says of Meet, Join and Not is what sets say; Not of Not is the span itself. Conditions: none beyond the row's own (the listed package-level variables hold what the program's text lays).
-/
import Derived.Test.YtlhfgonjcpapnaaGreatDoorCards
import Derived.Test.YtlhfgonjcpapnaaGreatDoorTie
import Derived.Test.YtlhfgonjcpapnaaGreatDoorNj
import Derived.Test.YtlhfgonjcpapnaaGreatDoorNm
import Derived.WalkKit
import Derived.ProofKit
import Derived.OpenShut
import Derived.Lay
import Derived.SevenTiedAt
import Derived.Deep.DeepHandedRow

set_option linter.all false
set_option linter.unnecessarySimpa false

namespace Go.Proofs.YtlhfgonjcpapnaaGreatDoor.SpanAlgebra
open Go.ChangeShapes Go.WideShapes Go.ChangeAt Go.RowKit Go.Proofs.YtlhfgonjcpapnaaGreatDoor.Abs
theorem own : ownKnob Tryz.prog.godebug = none := by kernel_rfl
theorem den (ps : List PV) (h : argsWell Tryz.prog Tryz.f9.params.toList ps) : Den E1 9 ps (bolP true) := by
  rw [Tryz.params9] at h
  obtain ⟨n, cs, qs, rfl, h1, n2, cs2, qs2, rfl, h2, n3, cs3, qs3, rfl, h3, rfl⟩ := h
  obtain ⟨s, rfl, g1⟩ := well_str h1
  obtain ⟨t, rfl, g2⟩ := well_str h2
  obtain ⟨v, rfl, g3⟩ := well_str h3
  have hs : isSt Tryz.prog 9 = false := by kernel_rfl
  rw [hs]
  exact den_SpanAlgebra s t v (reach_small g3)
def wargs : Array Value := #[.string ⟨#[]⟩, .string ⟨#[]⟩, .string ⟨#[]⟩]
theorem laid_met (os : Os) : laidMet Tryz.prog Rows.spanAlgebraRow.laid ((World.laidAll Tryz.prog os Rows.spanAlgebraRow.laid).forCall (fun _ _ => 0) ⟨#[], wargs, []⟩).memory := laidMet_laidAll _ (by kernel_rfl) (by kernel_rfl)
theorem reads (os : Os) {H : Type} (enc : TypeId × Value → H) : ∃ places, DataW.whole enc Tryz.prog ((World.laidAll Tryz.prog os Rows.spanAlgebraRow.laid).forCall (fun _ _ => 0) ⟨#[], wargs, []⟩).memory Tryz.f9.params.toList Rows.spanAlgebraSpec.vars false wargs.toList 8 = some ([.lit (.string []), .lit (.string []), .lit (.string [])], [], places) :=
  ⟨[], by kernel_rfl⟩
theorem witness (os : Os) {H : Type} (enc : TypeId × Value → H) : ∃ (w : World) (tape : Tape) (i : Input), w.os = os ∧ (w.forCall tape i).Shaped Tryz.checked.prog ∧ i.vars = [] ∧ Input.okWide Tryz.checked.prog (w.forCall tape i) .any w.heap.size 9 i ∧
    (OpenSpec.ofChange Rows.spanAlgebraSpec).preRow enc Tryz.checked.prog Tryz.f9 Rows.spanAlgebraRow.domain false Rows.spanAlgebraRow.laid (w.forCall tape i).memory i.args ∧
    ({} : Assume).holds Tryz.checked.prog (lone (Frame.enter Tryz.checked.prog 9 i.args .normal) [] (w.forCall tape i)) := by
  obtain ⟨places, hx⟩ := reads os enc
  have hok : Input.okWideB Tryz.prog ((World.laidAll Tryz.prog os Rows.spanAlgebraRow.laid).forCall (fun _ _ => 0) ⟨#[], wargs, []⟩) 9 ⟨#[], wargs, []⟩ = true := by kernel_rfl
  refine ⟨World.laidAll Tryz.prog os Rows.spanAlgebraRow.laid, fun _ _ => 0, ⟨#[], wargs, []⟩, World.laidAll_os _ _ _, World.shaped_of_ZipB (by kernel_rfl) (by kernel_rfl), (Input.okWide_of_okWideB (base := 0) hok).1, (Input.okWide_of_okWideB hok).2,
    OpenSpec.preRow_of_cond 8 hx (by kernel_rfl) (fun k hk => by cases hk) (by kernel_rfl) ?_, ?_⟩
  · rw [MakeChecks.laidMetH_plain _ _ _ (by kernel_rfl)]; exact laid_met os
  · simp only [Assume.holds]
    exact ⟨by simp, by simp, fun _ => Modest.zero, by simp, by simp⟩
set_option maxRecDepth 100000 in
theorem lifted (os : Os) (started : os.Started) (H : Type) (enc : TypeId × Value → H) (F : Stop.Interp) :
    ReturnsInHanded {} Tryz.checked os 9 .any ((OpenSpec.ofChange Rows.spanAlgebraSpec).preRow enc Tryz.prog Tryz.f9 Rows.spanAlgebraRow.domain false Rows.spanAlgebraRow.laid) (((OpenSpec.ofChange Rows.spanAlgebraSpec).at F).post enc Tryz.prog Tryz.f9 false true false false) := by
  refine returnsInHanded_of_row (C := Tryz.checked) (s := OpenSpec.ofChange Rows.spanAlgebraSpec) own started (by kernel_rfl) Tryz.func9 (witness os enc) ?_
  intro W base args ds gs before hval hW _ _ hz hL hsh _
  rw [MakeChecks.laidMetH_plain _ _ _ (by kernel_rfl)] at hL
  exact law_contract (s := Rows.spanAlgebraSpec) Tryz.func9 (by kernel_rfl) rfl (by kernel_rfl) rfl (by kernel_rfl) (by kernel_rfl)
    (fun ds h => match ds, h with | [d1, d2, d3], _ => rfl) den ⟨hval⟩ hW hz (gl_of hL hsh)
theorem said : Rows.SpanAlgebraSaid :=
  OpenClaim.holds_of_cond 9 Tryz.f9 rfl rfl rfl rfl rfl rfl rfl ⟨rfl, rfl, rfl, rfl, rfl⟩ rfl rfl rfl rfl rfl (by kernel_rfl) Tryz.func9 (by kernel_rfl)
    (of_decide_eq_true (by kernel_rfl)) (by unfold Func.isWrapper; first | (rw [if_pos (by decide +kernel)]; kernel_rfl) | (rw [if_neg (by decide +kernel)]; exact ⟨rfl, rfl⟩))
    (fun os started H enc _ F => by rw [OpenClaim.pre_eq_preRow]; exact lifted os started H enc F)
theorem plain (f : FuncId) (fn : Func) (hf : Tryz.pinned.checked.prog.funcNamed "yankline/yanklinelaw08.SpanAlgebra" = some f) (hfn : Tryz.pinned.checked.prog.funcs[f]? = some fn) :
    true = Tryz.pinned.checked.prog.looks [] ∧ ∀ (j : Nat) t, fn.params[j]? = some t → Tryz.pinned.checked.prog.wantsStandIn t = false := by
  obtain rfl : f = 9 := Option.some.inj ((show Tryz.prog.funcNamed "yankline/yanklinelaw08.SpanAlgebra" = some 9 by kernel_rfl).symm.trans hf) |>.symm
  obtain rfl : fn = Tryz.f9 := (Option.some.inj (Tryz.func9.symm.trans hfn)).symm
  refine ⟨by kernel_rfl, fun j t ht => ?_⟩
  rw [Tryz.params9] at ht
  have hm : t = 9 ∨ t = 9 ∨ t = 9 := by simpa using Array.mem_of_getElem? ht
  rcases hm with rfl | rfl | rfl
  · exact (show Tryz.prog.wantsStandIn 9 = false by kernel_rfl)
  · exact (show Tryz.prog.wantsStandIn 9 = false by kernel_rfl)
  · exact (show Tryz.prog.wantsStandIn 9 = false by kernel_rfl)
theorem card : Rows.SpanAlgebraCardSaid :=
  Claim7.holds_tied_plain_at .later [] _ _ _ _ said (fun _ h => by cases h) (by kernel_rfl) (fun _ h => by cases h) spanAlgebra_row_tie rfl ⟨rfl, rfl⟩ (by kernel_rfl) rfl plain (by kernel_rfl)
#print axioms card
end Go.Proofs.YtlhfgonjcpapnaaGreatDoor.SpanAlgebra

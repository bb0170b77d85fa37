/-
  PageNil is true of whatever input: the page of a state that is not there is none, by the fault that the document names; of all its pages there is none. Conditions: none beyond the row's own (the listed package-level variables hold what the program's text lays).
-/
import Derived.Test.YthkilaondjgemaaGreatDoorCards
import Derived.Test.YthkilaondjgemaaGreatDoorTie
import Derived.Test.YthkilaondjgemaaGreatDoorNk
import Derived.Test.YthkilaondjgemaaGreatDoorNl
import Derived.Test.YthkilaondjgemaaGreatDoorNm
import Derived.WalkKit
import Derived.ProofKit
import Derived.OpenShut
import Derived.Lay
import Derived.SevenTiedAt
import Derived.Deep.DeepHandedRow

set_option linter.all false
set_option linter.unnecessarySimpa false

namespace Go.Proofs.YthkilaondjgemaaGreatDoor.PageNil
open Go.ChangeShapes Go.WideShapes Go.ChangeAt Go.RowKit Go.Proofs.YthkilaondjgemaaGreatDoor.Abs
theorem own:ownKnob Tryz.prog.godebug=none:=by kernel_rfl
theorem qH (s:List UInt8):cT (bc E1 60 [] 6 ([(bE s:PV)].map .pv) 0 0 0 [[]] 1)=some (ft true):=by kernel_rfl
theorem qI (ps:List PV) (h:gI Tryz.prog Tryz.f6.params.toList ps): ∃n,cT (bc E1 n [] 6 (ps.map .pv) 0 0 0 [[]] 1)=some (ft true):=by
 rw [Tryz.params6] at h
 obtain ⟨n,cs,qs,rfl,h1,rfl⟩:=h
 obtain ⟨s,rfl,_⟩:=qF h1
 have hs:bJ Tryz.prog 9=false:=by kernel_rfl
 rw [hs]
 exact ⟨60,qH s⟩
def dR:Array Value:= #[.string ⟨#[]⟩]
theorem qJ (os:Os):laidMetH Tryz.prog Rows.pageNilRow.laid ((fu os).forCall (fun _ _=>0) ⟨#[],dR,[]⟩).memory:=laidMetH_of_parts (qq dR (by kernel_rfl) (by kernel_rfl)) (by kernel_rfl)
theorem qK (os:Os) {H:Type} (enc:TypeId×Value→H): ∃dS,DataW.whole enc Tryz.prog ((fu os).forCall (fun _ _=>0) ⟨#[],dR,[]⟩).memory Tryz.f6.params.toList Rows.pageNilSpec.vars false dR.toList 8=some ([.lit (.string [])],[],dS):=
 ⟨[],by kernel_rfl⟩
theorem qL (os:Os) {H:Type} (enc:TypeId×Value→H): ∃(w:World) (tape:Tape) (i:Input),w.os=os∧(w.forCall tape i).Shaped Tryz.checked.prog∧i.vars=[]∧Input.okWide Tryz.checked.prog (w.forCall tape i) .any w.heap.size 6 i∧
  (OpenSpec.ofChange Rows.pageNilSpec).preRow enc Tryz.checked.prog Tryz.f6 Rows.pageNilRow.domain false Rows.pageNilRow.laid (w.forCall tape i).memory i.args∧
  ({} :Assume).holds Tryz.checked.prog (lone (Frame.enter Tryz.checked.prog 6 i.args .normal) [] (w.forCall tape i)):=by
 obtain ⟨dS,hx⟩:=qK os enc
 have hok:Input.okWideB Tryz.prog ((fu os).forCall (fun _ _=>0) ⟨#[],dR,[]⟩) 6 ⟨#[],dR,[]⟩=true:=by kernel_rfl
 refine ⟨fu os,fun _ _=>0,⟨#[],dR,[]⟩,qt os,World.shaped_of_ZipB (by kernel_rfl) (by kernel_rfl),(Input.okWide_of_okWideB (base:=0) hok).1,(Input.okWide_of_okWideB hok).2,
  OpenSpec.preRow_of_cond 8 hx (by kernel_rfl) (fun k hk=>by cases hk) (by kernel_rfl) ?_,?_⟩
 ·exact qJ os
 ·simp only [Assume.holds]
  exact ⟨by simp,by simp,fun _=>Modest.zero,by simp,by simp⟩
set_option maxRecDepth 100000 in
theorem qM (os:Os) (started:os.Started) (H:Type) (enc:TypeId×Value→H) (F:Stop.Interp):
  ReturnsInHanded {} Tryz.checked os 6 .any ((OpenSpec.ofChange Rows.pageNilSpec).preRow enc Tryz.prog Tryz.f6 Rows.pageNilRow.domain false Rows.pageNilRow.laid) (((OpenSpec.ofChange Rows.pageNilSpec).at F).post enc Tryz.prog Tryz.f6 false true false false):=by
 refine returnsInHanded_of_row (C:=Tryz.checked) (s:=OpenSpec.ofChange Rows.pageNilSpec) own started (by kernel_rfl) Tryz.func6 (qL os enc) ?_
 intro W base args ds gs before hval hW _ _ hz hL hsh _
 exact qz (s:=Rows.pageNilSpec) Tryz.func6 (by kernel_rfl) rfl (by kernel_rfl) rfl (by kernel_rfl) (by kernel_rfl)
  (fun ds h=>match ds,h with | [d1],_=>rfl) qI ⟨hval⟩ hW hz (qp hL hsh)
theorem ji:Tryz.f6.isInstance Tryz.pinned.checked.prog Rows.pageNilRow.origin Rows.pageNilRow.targs:=of_decide_eq_true (by kernel_rfl)
theorem jw:Tryz.f6.isWrapper Tryz.pinned.checked.prog Rows.pageNilRow.wrapper Rows.pageNilRow.mainSum:=by unfold Func.isWrapper;first | (rw [if_pos (by decide+kernel)];kernel_rfl) | (rw [if_neg (by decide+kernel)];exact ⟨rfl,rfl⟩)
theorem jn:Tryz.pinned.checked.prog.funcNamed Rows.pageNilRow.func=some 6:=by kernel_rfl
theorem said:Rows.PageNilSaid:=
 OpenClaim.holds_of_cond 6 Tryz.f6 rfl rfl rfl rfl rfl rfl rfl ⟨rfl,rfl,rfl,rfl,rfl⟩ rfl rfl rfl rfl rfl jn Tryz.func6 jf ji jw
  (fun os started H enc _ F=>by rw [OpenClaim.pre_eq_preRow];exact qM os started H enc F)
theorem qN (f:FuncId) (fn:Func) (hf:Tryz.pinned.checked.prog.funcNamed "yankline/yanklinelaw16.PageNil"=some f) (hfn:Tryz.pinned.checked.prog.funcs[f]? =some fn):
  true=Tryz.pinned.checked.prog.looks []∧ ∀(j:Nat) t,fn.params[j]? =some t→Tryz.pinned.checked.prog.wantsStandIn t=false:=by
 obtain rfl:f=6:=Option.some.inj ((show Tryz.prog.funcNamed "yankline/yanklinelaw16.PageNil"=some 6 by kernel_rfl).symm.trans hf) |>.symm
 obtain rfl:fn=Tryz.f6:=(Option.some.inj (Tryz.func6.symm.trans hfn)).symm
 refine ⟨by kernel_rfl,fun j t ht=> ?_⟩
 rw [Tryz.params6] at ht
 obtain rfl:t=9:=by simpa using Array.mem_of_getElem? ht
 exact (show Tryz.prog.wantsStandIn 9=false by kernel_rfl)
theorem card:Rows.PageNilCardSaid:=
 Claim7.holds_tied_plain_at .later [] _ _ _ _ said (fun _ h=>by cases h) (by kernel_rfl) (fun _ h=>by cases h) pageNil_row_tie rfl ⟨rfl,rfl⟩ (by kernel_rfl) rfl qN (by kernel_rfl)
#print axioms card
end Go.Proofs.YthkilaondjgemaaGreatDoor.PageNil

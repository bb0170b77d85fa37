/-
  RuleNil is true of whatever input: of a state that is not there nothing may be done; what is no fault has no numbers. Conditions: none beyond the row's own (the listed package-level variables hold what the program's text lays).
-/
import Derived.Test.YthkilaondjgemaaGreatDoorCards
import Derived.Test.YthkilaondjgemaaGreatDoorTie
import Derived.Test.YthkilaondjgemaaGreatDoorNk
import Derived.Test.YthkilaondjgemaaGreatDoorNl
import Derived.Test.YthkilaondjgemaaGreatDoorNm
import Derived.WalkKit
import Derived.ProofKit
import Derived.OpenShut
import Derived.Lay
import Derived.SevenTiedAt
import Derived.Deep.DeepHandedRow

set_option linter.all false
set_option linter.unnecessarySimpa false

namespace Go.Proofs.YthkilaondjgemaaGreatDoor.RuleNil
open Go.ChangeShapes Go.WideShapes Go.ChangeAt Go.RowKit Go.Proofs.YthkilaondjgemaaGreatDoor.Abs
theorem own:ownKnob Tryz.prog.godebug=none:=by kernel_rfl
theorem qH (e:Ev) (n:Int):cT (bc E1 60 [] 5 ([(e.p:PV),.lit (.int .i64 n)].map .pv) 0 0 0 [[]] 1)=some (ft true):=by kernel_rfl
theorem qI (ps:List PV) (h:gI Tryz.prog Tryz.f5.params.toList ps): ∃n,cT (bc E1 n [] 5 (ps.map .pv) 0 0 0 [[]] 1)=some (ft true):=by
 rw [Tryz.params5] at h
 obtain ⟨n,cs,qs,rfl,h1,n2,cs2,qs2,rfl,h2,rfl⟩:=h
 obtain ⟨e,he,_⟩:=well_ev h1
 obtain ⟨x,rfl,_⟩:=well_i Tryz.underlying3 h2
 have hs:bJ Tryz.prog 3=false:=by kernel_rfl
 have ht:bJ Tryz.prog 27=true:=by kernel_rfl
 rw [hs,ht]
 simp only [cD,if_true,he]
 exact ⟨60,qH e x⟩
def dR:Array Value:= #[.agg #[.int .u8 0,.string ⟨#[]⟩,.string ⟨#[]⟩,.string ⟨#[]⟩,.slice none 0 0,.int .u64 0,.int .u32 0,.int .u32 0,.string ⟨#[]⟩,.string ⟨#[]⟩],.int .i64 0]
theorem qJ (os:Os):laidMetH Tryz.prog Rows.ruleNilRow.laid ((fu os).forCall (fun _ _=>0) ⟨#[],dR,[]⟩).memory:=laidMetH_of_parts (qq dR (by kernel_rfl) (by kernel_rfl)) (by kernel_rfl)
theorem qK (os:Os) {H:Type} (enc:TypeId×Value→H): ∃dS,DataW.whole enc Tryz.prog ((fu os).forCall (fun _ _=>0) ⟨#[],dR,[]⟩).memory Tryz.f5.params.toList Rows.ruleNilSpec.vars false dR.toList 8=some ([.agg [.lit (.int .u8 0),.lit (.string []),.lit (.string []),.lit (.string []),.nil,.lit (.int .u64 0),.lit (.int .u32 0),.lit (.int .u32 0),.lit (.string []),.lit (.string [])],.lit (.int .i64 0)],[],dS):=
 ⟨[],by kernel_rfl⟩
theorem qL (os:Os) {H:Type} (enc:TypeId×Value→H): ∃(w:World) (tape:Tape) (i:Input),w.os=os∧(w.forCall tape i).Shaped Tryz.checked.prog∧i.vars=[]∧Input.okWide Tryz.checked.prog (w.forCall tape i) .any w.heap.size 5 i∧
  (OpenSpec.ofChange Rows.ruleNilSpec).preRow enc Tryz.checked.prog Tryz.f5 Rows.ruleNilRow.domain false Rows.ruleNilRow.laid (w.forCall tape i).memory i.args∧
  ({} :Assume).holds Tryz.checked.prog (lone (Frame.enter Tryz.checked.prog 5 i.args .normal) [] (w.forCall tape i)):=by
 obtain ⟨dS,hx⟩:=qK os enc
 have hok:Input.okWideB Tryz.prog ((fu os).forCall (fun _ _=>0) ⟨#[],dR,[]⟩) 5 ⟨#[],dR,[]⟩=true:=by kernel_rfl
 refine ⟨fu os,fun _ _=>0,⟨#[],dR,[]⟩,qt os,World.shaped_of_ZipB (by kernel_rfl) (by kernel_rfl),(Input.okWide_of_okWideB (base:=0) hok).1,(Input.okWide_of_okWideB hok).2,
  OpenSpec.preRow_of_cond 8 hx (by kernel_rfl) (fun k hk=>by cases hk) (by kernel_rfl) ?_,?_⟩
 ·exact qJ os
 ·simp only [Assume.holds]
  exact ⟨by simp,by simp,fun _=>Modest.zero,by simp,by simp⟩
set_option maxRecDepth 100000 in
theorem qM (os:Os) (started:os.Started) (H:Type) (enc:TypeId×Value→H) (F:Stop.Interp):
  ReturnsInHanded {} Tryz.checked os 5 .any ((OpenSpec.ofChange Rows.ruleNilSpec).preRow enc Tryz.prog Tryz.f5 Rows.ruleNilRow.domain false Rows.ruleNilRow.laid) (((OpenSpec.ofChange Rows.ruleNilSpec).at F).post enc Tryz.prog Tryz.f5 false true false false):=by
 refine returnsInHanded_of_row (C:=Tryz.checked) (s:=OpenSpec.ofChange Rows.ruleNilSpec) own started (by kernel_rfl) Tryz.func5 (qL os enc) ?_
 intro W base args ds gs before hval hW _ _ hz hL hsh _
 exact qz (s:=Rows.ruleNilSpec) Tryz.func5 (by kernel_rfl) rfl (by kernel_rfl) rfl (by kernel_rfl) (by kernel_rfl)
  (fun ds h=>match ds,h with | [d1,d2],_=>rfl) qI ⟨hval⟩ hW hz (qp hL hsh)
theorem ji:Tryz.f5.isInstance Tryz.pinned.checked.prog Rows.ruleNilRow.origin Rows.ruleNilRow.targs:=of_decide_eq_true (by kernel_rfl)
theorem jw:Tryz.f5.isWrapper Tryz.pinned.checked.prog Rows.ruleNilRow.wrapper Rows.ruleNilRow.mainSum:=by unfold Func.isWrapper;first | (rw [if_pos (by decide+kernel)];kernel_rfl) | (rw [if_neg (by decide+kernel)];exact ⟨rfl,rfl⟩)
theorem jn:Tryz.pinned.checked.prog.funcNamed Rows.ruleNilRow.func=some 5:=by kernel_rfl
theorem said:Rows.RuleNilSaid:=
 OpenClaim.holds_of_cond 5 Tryz.f5 rfl rfl rfl rfl rfl rfl rfl ⟨rfl,rfl,rfl,rfl,rfl⟩ rfl rfl rfl rfl rfl jn Tryz.func5 jf ji jw
  (fun os started H enc _ F=>by rw [OpenClaim.pre_eq_preRow];exact qM os started H enc F)
theorem qN (f:FuncId) (fn:Func) (hf:Tryz.pinned.checked.prog.funcNamed "yankline/yanklinelaw15.RuleNil"=some f) (hfn:Tryz.pinned.checked.prog.funcs[f]? =some fn):
  true=Tryz.pinned.checked.prog.looks []∧ ∀(j:Nat) t,fn.params[j]? =some t→Tryz.pinned.checked.prog.wantsStandIn t=false:=by
 obtain rfl:f=5:=Option.some.inj ((show Tryz.prog.funcNamed "yankline/yanklinelaw15.RuleNil"=some 5 by kernel_rfl).symm.trans hf) |>.symm
 obtain rfl:fn=Tryz.f5:=(Option.some.inj (Tryz.func5.symm.trans hfn)).symm
 refine ⟨by kernel_rfl,fun j t ht=> ?_⟩
 rw [Tryz.params5] at ht
 have hm:t=27∨t=3:=by simpa using Array.mem_of_getElem? ht
 rcases hm with rfl | rfl
 ·exact (show Tryz.prog.wantsStandIn 27=false by kernel_rfl)
 ·exact (show Tryz.prog.wantsStandIn 3=false by kernel_rfl)
theorem card:Rows.RuleNilCardSaid:=
 Claim7.holds_tied_plain_at .later [] _ _ _ _ said (fun _ h=>by cases h) (by kernel_rfl) (fun _ h=>by cases h) ruleNil_row_tie rfl ⟨rfl,rfl⟩ (by kernel_rfl) rfl qN (by kernel_rfl)
#print axioms card
end Go.Proofs.YthkilaondjgemaaGreatDoor.RuleNil

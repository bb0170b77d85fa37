/-
  FoldNil is true of whatever input: a state that is not there answers each call as the document says. Conditions: none beyond the row's own (the listed package-level variables hold what the program's text lays).
-/
import Derived.Test.YtdbjadjdljaobaaGreatDoorCards
import Derived.Test.YtdbjadjdljaobaaGreatDoorTie
import Derived.Test.YtdbjadjdljaobaaGreatDoorNk
import Derived.Test.YtdbjadjdljaobaaGreatDoorNl
import Derived.Test.YtdbjadjdljaobaaGreatDoorNm
import Derived.WalkKit
import Derived.ProofKit
import Derived.OpenShut
import Derived.Lay
import Derived.SevenTiedAt
import Derived.Deep.DeepHandedRow

set_option linter.all false
set_option linter.unnecessarySimpa false

namespace Go.Proofs.YtdbjadjdljaobaaGreatDoor.FoldNil
open Go.ChangeShapes Go.WideShapes Go.ChangeAt Go.RowKit Go.Proofs.YtdbjadjdljaobaaGreatDoor.Abs
theorem own:ownKnob Tryz.prog.godebug=none:=by kernel_rfl
theorem wd (e:Ev) (s:List UInt8):cM (aL E1 60 [] 5 ([(e.p:PV),az s].map .pv) 0 0 0 [[]] 1)=some (bW true):=by kernel_rfl
theorem we (ps:List PV) (h:jX Tryz.prog Tryz.f5.params.toList ps): ∃n,cM (aL E1 n [] 5 (ps.map .pv) 0 0 0 [[]] 1)=some (bW true):=by
 rw [Tryz.params5] at h
 obtain ⟨n,cs,qs,rfl,h1,n2,cs2,qs2,rfl,h2,rfl⟩:=h
 obtain ⟨e,he,_⟩:=wc h1
 obtain ⟨s,rfl,_⟩:=eN h2
 have hs:bM Tryz.prog 9=false:=by kernel_rfl
 have ht:bM Tryz.prog 79=true:=by kernel_rfl
 rw [hs,ht]
 simp only [cK,if_true,he]
 exact ⟨60,wd e s⟩
def fC:Array Value:= #[.agg #[.int .u8 0,.string ⟨#[]⟩,.string ⟨#[]⟩,.string ⟨#[]⟩,.slice none 0 0,.int .u64 0,.int .u32 0,.int .u32 0,.string ⟨#[]⟩,.string ⟨#[]⟩],.string ⟨#[]⟩]
theorem wg (os:Os):laidMetH Tryz.prog Rows.foldNilRow.laid ((iz os).forCall (fun _ _=>0) ⟨#[],fC,[]⟩).memory:=laidMetH_of_parts (vO fC (by kernel_rfl) (by kernel_rfl)) (by kernel_rfl)
theorem wh (os:Os) {H:Type} (enc:TypeId×Value→H): ∃fE,DataW.whole enc Tryz.prog ((iz os).forCall (fun _ _=>0) ⟨#[],fC,[]⟩).memory Tryz.f5.params.toList Rows.foldNilSpec.vars false fC.toList 8=some ([.agg [.lit (.int .u8 0),.lit (.string []),.lit (.string []),.lit (.string []),.nil,.lit (.int .u64 0),.lit (.int .u32 0),.lit (.int .u32 0),.lit (.string []),.lit (.string [])],.lit (.string [])],[],fE):=
 ⟨[],by kernel_rfl⟩
theorem wi (os:Os) {H:Type} (enc:TypeId×Value→H): ∃(w:World) (tape:Tape) (i:Input),w.os=os∧(w.forCall tape i).Shaped Tryz.checked.prog∧i.vars=[]∧Input.okWide Tryz.checked.prog (w.forCall tape i) .any w.heap.size 5 i∧
  (OpenSpec.ofChange Rows.foldNilSpec).preRow enc Tryz.checked.prog Tryz.f5 Rows.foldNilRow.domain false Rows.foldNilRow.laid (w.forCall tape i).memory i.args∧
  ({} :Assume).holds Tryz.checked.prog (lone (Frame.enter Tryz.checked.prog 5 i.args .normal) [] (w.forCall tape i)):=by
 obtain ⟨fE,hx⟩:=wh os enc
 have hok:Input.okWideB Tryz.prog ((iz os).forCall (fun _ _=>0) ⟨#[],fC,[]⟩) 5 ⟨#[],fC,[]⟩=true:=by kernel_rfl
 refine ⟨iz os,fun _ _=>0,⟨#[],fC,[]⟩,vQ os,World.shaped_of_ZipB (by kernel_rfl) (by kernel_rfl),(Input.okWide_of_okWideB (base:=0) hok).1,(Input.okWide_of_okWideB hok).2,
  OpenSpec.preRow_of_cond 8 hx (by kernel_rfl) (fun k hk=>by cases hk) (by kernel_rfl) ?_,?_⟩
 ·exact wg os
 ·simp only [Assume.holds]
  exact ⟨by simp,by simp,fun _=>Modest.zero,by simp,by simp⟩
set_option maxRecDepth 100000 in
theorem wj (os:Os) (started:os.Started) (H:Type) (enc:TypeId×Value→H) (F:Stop.Interp):
  ReturnsInHanded {} Tryz.checked os 5 .any ((OpenSpec.ofChange Rows.foldNilSpec).preRow enc Tryz.prog Tryz.f5 Rows.foldNilRow.domain false Rows.foldNilRow.laid) (((OpenSpec.ofChange Rows.foldNilSpec).at F).post enc Tryz.prog Tryz.f5 false true false false):=by
 refine returnsInHanded_of_row (C:=Tryz.checked) (s:=OpenSpec.ofChange Rows.foldNilSpec) own started (by kernel_rfl) Tryz.func5 (wi os enc) ?_
 intro W base args ds gs before hval hW _ _ hz hL hsh _
 exact vW (s:=Rows.foldNilSpec) Tryz.func5 (by kernel_rfl) rfl (by kernel_rfl) rfl (by kernel_rfl) (by kernel_rfl)
  (fun ds h=>match ds,h with | [d1,d2],_=>rfl) we ⟨hval⟩ hW hz (vN hL hsh)
theorem ji:Tryz.f5.isInstance Tryz.pinned.checked.prog Rows.foldNilRow.origin Rows.foldNilRow.targs:=of_decide_eq_true (by kernel_rfl)
theorem jw:Tryz.f5.isWrapper Tryz.pinned.checked.prog Rows.foldNilRow.wrapper Rows.foldNilRow.mainSum:=by unfold Func.isWrapper;first | (rw [if_pos (by decide+kernel)];kernel_rfl) | (rw [if_neg (by decide+kernel)];exact ⟨rfl,rfl⟩)
theorem jn:Tryz.pinned.checked.prog.funcNamed Rows.foldNilRow.func=some 5:=by kernel_rfl
theorem said:Rows.FoldNilSaid:=
 OpenClaim.holds_of_cond 5 Tryz.f5 rfl rfl rfl rfl rfl rfl rfl ⟨rfl,rfl,rfl,rfl,rfl⟩ rfl rfl rfl rfl rfl jn Tryz.func5 jf ji jw
  (fun os started H enc _ F=>by rw [OpenClaim.pre_eq_preRow];exact wj os started H enc F)
theorem wk (f:FuncId) (fn:Func) (hf:Tryz.pinned.checked.prog.funcNamed "yankline/yanklinelaw10.FoldNil"=some f) (hfn:Tryz.pinned.checked.prog.funcs[f]? =some fn):
  true=Tryz.pinned.checked.prog.looks []∧ ∀(j:Nat) t,fn.params[j]? =some t→Tryz.pinned.checked.prog.wantsStandIn t=false:=by
 obtain rfl:f=5:=Option.some.inj ((show Tryz.prog.funcNamed "yankline/yanklinelaw10.FoldNil"=some 5 by kernel_rfl).symm.trans hf) |>.symm
 obtain rfl:fn=Tryz.f5:=(Option.some.inj (Tryz.func5.symm.trans hfn)).symm
 refine ⟨by kernel_rfl,fun j t ht=> ?_⟩
 rw [Tryz.params5] at ht
 have hm:t=79∨t=9:=by simpa using Array.mem_of_getElem? ht
 rcases hm with rfl | rfl
 ·exact (show Tryz.prog.wantsStandIn 79=false by kernel_rfl)
 ·exact (show Tryz.prog.wantsStandIn 9=false by kernel_rfl)
theorem card:Rows.FoldNilCardSaid:=
 Claim7.holds_tied_plain_at .later [] _ _ _ _ said (fun _ h=>by cases h) (by kernel_rfl) (fun _ h=>by cases h) foldNil_row_tie rfl ⟨rfl,rfl⟩ (by kernel_rfl) rfl wk (by kernel_rfl)
#print axioms card
end Go.Proofs.YtdbjadjdljaobaaGreatDoor.FoldNil

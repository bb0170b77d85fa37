/-
  AsofNone is true of whatever input: views and pasts that are not there, and such as no call made, answer each call as the document says. Conditions: none beyond the row's own (the listed package-level variables hold what the program's text lays).
-/
import Derived.Test.YtdbjadjdljaobaaGreatDoorCards
import Derived.Test.YtdbjadjdljaobaaGreatDoorTie
import Derived.Test.YtdbjadjdljaobaaGreatDoorNk
import Derived.Test.YtdbjadjdljaobaaGreatDoorNl
import Derived.Test.YtdbjadjdljaobaaGreatDoorNm
import Derived.WalkKit
import Derived.ProofKit
import Derived.OpenShut
import Derived.Lay
import Derived.SevenTiedAt
import Derived.Deep.DeepHandedRow

set_option linter.all false
set_option linter.unnecessarySimpa false

namespace Go.Proofs.YtdbjadjdljaobaaGreatDoor.AsofNone
open Go.ChangeShapes Go.WideShapes Go.ChangeAt Go.RowKit Go.Proofs.YtdbjadjdljaobaaGreatDoor.Abs
theorem own:ownKnob Tryz.prog.godebug=none:=by kernel_rfl
theorem wd (n:Int) (a b c:List UInt8):cM (aL E1 60 [] 3 ([(.lit (.int .i64 n):PV),.agg [az a,az b,az c]].map .pv) 0 0 0 [[]] 1)=some (bW true):=by kernel_rfl
theorem we (ps:List PV) (h:jX Tryz.prog Tryz.f3.params.toList ps): ∃n,cM (aL E1 n [] 3 (ps.map .pv) 0 0 0 [[]] 1)=some (bW true):=by
 rw [Tryz.params3] at h
 obtain ⟨n,cs,qs,rfl,h1,n2,cs2,qs2,rfl,h2,rfl⟩:=h
 obtain ⟨x,rfl,_⟩:=p3 Tryz.underlying3 h1
 obtain ⟨m,h2⟩:=px Tryz.underlying23 h2
 obtain ⟨y1,y2,y3,rfl,g1,g2,g3⟩:=wellF3 h2
 obtain ⟨a,rfl,_⟩:=eN g1
 obtain ⟨b,rfl,_⟩:=eN g2
 obtain ⟨c,rfl,_⟩:=eN g3
 have hs:bM Tryz.prog 3=false:=by kernel_rfl
 have ht:bM Tryz.prog 23=true:=by kernel_rfl
 rw [hs,ht]
 exact ⟨60,wd x a b c⟩
def fC:Array Value:= #[.int .i64 0,.agg #[.string ⟨#[]⟩,.string ⟨#[]⟩,.string ⟨#[]⟩]]
theorem wg (os:Os):laidMetH Tryz.prog Rows.asofNoneRow.laid ((iz os).forCall (fun _ _=>0) ⟨#[],fC,[]⟩).memory:=laidMetH_of_parts (vO fC (by kernel_rfl) (by kernel_rfl)) (by kernel_rfl)
theorem wh (os:Os) {H:Type} (enc:TypeId×Value→H): ∃fE,DataW.whole enc Tryz.prog ((iz os).forCall (fun _ _=>0) ⟨#[],fC,[]⟩).memory Tryz.f3.params.toList Rows.asofNoneSpec.vars false fC.toList 8=some ([.lit (.int .i64 0),.agg [.lit (.string []),.lit (.string []),.lit (.string [])]],[],fE):=
 ⟨[],by kernel_rfl⟩
theorem wi (os:Os) {H:Type} (enc:TypeId×Value→H): ∃(w:World) (tape:Tape) (i:Input),w.os=os∧(w.forCall tape i).Shaped Tryz.checked.prog∧i.vars=[]∧Input.okWide Tryz.checked.prog (w.forCall tape i) .any w.heap.size 3 i∧
  (OpenSpec.ofChange Rows.asofNoneSpec).preRow enc Tryz.checked.prog Tryz.f3 Rows.asofNoneRow.domain false Rows.asofNoneRow.laid (w.forCall tape i).memory i.args∧
  ({} :Assume).holds Tryz.checked.prog (lone (Frame.enter Tryz.checked.prog 3 i.args .normal) [] (w.forCall tape i)):=by
 obtain ⟨fE,hx⟩:=wh os enc
 have hok:Input.okWideB Tryz.prog ((iz os).forCall (fun _ _=>0) ⟨#[],fC,[]⟩) 3 ⟨#[],fC,[]⟩=true:=by kernel_rfl
 refine ⟨iz os,fun _ _=>0,⟨#[],fC,[]⟩,vQ os,World.shaped_of_ZipB (by kernel_rfl) (by kernel_rfl),(Input.okWide_of_okWideB (base:=0) hok).1,(Input.okWide_of_okWideB hok).2,
  OpenSpec.preRow_of_cond 8 hx (by kernel_rfl) (fun k hk=>by cases hk) (by kernel_rfl) ?_,?_⟩
 ·exact wg os
 ·simp only [Assume.holds]
  exact ⟨by simp,by simp,fun _=>Modest.zero,by simp,by simp⟩
set_option maxRecDepth 100000 in
theorem wj (os:Os) (started:os.Started) (H:Type) (enc:TypeId×Value→H) (F:Stop.Interp):
  ReturnsInHanded {} Tryz.checked os 3 .any ((OpenSpec.ofChange Rows.asofNoneSpec).preRow enc Tryz.prog Tryz.f3 Rows.asofNoneRow.domain false Rows.asofNoneRow.laid) (((OpenSpec.ofChange Rows.asofNoneSpec).at F).post enc Tryz.prog Tryz.f3 false true false false):=by
 refine returnsInHanded_of_row (C:=Tryz.checked) (s:=OpenSpec.ofChange Rows.asofNoneSpec) own started (by kernel_rfl) Tryz.func3 (wi os enc) ?_
 intro W base args ds gs before hval hW _ _ hz hL hsh _
 exact vW (s:=Rows.asofNoneSpec) Tryz.func3 (by kernel_rfl) rfl (by kernel_rfl) rfl (by kernel_rfl) (by kernel_rfl)
  (fun ds h=>match ds,h with | [d1,d2],_=>rfl) we ⟨hval⟩ hW hz (vN hL hsh)
theorem ji:Tryz.f3.isInstance Tryz.pinned.checked.prog Rows.asofNoneRow.origin Rows.asofNoneRow.targs:=of_decide_eq_true (by kernel_rfl)
theorem jw:Tryz.f3.isWrapper Tryz.pinned.checked.prog Rows.asofNoneRow.wrapper Rows.asofNoneRow.mainSum:=by unfold Func.isWrapper;first | (rw [if_pos (by decide+kernel)];kernel_rfl) | (rw [if_neg (by decide+kernel)];exact ⟨rfl,rfl⟩)
theorem jn:Tryz.pinned.checked.prog.funcNamed Rows.asofNoneRow.func=some 3:=by kernel_rfl
theorem said:Rows.AsofNoneSaid:=
 OpenClaim.holds_of_cond 3 Tryz.f3 rfl rfl rfl rfl rfl rfl rfl ⟨rfl,rfl,rfl,rfl,rfl⟩ rfl rfl rfl rfl rfl jn Tryz.func3 jf ji jw
  (fun os started H enc _ F=>by rw [OpenClaim.pre_eq_preRow];exact wj os started H enc F)
theorem wk (f:FuncId) (fn:Func) (hf:Tryz.pinned.checked.prog.funcNamed "yankline/yanklinelaw20.AsofNone"=some f) (hfn:Tryz.pinned.checked.prog.funcs[f]? =some fn):
  true=Tryz.pinned.checked.prog.looks []∧ ∀(j:Nat) t,fn.params[j]? =some t→Tryz.pinned.checked.prog.wantsStandIn t=false:=by
 obtain rfl:f=3:=Option.some.inj ((show Tryz.prog.funcNamed "yankline/yanklinelaw20.AsofNone"=some 3 by kernel_rfl).symm.trans hf) |>.symm
 obtain rfl:fn=Tryz.f3:=(Option.some.inj (Tryz.func3.symm.trans hfn)).symm
 refine ⟨by kernel_rfl,fun j t ht=> ?_⟩
 rw [Tryz.params3] at ht
 have hm:t=3∨t=23:=by simpa using Array.mem_of_getElem? ht
 rcases hm with rfl | rfl
 ·exact (show Tryz.prog.wantsStandIn 3=false by kernel_rfl)
 ·exact (show Tryz.prog.wantsStandIn 23=false by kernel_rfl)
theorem card:Rows.AsofNoneCardSaid:=
 Claim7.holds_tied_plain_at .later [] _ _ _ _ said (fun _ h=>by cases h) (by kernel_rfl) (fun _ h=>by cases h) asofNone_row_tie rfl ⟨rfl,rfl⟩ (by kernel_rfl) rfl wk (by kernel_rfl)
#print axioms card
end Go.Proofs.YtdbjadjdljaobaaGreatDoor.AsofNone

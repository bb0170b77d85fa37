/-
  The abstract machine over the model, its soundness, walks of the program's functions and what they compute. Conditions: the values are of their types.
-/
import Derived.Test.YthkilaondjgemaaGreatDoorRows
import Derived.Test.YthkilaondjgemaaGreatDoorNc
import Derived.Test.YthkilaondjgemaaGreatDoorNj
import Derived.ProofKit
import Derived.SizedLaws
import Derived.Stop.LaidErr
import Derived.MakeChecks
import Derived.LaidHandle
import Derived.Lay
import Derived.Shelf.Vars

set_option linter.all false
set_option linter.unnecessarySimpa false

namespace Go.Proofs.YthkilaondjgemaaGreatDoor.Abs
open Go Go.Proofs Go.RowKit Go.ChangeShapes Go.WideShapes Go.ChangeAt
def cn (w:World):af:=fun b=> ∃e n,w.shape? b=some (e,n)
theorem qj:laidOutB Tryz.prog=true:=by kernel_rfl
theorem jx {w:World} {b o:Nat} {v:Value} (h:w.cell? ⟨b,o,none⟩=some v):cn w b:=(lN h).2
theorem qk:(YthkilaondjgemaaGreatDoor.Rows.laid_internal_strconv_uint64pow10:DataW Unit)=Lib.tabData .u64 Lib.pow10Tab:=by kernel_rfl
theorem ql:(Tryz.prog.cutTypes.find? (·.1=="internal/reflectlite.rtype")).map (·.2)=some 204:=by kernel_rfl
theorem qm:((List.range 426).filter fun t=>Tryz.prog.rowNamed t [101,114,114,111,114])=[46]:=by kernel_rfl
theorem qn:Tryz.prog.types.size=426:=by kernel_rfl
theorem qo {W:World} {l:List (String×DataW Unit)} (h:handlesMet Tryz.prog l W) (hm:("errors.errorType",YthkilaondjgemaaGreatDoor.Rows.laid_errors_errorType)∈l):W.cell? ⟨0,0,none⟩=some (.iface 204 (.agg #[.pointer (some ⟨14,46,none⟩)])):=by
 obtain ⟨name,u,ty,e1,e2,e3,e4,e5⟩:=h _ hm
 have en:name=[101,114,114,111,114]:=(Option.some.inj e1).symm
 subst en
 obtain rfl:=Option.some.inj (ql.symm.trans e2)
 have hx:ty∈(List.range 426).filter fun t=>Tryz.prog.rowNamed t [101,114,114,111,114]:=List.mem_filter.2 ⟨List.mem_range.2 (by rw [←qn];exact e3),e4⟩
 rw [qm] at hx
 obtain rfl:=List.mem_singleton.1 hx
 have hh:typeHandle Tryz.prog 46= .pointer (some ⟨14,46,none⟩):=by kernel_rfl
 rw [hh] at e5
 have hg:Tryz.prog.globalNamed "errors.errorType"=some 0:=by kernel_rfl
 simpa using World.var?_cell hg e5 0
theorem qp {W:World} (hL:laidMetH Tryz.prog YthkilaondjgemaaGreatDoor.Rows.foldNilRow.laid W) (hsh:W.ShapedOpen Tryz.prog):dQ (cn W) W:=by
 have hL':laidMet Tryz.prog [("math/bits.deBruijn32tab",YthkilaondjgemaaGreatDoor.Rows.laid_math_bits_deBruijn32tab),("math/bits.deBruijn64tab",YthkilaondjgemaaGreatDoor.Rows.laid_math_bits_deBruijn64tab),("internal/strconv.uint64pow10",YthkilaondjgemaaGreatDoor.Rows.laid_internal_strconv_uint64pow10),("unicode/utf8.acceptRanges",YthkilaondjgemaaGreatDoor.Rows.laid_unicode_utf8_acceptRanges),("strconv.ErrRange",YthkilaondjgemaaGreatDoor.Rows.laid_strconv_ErrRange),("strconv.ErrSyntax",YthkilaondjgemaaGreatDoor.Rows.laid_strconv_ErrSyntax),("unicode/utf8.first",YthkilaondjgemaaGreatDoor.Rows.laid_unicode_utf8_first)] W∧
  handlesMet Tryz.prog [("errors.errorType",YthkilaondjgemaaGreatDoor.Rows.laid_errors_errorType)] W:=hL
 have h1:=hL'.1.tail.tail
 rw [qk] at h1
 have hg:Tryz.prog.globalNamed "internal/strconv.uint64pow10"=some 2:=by kernel_rfl
 have ht:=Lib.tabIs_of_head (t:=330) (e:=24) (n:=20) hg (by kernel_rfl) Tryz.underlying330 Tryz.underlying24 (by kernel_rfl) (by kernel_rfl) h1
 have he:=qo hL'.2 (by simp)
 obtain ⟨m,hm⟩:=Go.Proofs.cell_of_shapedOpen_int (g:=1) (zero:= #[.int .i64 0]) (t:=3) hsh (of_decide_eq_true (by kernel_rfl)) (by kernel_rfl) rfl (by kernel_rfl) (by kernel_rfl) Tryz.underlying3
 refine ⟨⟨m,?_⟩,ht,jx (ht.cell hg 0 (by rw [Lib.pow10Tab_length];omega)),he,jx he⟩
 refine .ptr _ 0 _ 0 (fun _=> .int .i64 m) (jx hm) (fun j p hp=> ?_) (fun j p hp=> ?_)
 ·cases j with
  | zero=>exact ⟨hm,rfl⟩
  | succ j=>simp [PV.cells] at hp
 ·cases j with
  | zero=>simp [PV.cells] at hp;subst hp;exact .lit _
  | succ j=>simp [PV.cells] at hp
theorem qq {P:Program} {w0:World} {l:List (String×DataW Unit)} (args:Array Value) (hf:w0.layFits P l []=true) (hi:w0.layIfaces P l (w0.layVars P l)=true):
  laidMet P l ((w0.layVars P l).forCall (fun _ _=>0) ⟨#[],args,[]⟩).memory:=by
 have e1:(l.filter fun x=>(l.map (·.1)).contains x.1)=l:=List.filter_eq_self.2 fun x hx=>List.contains_iff_mem.2 (List.mem_map.2 ⟨x,hx,rfl⟩)
 have e2:(l.filter fun x=> !(l.map (·.1)).contains x.1)=[]:=List.filter_eq_nil_iff.2 fun x hx=>by rw [List.contains_iff_mem.2 (List.mem_map.2 ⟨x,hx,rfl⟩)];simp
 have h:laidMet P l (w0.layVars P l):=laidMet_layVars (w0:=w0) (l.map (·.1)) [] (by rw [e1]) (by rw [e1];exact hf) (by rw [e1];exact hi) (by rw [e2];exact LaidIn.none)
 exact h.of_heap (by simp [World.memory,World.forCall,Input.heap])
noncomputable def qr (os:Os):World:=
 let w:=World.holding Tryz.prog os ⟨#[],#[],[]⟩
 { w with heap:=w.heap.modify 0 fun
   | .cells _ t frozen=> .cells #[.iface 204 (.agg #[.pointer (some ⟨14,46,none⟩)])] t frozen
   | o=>o}
noncomputable def fu (os:Os):World:=(qr os).layVars Tryz.prog (YthkilaondjgemaaGreatDoor.Rows.foldNilRow.laid.filter fun x=>x.2.handleName?.isNone)
theorem qt (os:Os):(fu os).os=os:=World.layVars_os _ _ _
section
variable {H:Type} {enc:TypeId×Value→H}
theorem qu {P:Program} {W:World} {base:Nat} {t:TypeId} {v:Value} (hok:Value.okWide P W .any base t v) (hp:cE P 9 t=true) (hs:bJ P t=false):v.cells.toList=[v]:=by
 unfold cE at hp
 unfold bJ at hs
 unfold Value.okWide Cell.okWide Cell.ok at hok
 split at hp
 ·rename_i he;rw [he] at hok;cases v<;>first | rfl | exact hok.elim | simp at hok
 ·rename_i he;rw [he] at hok;cases v<;>first | rfl | exact hok.elim | simp at hok
 ·rename_i he;rw [he] at hok;cases v<;>first | rfl | exact hok.elim | simp at hok
 ·rename_i he;rw [he] at hok;cases v<;>first | rfl | exact hok.elim | simp at hok
 ·rename_i he;rw [he] at hs;cases hs
 ·cases hp
theorem qv {P:Program} {W:World} {base:Nat} {t:TypeId} {v:Value} {d:DataW H} {ps:List MemPlace} (hok:Value.okWide P W .any base t v) (hd:DataW.Trod enc P W 0 (fun _=>true) true t v d ps)
  (hp:cE P 9 t=true) (hw: ∀n∈d.weights P t,n≤reachBytes): ∃n cs,bR P n t cs∧aj (cn W) W (cD (bJ P t) cs) v:=by
 obtain ⟨fuel,h⟩:=hd
 obtain ⟨cs,hcs,hf⟩:=pf (I:=cn W) (fun b e n h=>⟨e,n,h⟩) fuel t _ _ 9 h hp hw
 refine ⟨fuel,cs,hcs,?_⟩
 cases hs:bJ P t with
 | false=>
  have h1:=qu hok hp hs
  rw [h1] at hf
  obtain ⟨p,rfl,_,_⟩:=lL hs hcs
  exact (hf.get (j:=0) rfl rfl).1
 | true=>
  have hv: ∃a,v= .agg a:=by
   unfold bJ at hs
   unfold Value.okWide at hok
   split at hs
   ·rename_i he
    rw [he] at hok
    obtain ⟨a,ha,_⟩:=hok
    exact ⟨a,ha⟩
   ·cases hs
  obtain ⟨a,rfl⟩:=hv
  have hf':F2 (cn W) W cs a.toList:=hf
  have:=aj.agg (I:=cn W) (w:=W) cs a.toList hf'.length.symm (fun x hx=> ?_) (fun j p v hp hv=>(hf'.get hp hv).1)
  ·simpa [cD] using this
  ·obtain ⟨j,hj,rfl⟩:=List.getElem_of_mem hx
   have hj':j<cs.length:=by rw [hf'.length];exact hj
   exact (hf'.get (List.getElem?_eq_getElem hj') (List.getElem?_eq_getElem hj)).2
def gI (P:Program):List TypeId→List PV→Prop
 | [],ps=>ps=[]
 | t::ts,ps=> ∃n cs qs,ps=cD (bJ P t) cs::qs∧bR P n t cs∧gI P ts qs
structure lY (P:Program) (W:World) (base:Nat) (ts:Array TypeId) (args:Array Value):Prop where
 val: ∀(j:Nat) t v,ts[j]? =some t→args[j]? =some v→Value.okWide P W .any base t v
structure lZ (P:Program) (W:World) (base:Nat) (ts:List TypeId) (args:List Value):Prop where
 val: ∀(j:Nat) t v,ts[j]? =some t→args[j]? =some v→Value.okWide P W .any base t v
theorem l3 {P:Program} {W:World} {base:Nat} : ∀(ts:List TypeId) (vs:List Value) (ds:List (DataW H)) (ps:List MemPlace),DataW.TrodAll enc P W 0 (fun _=>true) true ts vs ds ps→
  lZ P W base ts vs→(ts.all fun t=>cE P 9 t)=true→(∀n∈DataW.weightsEach P ts ds,n≤reachBytes)→
  ∃qs,gI P ts qs∧vs.length=qs.length∧ ∀(j:Nat) (p:PV) (u:Value),qs[j]? =some p→vs[j]? =some u→aj (cn W) W p u
 | [],[],[],ps,_,_,_,_=>⟨[],rfl,rfl,fun j p u h=>by simp at h⟩
 | t::ts,v::vs,d::ds,ps,h,hok,hp,hw=>by
  obtain ⟨p,q,h1,h2,rfl⟩:=h
  simp only [List.all_cons,Bool.and_eq_true] at hp
  simp only [DataW.weightsEach,List.mem_append] at hw
  obtain ⟨n,cs,hcs,hr⟩:=qv (hok.val 0 t v rfl rfl) h1 hp.1 (fun n hn=>hw n (.inl hn))
  obtain ⟨qs,g1,g2,g3⟩:=l3 ts vs ds q h2 ⟨fun j t v a b=>hok.val (j+1) t v (by simpa using a) (by simpa using b)⟩ hp.2 (fun n hn=>hw n (.inr hn))
  refine ⟨_,⟨n,cs,qs,rfl,hcs,g1⟩,by simp [g2],fun j p u a b=> ?_⟩
  cases j with
  | zero=>simp only [List.getElem?_cons_zero,Option.some.injEq] at a b;subst a;subst b;exact hr
  | succ j=>exact g3 j p u (by simpa using a) (by simpa using b)
 | [],_::_,_,_,h,_,_,_=>h.elim
 | [],[],_::_,_,h,_,_,_=>h.elim
 | _::_,[],_,_,h,_,_,_=>h.elim
 | _::_,_::_,[],_,h,_,_,_=>h.elim
theorem l4 {P:Program} (hlo:laidOutB P=true) {W W':World} (hb:Below W.heap.size W W'): ∀(ts:List TypeId) (vs:List Value) (ds:List (DataW H)) (ps:List MemPlace),DataW.TrodAll enc P W 0 (fun _=>true) true ts vs ds ps→
  (ts.all fun t=>P.readableRec t&&decide (t<P.types.size))=true→(∀x∈ps,x.block<W.heap.size)→DataW.TrodAll enc P W' 0 (fun b=>decide (b<W.heap.size)) true ts vs ds ps
 | [],[],[],ps,h,_,_=>h
 | t::ts,v::vs,d::ds,ps,h,hp,hlt=>by
  obtain ⟨p,q,h1,h2,rfl⟩:=h
  simp only [List.all_cons,Bool.and_eq_true,decide_eq_true_eq] at hp
  exact ⟨p,q,Below.trod hlo hp.1.1 hp.1.2 h1 hb (fun x hx=>hlt x (List.mem_append_left _ hx)),l4 hlo hb ts vs ds q h2 hp.2 (fun x hx=>hlt x (List.mem_append_right _ hx)),rfl⟩
 | [],_::_,_,_,h,_,_=>h.elim
 | [],[],_::_,_,h,_,_=>h.elim
 | _::_,[],_,_,h,_,_=>h.elim
 | _::_,_::_,[],_,h,_,_=>h.elim
theorem qw {P:Program} {W:World} : ∀(ts:List TypeId) (vs:List Value) (ds:List (DataW H)) (ps:List MemPlace),DataW.TrodAll enc P W 0 (fun _=>true) true ts vs ds ps→ds.length=ts.length:=by
 intro ts
 induction ts with
 | nil=>intro vs ds ps h;cases vs<;>cases ds<;>first | rfl | exact h.elim
 | cons t ts ih=>
  intro vs ds ps h
  cases vs with
  | nil=>exact h.elim
  | cons v vs=>
   cases ds with
   | nil=>exact h.elim
   | cons d ds=>
    obtain ⟨_,_,_,h2,_⟩:=h
    simp [ih _ _ _ h2]
theorem qx {P:Program} {n:Nat} : ∀(ts us:List TypeId) (ds:List (DataW H)),n∈DataW.weightsEach P ts ds→n∈DataW.weightsEach P (ts++us) ds:=by
 intro ts us
 induction ts with
 | nil=>intro ds h;cases ds<;>simp [DataW.weightsEach] at h
 | cons t ts ih=>
  intro ds h
  cases ds with
  | nil=>simp [DataW.weightsEach] at h
  | cons d ds=>
   simp only [DataW.weightsEach,List.mem_append,List.cons_append] at h ⊢
   exact h.imp id (ih ds)
theorem qy {P:Program} {W:World} {base:Nat} {ts:Array TypeId} {args:Array Value} (h:lY P W base ts args):lZ P W base ts.toList args.toList:=by
 refine ⟨?_⟩
 intro j t v a b
 rw [Array.getElem?_toList] at a b
 exact h.val j t v a b
theorem qz {f:FuncId} {fn:Func} {c:Code} {s:ChangeSpec} {W:World} {base:Nat} {args:Array Value} {ds gs:List (DataW H)} {before:List MemPlace} {us:List TypeId}
  (hfn:Tryz.prog.funcs[f]? =some fn) (hname:(fn.name=="runtime.NumGoroutine")=false) (hbody:fn.body=some c) (hres:fn.resultTypes= #[4]) (hvars:s.vars=[]) (hplain:(fn.params.toList.all fun t=>cE Tryz.prog 9 t)=true)
  (hread:(fn.params.toList.all fun t=>Tryz.prog.readableRec t&&decide (t<Tryz.prog.types.size))=true)
  (hspec: ∀ds:List (DataW H),ds.length=fn.params.toList.length→s.fn H ds= { results:=[.lit (.bool true)],args:=ds})
  (run: ∀ps,gI Tryz.prog fn.params.toList ps→ ∃n,cT (bc E1 n [] f (ps.map .pv) 0 0 0 [[]] 1)=some (ft true))
  (hval:lY Tryz.prog W base fn.params args)
  (hW:DataW.Whole enc Tryz.prog fn.params.toList s.vars false W args.toList ds gs before)
  (hz:(DataW.weightsEach Tryz.prog (fn.params.toList++us) (ds++gs)).all (· ≤reachBytes)=true) (hgl:dQ (cn W) W):
  Calls Tryz.prog f args W fun e W'=> ∃v,e= .returned v∧s.post enc Tryz.prog fn false true false false W args v W':=by
 have hlt:=hW.lt
 have hW':=hW
 obtain ⟨p,q,hA,hV,rfl,_,_⟩:=hW
 have hV':=hV
 rw [hvars] at hV
 obtain ⟨rfl,rfl⟩:=trodVars_none hV
 simp only [List.append_nil] at hz hW' hlt
 have hwt: ∀n∈DataW.weightsEach Tryz.prog fn.params.toList ds,n≤reachBytes:=fun n hn=>by
  have h1:n∈DataW.weightsEach Tryz.prog (fn.params.toList++us) ds:=by
   exact qx _ _ _ hn
  simpa using List.all_eq_true.1 hz n h1
 have hval':=qy hval
 obtain ⟨qs,hq,hl,hr⟩:=l3 fn.params.toList args.toList ds p hA hval' hplain hwt
 have hdl:ds.length=fn.params.toList.length:=by
  exact qw _ _ _ _ hA
 have hgl':Gl E1 (cn W) W:=hgl
 have hin: ∀b,cn W b→aO W b:=fun b ⟨e,n,h⟩=> .of_shape h
 have hpure:b4 E1.P f args.toList.toArray W (cn W) (ft true):=let ⟨n,hn⟩:=run qs hq;run_pure qi hn hgl' hl hr hin
 have hc:Calls Tryz.prog f args W fun e W'=> ∃I' v,e= .returned v∧aj I' W' (ft true) v∧Below W.heap.size W W':=by
  have hent:=enters_of (P:=Tryz.prog) hfn hname hbody args W
  rcases hpure with ⟨v,w',h1,h2⟩ | ⟨h1,h2⟩ | ⟨row,ax,w1,h1,h2⟩
  ·have h3:=hent.symm.trans h1;cases h3
  ·refine h2.mono fun e W' he=> ?_
   split at he
   ·rename_i v
    obtain ⟨I',k1,_,_,k2,_⟩:=he
    exact ⟨I',v,rfl,k1,k2⟩
   ·exact he.elim
  ·have h3:=hent.symm.trans h1;cases h3
 refine hc.mono ?_
 rintro e W' ⟨I',v,rfl,hv,hb⟩
 obtain rfl:v= .bool true:=by cases hv;rfl
 refine ⟨_,rfl,ds,[],p,[],p,[],hW',?_,?_,?_,hb.frame _,fun h=>by cases h⟩
 ·rw [List.append_nil,hspec ds hdl,hres]
  exact trodAll_mk1 (shut_bool Tryz.underlying4 _)
 ·rw [List.append_nil,hspec ds hdl]
  exact l4 qj hb _ _ _ _ hA hread (fun x hx=>by simpa using hlt x hx)
 ·rw [List.append_nil,hspec ds hdl,hvars]
  rfl
end
end Go.Proofs.YthkilaondjgemaaGreatDoor.Abs

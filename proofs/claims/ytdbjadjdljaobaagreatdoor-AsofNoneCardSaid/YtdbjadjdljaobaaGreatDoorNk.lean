/-
  The abstract machine over the model, its soundness, walks of the program's functions and what they compute. Conditions: the values are of their types.
-/
import Derived.Test.YtdbjadjdljaobaaGreatDoorRows
import Derived.Test.YtdbjadjdljaobaaGreatDoorNd
import Derived.Test.YtdbjadjdljaobaaGreatDoorNj
import Derived.ProofKit
import Derived.SizedLaws
import Derived.Stop.LaidErr
import Derived.MakeChecks
import Derived.LaidHandle
import Derived.Lay
import Derived.Shelf.Vars

set_option linter.all false
set_option linter.unnecessarySimpa false

namespace Go.Proofs.YtdbjadjdljaobaaGreatDoor.Abs
open Go Go.Proofs Go.RowKit Go.ChangeShapes Go.WideShapes Go.ChangeAt
def dh (w:World):ah:=fun b=> ∃e n,w.shape? b=some (e,n)
theorem vH:laidOutB Tryz.prog=true:=by kernel_rfl
theorem mf {w:World} {b o:Nat} {v:Value} (h:w.cell? ⟨b,o,none⟩=some v):dh w b:=(pq h).2
theorem vI:(YtdbjadjdljaobaaGreatDoor.Rows.laid_internal_strconv_uint64pow10:DataW Unit)=Lib.tabData .u64 Lib.pow10Tab:=by kernel_rfl
theorem vJ:(Tryz.prog.cutTypes.find? (·.1=="internal/reflectlite.rtype")).map (·.2)=some 258:=by kernel_rfl
theorem vK:((List.range 470).filter fun t=>Tryz.prog.rowNamed t [101,114,114,111,114])=[37]:=by kernel_rfl
theorem vL:Tryz.prog.types.size=470:=by kernel_rfl
theorem vM {W:World} {l:List (String×DataW Unit)} (h:handlesMet Tryz.prog l W) (hm:("errors.errorType",YtdbjadjdljaobaaGreatDoor.Rows.laid_errors_errorType)∈l):W.cell? ⟨0,0,none⟩=some (.iface 258 (.agg #[.pointer (some ⟨14,37,none⟩)])):=by
 obtain ⟨name,u,ty,e1,e2,e3,e4,e5⟩:=h _ hm
 have en:name=[101,114,114,111,114]:=(Option.some.inj e1).symm
 subst en
 obtain rfl:=Option.some.inj (vJ.symm.trans e2)
 have hx:ty∈(List.range 470).filter fun t=>Tryz.prog.rowNamed t [101,114,114,111,114]:=List.mem_filter.2 ⟨List.mem_range.2 (by rw [←vL];exact e3),e4⟩
 rw [vK] at hx
 obtain rfl:=List.mem_singleton.1 hx
 have hh:typeHandle Tryz.prog 37= .pointer (some ⟨14,37,none⟩):=by kernel_rfl
 rw [hh] at e5
 have hg:Tryz.prog.globalNamed "errors.errorType"=some 0:=by kernel_rfl
 simpa using World.var?_cell hg e5 0
theorem vN {W:World} (hL:laidMetH Tryz.prog YtdbjadjdljaobaaGreatDoor.Rows.foldNilRow.laid W) (hsh:W.ShapedOpen Tryz.prog):fB (dh W) W:=by
 have hL':laidMet Tryz.prog [("math/bits.deBruijn32tab",YtdbjadjdljaobaaGreatDoor.Rows.laid_math_bits_deBruijn32tab),("math/bits.deBruijn64tab",YtdbjadjdljaobaaGreatDoor.Rows.laid_math_bits_deBruijn64tab),("internal/strconv.uint64pow10",YtdbjadjdljaobaaGreatDoor.Rows.laid_internal_strconv_uint64pow10),("unicode/utf8.acceptRanges",YtdbjadjdljaobaaGreatDoor.Rows.laid_unicode_utf8_acceptRanges),("strconv.ErrRange",YtdbjadjdljaobaaGreatDoor.Rows.laid_strconv_ErrRange),("strconv.ErrSyntax",YtdbjadjdljaobaaGreatDoor.Rows.laid_strconv_ErrSyntax),("unicode/utf8.first",YtdbjadjdljaobaaGreatDoor.Rows.laid_unicode_utf8_first)] W∧
  handlesMet Tryz.prog [("errors.errorType",YtdbjadjdljaobaaGreatDoor.Rows.laid_errors_errorType)] W:=hL
 have h1:=hL'.1.tail.tail
 rw [vI] at h1
 have hg:Tryz.prog.globalNamed "internal/strconv.uint64pow10"=some 6:=by kernel_rfl
 have ht:=Lib.tabIs_of_head (t:=432) (e:=47) (n:=20) hg (by kernel_rfl) Tryz.underlying432 Tryz.underlying47 (by kernel_rfl) (by kernel_rfl) h1
 have he:=vM hL'.2 (by simp)
 obtain ⟨m,hm⟩:=Go.Proofs.cell_of_shapedOpen_int (g:=1) (zero:= #[.int .i64 0]) (t:=3) hsh (of_decide_eq_true (by kernel_rfl)) (by kernel_rfl) rfl (by kernel_rfl) (by kernel_rfl) Tryz.underlying3
 refine ⟨⟨m,?_⟩,ht,mf (ht.cell hg 0 (by rw [Lib.pow10Tab_length];omega)),he,mf he⟩
 refine .ptr _ 0 _ 0 (fun _=> .int .i64 m) (mf hm) (fun j p hp=> ?_) (fun j p hp=> ?_)
 ·cases j with
  | zero=>exact ⟨hm,rfl⟩
  | succ j=>simp [PV.cells] at hp
 ·cases j with
  | zero=>simp [PV.cells] at hp;subst hp;exact .lit _
  | succ j=>simp [PV.cells] at hp
theorem vO {P:Program} {w0:World} {l:List (String×DataW Unit)} (args:Array Value) (hf:w0.layFits P l []=true) (hi:w0.layIfaces P l (w0.layVars P l)=true):
  laidMet P l ((w0.layVars P l).forCall (fun _ _=>0) ⟨#[],args,[]⟩).memory:=by
 have e1:(l.filter fun x=>(l.map (·.1)).contains x.1)=l:=List.filter_eq_self.2 fun x hx=>List.contains_iff_mem.2 (List.mem_map.2 ⟨x,hx,rfl⟩)
 have e2:(l.filter fun x=> !(l.map (·.1)).contains x.1)=[]:=List.filter_eq_nil_iff.2 fun x hx=>by rw [List.contains_iff_mem.2 (List.mem_map.2 ⟨x,hx,rfl⟩)];simp
 have h:laidMet P l (w0.layVars P l):=laidMet_layVars (w0:=w0) (l.map (·.1)) [] (by rw [e1]) (by rw [e1];exact hf) (by rw [e1];exact hi) (by rw [e2];exact LaidIn.none)
 exact h.of_heap (by simp [World.memory,World.forCall,Input.heap])
noncomputable def vP (os:Os):World:=
 let w:=World.holding Tryz.prog os ⟨#[],#[],[]⟩
 { w with heap:=w.heap.modify 0 fun
   | .cells _ t frozen=> .cells #[.iface 258 (.agg #[.pointer (some ⟨14,37,none⟩)])] t frozen
   | o=>o}
noncomputable def iz (os:Os):World:=(vP os).layVars Tryz.prog (YtdbjadjdljaobaaGreatDoor.Rows.foldNilRow.laid.filter fun x=>x.2.handleName?.isNone)
theorem vQ (os:Os):(iz os).os=os:=World.layVars_os _ _ _
section
variable {H:Type} {enc:TypeId×Value→H}
theorem vR {P:Program} {W:World} {base:Nat} {t:TypeId} {v:Value} (hok:Value.okWide P W .any base t v) (hp:dJ P 9 t=true) (hs:bM P t=false):v.cells.toList=[v]:=by
 unfold dJ at hp
 unfold bM at hs
 unfold Value.okWide Cell.okWide Cell.ok at hok
 split at hp
 ·rename_i he;rw [he] at hok;cases v<;>first | rfl | exact hok.elim | simp at hok
 ·rename_i he;rw [he] at hok;cases v<;>first | rfl | exact hok.elim | simp at hok
 ·rename_i he;rw [he] at hok;cases v<;>first | rfl | exact hok.elim | simp at hok
 ·rename_i he;rw [he] at hok;cases v<;>first | rfl | exact hok.elim | simp at hok
 ·rename_i he;rw [he] at hs;cases hs
 ·cases hp
theorem vS {P:Program} {W:World} {base:Nat} {t:TypeId} {v:Value} {d:DataW H} {ps:List MemPlace} (hok:Value.okWide P W .any base t v) (hd:DataW.Trod enc P W 0 (fun _=>true) true t v d ps)
  (hp:dJ P 9 t=true) (hw: ∀n∈d.weights P t,n≤reachBytes): ∃n cs,bq P n t cs∧am (dh W) W (cK (bM P t) cs) v:=by
 obtain ⟨fuel,h⟩:=hd
 obtain ⟨cs,hcs,hf⟩:=ua (I:=dh W) (fun b e n h=>⟨e,n,h⟩) fuel t _ _ 9 h hp hw
 refine ⟨fuel,cs,hcs,?_⟩
 cases hs:bM P t with
 | false=>
  have h1:=vR hok hp hs
  rw [h1] at hf
  obtain ⟨p,rfl,_,_⟩:=po hs hcs
  exact (hf.get (j:=0) rfl rfl).1
 | true=>
  have hv: ∃a,v= .agg a:=by
   unfold bM at hs
   unfold Value.okWide at hok
   split at hs
   ·rename_i he
    rw [he] at hok
    obtain ⟨a,ha,_⟩:=hok
    exact ⟨a,ha⟩
   ·cases hs
  obtain ⟨a,rfl⟩:=hv
  have hf':F2 (dh W) W cs a.toList:=hf
  have:=am.agg (I:=dh W) (w:=W) cs a.toList hf'.length.symm (fun x hx=> ?_) (fun j p v hp hv=>(hf'.get hp hv).1)
  ·simpa [cK] using this
  ·obtain ⟨j,hj,rfl⟩:=List.getElem_of_mem hx
   have hj':j<cs.length:=by rw [hf'.length];exact hj
   exact (hf'.get (List.getElem?_eq_getElem hj') (List.getElem?_eq_getElem hj)).2
def jX (P:Program):List TypeId→List PV→Prop
 | [],ps=>ps=[]
 | t::ts,ps=> ∃n cs qs,ps=cK (bM P t) cs::qs∧bq P n t cs∧jX P ts qs
structure pT (P:Program) (W:World) (base:Nat) (ts:Array TypeId) (args:Array Value):Prop where
 val: ∀(j:Nat) t v,ts[j]? =some t→args[j]? =some v→Value.okWide P W .any base t v
structure pU (P:Program) (W:World) (base:Nat) (ts:List TypeId) (args:List Value):Prop where
 val: ∀(j:Nat) t v,ts[j]? =some t→args[j]? =some v→Value.okWide P W .any base t v
theorem pV {P:Program} {W:World} {base:Nat} : ∀(ts:List TypeId) (vs:List Value) (ds:List (DataW H)) (ps:List MemPlace),DataW.TrodAll enc P W 0 (fun _=>true) true ts vs ds ps→
  pU P W base ts vs→(ts.all fun t=>dJ P 9 t)=true→(∀n∈DataW.weightsEach P ts ds,n≤reachBytes)→
  ∃qs,jX P ts qs∧vs.length=qs.length∧ ∀(j:Nat) (p:PV) (u:Value),qs[j]? =some p→vs[j]? =some u→am (dh W) W p u
 | [],[],[],ps,_,_,_,_=>⟨[],rfl,rfl,fun j p u h=>by simp at h⟩
 | t::ts,v::vs,d::ds,ps,h,hok,hp,hw=>by
  obtain ⟨p,q,h1,h2,rfl⟩:=h
  simp only [List.all_cons,Bool.and_eq_true] at hp
  simp only [DataW.weightsEach,List.mem_append] at hw
  obtain ⟨n,cs,hcs,hr⟩:=vS (hok.val 0 t v rfl rfl) h1 hp.1 (fun n hn=>hw n (.inl hn))
  obtain ⟨qs,g1,g2,g3⟩:=pV ts vs ds q h2 ⟨fun j t v a b=>hok.val (j+1) t v (by simpa using a) (by simpa using b)⟩ hp.2 (fun n hn=>hw n (.inr hn))
  refine ⟨_,⟨n,cs,qs,rfl,hcs,g1⟩,by simp [g2],fun j p u a b=> ?_⟩
  cases j with
  | zero=>simp only [List.getElem?_cons_zero,Option.some.injEq] at a b;subst a;subst b;exact hr
  | succ j=>exact g3 j p u (by simpa using a) (by simpa using b)
 | [],_::_,_,_,h,_,_,_=>h.elim
 | [],[],_::_,_,h,_,_,_=>h.elim
 | _::_,[],_,_,h,_,_,_=>h.elim
 | _::_,_::_,[],_,h,_,_,_=>h.elim
theorem pW {P:Program} (hlo:laidOutB P=true) {W W':World} (hb:Below W.heap.size W W'): ∀(ts:List TypeId) (vs:List Value) (ds:List (DataW H)) (ps:List MemPlace),DataW.TrodAll enc P W 0 (fun _=>true) true ts vs ds ps→
  (ts.all fun t=>P.readableRec t&&decide (t<P.types.size))=true→(∀x∈ps,x.block<W.heap.size)→DataW.TrodAll enc P W' 0 (fun b=>decide (b<W.heap.size)) true ts vs ds ps
 | [],[],[],ps,h,_,_=>h
 | t::ts,v::vs,d::ds,ps,h,hp,hlt=>by
  obtain ⟨p,q,h1,h2,rfl⟩:=h
  simp only [List.all_cons,Bool.and_eq_true,decide_eq_true_eq] at hp
  exact ⟨p,q,Below.trod hlo hp.1.1 hp.1.2 h1 hb (fun x hx=>hlt x (List.mem_append_left _ hx)),pW hlo hb ts vs ds q h2 hp.2 (fun x hx=>hlt x (List.mem_append_right _ hx)),rfl⟩
 | [],_::_,_,_,h,_,_=>h.elim
 | [],[],_::_,_,h,_,_=>h.elim
 | _::_,[],_,_,h,_,_=>h.elim
 | _::_,_::_,[],_,h,_,_=>h.elim
theorem vT {P:Program} {W:World} : ∀(ts:List TypeId) (vs:List Value) (ds:List (DataW H)) (ps:List MemPlace),DataW.TrodAll enc P W 0 (fun _=>true) true ts vs ds ps→ds.length=ts.length:=by
 intro ts
 induction ts with
 | nil=>intro vs ds ps h;cases vs<;>cases ds<;>first | rfl | exact h.elim
 | cons t ts ih=>
  intro vs ds ps h
  cases vs with
  | nil=>exact h.elim
  | cons v vs=>
   cases ds with
   | nil=>exact h.elim
   | cons d ds=>
    obtain ⟨_,_,_,h2,_⟩:=h
    simp [ih _ _ _ h2]
theorem vU {P:Program} {n:Nat} : ∀(ts us:List TypeId) (ds:List (DataW H)),n∈DataW.weightsEach P ts ds→n∈DataW.weightsEach P (ts++us) ds:=by
 intro ts us
 induction ts with
 | nil=>intro ds h;cases ds<;>simp [DataW.weightsEach] at h
 | cons t ts ih=>
  intro ds h
  cases ds with
  | nil=>simp [DataW.weightsEach] at h
  | cons d ds=>
   simp only [DataW.weightsEach,List.mem_append,List.cons_append] at h ⊢
   exact h.imp id (ih ds)
theorem vV {P:Program} {W:World} {base:Nat} {ts:Array TypeId} {args:Array Value} (h:pT P W base ts args):pU P W base ts.toList args.toList:=by
 refine ⟨?_⟩
 intro j t v a b
 rw [Array.getElem?_toList] at a b
 exact h.val j t v a b
theorem vW {f:FuncId} {fn:Func} {c:Code} {s:ChangeSpec} {W:World} {base:Nat} {args:Array Value} {ds gs:List (DataW H)} {before:List MemPlace} {us:List TypeId}
  (hfn:Tryz.prog.funcs[f]? =some fn) (hname:(fn.name=="runtime.NumGoroutine")=false) (hbody:fn.body=some c) (hres:fn.resultTypes= #[4]) (hvars:s.vars=[]) (hplain:(fn.params.toList.all fun t=>dJ Tryz.prog 9 t)=true)
  (hread:(fn.params.toList.all fun t=>Tryz.prog.readableRec t&&decide (t<Tryz.prog.types.size))=true)
  (hspec: ∀ds:List (DataW H),ds.length=fn.params.toList.length→s.fn H ds= { results:=[.lit (.bool true)],args:=ds})
  (run: ∀ps,jX Tryz.prog fn.params.toList ps→ ∃n,cM (aL E1 n [] f (ps.map .pv) 0 0 0 [[]] 1)=some (bW true))
  (hval:pT Tryz.prog W base fn.params args)
  (hW:DataW.Whole enc Tryz.prog fn.params.toList s.vars false W args.toList ds gs before)
  (hz:(DataW.weightsEach Tryz.prog (fn.params.toList++us) (ds++gs)).all (· ≤reachBytes)=true) (hgl:fB (dh W) W):
  Calls Tryz.prog f args W fun e W'=> ∃v,e= .returned v∧s.post enc Tryz.prog fn false true false false W args v W':=by
 have hlt:=hW.lt
 have hW':=hW
 obtain ⟨p,q,hA,hV,rfl,_,_⟩:=hW
 have hV':=hV
 rw [hvars] at hV
 obtain ⟨rfl,rfl⟩:=trodVars_none hV
 simp only [List.append_nil] at hz hW' hlt
 have hwt: ∀n∈DataW.weightsEach Tryz.prog fn.params.toList ds,n≤reachBytes:=fun n hn=>by
  have h1:n∈DataW.weightsEach Tryz.prog (fn.params.toList++us) ds:=by
   exact vU _ _ _ hn
  simpa using List.all_eq_true.1 hz n h1
 have hval':=vV hval
 obtain ⟨qs,hq,hl,hr⟩:=pV fn.params.toList args.toList ds p hA hval' hplain hwt
 have hdl:ds.length=fn.params.toList.length:=by
  exact vT _ _ _ _ hA
 have hgl':Gl E1 (dh W) W:=hgl
 have hin: ∀b,dh W b→bn W b:=fun b ⟨e,n,h⟩=> .of_shape h
 have hpure:cS E1.P f args.toList.toArray W (dh W) (bW true):=let ⟨n,hn⟩:=run qs hq;run_pure vG hn hgl' hl hr hin
 have hc:Calls Tryz.prog f args W fun e W'=> ∃I' v,e= .returned v∧am I' W' (bW true) v∧Below W.heap.size W W':=by
  have hent:=enters_of (P:=Tryz.prog) hfn hname hbody args W
  rcases hpure with ⟨v,w',h1,h2⟩ | ⟨h1,h2⟩ | ⟨row,ax,w1,h1,h2⟩
  ·have h3:=hent.symm.trans h1;cases h3
  ·refine h2.mono fun e W' he=> ?_
   split at he
   ·rename_i v
    obtain ⟨I',k1,_,_,k2,_⟩:=he
    exact ⟨I',v,rfl,k1,k2⟩
   ·exact he.elim
  ·have h3:=hent.symm.trans h1;cases h3
 refine hc.mono ?_
 rintro e W' ⟨I',v,rfl,hv,hb⟩
 obtain rfl:v= .bool true:=by cases hv;rfl
 refine ⟨_,rfl,ds,[],p,[],p,[],hW',?_,?_,?_,hb.frame _,fun h=>by cases h⟩
 ·rw [List.append_nil,hspec ds hdl,hres]
  exact trodAll_mk1 (shut_bool Tryz.underlying4 _)
 ·rw [List.append_nil,hspec ds hdl]
  exact pW vH hb _ _ _ _ hA hread (fun x hx=>by simpa using hlt x hx)
 ·rw [List.append_nil,hspec ds hdl,hvars]
  rfl
end
end Go.Proofs.YtdbjadjdljaobaaGreatDoor.Abs

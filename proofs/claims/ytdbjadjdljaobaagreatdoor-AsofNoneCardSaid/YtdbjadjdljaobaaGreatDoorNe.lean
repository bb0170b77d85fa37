/-
  The environment keeps its promises: library functions by their contracts. Conditions: none.
-/
import Derived.Test.YtdbjadjdljaobaaGreatDoorNc
import Derived.Test.YtdbjadjdljaobaaGreatDoorNd

set_option linter.all false
set_option linter.unnecessarySimpa false

namespace Go.Proofs.YtdbjadjdljaobaaGreatDoor.Abs
open Go Go.Proofs Go.RowKit
theorem l5:Tryz.prog.follows .mixedOrders=true:=by kernel_rfl
theorem cL (f:FuncId) (fn:Func) (c:Code) (h1:Tryz.prog.funcs[f]? =some fn) (h2:(fn.name=="runtime.NumGoroutine")=false) (h3:fn.body=some c): ∀args w,(callFunc f args).run Tryz.prog w= .ok (.enter f args) w:=enters_of h1 h2 h3
theorem pB (I:ah) (w:World) (h:fB I w): ∃m,w.cell? ⟨1,0,none⟩=some (.int .i64 m):=by
 obtain ⟨⟨m,h1⟩,_⟩:=h
 exact ⟨m,tP h1⟩
theorem uP:(Tryz.prog.funcs.toList.zipIdx.all fun q=> !(E0.ok q.2)||b9 E0 q.1)=true:=by kernel_rfl
theorem uQ (f:FuncId) (fn:Func) (h1:E0.ok f=true) (h2:Tryz.prog.funcs[f]? =some fn):b9 E0 fn=true:=by
 have h:(!(E0.ok f)||b9 E0 fn)=true:=List.all_eq_true.1 uP (fn,f) (by
  rw [List.mem_zipIdx_iff_getElem?]
  simpa using h2)
 rw [h1] at h
 simpa using h
theorem pC (w:World) (k:Nat) (os:Array Obj):Below w.heap.size w (Go.Sort.grow (w.drewN k) os):=
 ⟨rfl,rfl,rfl,by simp [Go.Sort.grow,World.drewN],fun b hb=>by simp [Go.Sort.grow,World.drewN,Array.getElem?_append,hb]⟩
theorem uR (hent: ∀args w,(callFunc 302 args).run Tryz.prog w= .ok (.enter 302 args) w):ce E0 302 lI:=by
 intro ps r hF I w us hgl hl hr hin
 unfold lI at hF
 split at hF
 ·rename_i n b
  split at hF
  ·rename_i hs
   injection hF with hF
   subst hF
   obtain ⟨rfl,h0,h1⟩:=hs
   obtain ⟨u,rfl⟩: ∃u:Nat,n=u:=⟨n.toNat,by omega⟩
   rw [ip (by simpa using hl) hr]
   refine eE (P:=Tryz.prog) hent (ui u (by omega) w hgl.2.1) ?_
   rintro w' ⟨k,os,rfl⟩
   rw [Int.toNat_natCast]
   exact eF (pC w k os) hin (.lit _)
  ·cases hF
 ·cases hF
theorem uS (n:Int) (w:World):(Extern.ReflectliteType.typeOf #[.iface 101 (.int .i64 n)]).run Tryz.prog w= .ok (.iface 258 (.agg #[.pointer (some ⟨14,101,none⟩)])) w:=by kernel_rfl
theorem uT:ce E0 128 lJ:=by
 intro ps r hF I w us hgl hl hr hin
 unfold lJ at hF
 split at hF
 ·rename_i n
  cases hF
  obtain ⟨u,rfl⟩:=List.length_eq_one_iff.1 hl
  have h1:=hr 0 _ u rfl rfl
  cases h1 with
  | iface _ _ v h2=>
   cases h2
   refine .inl ⟨_,w,?_,I,.iface _ _ _ (.agg _ [.pointer (some ⟨14,101,none⟩)] rfl (fun v hv=> ?_) (fun j p v hp hv=> ?_)),fun _ h=>h,fun _ h=> .inl h,.refl _ _,hin⟩
   ·rw [show (@List.toArray Value [.iface 101 (.int .i64 n)])= #[.iface 101 (.int .i64 n)] from rfl,show E0.P=Tryz.prog from rfl,@run_callFunc_extern Tryz.prog 128 _ Extern.ReflectliteType.typeOf Tryz.func128 (by kernel_rfl) (by kernel_rfl) (by kernel_rfl) (by kernel_rfl),uS]
    rfl
   ·simp only [List.mem_singleton] at hv
    subst hv;rfl
   ·cases j with
    | zero=>simp only [List.getElem?_cons_zero,Option.some.injEq] at hp hv;subst hp;subst hv;exact .lit _
    | succ j=>simp at hp
 ·cases hF
theorem uU:ce E0 383 lK:=by
 intro ps r hF I w us hgl hl hr hin
 unfold lK at hF
 split at hF
 ·cases hF
  obtain ⟨u,rfl⟩:=List.length_eq_one_iff.1 hl
  have h1:=hr 0 _ u rfl rfl
  cases h1 with
  | agg _ vs hlv h1 hrv=>
   obtain ⟨x,rfl⟩:=List.length_eq_one_iff.1 hlv
   have h2:=hrv 0 _ x rfl rfl
   cases h2
   refine .inl ⟨.bool true,w,?_,I,.lit _,fun _ h=>h,fun _ h=> .inl h,.refl _ _,hin⟩
   show (callFunc 383 #[.agg #[.pointer (some ⟨14,101,none⟩)]]).run Tryz.prog w=_
   kernel_rfl
 ·cases hF
theorem uV (b:ByteArray) (c:Int) (w:World):(Extern.BytealgIndexByte.indexByte #[.string b,.int .u8 c]).run Tryz.prog w= .ok (.int .i64 (match (List.range b.size).find? fun i=>b[i]! ==c.toNat.toUInt8 with
  | some i=>(i:Int)
  | none=> -1)) w:=by
 have h:Extern.BytealgIndexByte.indexByte #[.string b,.int .u8 c]=(match (List.range b.size).find? fun i=>b[i]! ==c.toNat.toUInt8 with
  | some i=>pure (goInt i)
  | none=>pure (goInt (-1))):=rfl
 rw [h]
 split<;>rfl
theorem uW:ce E0 312 lL:=by
 intro ps r hF I w us hgl hl hr hin
 unfold lL at hF
 split at hF
 ·rename_i b c
  cases hF
  rw [ip (by simpa using hl) hr]
  refine .inl ⟨_,w,?_,I,.lit _,fun _ h=>h,fun _ h=> .inl h,.refl _ _,hin⟩
  rw [show (@List.toArray Value [.string b,.int .u8 c])= #[.string b,.int .u8 c] from rfl,show E0.P=Tryz.prog from rfl,@run_callFunc_extern Tryz.prog 312 _ Extern.BytealgIndexByte.indexByte Tryz.func312 (by kernel_rfl) (by kernel_rfl) (by kernel_rfl) (by kernel_rfl),uV]
  rfl
 ·cases hF
theorem uX (hent: ∀args w,(callFunc 340 args).run Tryz.prog w= .ok (.enter 340 args) w):ce E0 340 lM:=by
 intro ps r hF I w us hgl hl hr hin
 unfold lM at hF
 split at hF
 ·rename_i n
  split at hF
  ·rename_i hs
   injection hF with hF
   subst hF
   obtain ⟨u,rfl⟩:=List.length_eq_one_iff.1 hl
   have h1:=hr 0 _ u rfl rfl
   obtain rfl:=bl h1
   refine eE (P:=Tryz.prog) hent (Tryz.strconv_Itoa n hs.1 hs.2 w hgl.2.1) ?_
   rintro w' ⟨k,os,rfl⟩
   exact eF (pC w k os) hin (.lit _)
  ·cases hF
 ·cases hF
theorem gn {P:Program} {f:FuncId} {us:Array Value} {w:World} (hent: ∀args w,(callFunc f args).run P w= .ok (.enter f args) w) {R:Value→World→Prop} {u:Value} {Q:World→Prop} (hc:Calls P f us w fun e w'=>e= .returned u∧Q w') (hR: ∀w',Q w'→R u w'):bE P f us w R:=
 .inr (.inl ⟨hent _ _,hc.mono fun e w' ⟨he,hq⟩=>by subst he;exact hR w' hq⟩)
theorem uY:k7 Tryz.prog 255 302 where
 fresh b w h1 h2 h3:=gn (cL _ Tryz.f255 _ (by kernel_rfl) (by kernel_rfl) rfl) (uO b w h1 h2 h3) fun _ h=>⟨rfl,h⟩
 used b w h1:=gn (cL _ Tryz.f255 _ (by kernel_rfl) (by kernel_rfl) rfl) (uN b w h1) fun _ h=>⟨rfl,h⟩
theorem uZ:jE Tryz.prog fB E0.asm 55 110 108 where
 miss I w ty x t old hty hgl h1 h2:=by
  have hty:(ty==101||ty==428)=true:=hty
  simp only [Bool.or_eq_true,beq_iff_eq] at hty
  have fin: ∀w',w'=(((w.alloc (.cells #[.pointer (some ⟨t,0,none⟩)] 110)).alloc (.cells #[.pointer (some ⟨14,110,none⟩),.pointer (some ⟨w.heap.size,0,none⟩),.int .u64 150] 201)).alloc (.cells #[.pointer (some ⟨14,110,none⟩),.pointer (some ⟨w.heap.size,0,none⟩),.int .u64 150] 201))→Below w.heap.size w w':=fun w' h=>by
   subst h
   exact (((Below.refl _ _).alloc (by simp<;>omega) _).alloc (by simp<;>omega) _).alloc (by simp<;>omega) _
  rcases hty with rfl | rfl
  ·exact gn (cL _ Tryz.f55 _ (by kernel_rfl) (by kernel_rfl) rfl) (uG x ⟨t,0,none⟩ w hgl.2.2.2.1) fun w' h=>⟨rfl,fin w' h⟩
  ·exact gn (cL _ Tryz.f55 _ (by kernel_rfl) (by kernel_rfl) rfl) (uM x ⟨t,0,none⟩ w hgl.2.2.2.1) fun w' h=>⟨rfl,fin w' h⟩
 no x w:=gn (cL _ Tryz.f55 _ (by kernel_rfl) (by kernel_rfl) rfl) (uj x w) fun _ h=>⟨rfl,h⟩
 hit I w e t old hgl h1 h2:=gn (cL _ Tryz.f55 _ (by kernel_rfl) (by kernel_rfl) rfl) (uz e ⟨t,0,none⟩ old w hgl.2.2.2.1 h1 h2) fun w' h=>⟨rfl,_,((((Below.refl _ _).alloc (by simp<;>omega) _).alloc (by simp<;>omega) _).alloc (by simp<;>omega) _).alloc (by simp<;>omega) _,h⟩
theorem l6 (f:FuncId) (F:List PV→Option PV) (h:iq f=some F):ce E0 f F:=by
 unfold iq at h
 split at h
 ·cases h;exact tQ (E:=E0) (cL _ Tryz.f120 _ (by kernel_rfl) (by kernel_rfl) rfl) pB Tryz.strings_Cut
 ·cases h;exact tU (E:=E0) (cL _ Tryz.f170 _ (by kernel_rfl) (by kernel_rfl) rfl) pB (fun s sep h=>Lib.splitB_all sep h 0 _ s rfl) Tryz.strings_Split
 ·cases h;exact tV (E:=E0) (cL _ Tryz.f217 _ (by kernel_rfl) (by kernel_rfl) rfl) Tryz.strings_Join_none (fun bk o c xs sep w h1 h2 h3 h4 h5=>Tryz.strings_Join bk o c xs sep w h1 h2 h3 h4 h5)
 ·cases h;exact tR (E:=E0) (cL _ Tryz.f267 _ (by kernel_rfl) (by kernel_rfl) rfl) Tryz.strings_Repeat
 ·cases h;exact tS (E:=E0) (cL _ Tryz.f237 _ (by kernel_rfl) (by kernel_rfl) rfl) Tryz.strconv_ParseUint_10_at64_ok
 ·cases h;exact uR (cL _ Tryz.f302 _ (by kernel_rfl) (by kernel_rfl) rfl)
 ·cases h;exact uT
 ·cases h;exact uW
 ·cases h;exact uX (cL _ Tryz.f340 _ (by kernel_rfl) (by kernel_rfl) rfl)
 ·cases h;exact uU
 ·cases h
theorem l7 (f:FuncId) (T:TypeId) (h:E0.ckf f=some T):k7 E0.P f T:=by
 simp only [E0] at h
 split at h
 ·rename_i h1
  cases h;subst h1
  exact uY
 ·cases h
theorem l8 (f:FuncId) (t2 t1:TypeId) (h:E0.asf f t2=some t1):jE E0.P E0.gl E0.asm f t2 t1:=by
 simp only [E0] at h
 split at h
 ·rename_i h1
  cases h;obtain ⟨rfl,rfl⟩:=h1
  exact uZ
 ·cases h
theorem l9:dI E0:=⟨l7,l8,l5,uQ,fun f F hF ps r hr I w us h1 h2 h3 h4=>l6 f F hF ps r hr I w us h1 h2 h3 h4⟩
end Go.Proofs.YtdbjadjdljaobaaGreatDoor.Abs

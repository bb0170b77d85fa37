/-
  The environment keeps its promises: library functions by their contracts. Conditions: none.
-/
import Derived.Test.YthkilaondjgemaaGreatDoorNc

set_option linter.all false
set_option linter.unnecessarySimpa false

namespace Go.Proofs.YthkilaondjgemaaGreatDoor.Abs
open Go Go.Proofs Go.RowKit
theorem lS:Tryz.prog.follows .mixedOrders=true:=by kernel_rfl
theorem b6 (f:FuncId) (fn:Func) (c:Code) (h1:Tryz.prog.funcs[f]? =some fn) (h2:(fn.name=="runtime.NumGoroutine")=false) (h3:fn.body=some c): ∀args w,(callFunc f args).run Tryz.prog w= .ok (.enter f args) w:=enters_of h1 h2 h3
theorem lT (I:af) (w:World) (h:dQ I w): ∃m,w.cell? ⟨1,0,none⟩=some (.int .i64 m):=by
 obtain ⟨⟨m,h1⟩,_⟩:=h
 exact ⟨m,oW h1⟩
theorem pT:(Tryz.prog.funcs.toList.zipIdx.all fun q=> !(E0.ok q.2)||cv E0 q.1)=true:=by kernel_rfl
theorem pU (f:FuncId) (fn:Func) (h1:E0.ok f=true) (h2:Tryz.prog.funcs[f]? =some fn):cv E0 fn=true:=by
 have h:(!(E0.ok f)||cv E0 fn)=true:=List.all_eq_true.1 pT (fn,f) (by
  rw [List.mem_zipIdx_iff_getElem?]
  simpa using h2)
 rw [h1] at h
 simpa using h
theorem lU (w:World) (k:Nat) (os:Array Obj):Below w.heap.size w (Go.Sort.grow (w.drewN k) os):=
 ⟨rfl,rfl,rfl,by simp [Go.Sort.grow,World.drewN],fun b hb=>by simp [Go.Sort.grow,World.drewN,Array.getElem?_append,hb]⟩
theorem pV (hent: ∀args w,(callFunc 253 args).run Tryz.prog w= .ok (.enter 253 args) w):b5 E0 253 i6:=by
 intro ps r hF I w us hgl hl hr hin
 unfold i6 at hF
 split at hF
 ·rename_i n b
  split at hF
  ·rename_i hs
   injection hF with hF
   subst hF
   obtain ⟨rfl,h0,h1⟩:=hs
   obtain ⟨u,rfl⟩: ∃u:Nat,n=u:=⟨n.toNat,by omega⟩
   rw [fq (by simpa using hl) hr]
   refine dl (P:=Tryz.prog) hent (pm u (by omega) w hgl.2.1) ?_
   rintro w' ⟨k,os,rfl⟩
   rw [Int.toNat_natCast]
   exact dm (lU w k os) hin (.lit _)
  ·cases hF
 ·cases hF
theorem pW (n:Int) (w:World):(Extern.ReflectliteType.typeOf #[.iface 64 (.int .i64 n)]).run Tryz.prog w= .ok (.iface 204 (.agg #[.pointer (some ⟨14,64,none⟩)])) w:=by kernel_rfl
theorem pX:b5 E0 95 i7:=by
 intro ps r hF I w us hgl hl hr hin
 unfold i7 at hF
 split at hF
 ·rename_i n
  cases hF
  obtain ⟨u,rfl⟩:=List.length_eq_one_iff.1 hl
  have h1:=hr 0 _ u rfl rfl
  cases h1 with
  | iface _ _ v h2=>
   cases h2
   refine .inl ⟨_,w,?_,I,.iface _ _ _ (.agg _ [.pointer (some ⟨14,64,none⟩)] rfl (fun v hv=> ?_) (fun j p v hp hv=> ?_)),fun _ h=>h,fun _ h=> .inl h,.refl _ _,hin⟩
   ·rw [show (@List.toArray Value [.iface 64 (.int .i64 n)])= #[.iface 64 (.int .i64 n)] from rfl,show E0.P=Tryz.prog from rfl,@run_callFunc_extern Tryz.prog 95 _ Extern.ReflectliteType.typeOf Tryz.func95 (by kernel_rfl) (by kernel_rfl) (by kernel_rfl) (by kernel_rfl),pW]
    rfl
   ·simp only [List.mem_singleton] at hv
    subst hv;rfl
   ·cases j with
    | zero=>simp only [List.getElem?_cons_zero,Option.some.injEq] at hp hv;subst hp;subst hv;exact .lit _
    | succ j=>simp at hp
 ·cases hF
theorem pY:b5 E0 358 i8:=by
 intro ps r hF I w us hgl hl hr hin
 unfold i8 at hF
 split at hF
 ·cases hF
  obtain ⟨u,rfl⟩:=List.length_eq_one_iff.1 hl
  have h1:=hr 0 _ u rfl rfl
  cases h1 with
  | agg _ vs hlv h1 hrv=>
   obtain ⟨x,rfl⟩:=List.length_eq_one_iff.1 hlv
   have h2:=hrv 0 _ x rfl rfl
   cases h2
   refine .inl ⟨.bool true,w,?_,I,.lit _,fun _ h=>h,fun _ h=> .inl h,.refl _ _,hin⟩
   show (callFunc 358 #[.agg #[.pointer (some ⟨14,64,none⟩)]]).run Tryz.prog w=_
   kernel_rfl
 ·cases hF
theorem pZ (b:ByteArray) (c:Int) (w:World):(Extern.BytealgIndexByte.indexByte #[.string b,.int .u8 c]).run Tryz.prog w= .ok (.int .i64 (match (List.range b.size).find? fun i=>b[i]! ==c.toNat.toUInt8 with
  | some i=>(i:Int)
  | none=> -1)) w:=by
 have h:Extern.BytealgIndexByte.indexByte #[.string b,.int .u8 c]=(match (List.range b.size).find? fun i=>b[i]! ==c.toNat.toUInt8 with
  | some i=>pure (goInt i)
  | none=>pure (goInt (-1))):=rfl
 rw [h]
 split<;>rfl
theorem p3:b5 E0 259 ja:=by
 intro ps r hF I w us hgl hl hr hin
 unfold ja at hF
 split at hF
 ·rename_i b c
  cases hF
  rw [fq (by simpa using hl) hr]
  refine .inl ⟨_,w,?_,I,.lit _,fun _ h=>h,fun _ h=> .inl h,.refl _ _,hin⟩
  rw [show (@List.toArray Value [.string b,.int .u8 c])= #[.string b,.int .u8 c] from rfl,show E0.P=Tryz.prog from rfl,@run_callFunc_extern Tryz.prog 259 _ Extern.BytealgIndexByte.indexByte Tryz.func259 (by kernel_rfl) (by kernel_rfl) (by kernel_rfl) (by kernel_rfl),pZ]
  rfl
 ·cases hF
theorem p4 (hent: ∀args w,(callFunc 133 args).run Tryz.prog w= .ok (.enter 133 args) w):b5 E0 133 jb:=by
 intro ps r hF I w us hgl hl hr hin
 unfold jb at hF
 split at hF
 ·rename_i n
  split at hF
  ·rename_i hs
   injection hF with hF
   subst hF
   obtain ⟨u,rfl⟩:=List.length_eq_one_iff.1 hl
   have h1:=hr 0 _ u rfl rfl
   obtain rfl:=aQ h1
   refine dl (P:=Tryz.prog) hent (Tryz.strconv_Itoa n hs.1 hs.2 w hgl.2.1) ?_
   rintro w' ⟨k,os,rfl⟩
   exact dm (lU w k os) hin (.lit _)
  ·cases hF
 ·cases hF
theorem eB {P:Program} {f:FuncId} {us:Array Value} {w:World} (hent: ∀args w,(callFunc f args).run P w= .ok (.enter f args) w) {R:Value→World→Prop} {u:Value} {Q:World→Prop} (hc:Calls P f us w fun e w'=>e= .returned u∧Q w') (hR: ∀w',Q w'→R u w'):bl P f us w R:=
 .inr (.inl ⟨hent _ _,hc.mono fun e w' ⟨he,hq⟩=>by subst he;exact hR w' hq⟩)
theorem p5:iO Tryz.prog 199 218 where
 fresh b w h1 h2 h3:=eB (b6 _ Tryz.f199 _ (by kernel_rfl) (by kernel_rfl) rfl) (pS b w h1 h2 h3) fun _ h=>⟨rfl,h⟩
 used b w h1:=eB (b6 _ Tryz.f199 _ (by kernel_rfl) (by kernel_rfl) rfl) (pR b w h1) fun _ h=>⟨rfl,h⟩
theorem p6:gE Tryz.prog dQ E0.asm 82 131 129 where
 miss I w ty x t old hty hgl h1 h2:=by
  have hty:(ty==64||ty==135)=true:=hty
  simp only [Bool.or_eq_true,beq_iff_eq] at hty
  have fin: ∀w',w'=(((w.alloc (.cells #[.pointer (some ⟨t,0,none⟩)] 131)).alloc (.cells #[.pointer (some ⟨14,131,none⟩),.pointer (some ⟨w.heap.size,0,none⟩),.int .u64 150] 182)).alloc (.cells #[.pointer (some ⟨14,131,none⟩),.pointer (some ⟨w.heap.size,0,none⟩),.int .u64 150] 182))→Below w.heap.size w w':=fun w' h=>by
   subst h
   exact (((Below.refl _ _).alloc (by simp<;>omega) _).alloc (by simp<;>omega) _).alloc (by simp<;>omega) _
  rcases hty with rfl | rfl
  ·exact eB (b6 _ Tryz.f82 _ (by kernel_rfl) (by kernel_rfl) rfl) (pK x ⟨t,0,none⟩ w hgl.2.2.2.1) fun w' h=>⟨rfl,fin w' h⟩
  ·exact eB (b6 _ Tryz.f82 _ (by kernel_rfl) (by kernel_rfl) rfl) (pQ x ⟨t,0,none⟩ w hgl.2.2.2.1) fun w' h=>⟨rfl,fin w' h⟩
 no x w:=eB (b6 _ Tryz.f82 _ (by kernel_rfl) (by kernel_rfl) rfl) (pn x w) fun _ h=>⟨rfl,h⟩
 hit I w e t old hgl h1 h2:=eB (b6 _ Tryz.f82 _ (by kernel_rfl) (by kernel_rfl) rfl) (pD e ⟨t,0,none⟩ old w hgl.2.2.2.1 h1 h2) fun w' h=>⟨rfl,_,((((Below.refl _ _).alloc (by simp<;>omega) _).alloc (by simp<;>omega) _).alloc (by simp<;>omega) _).alloc (by simp<;>omega) _,h⟩
theorem lV (f:FuncId) (F:List PV→Option PV) (h:gF f=some F):b5 E0 f F:=by
 unfold gF at h
 split at h
 ·cases h;exact oX (E:=E0) (b6 _ Tryz.f161 _ (by kernel_rfl) (by kernel_rfl) rfl) lT Tryz.strings_Cut
 ·cases h;exact o3 (E:=E0) (b6 _ Tryz.f162 _ (by kernel_rfl) (by kernel_rfl) rfl) lT (fun s sep h=>Lib.splitB_all sep h 0 _ s rfl) Tryz.strings_Split
 ·cases h;exact o4 (E:=E0) (b6 _ Tryz.f134 _ (by kernel_rfl) (by kernel_rfl) rfl) Tryz.strings_Join_none (fun bk o c xs sep w h1 h2 h3 h4 h5=>Tryz.strings_Join bk o c xs sep w h1 h2 h3 h4 h5)
 ·cases h;exact oY (E:=E0) (b6 _ Tryz.f305 _ (by kernel_rfl) (by kernel_rfl) rfl) Tryz.strings_Repeat
 ·cases h;exact oZ (E:=E0) (b6 _ Tryz.f212 _ (by kernel_rfl) (by kernel_rfl) rfl) Tryz.strconv_ParseUint_10_at64_ok
 ·cases h;exact pV (b6 _ Tryz.f253 _ (by kernel_rfl) (by kernel_rfl) rfl)
 ·cases h;exact pX
 ·cases h;exact p3
 ·cases h;exact p4 (b6 _ Tryz.f133 _ (by kernel_rfl) (by kernel_rfl) rfl)
 ·cases h;exact pY
 ·cases h
theorem lW (f:FuncId) (T:TypeId) (h:E0.ckf f=some T):iO E0.P f T:=by
 simp only [E0] at h
 split at h
 ·rename_i h1
  cases h;subst h1
  exact p5
 ·cases h
theorem lX (f:FuncId) (t2 t1:TypeId) (h:E0.asf f t2=some t1):gE E0.P E0.gl E0.asm f t2 t1:=by
 simp only [E0] at h
 split at h
 ·rename_i h1
  cases h;obtain ⟨rfl,rfl⟩:=h1
  exact p6
 ·cases h
theorem gG:di E0:=⟨lW,lX,lS,pU,fun f F hF ps r hr I w us h1 h2 h3 h4=>lV f F hF ps r hr I w us h1 h2 h3 h4⟩
end Go.Proofs.YthkilaondjgemaaGreatDoor.Abs

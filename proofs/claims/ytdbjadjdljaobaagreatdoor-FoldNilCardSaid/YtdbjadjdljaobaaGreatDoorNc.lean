/-
  The abstract machine over the model, its soundness, walks of the program's functions and what they compute. Conditions: the values are of their types.
-/
import Derived.Test.YtdbjadjdljaobaaGreatDoorProg
import Derived.Test.YtdbjadjdljaobaaGreatDoorNb
import Derived.Lib.IndexMore
import Derived.Lib.Split
import Derived.Lib.Repeat
import Derived.Lib.JoinFns
import Derived.Lib.ParseIntB
import Derived.Lib.ConvBytes
import Derived.Lib.SplitLaws
import Derived.Lib.Join
import Derived.KernelRfl
import Derived.Lib.ItoaNum
import Derived.Lib.ItoaMem
import Derived.Lib.LaidTab

set_option linter.all false
set_option linter.unnecessarySimpa false

namespace Go.Proofs.YtdbjadjdljaobaaGreatDoor.Abs
open Go Go.RowKit
section
variable {E:ap} {call:bu} {ys:Ys} {d:Nat} {base:ah} {C:Cx} {σ:aq} {I:ah} {w:World} {h:aa} {s s':St} {a:Act}
theorem sb (ps:Array Tmp) (us:List Value) (tm:Array Value):(ps.zip us.toArray).foldl (fun x (q:Tmp×Value)=>x.setIfInBounds q.1 q.2) tm=(ps.toList.zip us).foldl (fun x (q:Tmp×Value)=>x.setIfInBounds q.1 q.2) tm:=by
 rw [←Array.foldl_toList]
 congr 1
 simp
theorem bB.later {σ':aq} {I':ah} {w':World} {h':aa} (H:bB C σ I w s a) (hx:aB C.base σ I w σ' I' w') (hh:af σ' I' C.base w' h') (hf: ∀k,s.g≤k→σ' k=none):bB C σ' I' w' { s with h:=h'} a:=
  ⟨fun i=>hx.rep (H.tmp i),hh,hf,H.hb.mono hx.below.size,H.hn,fun x hx'=>let ⟨D,h1,h2,h3⟩:=H.marks x hx';⟨D,h1,h2,hx.kp.dfr D h3⟩,H.nodup,
   fun l hl=>let ⟨x,hx'⟩:=H.around l hl;let ⟨x',h1,_⟩:=hx.kp.loop l x hx';⟨x',h1⟩,H.lob,Nat.le_trans H.losz hx.below.size⟩
theorem sc {assign body:Code} {fa fb:St→Option (av×St)} {n:Nat} (ha: ∀C s x s',C.n=n→fa s=some (x,s')→fj E C ys assign s x s') (hb: ∀C s x s',C.n=n→fb s=some (x,s')→fj E C ys body s x s')
  {ps:Array Tmp} (hps: ∀p∈ps.toList,p<n) {tm:Array Value} (hn:n≤tm.size) {t:List AV} {slot gen l:Nat} {rec:Loop} (hys:bK E ys σ I w) (hσ:σ gen=some (l,0,0)) (hl:w.heap[l]? =some (Obj.loop rec))
  (ht: ∀i,ab σ I w (bz t i) (tm.getD i undef)) (h1:rec.tmps=tm) (h2:rec.params=ps) (h3:rec.assign=assign) (h4:rec.body=body):hX E.P gen (iL fa fb ps t d slot gen) σ I w:=by
 refine ⟨l,0,0,hσ,fun σ1 I1 w1 hL base h args us g b h' g' he H hB hlen hr hfr=> ?_⟩
 unfold iL at he
 split at he
 ·rename_i hsz
  split at he
  ·rename_i hlive
   have hσ1:=hL.sig _ _ hσ
   obtain ⟨rr,hh,hok,_⟩:=H.loopPut (r':=rec) hlive hσ1 ae (.inl rfl)
   obtain ⟨rr',hh',hsame⟩:=hL.kp.loop l rec hl
   rw [hh] at hh'
   injection hh' with hh'
   injection hh' with hh'
   subst hh'
   have hpar:rr.params=ps:=hsame.2.2.1.trans h2
   have htm:rr.tmps=tm:=hsame.2.1.trans h1
   have has:rr.assign=assign:=hsame.2.2.2.1.trans h3
   have hbo:rr.body=body:=hsame.2.2.2.2.1.trans h4
   have hy:=run_yield (P:=E.P) (args:=us.toArray) hh (by rw [hpar];simp;omega)
   rw [hpar,htm,has,hbo,sb] at hy
   refine ⟨_,_,_,_,hy,?_⟩
   have hset:=n3 ps.toList args us t tm hlen (fun p hp=>Nat.lt_of_lt_of_le (hps p hp) hn) hr (fun i=>(ht i).mono hL.sig hL.blk hL.kp)
   split at he
   ·rename_i s1 hs1
    split at he
    ·rename_i hlive1
     split at he
     ·rename_i x s2 hs2
      have H0:bB ⟨n,base,w1.heap.size,some l⟩ σ1 I1 w1 { t:=eU ps.toList args t,h:=h,g:=g} { tmps:=(ps.toList.zip us).foldl (fun x (q:Tmp×Value)=>x.setIfInBounds q.1 q.2) tm,defers:=[]} :=
       ⟨hset.1,H,hfr,hB,Nat.le_trans hn (Nat.le_of_eq hset.2.symm),fun x hx=>by simp at hx,List.nodup_nil,fun l' hl'=>by cases hl';exact ⟨rr,hh⟩,hB,Nat.le_refl _⟩
      refine roundIn_of_wpIn (F:=WF none) trivial ?_
      refine ha ⟨n,base,w1.heap.size,some l⟩ _ .normal s1 rfl hs1 σ1 I1 w1 _ _ H0 (hys.later hL) fun σ2 I2 w2 a2 hd=> ?_
      have hσ2:=hd.ext.sig _ _ hσ1
      obtain ⟨r2,hh2,hok2,hput2⟩:=hd.rel.heap.loopPut (r':=rec) hlive1 hσ2 ae (.inl rfl)
      obtain ⟨r2,hh2,hok2,hput2⟩:=hd.rel.heap.loopPut (r':= { r2 with state:= .busy}) hlive1 hσ2 ⟨gen,.lp .busy⟩ (.inr ⟨_,rfl,rfl⟩)
      have hh2':=hh2
      rename_i r20 hh20 hok20 hput20
      rw [hh20] at hh2'
      injection hh2' with hh2'
      injection hh2' with hh2'
      subst hh2'
      obtain ⟨H3,hx3⟩:=hput2 ⟨rfl,rfl,rfl,rfl,rfl,rfl⟩
      refine ⟨_,run_beginRound hh2 hok2.1,?_⟩
      have hS3:=hd.rel.later hx3 H3 hd.rel.fresh
      refine hb ⟨n,base,w1.heap.size,some l⟩ _ x s2 rfl hs2 σ2 I2 _ a2 _ hS3 ((hys.later hL).later (hd.ext.trans hx3).later) fun σ4 I4 w4 a4 hd4=> ?_
      have hσ4:=hd4.ext.sig _ _ hσ2
      split at he
      ·rename_i hlive4
       by_cases hxn:x= .normal
       ·subst hxn
        simp only [if_true,Option.some.injEq,Prod.mk.injEq] at he
        obtain ⟨rfl,rfl,rfl⟩:=he
        obtain ⟨r5,hh5,hok5,_⟩:=hd4.rel.heap.loopPut (r':=rec) hlive4 hσ4 ae (.inl rfl)
        obtain ⟨r5',hh5',hok5',hput5⟩:=hd4.rel.heap.loopPut (r':= { r5 with state:= .ready,pending:=none}) hlive4 hσ4 ⟨gen,.lp .ready⟩ (.inr ⟨_,rfl,rfl,rfl⟩)
        rw [hh5] at hh5'
        injection hh5' with hh5'
        injection hh5' with hh5'
        subst hh5'
        obtain ⟨H6,hx6⟩:=hput5 ⟨rfl,rfl,rfl,rfl,rfl,rfl⟩
        refine ⟨_,_,run_endRound none hh5,rfl,σ4,I4,H6,((hd.ext.trans hx3).trans hd4.ext).trans hx6,fun k hk=> ?_,hd4.rel.fresh,Nat.le_trans hd.grow hd4.grow⟩
        rw [hd4.low k (Nat.lt_of_lt_of_le hk hd.grow),hd.low k hk]
       ·rw [if_neg hxn] at he
        simp only [Option.some.injEq,Prod.mk.injEq] at he
        obtain ⟨rfl,rfl,rfl⟩:=he
        obtain ⟨r5,hh5,hok5,_⟩:=hd4.rel.heap.loopPut (r':=rec) hlive4 hσ4 ae (.inl rfl)
        obtain ⟨r5',hh5',hok5',hput5⟩:=hd4.rel.heap.loopPut (r':= { r5 with state:= .done,pending:=some x.code}) hlive4 hσ4 ⟨gen,.lp (.done x)⟩ (.inr ⟨_,rfl,rfl,rfl⟩)
        rw [hh5] at hh5'
        injection hh5' with hh5'
        injection hh5' with hh5'
        subst hh5'
        obtain ⟨H6,hx6⟩:=hput5 ⟨rfl,rfl,rfl,rfl,rfl,rfl⟩
        have post:nE σ1 I1 base w1 g (hput s2.h d slot ⟨gen,.lp (.done x)⟩) s2.g (w4.putObj l (.loop { r5 with state:= .done,pending:=some x.code})) σ4 I4:=
         ⟨H6,((hd.ext.trans hx3).trans hd4.ext).trans hx6,fun k hk=>by rw [hd4.low k (Nat.lt_of_lt_of_le hk hd.grow),hd.low k hk],hd4.rel.fresh,Nat.le_trans hd.grow hd4.grow⟩
        cases x with
        | normal=>exact absurd rfl hxn
        | ret=>exact ⟨_,_,run_endRound (some .ret) hh5,rfl,σ4,I4,post⟩
        | exit id=>exact ⟨_,_,run_endRound (some (.exit id)) hh5,rfl,σ4,I4,post⟩
        | goto t=>exact ⟨_,_,run_endRound (some (.goto t)) hh5,rfl,σ4,I4,post⟩
      ·cases he
     ·cases he
    ·cases he
   ·cases he
  ·cases he
 ·cases he
theorem dE (hcall:dB E call) (hfz:cR E call) (hmix:E.P.follows .mixedOrders=true) (hent: ∀f,fH E f=true→ ∀args w,(callFunc f args).run E.P w= .ok (.enter f args) w) {fuel:Nat} :
  ∀(c:Code) (C:Cx),bH E C.n c=true→ ∀(s:St) (x:av) (s':St),aK E call ys d fuel c s=some (x,s')→fj E C ys c s x s'
 | .skip,C,_,s,x,s',h,σ,I,w,a,Q,H,hys,hQ=>by
  simp only [aK,Option.some.injEq,Prod.mk.injEq] at h
  obtain ⟨rfl,rfl⟩:=h
  exact wpIn_skip (hQ σ I w a (bL.refl H))
 | .label l,C,_,s,x,s',h,σ,I,w,a,Q,H,hys,hQ=>by
  simp only [aK,Option.some.injEq,Prod.mk.injEq] at h
  obtain ⟨rfl,rfl⟩:=h
  exact wpIn_label (hQ σ I w a (bL.refl H))
 | .ret,C,_,s,x,s',h,σ,I,w,a,Q,H,hys,hQ=>by
  simp only [aK,Option.some.injEq,Prod.mk.injEq] at h
  obtain ⟨rfl,rfl⟩:=h
  exact wpIn_ret (hQ σ I w a (bL.refl H))
 | .exit id,C,_,s,x,s',h,σ,I,w,a,Q,H,hys,hQ=>by
  simp only [aK,Option.some.injEq,Prod.mk.injEq] at h
  obtain ⟨rfl,rfl⟩:=h
  exact wpIn_exit (hQ σ I w a (bL.refl H))
 | .goto l,C,_,s,x,s',h,σ,I,w,a,Q,H,hys,hQ=>by
  simp only [aK,Option.some.injEq,Prod.mk.injEq] at h
  obtain ⟨rfl,rfl⟩:=h
  exact wpIn_goto (hQ σ I w a (bL.refl H))
 | .region id ops draw,C,hwf,s,x,s',h,σ,I,w,a,Q,H,hys,hQ=>by
  have hx:x= .normal:=by
   have h:=h
   simp only [aK] at h
   split at h
   ·simp only [Option.bind_eq_some_iff] at h
    obtain ⟨q,_,h⟩:=h
    split at h
    ·simp only [Option.some.injEq,Prod.mk.injEq] at h
     exact h.1.symm
    ·cases h
   simp only [Option.map_eq_some_iff,Prod.mk.injEq] at h
   obtain ⟨_,_,rfl,_⟩:=h
   rfl
  subst hx
  exact r7 hcall hfz (fun _=>hmix) hwf h H hys hQ
 | .seq y z,C,hwf,s,x,s',h,σ,I,w,a,Q,H,hys,hQ=>by
  simp only [bH,Bool.and_eq_true] at hwf
  simp only [aK] at h
  cases hy:aK E call ys d fuel y s with
  | none=>simp [hy] at h
  | some r=>
   obtain ⟨x1,s1⟩:=r
   rw [hy] at h
   refine wpIn_seq (dE hcall hfz hmix hent y C hwf.1 s x1 s1 hy σ I w a _ H hys fun σ1 I1 w1 a1 hd=> ?_)
   cases x1 with
   | normal=>exact dE hcall hfz hmix hent z C hwf.2 s1 x s' h σ1 I1 w1 a1 Q hd.rel (hys.later hd.ext.later) fun σ' I' w' a' hd'=>hQ σ' I' w' a' (hd.trans hd')
   | _=>
    simp only [Option.some.injEq,Prod.mk.injEq] at h
    obtain ⟨rfl,rfl⟩:=h
    exact hQ σ1 I1 w1 a1 hd
 | .cond c y z,C,hwf,s,x,s',h,σ,I,w,a,Q,H,hys,hQ=>by
  simp only [bH,Bool.and_eq_true] at hwf
  simp only [aK] at h
  cases hb:bS (aw s.t c) with
  | none=>simp [hb] at h
  | some t=>
   have hev:=(hY (gV H.tmp c) t).1 hb
   cases t with
   | true=>exact wpIn_cond_true hev (dE hcall hfz hmix hent y C hwf.1 s x s' (by simpa [hb] using h) σ I w a Q H hys hQ)
   | false=>exact wpIn_cond_false hev (dE hcall hfz hmix hent z C hwf.2 s x s' (by simpa [hb] using h) σ I w a Q H hys hQ)
 | .block id c,C,hwf,s,x,s',h,σ,I,w,a,Q,H,hys,hQ=>by
  simp only [bH] at hwf
  simp only [aK] at h
  cases hc:aK E call ys d fuel c s with
  | none=>simp [hc] at h
  | some r=>
   obtain ⟨x1,s1⟩:=r
   rw [hc] at h
   refine wpIn_block (dE hcall hfz hmix hent c C hwf s x1 s1 hc σ I w a _ H hys fun σ1 I1 w1 a1 hd=> ?_)
   cases x1 with
   | exit id'=>
    simp only [Option.some.injEq,Prod.mk.injEq] at h
    obtain ⟨rfl,rfl⟩:=h
    have:=hQ σ1 I1 w1 a1 hd
    simp only [fZ,Exit.inBlock]
    by_cases e:id'=id
    ·simp only [e,if_true] at this ⊢; exact this
    ·simp only [e,if_false] at this ⊢; exact this
   | _=>
    simp only [Option.some.injEq,Prod.mk.injEq] at h
    obtain ⟨rfl,rfl⟩:=h
    exact hQ σ1 I1 w1 a1 hd
 | .loop c,C,hwf,s,x,s',h,σ,I,w,a,Q,H,hys,hQ=>by
  simp only [bH] at hwf
  simp only [aK] at h
  exact r8 (fun s x s' hb=>dE hcall hfz hmix hent c C hwf s x s' hb) h σ I w a Q H hys hQ
 | .rangeFunc f ps assign body,C,hwf,s,x,s',h,σ,I,w,a,Q,H,hys,hQ=>by
  simp only [bH,Bool.and_eq_true] at hwf
  obtain ⟨⟨hps,hwa⟩,hwb⟩:=hwf
  have hps': ∀p∈ps.toList,p<C.n:=by
   rw [Array.all_eq_true_iff_forall_mem] at hps
   intro p hp
   simpa using hps p (by simpa using hp)
  simp only [aK,Option.bind_eq_some_iff] at h
  obtain ⟨⟨fid,b,c⟩,hcal,h⟩:=h
  simp only [] at h
  split at h
  ·rename_i hen
   simp only [Option.bind_eq_some_iff] at h
   obtain ⟨⟨v,h3,g3⟩,hcl,h⟩:=h
   simp only [] at h
   obtain ⟨vb,vc,hu,hlb,hlc,hrb,hrc⟩:=nI (gV H.tmp f) hcal
   refine wpIn_rangeFunc fun fn _=> ?_
   obtain ⟨l,mark,w1,rec,hrun,H1,hx1,hrec,e1,e2,e3,e4,hmarks,hnd⟩:=sa (E:=E) (d:=d) (assign:=assign) (body:=body) (ps:=ps) H fn (ps.getD 0 0)
   have hgen:bf σ s.g (l,0,0) s.g=some (l,0,0):=bj
   have hargs:vb.toArray++ #[Value.func (.yield l) #[] #[]]++vc.toArray=(vb++[Value.func (.yield l) #[] #[]]++vc).toArray:=by apply Array.ext';simp
   refine ⟨l,mark,w1,{ target:= .fn (.func fid) vc.toArray,args:=vb.toArray++ #[.func (.yield l) #[] #[]]},w1,fid,(vb++[Value.func (.yield l) #[] #[]]++vc).toArray,w1,hrun,?_,fun _ _=>trivial,?_,fun h=>by simp [WF,Fence.wide] at h,?_⟩
   ·simp only [resolve]
    rw [hu]
    simp [Deferred.ofValue,Act.eval]
   ·rw [←hargs]
    simp [invoke,hent fid hen]
   ·have hyok:bK E ((s.g,iL (aK E call ys d fuel assign) (aK E call ys d fuel body) ps s.t d (ps.getD 0 0) s.g)::ys) (bf σ s.g (l,0,0)) I w1:=by
     refine ⟨?_,(hys.later hx1.later).2⟩
     intro gl hd ac
     simp only [Ys.get?] at ac
     split at ac
     ·rename_i e
      subst e
      injection ac with ac
      subst ac
      exact sc (n:=C.n) (fun C' s x s' hC hb=>dE hcall hfz hmix hent assign C' (by rw [hC];exact hwa) s x s' hb) (fun C' s x s' hC hb=>dE hcall hfz hmix hent body C' (by rw [hC];exact hwb) s x s' hb)
       hps' H.hn (hys.later hx1.later) hgen hrec (fun i=>hx1.rep (H.tmp i)) e1 e2 e3 e4
     ·exact (hys.1 gl hd ac).later hx1.later
    have hdo:=hcall _ (bf σ s.g (l,0,0)) I C.base w1 _ fid _ d _ (s.g+1) (s.g+2) v h3 g3 (vb++[Value.func (.yield l) #[] #[]]++vc) hcl hyok H1 (H.hb.mono hx1.below.size) (by simp [hlb,hlc])
     (hZ (by simp [hlb]) (hZ hlb (fun j p u hp hu=>hx1.rep (hrb j p u hp hu)) (fun j p u hp hu=>by
      cases j with
      | zero=>
       have hp1:some (AV.yld d (ps.getD 0 0) s.g)=some p:=hp
       have hu1:some (Value.func (.yield l) #[] #[])=some u:=hu
       injection hp1 with hp1
       injection hu1 with hu1
       subst hp1
       subst hu1
       exact .yld d (ps.getD 0 0) s.g l 0 0 hgen
      | succ j=>simp at hp)) (fun j p u hp hu=>hx1.rep (hrc j p u hp hu)))
     (by rw [cx (by omega)];exact H.fresh _ (by omega)) (by omega) (fun k hk=>by rw [cx (by omega)];exact H.fresh _ (by omega))
    rcases hdo with ⟨_,_,hv,_⟩ | ⟨_,hcalls⟩ | ⟨_,_,_,hv,_⟩
    ·rw [hent fid hen] at hv;cases hv
    ·refine CallsIn.mono (F:=WF C.r) (callsIn_wide.2 hcalls) ?_
     intro e w3 he
     cases e with
     | panicked ch=>exact he.elim
     | outgrown=>exact he.elim
     | returned u=>
      obtain ⟨σ3,I3,hp⟩:=he
      have hσ3:σ3 s.g=some (l,0,0):=by rw [hp.low _ (by omega) (by omega)];exact hgen
      have fin: ∀(st:iA),live h3 d (ps.getD 0 0) s.g= .lp st→ ∃r w4,w3.heap[l]? =some (Obj.loop r)∧i8 st r∧(r.state≠ .busy→(Instr.endLoop l).run E.P w3= .ok r.pending w4)∧
        bL C s.g σ I w { t:=s.t,h:=hput h3 d (ps.getD 0 0) ae,g:=g3} σ3 I3 w4 { a with defers:=mark++a.defers} :=by
       intro st hlv
       obtain ⟨r,hh,hok,_⟩:=hp.heap.loopPut (r':=rec) hlv hσ3 ae (.inl rfl)
       obtain ⟨r',hh',hok',hput⟩:=hp.heap.loopPut (r':= { r with state:= .exhausted}) hlv hσ3 ae (.inl rfl)
       rw [hh] at hh'
       injection hh' with hh'
       injection hh' with hh'
       subst hh'
       obtain ⟨H4,hx4⟩:=hput ⟨rfl,rfl,rfl,rfl,rfl,rfl⟩
       have hx:=(hx1.trans hp.ext).trans hx4
       refine ⟨r,_,hh,hok,fun hnb=>run_endLoop hh hnb,⟨⟨fun i=>hx.rep (H.tmp i),H4,hp.high,H.hb.mono hx.below.size,H.hn,?_,hnd,?_,H.lob,Nat.le_trans H.losz hx.below.size⟩,hx,fun k hk=> ?_,by have:=hp.grow;simp only [];omega⟩⟩
       ·intro x hx'
        obtain ⟨D,d1,d2,d3⟩:=hmarks x hx'
        exact ⟨D,d1,d2,(hp.ext.trans hx4).kp.dfr D d3⟩
       ·intro l' hl'
        obtain ⟨x,hx'⟩:=H.around l' hl'
        obtain ⟨x',h1,_⟩:=hx.kp.loop l' x hx'
        exact ⟨x',h1⟩
       ·rw [hp.low k (by omega) (by omega),cx (by omega)]
      split at h
      ·rename_i hlv
       simp only [Option.some.injEq,Prod.mk.injEq] at h
       obtain ⟨rfl,rfl⟩:=h
       obtain ⟨r,w4,hh,hok,hend,hdone⟩:=fin _ hlv
       exact ⟨_,w4,hend (by rw [hok.1];simp),by rw [hok.2];exact hQ σ3 I3 w4 _ hdone⟩
      ·rename_i y hlv
       split at h
       ·cases h
       ·rename_i hxn
        simp only [Option.some.injEq,Prod.mk.injEq] at h
        obtain ⟨rfl,rfl⟩:=h
        obtain ⟨r,w4,hh,hok,hend,hdone⟩:=fin _ hlv
        refine ⟨_,w4,hend (by rw [hok.1];simp),?_⟩
        rw [hok.2]
        have hq:=hQ σ3 I3 w4 _ hdone
        cases y with
        | normal=>exact absurd rfl hxn
        | ret=>exact wpIn_ret hq
        | exit id=>exact wpIn_exit hq
        | goto t=>exact wpIn_goto hq
      ·cases h
    ·rw [hent fid hen] at hv;cases hv
  ·cases h
end
section
variable {σ τ:aq} {I I':ah} {base base':ah} {w w':World} {h h' h1:aa} {ρ:K2→Option (K2×Nat)}
def dF (ρ:K2→Option (K2×Nat)) (σ τ:aq) (l:List (K2×Nat)):Prop:= ∀q∈l,∀k,ρ q.1=some k→ ∀x,σ q.2=some x→τ k.2=some x
theorem dF.sub {l l':List (K2×Nat)} (h:dF ρ σ τ l) (hs: ∀q∈l',q∈l):dF ρ σ τ l':=fun q hq=>h q (hs q hq)
theorem fk {f:AV→Option AV} : ∀ {l l':List AV},ci f l=some l'→l'.length=l.length
 | [],l',h=>by simp [ci] at h;subst h;rfl
 | v::l,l',h=>by
  simp only [ci,Option.bind_eq_some_iff,Option.map_eq_some_iff] at h
  obtain ⟨w,_,l2,h2,rfl⟩:=h
  simp [fk h2]
theorem et {f:AV→Option AV} : ∀ {l l':List AV},ci f l=some l'→ ∀(j:Nat) (p:AV),l'[j]? =some p→ ∃v,l[j]? =some v∧f v=some p
 | [],l',h,j,p,hp=>by simp [ci] at h;subst h;simp at hp
 | v::l,l',h,j,p,hp=>by
  simp only [ci,Option.bind_eq_some_iff,Option.map_eq_some_iff] at h
  obtain ⟨w,hw,l2,h2,rfl⟩:=h
  cases j with
  | zero=>simp at hp;subst hp;exact ⟨v,rfl,hw⟩
  | succ j=>exact et h2 j p (by simpa using hp)
theorem f8 {n j:Nat} {l:List AV} {v:AV} (hv:l[j]? =some v) {q:K2×Nat} (hq:q∈aV n v):q∈l.flatMap (aV n):=
 List.mem_flatMap.2 ⟨v,List.mem_of_getElem? hv,hq⟩
theorem ia: ∀(n:Nat) {v v':AV} {u:Value},aD ρ n v=some v'→dF ρ σ τ (aV n v)→ab σ I w v u→ab τ I w v' u:=by
 intro n
 induction n with
 | zero=>intro v v' u h;simp [aD] at h
 | succ n ih=>
  intro v v' u h hN hr
  cases hr with
  | pv p u hp=>simp only [aD,Option.some.injEq] at h;subst h;exact .pv _ _ hp
  | mptr d s g i off b o k hs=>
   simp only [aD,Option.map_eq_some_iff] at h
   obtain ⟨q,hq,rfl⟩:=h
   exact .mptr _ _ _ _ _ _ _ _ (hN ((d,s),g) (by simp [aV]) q hq _ hs)
  | msl d s g off m full b o k cap ad had hs hn hfull hroom=>
   simp only [aD,Option.map_eq_some_iff] at h
   obtain ⟨q,hq,rfl⟩:=h
   exact .msl _ _ _ _ _ _ _ _ _ _ _ had (hN ((d,s),g) (by simp [aV]) q hq _ hs) hn hfull hroom
  | agg cs vs hl h1 hr=>
   simp only [aD,Option.map_eq_some_iff] at h
   obtain ⟨l',hl',rfl⟩:=h
   refine .agg _ _ (by rw [fk hl'];exact hl) h1 fun j p v hp hv=> ?_
   obtain ⟨x,hx,hfx⟩:=et hl' j p hp
   exact ih hfx (hN.sub fun q hq=>by simp only [aV];exact f8 hx hq) (hr j x v hx hv)
  | tup cs vs hl hr=>
   simp only [aD,Option.map_eq_some_iff] at h
   obtain ⟨l',hl',rfl⟩:=h
   refine .tup _ _ (by rw [fk hl'];exact hl) fun j p v hp hv=> ?_
   obtain ⟨x,hx,hfx⟩:=et hl' j p hp
   exact ih hfx (hN.sub fun q hq=>by simp only [aV];exact f8 hx hq) (hr j x v hx hv)
  | clo f a b va vb hla hlb hra hrb=>
   simp only [aD,Option.bind_eq_some_iff,Option.map_eq_some_iff] at h
   obtain ⟨a',ha',b',hb',rfl⟩:=h
   refine .clo _ _ _ _ _ (by rw [fk ha'];exact hla) (by rw [fk hb'];exact hlb) (fun j p v hp hv=> ?_) fun j p v hp hv=> ?_
   ·obtain ⟨x,hx,hfx⟩:=et ha' j p hp
    exact ih hfx (hN.sub fun q hq=>by simp only [aV];exact List.mem_append_left _ (f8 hx hq)) (hra j x v hx hv)
   ·obtain ⟨x,hx,hfx⟩:=et hb' j p hp
    exact ih hfx (hN.sub fun q hq=>by simp only [aV];exact List.mem_append_right _ (f8 hx hq)) (hrb j x v hx hv)
  | yld d s g b o k hs=>simp [aD] at h
  | ifc t v1 u1 h1=>
   simp only [aD,Option.map_eq_some_iff] at h
   obtain ⟨v2,hv2,rfl⟩:=h
   exact .ifc t _ _ (ih hv2 hN h1)
  | btag t=>simp only [aD,Option.some.injEq] at h;subst h;exact .btag t
  | mref d s g b o k hs=>simp [aD] at h
theorem sd: ∀ {n:Nat} {v v':AV},aD ρ (n+1) v=some v'→v'.cells.length=v.cells.length∧v'.ok=v.ok∧ ∀(j:Nat) (p:AV),v'.cells[j]? =some p→ ∃q,v.cells[j]? =some q∧ ∀(I:ah) (w:World) (u:Value),dF ρ σ τ (aV (n+1) v)→ab σ I w q u→ab τ I w p u:=by
 intro n v v' h
 have one: ∀ {x x':AV},aD ρ (n+1) x=some x'→ ∀(j:Nat) (p:AV),[x'][j]? =some p→ ∃q,[x][j]? =some q∧ ∀(I:ah) (w:World) (u:Value),dF ρ σ τ (aV (n+1) x)→ab σ I w q u→ab τ I w p u:=by
  intro x x' hx j p hp
  cases j with
  | zero=>simp at hp;subst hp;exact ⟨x,rfl,fun I w u hN hr=>ia (n+1) hx hN hr⟩
  | succ j=>simp at hp
 cases v with
 | pv p=>
  simp only [aD,Option.some.injEq] at h
  subst h
  refine ⟨rfl,rfl,fun j q hq=>⟨q,hq,fun I w u _ hr=> ?_⟩⟩
  simp only [AV.cells,List.getElem?_map,Option.map_eq_some_iff] at hq
  obtain ⟨x,_,rfl⟩:=hq
  exact .pv _ _ (aG hr)
 | mptr d s g i off=>
  have h0:=h
  simp only [aD,Option.map_eq_some_iff] at h
  obtain ⟨q,hq,rfl⟩:=h
  exact ⟨rfl,rfl,one h0⟩
 | msl d s g off m full=>
  have h0:=h
  simp only [aD,Option.map_eq_some_iff] at h
  obtain ⟨q,hq,rfl⟩:=h
  exact ⟨rfl,rfl,one h0⟩
 | agg l=>
  simp only [aD,Option.map_eq_some_iff] at h
  obtain ⟨l',hl',rfl⟩:=h
  refine ⟨fk hl',rfl,fun j p hp=> ?_⟩
  obtain ⟨x,hx,hfx⟩:=et hl' j p hp
  exact ⟨x,hx,fun I w u hN hr=>ia n hfx (hN.sub fun q hq=>by simp only [aV];exact f8 hx hq) hr⟩
 | tup l=>
  have h0:=h
  simp only [aD,Option.map_eq_some_iff] at h
  obtain ⟨l',hl',rfl⟩:=h
  exact ⟨rfl,rfl,one h0⟩
 | clo f a b=>
  have h0:=h
  simp only [aD,Option.bind_eq_some_iff,Option.map_eq_some_iff] at h
  obtain ⟨a',ha',b',hb',rfl⟩:=h
  exact ⟨rfl,rfl,one h0⟩
 | yld d s g=>simp [aD] at h
 | ifc t v=>
  have h0:=h
  simp only [aD,Option.map_eq_some_iff] at h
  obtain ⟨v2,hv2,rfl⟩:=h
  exact ⟨rfl,rfl,one h0⟩
 | btag t=>
  have h0:=h
  simp only [aD,Option.some.injEq] at h
  subst h
  exact ⟨rfl,rfl,one h0⟩
 | mref d s g=>simp [aD] at h
theorem n4 {n:Nat} {c c':AV} (h:aD ρ n c=some c'):eO (some c')=eO (some c):=by
 cases n with
 | zero=>simp [aD] at h
 | succ n=>
  cases c<;>simp only [aD,Option.some.injEq,Option.map_eq_some_iff,Option.bind_eq_some_iff,reduceCtorEq] at h
  case pv=>subst h;rfl
  case btag=>subst h;rfl
  case clo=>obtain ⟨_,_,_,_,rfl⟩:=h;rfl
  all_goals (obtain ⟨_,_,rfl⟩:=h;rfl)
theorem se {n:Nat} {v v':AV} (h:aD ρ (n+1) v=some v'):bC v'=bC v:=by
 have h0:=n4 h
 unfold bC
 cases v<;>simp only [aD,Option.some.injEq,Option.map_eq_some_iff,Option.bind_eq_some_iff,reduceCtorEq] at h
 case pv=>subst h;rfl
 case btag=>subst h;rfl
 case clo=>obtain ⟨_,_,_,_,rfl⟩:=h;rfl
 case agg l=>
  obtain ⟨l',hl',rfl⟩:=h
  cases l with
  | nil=>simp [ci] at hl';subst hl';rfl
  | cons c l=>
   simp only [ci,Option.bind_eq_some_iff,Option.map_eq_some_iff] at hl'
   obtain ⟨c',hc',l2,_,rfl⟩:=hl'
   exact n4 hc'
 all_goals (obtain ⟨_,_,rfl⟩:=h;rfl)
theorem jD {r:ak} {g':Nat} {b':ba} (hr:be σ I base w r) (hb:bD ρ r.b=some b') (hg: ∀x,σ r.g=some x→τ g'=some x) (hN:dF ρ σ τ (b4 r.b)) (hB: ∀b,aj σ r=some b→ ¬base' b):
  be τ I base' w ⟨g',b'⟩∧aj τ ⟨g',b'⟩=aj σ r:=by
 obtain ⟨g,bd⟩:=r
 cases bd with
 | dead=>simp [bD] at hb
 | lp st=>simp [bD] at hb
 | map clock es=>simp [bD] at hb
 | mit m since seen last=>simp [bD] at hb
 | box v fz=>
  simp only [bD,Option.map_eq_some_iff] at hb
  obtain ⟨v',hv',rfl⟩:=hb
  obtain ⟨b,e,hs,hsh,hok,hc,hz⟩:=hr
  obtain ⟨hlen,hok',hcell⟩:=sd (σ:=σ) (τ:=τ) (n:=7) hv'
  refine ⟨⟨b,e,hg _ hs,by rw [hlen];exact hsh,jb hok (hok'.trans (ja hok)) (.inl (se (n:=7) hv')),fun j p hp=> ?_,?_⟩,?_⟩
  ·obtain ⟨q,hq,hx⟩:=hcell j p hp
   obtain ⟨u,h1,h2,h3⟩:=hc j q hq
   exact ⟨u,h1,h2,hx I w u hN h3⟩
  ·rw [hlen]
   cases fz with
   | true=>exact hz
   | false=>exact ⟨hz.1,hB b (by simp [aj,hs]),hz.2.2⟩
  ·cases fz<;>simp [aj,hs,hg _ hs]
 | row k e xs fz=>
  simp only [bD,Option.some.injEq] at hb
  subst hb
  obtain ⟨b,o,n,hs,hsh,hn,hx,hc,hz⟩:=hr
  refine ⟨⟨b,o,n,hg _ hs,hsh,hn,hx,hc,?_⟩,?_⟩
  ·cases fz with
   | true=>exact hz
   | false=>exact ⟨hz.1,hB b (by simp [aj,hs]),hz.2.2⟩
  ·cases fz<;>simp [aj,hs,hg _ hs]
 | iter s pos=>
  simp only [bD,Option.some.injEq] at hb
  subst hb
  obtain ⟨b,k,hs,hh,h1,h2⟩:=hr
  exact ⟨⟨b,k,hg _ hs,hh,h1,hB b (by simp [aj,hs])⟩,by simp [aj,hs,hg _ hs]⟩
theorem n5: ∀ {ks:List K2} {x:K2} {i:Nat},bZ ks x=some i→ks[i]? =some x
 | [],x,i,h=>by simp [bZ] at h
 | k::ks,x,i,h=>by
  unfold bZ at h
  split at h
  ·rename_i hk
   simp only [Bool.and_eq_true,beq_iff_eq] at hk
   simp only [Option.some.injEq] at h
   subst h
   simp [Prod.ext_iff,hk.1,hk.2]
  ·simp only [Option.map_eq_some_iff] at h
   obtain ⟨j,hj,rfl⟩:=h
   simpa using n5 hj
theorem kW: ∀ {ks:List K2} {x:K2},bZ ks x=none→x∉ks
 | [],x,_=>by simp
 | k::ks,x,h=>by
  unfold bZ at h
  split at h
  ·cases h
  ·rename_i hk
   simp only [Option.map_eq_none_iff] at h
   have:=kW h
   simp only [List.mem_cons,not_or]
   refine ⟨fun e=>hk (by subst e;simp),this⟩
theorem n6: ∀ {ks:List K2},iT ks=true→ks.Nodup
 | [],_=>List.nodup_nil
 | k::ks,h=>by
  simp only [iT,Bool.and_eq_true,Option.isNone_iff_eq_none] at h
  exact List.nodup_cons.2 ⟨kW h.1,n6 h.2⟩
theorem n7 {l:List (K2×Nat)} (h:cC h1 l=true) {q:K2×Nat} (hq:q∈l):q.2=(ac h1 q.1.1 q.1.2).g:=by
 have:=List.all_eq_true.1 h q hq
 simpa using this
theorem n9: ∀ {ks:List K2} {i:Nat} {rows:List ak},gG ρ h i ks=some rows→rows.length=ks.length∧ ∀(j:Nat) (r:ak),rows[j]? =some r→ ∃k b,ks[j]? =some k∧bD ρ (ac h k.1 k.2).b=some b∧r=⟨i+j,b⟩
 | [],i,rows,h=>by simp [gG] at h;subst h;exact ⟨rfl,fun j r hr=>by simp at hr⟩
 | k::ks,i,rows,h=>by
  simp only [gG,Option.bind_eq_some_iff,Option.map_eq_some_iff] at h
  obtain ⟨b,hb,rs,hrs,rfl⟩:=h
  obtain ⟨h1,h2⟩:=n9 hrs
  refine ⟨by simp [h1],fun j r hr=> ?_⟩
  cases j with
  | zero=>simp at hr;subst hr;exact ⟨k,b,rfl,hb,rfl⟩
  | succ j=>
   obtain ⟨k',b',h3,h4,h5⟩:=h2 j r (by simpa using hr)
   exact ⟨k',b',by simpa using h3,h4,by rw [h5];simp only [ak.mk.injEq,and_true];omega⟩
def c9 (ex:Option K2):Bool:=match ex with
 | some e=> !(e.1==0)
 | none=>false
theorem oa: ∀ {n i:Nat} {rows:List ak} {m:Nat} {ex:Option K2},dt m ex h i n=some rows→rows.length=n+(if c9 ex then 1 else 0)∧(∀(j:Nat) (r:ak),j<n→rows[j]? =some r→ ∃b,bD (dS m ex) (ac h 0 (i+j)).b=some b∧r=⟨nm ex m (i+j),b⟩)∧
  ∀(e:K2) (r:ak),ex=some e→rows[n]? =some r→e.1≠0∧ ∃k t xs fz,(ac h e.1 e.2).b= .row k t xs fz∧r=⟨m,.row k t xs fz⟩
 | 0,i,rows,m,none,h=>by simp [dt] at h;subst h;exact ⟨rfl,fun j r hj=>by omega,fun e r he=>by cases he⟩
 | 0,i,rows,m,some e,h=>by
  simp only [dt] at h
  split at h
  ·rename_i h0
   simp only [Option.some.injEq] at h
   subst h
   exact ⟨by simp [c9,h0],fun j r hj=>by omega,fun e' r he hr=>by simp at hr⟩
  ·rename_i h0
   split at h
   ·rename_i k t xs fz hb
    simp only [Option.some.injEq] at h
    subst h
    exact ⟨by simp [c9,h0],fun j r hj=>by omega,fun e' r he hr=>by simp only [Option.some.injEq] at he;subst he;simp at hr;exact ⟨by simpa using h0,k,t,xs,fz,hb,hr.symm⟩⟩
   ·cases h
 | n+1,i,rows,m,ex,h=>by
  simp only [dt,Option.bind_eq_some_iff,Option.map_eq_some_iff] at h
  obtain ⟨b,hb,rs,hrs,rfl⟩:=h
  obtain ⟨h1,h2,h3⟩:=oa hrs
  refine ⟨by simp [h1];omega,fun j r hj hr=> ?_,fun e r he hr=>h3 e r he (by simpa using hr)⟩
  cases j with
  | zero=>simp at hr;subst hr;exact ⟨b,hb,rfl⟩
  | succ j=>
   obtain ⟨b',h4,h5⟩:=h2 j r (by omega) (by simpa using hr)
   have e:i+1+j=i+(j+1):=by omega
   rw [e] at h4 h5
   exact ⟨b',h4,h5⟩
theorem kX {ex:Option K2} : ∀ {n i:Nat},du ex h i n=true→ ∀j,j<n→((ac h 0 (i+j)).g=i+j∨dr ex (i+j)=true)∧cC h (b4 (ac h 0 (i+j)).b)=true
 | 0,i,h,j,hj=>by omega
 | n+1,i,h,j,hj=>by
  simp only [du,Bool.and_eq_true,Bool.or_eq_true,beq_iff_eq] at h
  cases j with
  | zero=>exact ⟨h.1,h.2.1⟩
  | succ j=>
   have:=kX h.2.2 j (by omega)
   have e:i+1+j=i+(j+1):=by omega
   rwa [e] at this
theorem eu (rows:List ak) (d s:Nat):ac [rows] d s=if d=0 then rows.getD s ae else ae:=by
 unfold ac
 cases d with
 | zero=>rfl
 | succ d=>simp
theorem af.of_rows {rows:List ak} (hin: ∀b,I b→bn w b) (hr: ∀(j:Nat) (r:ak),rows[j]? =some r→be σ I base w r)
  (ha: ∀(i j:Nat) (r r':ak) (b:Nat),rows[i]? =some r→rows[j]? =some r'→aj σ r=some b→aj σ r'=some b→i=j):af σ I base w [rows] where
 inW:=hin
 rows d s:=by
  rw [eu]
  split
  ·rw [List.getD_eq_getElem?_getD]
   cases hs:rows[s]? with
   | none=>trivial
   | some r=>exact hr s r hs
  ·trivial
 apart d s d' s' b h1 h2:=by
  rw [eu] at h1 h2
  split at h1
  ·rename_i e1
   split at h2
   ·rename_i e2
    subst e1 e2
    rw [List.getD_eq_getElem?_getD] at h1 h2
    cases hs:rows[s]? with
    | none=>rw [hs] at h1;simp [aj,ae] at h1
    | some r=>
     cases hs':rows[s']? with
     | none=>rw [hs'] at h2;simp [aj,ae] at h2
     | some r'=>
      rw [hs] at h1
      rw [hs'] at h2
      exact ⟨rfl,ha s s' r r' b hs hs' h1 h2⟩
   ·simp [aj,ae] at h2
  ·simp [aj,ae] at h1
def bI (σ:aq) (h:aa) (ks:List K2):aq:=fun i=>(ks[i]?).bind fun k=>σ (ac h k.1 k.2).g
def b5 (σ:aq) (h:aa) (ks:List K2) (base:ah):ah:=fun b=>base b∨ ∃d s,(d,s)∉ks∧aj σ (ac h d s)=some b
theorem oc {ks:List K2} {l:List (K2×Nat)} (hg:cC h l=true):dF (iU ks) σ (bI σ h ks) l:=by
 intro q hq k hk x hx
 simp only [iU,Option.map_eq_some_iff] at hk
 obtain ⟨i,hi,rfl⟩:=hk
 have:=n5 hi
 simp only [bI,this,Option.bind_some]
 rw [←n7 hg hq]
 exact hx
theorem sf {ks:List K2} {args cargs:List AV} {rows:List ak} {us:List Value} (H:af σ I base w h) (hB:aW base w.heap.size) (hi:gH h args=some (ks,cargs,rows)) (hg:fK h ks args=true) (hl:us.length=args.length)
  (hr: ∀(j:Nat) (p:AV) (u:Value),args[j]? =some p→us[j]? =some u→ab σ I w p u):
  af (bI σ h ks) I (b5 σ h ks base) w [rows]∧aW (b5 σ h ks base) w.heap.size∧us.length=cargs.length∧(∀(j:Nat) (p:AV) (u:Value),cargs[j]? =some p→us[j]? =some u→ab (bI σ h ks) I w p u)∧rows.length=ks.length∧ks.Nodup:=by
 unfold gH at hi
 split at hi
 rotate_left
 ·cases hi
 rename_i hnd
 simp only [Option.bind_eq_some_iff,Option.map_eq_some_iff,Prod.mk.injEq] at hi
 obtain ⟨ca,hca,rs,hrs,rfl,rfl,rfl⟩:=hi
 simp only [fK,Bool.and_eq_true,List.all_eq_true] at hg
 obtain ⟨hlen,hget'⟩:=n9 hrs
 have hnd:=n6 hnd
 have hrow: ∀(j:Nat) (r:ak),rs[j]? =some r→ ∃k,(dq h args)[j]? =some k∧be (bI σ h (dq h args)) I (b5 σ h (dq h args) base) w r∧aj (bI σ h (dq h args)) r=aj σ (ac h k.1 k.2):=by
  intro j r hj
  obtain ⟨k,b,hk,hb,rfl⟩:=hget' j r hj
  have hkm:=List.mem_of_getElem? hk
  refine ⟨k,hk,jD (H.rows k.1 k.2) hb (fun x hx=> ?_) (oc (hg.2 k hkm)) fun b0 hb0=> ?_⟩
  ·simp only [bI,Nat.zero_add,hk,Option.bind_some];exact hx
  ·rintro (h1 | ⟨d,s,hds,h2⟩)
   ·exact (aY (H.rows k.1 k.2) hb0).2.2 h1
   ·obtain ⟨rfl,rfl⟩:=H.apart _ _ _ _ _ hb0 h2
    exact hds hkm
 refine ⟨af.of_rows H.inW (fun j r hj=>let ⟨_,_,h1,_⟩:=hrow j r hj;h1) fun i j r r' b hi hj h1 h2=> ?_,fun b hb=> ?_,by rw [fk hca];exact hl,fun j p u hp hu=> ?_,hlen,hnd⟩
 ·obtain ⟨k,hk,_,e1⟩:=hrow i r hi
  obtain ⟨k',hk',_,e2⟩:=hrow j r' hj
  rw [e1] at h1
  rw [e2] at h2
  obtain ⟨a1,a2⟩:=H.apart _ _ _ _ _ h1 h2
  have hkk:k=k':=Prod.ext a1 a2
  subst hkk
  have l1:i<(dq h args).length:=(List.getElem?_eq_some_iff.1 hk).1
  exact (List.getElem?_inj l1 hnd).1 (hk.trans hk'.symm)
 ·rcases hb with hb | ⟨d,s,_,hb⟩
  ·exact hB b hb
  ·exact (aY (H.rows d s) hb).1
 ·obtain ⟨v,hv,hfv⟩:=et hca j p hp
  refine ia ao hfv (oc (List.all_eq_true.2 fun q hq=> ?_)) (hr j v u hv hu)
  exact List.all_eq_true.1 hg.1 q (f8 hv hq)
def dG (σ:aq) (m:Nat) (ex:Option K2) (h1:aa):aq:=fun i=>match ex with
 | some e=>if i=m then σ (ac h1 e.1 e.2).g else σ i
 | none=>σ i
theorem kY {m i:Nat} {ex:Option K2} (hi:i<m):dG σ m ex h1 i=σ i:=by
 unfold dG
 split
 ·rw [if_neg (by omega)]
 ·rfl
theorem kZ {ex:Option K2} {j:Nat} (h:dr ex j=true):ex=some (0,j):=by
 unfold dr at h
 split at h
 ·simp only [Bool.and_eq_true,beq_iff_eq] at h
  rw [←h.1,←h.2]
 ·cases h
theorem od {m j:Nat} {ex:Option K2} (hj:j<m) (hg:(ac h1 0 j).g=j∨dr ex j=true):dG σ m ex h1 (nm ex m j)=σ (ac h1 0 j).g:=by
 unfold nm
 cases ht:dr ex j with
 | true=>
  have:=kZ ht
  subst this
  simp [dG]
 | false=>
  rw [ht] at hg
  simp only [Bool.false_eq_true,if_false,or_false] at hg ⊢
  rw [kY hj,hg]
theorem oe {m:Nat} {ex:Option K2} {l:List (K2×Nat)} (hg:cC h l=true) (hok:du ex h 0 m=true):dF (dS m ex) σ (dG σ m ex h) l:=by
 intro q hq k hk x hx
 have h1:=n7 hg hq
 unfold dS at hk
 split at hk
 ·rename_i hc
  simp only [Bool.and_eq_true,beq_iff_eq,decide_eq_true_eq] at hc
  simp only [Option.some.injEq] at hk
  subst hk
  have h2:=(kX hok q.1.2 hc.2).1
  rw [Nat.zero_add] at h2
  rw [hc.1] at h1
  rw [h1] at hx
  simp only
  rw [od hc.2 h2]
  exact hx
 ·split at hk
  ·rename_i e
   split at hk
   ·rename_i hc
    simp only [Bool.and_eq_true,beq_iff_eq] at hc
    simp only [Option.some.injEq] at hk
    subst hk
    simp only [dG,if_true,hc.1,hc.2]
    rw [←h1]
    exact hx
   ·cases hk
  ·cases hk
theorem og: ∀(n:Nat) {v v':AV},aD ρ n v=some v'→ ∀q∈aV n v',∃k,ρ k=some q:=by
 intro n
 induction n with
 | zero=>intro v v' h q hq;simp [aV] at hq
 | succ n ih=>
  intro v v' h q hq
  have lst: ∀ {l l':List AV},ci (aD ρ n) l=some l'→q∈l'.flatMap (aV n)→ ∃k,ρ k=some q:=by
   intro l l' hl hm
   obtain ⟨x,hx,hqx⟩:=List.mem_flatMap.1 hm
   obtain ⟨j,hj⟩:=List.mem_iff_getElem?.1 hx
   obtain ⟨y,_,hy⟩:=et hl j x hj
   exact ih hy q hqx
  cases v with
  | pv p=>simp only [aD,Option.some.injEq] at h;subst h;simp [aV] at hq
  | mptr d s g i off=>
   simp only [aD,Option.map_eq_some_iff] at h
   obtain ⟨k,hk,rfl⟩:=h
   simp only [aV,List.mem_singleton] at hq
   subst hq
   exact ⟨_,hk⟩
  | msl d s g off m full=>
   simp only [aD,Option.map_eq_some_iff] at h
   obtain ⟨k,hk,rfl⟩:=h
   simp only [aV,List.mem_singleton] at hq
   subst hq
   exact ⟨_,hk⟩
  | agg l=>
   simp only [aD,Option.map_eq_some_iff] at h
   obtain ⟨l',hl',rfl⟩:=h
   exact lst hl' (by simpa only [aV] using hq)
  | tup l=>
   simp only [aD,Option.map_eq_some_iff] at h
   obtain ⟨l',hl',rfl⟩:=h
   exact lst hl' (by simpa only [aV] using hq)
  | clo f a b=>
   simp only [aD,Option.bind_eq_some_iff,Option.map_eq_some_iff] at h
   obtain ⟨a',ha',b',hb',rfl⟩:=h
   simp only [aV,List.mem_append] at hq
   exact hq.elim (lst ha') (lst hb')
  | yld d s g=>simp [aD] at h
  | ifc t v=>
   simp only [aD,Option.map_eq_some_iff] at h
   obtain ⟨v2,hv2,rfl⟩:=h
   exact ih hv2 q hq
  | btag t=>simp only [aD,Option.some.injEq] at h;subst h;simp [aV] at hq
  | mref d s g=>simp [aD] at h
theorem sh {b b':ba} (h:bD ρ b=some b'): ∀q∈b4 b',∃k,ρ k=some q:=by
 intro q hq
 cases b with
 | dead=>simp [bD] at h
 | lp st=>simp [bD] at h
 | map clock es=>simp [bD] at h
 | mit m since seen last=>simp [bD] at h
 | box v fz=>
  simp only [bD,Option.map_eq_some_iff] at h
  obtain ⟨v',hv',rfl⟩:=h
  exact og ao hv' q hq
 | row k e xs fz=>simp only [bD,Option.some.injEq] at h;subst h;simp [b4] at hq
 | iter s pos=>simp only [bD,Option.some.injEq] at h;subst h;simp [b4] at hq
def dZ (f:Nat→Nat) (m:Nat) (l:List (K2×Nat)):Prop:= ∀q∈l,q.2=f q.1.2∧q.1.2<m
theorem oh {m:Nat} {ex:Option K2} (hex: ∀e,ex=some e→e.1=0→e.2<m):nm ex m m=m:=by
 unfold nm;split<;>rfl
theorem oi {m:Nat} {ex:Option K2} {l:List (K2×Nat)} (hl: ∀e,ex=some e→e.1=0→e.2<m) (h: ∀q∈l,∃k,dS m ex k=some q):dZ (nm ex m) (m+if c9 ex then 1 else 0) l:=by
 intro q hq
 obtain ⟨k,hk⟩:=h q hq
 unfold dS at hk
 split at hk
 ·rename_i hc
  simp only [Bool.and_eq_true,beq_iff_eq,decide_eq_true_eq] at hc
  simp only [Option.some.injEq] at hk
  subst hk
  exact ⟨rfl,Nat.lt_of_lt_of_le hc.2 (Nat.le_add_right _ _)⟩
 ·rename_i hlow
  split at hk
  ·rename_i e
   split at hk
   ·rename_i hek
    simp only [Option.some.injEq] at hk
    subst hk
    simp only [Bool.and_eq_true,beq_iff_eq] at hek
    have h0:e.1≠0:=fun h0=>hlow (by
     have:=hl e rfl h0
     simp only [Bool.and_eq_true,beq_iff_eq,decide_eq_true_eq]
     exact ⟨hek.1▸h0,hek.2▸this⟩)
    exact ⟨(oh hl).symm,by simp [c9,h0]⟩
   ·cases hk
  ·cases hk
theorem oj {m:Nat} {ex:Option K2} {rows:List ak} (hex: ∀e,ex=some e→e.1=1∨e.1=0∧e.2<m) (H:af σ I base w h1) (hok:du ex h1 0 m=true) (ho:dt m ex h1 0 m=some rows):
  af (dG σ m ex h1) I base w [rows]∧rows.length=m+(if c9 ex then 1 else 0)∧ ∀(j:Nat) (r:ak),rows[j]? =some r→r.g=nm ex m j∧r.b≠ .dead∧dZ (nm ex m) rows.length (b4 r.b):=by
 have hlx: ∀e,ex=some e→e.1=0→e.2<m:=fun e he h0=>(hex e he).elim (fun h1=>by omega) fun h1=>h1.2
 obtain ⟨hlen,hg,hgx⟩:=oa ho
 have hrow: ∀(j:Nat) (r:ak),rows[j]? =some r→ ∃k:K2,(j<m∧k=(0,j)∨j=m∧k.1=1)∧be (dG σ m ex h1) I base w r∧aj (dG σ m ex h1) r=aj σ (ac h1 k.1 k.2):=by
  intro j r hj
  by_cases hjm:j<m
  ·obtain ⟨b,hb,rfl⟩:=hg j r hjm hj
   obtain ⟨k1,k2⟩:=kX hok j hjm
   simp only [Nat.zero_add] at k1 k2 hb ⊢
   exact ⟨(0,j),.inl ⟨hjm,rfl⟩,jD (H.rows 0 j) hb (fun x hx=>by rw [od hjm k1];exact hx) (oe k2 hok) fun b0 hb0=>(aY (H.rows 0 j) hb0).2.2⟩
  ·have hl:j<rows.length:=(List.getElem?_eq_some_iff.1 hj).1
   cases ex with
   | none=>simp [c9] at hlen;omega
   | some e=>
    have hje:j=m:=by split at hlen<;>omega
    subst hje
    obtain ⟨he0,k,t,xs,fz,hb,rfl⟩:=hgx e r rfl hj
    refine ⟨e,.inr ⟨rfl,(hex e rfl).resolve_right fun h=>he0 h.1⟩,jD (b':= .row k t xs fz) (ρ:=dS j (some e)) (H.rows e.1 e.2) (by rw [hb];rfl) (fun x hx=>by simp only [dG,if_true];exact hx) ?_ fun b0 hb0=>(aY (H.rows e.1 e.2) hb0).2.2⟩
    rw [hb]
    intro q hq
    simp [b4] at hq
 refine ⟨af.of_rows H.inW (fun j r hj=>let ⟨_,_,h,_⟩:=hrow j r hj;h) fun i j r r' b hi hj e1 e2=> ?_,hlen,fun j r hj=> ?_⟩
 ·obtain ⟨k,hk,_,e⟩:=hrow i r hi
  obtain ⟨k',hk',_,e'⟩:=hrow j r' hj
  rw [e] at e1
  rw [e'] at e2
  have:=H.apart _ _ _ _ _ e1 e2
  rcases hk with ⟨a1,rfl⟩ | ⟨a1,a2⟩<;>rcases hk' with ⟨b1,rfl⟩ | ⟨b1,b2⟩
  ·exact this.2
  ·have:=this.1;simp at this;omega
  ·have:=this.1;simp at this;omega
  ·omega
 ·have hl:j<rows.length:=(List.getElem?_eq_some_iff.1 hj).1
  by_cases hjm:j<m
  ·obtain ⟨b,hb,rfl⟩:=hg j r hjm hj
   refine ⟨by simp,?_,by rw [hlen];exact oi hlx (sh hb)⟩
   rintro rfl
   cases hb2:(ac h1 0 (0+j)).b<;>rw [hb2] at hb<;>simp [bD] at hb
  ·cases ex with
   | none=>simp [c9] at hlen;omega
   | some e=>
    have hje:j=m:=by split at hlen<;>omega
    subst hje
    obtain ⟨he0,k,t,xs,fz,hb,rfl⟩:=hgx e r rfl hj
    exact ⟨(oh hlx).symm,by simp,fun q hq=>by simp [b4] at hq⟩
theorem ol {m:Nat} : ∀e,eV m h1=some e→e.1=1∨e.1=0∧e.2<m:=by
 intro e he
 unfold eV at he
 split at he
 ·rename_i i hi
  simp only [Option.some.injEq] at he
  subst he
  have:=List.mem_of_find?_eq_some hi
  exact .inr ⟨rfl,by simpa using this⟩
 ·simp only [Option.map_eq_some_iff] at he
  obtain ⟨q,hq,rfl⟩:=he
  exact .inl (by simpa using List.find?_some hq)
theorem om {m:Nat} {v:AV} : ∀e,dR m v h1=some e→e.1=1∨e.1=0∧e.2<m:=by
 intro e he
 unfold dR at he
 split at he
 ·rename_i e1 h2
  simp only [Option.some.injEq] at he
  subst he
  exact ol _ h2
 ·unfold ml at he
  split at he
  ·split at he
   ·simp only [Option.some.injEq] at he
    subst he
    exact .inl rfl
   ·cases he
  ·cases he
theorem si {m:Nat} {v v':AV} {rows:List ak} {u:Value} (H:af σ I base w h1) (hr:ab σ I w v u) (ho:eW m v h1=some (v',rows)):
  ∃I' τ ex,(∀i,i<m→τ i=σ i)∧af τ I' base w [rows]∧ab τ I' w v' u∧bU I I' base∧m≤rows.length∧rows.length≤m+1∧(c9 ex=false→rows.length=m)∧dZ (nm ex m) rows.length (aV ao v')∧ ∀(j:Nat) (r:ak),rows[j]? =some r→r.g=nm ex m j∧r.b≠ .dead∧dZ (nm ex m) rows.length (b4 r.b):=by
 have len: ∀ {ex:Option K2},rows.length=m+(if c9 ex then 1 else 0)→m≤rows.length∧rows.length≤m+1:=fun h=>by split at h<;>omega
 have hl: ∀ {h:aa} e,dR m v h=some e→e.1=0→e.2<m:=fun e he h0=>(om e he).elim (fun h1=>by omega) fun h1=>h1.2
 unfold eW at ho
 split at ho
 ·rename_i v1 hv1
  split at ho
  ·rename_i hc
   simp only [Bool.and_eq_true] at hc
   simp only [Option.map_eq_some_iff,Prod.mk.injEq] at ho
   obtain ⟨rs,hrs,rfl,rfl⟩:=ho
   obtain ⟨k1,k2,k3⟩:=oj om H hc.2 hrs
   exact ⟨I,_,_,fun i hi=>kY hi,k1,ia ao hv1 (oe hc.1 hc.2) hr,bU.refl,(len k2).1,(len k2).2,fun hn=>by rw [k2,hn];rfl,by rw [k2];exact oi hl (og ao hv1),k3⟩
  ·cases ho
 ·simp only [Option.bind_eq_some_iff] at ho
  obtain ⟨⟨p,h2⟩,hz,ho⟩:=ho
  simp only [] at ho
  split at ho
  ·rename_i hc
   simp only [Option.map_eq_some_iff,Prod.mk.injEq] at ho
   obtain ⟨rs,hrs,rfl,rfl⟩:=ho
   obtain ⟨I2,hp,H2,m2⟩:=fQ ao v h1 p h2 u I hz hr H
   obtain ⟨k1,k2,k3⟩:=oj ol H2 hc hrs
   exact ⟨I2,_,_,fun i hi=>kY hi,k1,.pv _ _ hp,m2,(len k2).1,(len k2).2,fun hn=>(by rw [k2,hn];rfl),fun q hq=>by simp [aV,ao] at hq,k3⟩
  ·cases ho
theorem oq {β:K2→Option (K2×Nat)} {h0:aa} : ∀ {rows:List ak} {ks:List K2} {h h':aa},eX β h0 rows ks h=some h'→ks.Nodup→rows.length=ks.length∧
  (∀d s,(d,s)∉ks→ac h' d s=ac h d s)∧ ∀(j:Nat) (k:K2),ks[j]? =some k→ ∃r b,rows[j]? =some r∧bD β r.b=some b∧ac h' k.1 k.2=⟨(ac h0 k.1 k.2).g,b⟩
 | [],[],h,h',e,_=>by simp [eX] at e;subst e;exact ⟨rfl,fun _ _ _=>rfl,fun j k hk=>by simp at hk⟩
 | [],_::_,h,h',e,_=>by simp [eX] at e
 | _::_,[],h,h',e,_=>by simp [eX] at e
 | r::rs,k::ks,h,h',e,hnd=>by
  simp only [eX,Option.bind_eq_some_iff] at e
  obtain ⟨b,hb,e⟩:=e
  obtain ⟨hk,hnd⟩:=List.nodup_cons.1 hnd
  obtain ⟨h1,h2,h3⟩:=oq e hnd
  refine ⟨by simp [h1],fun d s hds=> ?_,fun j q hq=> ?_⟩
  ·simp only [List.mem_cons,not_or] at hds
   rw [h2 d s hds.2,bY,if_neg (fun e=>hds.1 (Prod.ext e.1.symm e.2.symm))]
  ·cases j with
   | zero=>
    simp at hq
    subst hq
    refine ⟨r,b,rfl,hb,?_⟩
    rw [h2 k.1 k.2 hk,bY,if_pos ⟨rfl,rfl⟩]
   | succ j=>
    obtain ⟨r',b',g1,g2,g3⟩:=h3 j q (by simpa using hq)
    exact ⟨r',b',by simpa using g1,g2,g3⟩
theorem ot {ks:List K2} {l:List (K2×Nat)} {m:Nat} {f:Nat→Nat} (hm:m=ks.length) (ho:dZ f m l) {τ:aq} (hτ: ∀i,i<m→τ (f i)=bI σ h ks i):dF (j8 ks h) τ σ l:=by
 intro q hq k hk x hx
 simp only [j8,Option.map_eq_some_iff] at hk
 obtain ⟨y,hy,rfl⟩:=hk
 obtain ⟨h1,h2⟩:=ho q hq
 rw [h1,hτ _ h2] at hx
 simp only [bI,hy,Option.bind_some] at hx
 exact hx
theorem k5 {ks:List K2} {rows:List ak} {v v':AV} {u:Value} {τ:aq} {f:Nat→Nat} (H:af σ I base w h) (hnd:ks.Nodup) (hτ: ∀i,i<ks.length→τ (f i)=bI σ h ks i)
  (hI: ∀b,I b→I' b) (hN: ∀b,I' b→I b∨ ¬b5 σ h ks base b) (hk:dw I w w') (hw:bT (b5 σ h ks base) w w') (Hc:af τ I' (b5 σ h ks base) w' [rows]) (hr:ab τ I' w' v u)
  (hov:dZ f ks.length (aV ao v)) (hor: ∀(j:Nat) (r:ak),rows[j]? =some r→r.g=f j∧dZ f ks.length (b4 r.b)) (he:gI ks h v rows=some (v',h')):af σ I' base w' h'∧ab σ I' w' v' u:=by
 simp only [gI,mn,Option.bind_eq_some_iff,Option.map_eq_some_iff,Prod.mk.injEq] at he
 obtain ⟨v1,hv1,h1,hh1,rfl,rfl⟩:=he
 obtain ⟨hlen,hout,hkey⟩:=oq hh1 hnd
 have hrow: ∀(j:Nat) (k:K2),ks[j]? =some k→be σ I' base w' (ac h1 k.1 k.2)∧ ∃r,rows[j]? =some r∧aj σ (ac h1 k.1 k.2)=aj τ r:=by
  intro j k hj
  obtain ⟨r,b,hr,hb,e⟩:=hkey j k hj
  have hjm:j<ks.length:=(List.getElem?_eq_some_iff.1 hj).1
  have hrr:=Hc.rows 0 j
  rw [eu,if_pos rfl,List.getD_eq_getElem?_getD,hr,Option.getD_some] at hrr
  have:=jD (τ:=σ) (base':=base) (g':=(ac h k.1 k.2).g) hrr hb (fun x hx=>by rw [(hor j r hr).1,hτ j hjm] at hx;simpa [bI,hj] using hx) (ot rfl (hor j r hr).2 hτ) fun b0 hb0 h0=>(aY hrr hb0).2.2 (.inl h0)
  rw [e]
  exact ⟨this.1,r,hr,this.2⟩
 have hoth: ∀d s b,(d,s)∉ks→aj σ (ac h d s)=some b→w'.heap[b]? =w.heap[b]? ∧ ¬I' b:=by
  intro d s b hds hb
  have ho:b5 σ h ks base b:= .inr ⟨d,s,hds,hb⟩
  exact ⟨hw.block b ho,fun hi=>(hN b hi).elim (aY (H.rows d s) hb).2.1 fun h2=>h2 ho⟩
 have hcb: ∀(j:Nat) (r:ak) (b:Nat),rows[j]? =some r→aj τ r=some b→ ¬b5 σ h ks base b:=by
  intro j r b hj hb
  have hrr:=Hc.rows 0 j
  rw [eu,if_pos rfl,List.getD_eq_getElem?_getD,hj,Option.getD_some] at hrr
  exact (aY hrr hb).2.2
 refine ⟨⟨fun d s=> ?_,fun d s d' s' b e1 e2=> ?_,Hc.inW⟩,ia ao hv1 (ot rfl hov hτ) hr⟩
 ·by_cases hds:(d,s)∈ks
  ·obtain ⟨j,hj⟩:=List.mem_iff_getElem?.1 hds
   exact (hrow j (d,s) hj).1
  ·rw [hout d s hds]
   exact (H.rows d s).mono (fun _ _ h=>h) hI hk fun b hb=>hoth d s b hds hb
 ·by_cases hds:(d,s)∈ks
  ·obtain ⟨j,hj⟩:=List.mem_iff_getElem?.1 hds
   obtain ⟨_,r,hr,e⟩:=hrow j (d,s) hj
   rw [e] at e1
   by_cases hds':(d',s')∈ks
   ·obtain ⟨j',hj'⟩:=List.mem_iff_getElem?.1 hds'
    obtain ⟨_,r',hr',e'⟩:=hrow j' (d',s') hj'
    rw [e'] at e2
    have hjj:j=j':=by
     refine (Hc.apart 0 j 0 j' b ?_ ?_).2
     ·rw [eu,if_pos rfl,List.getD_eq_getElem?_getD,hr,Option.getD_some];exact e1
     ·rw [eu,if_pos rfl,List.getD_eq_getElem?_getD,hr',Option.getD_some];exact e2
    subst hjj
    rw [hj] at hj'
    simpa using hj'
   ·rw [hout d' s' hds'] at e2
    exact absurd (.inr ⟨d',s',hds',e2⟩) (hcb j r b hr e1)
  ·rw [hout d s hds] at e1
   by_cases hds':(d',s')∈ks
   ·obtain ⟨j',hj'⟩:=List.mem_iff_getElem?.1 hds'
    obtain ⟨_,r',hr',e'⟩:=hrow j' (d',s') hj'
    rw [e'] at e2
    exact absurd (.inr ⟨d,s,hds,e1⟩) (hcb j' r' b hr' e2)
   ·rw [hout d' s' hds'] at e2
    exact H.apart d s d' s' b e1 e2
theorem af.less (H:af σ I base w h) (hb: ∀b,base' b→base b):af σ I base' w h where
 inW:=H.inW
 apart:=H.apart
 rows d s:=by
  have fz: ∀ {b n:Nat} {f:Bool},Fz I base w b n f→Fz I base' w b n f:=by
   intro b n f hz
   cases f with
   | true=>exact hz
   | false=>exact ⟨hz.1,fun h=>hz.2.1 (hb _ h),hz.2.2⟩
  have hr:=H.rows d s
  revert hr
  generalize ac h d s=r
  intro hr
  obtain ⟨g,bd⟩:=r
  cases bd with
  | dead=>trivial
  | box v f=>obtain ⟨b,e,h1,h2,h3,h4,h5⟩:=hr;exact ⟨b,e,h1,h2,h3,h4,fz h5⟩
  | row k e xs f=>obtain ⟨b,o,n,h1,h2,h3,h4,h5,h6⟩:=hr;exact ⟨b,o,n,h1,h2,h3,h4,h5,fz h6⟩
  | iter s p=>obtain ⟨b,k,h1,h2,h3,h4⟩:=hr;exact ⟨b,k,h1,h2,h3,fun h=>h4 (hb _ h)⟩
  | lp st=>obtain ⟨b,k,h1,h2,h3,h4⟩:=hr;exact ⟨b,k,h1,h2,h3,fun h=>h4 (hb _ h)⟩
  | map clock es=>obtain ⟨b,k,h1,h2,h3,h4⟩:=hr;exact ⟨b,k,h1,h2,h3,fun h=>h4 (hb _ h)⟩
  | mit m since seen last=>obtain ⟨b,k,h1,h2,h3,h4⟩:=hr;exact ⟨b,k,h1,h2,h3,fun h=>h4 (hb _ h)⟩
theorem ou {τ:aq} {r:ak} (hr:be τ I base w r) (hne:r.b≠ .dead): ∃x,τ r.g=some x:=by
 obtain ⟨g,bd⟩:=r
 cases bd with
 | dead=>exact absurd rfl hne
 | box v f=>obtain ⟨b,e,h1,_⟩:=hr;exact ⟨_,h1⟩
 | row k e xs f=>obtain ⟨b,o,n,h1,_⟩:=hr;exact ⟨_,h1⟩
 | iter s p=>obtain ⟨b,k,h1,_⟩:=hr;exact ⟨_,h1⟩
 | lp st=>obtain ⟨b,k,h1,_⟩:=hr;exact ⟨_,h1⟩
 | map clock es=>obtain ⟨b,k,h1,_⟩:=hr;exact ⟨_,h1⟩
 | mit m since seen last=>obtain ⟨b,k,h1,_⟩:=hr;exact ⟨_,h1⟩
theorem sj {d slot gen:Nat} {ks:List K2} {rows:List ak} {v v':AV} {u:Value} {τ:aq} {ex:Option K2} (H:af σ I base w h) (hg:σ gen=none) (hnd:ks.Nodup) (hτ: ∀i,i<ks.length→τ i=bI σ h ks i)
  (hI: ∀b,I b→I' b) (hN: ∀b,I' b→I b∨ ¬b5 σ h ks base b) (hk:dw I w w') (hw:bT (b5 σ h ks base) w w') (Hc:af τ I' (b5 σ h ks base) w' [rows]) (hr:ab τ I' w' v u)
  (h1l:ks.length≤rows.length) (h2l:rows.length≤ks.length+1)
  (h3l:c9 ex=false→rows.length=ks.length) (hov:dZ (nm ex ks.length) rows.length (aV ao v)) (hor: ∀(j:Nat) (r:ak),rows[j]? =some r→r.g=nm ex ks.length j∧r.b≠ .dead∧dZ (nm ex ks.length) rows.length (b4 r.b)) (he:gJ d slot gen ks h v rows=some (v',h')):
  ∃σ1,(∀g x,σ g=some x→σ1 g=some x)∧(∀g,g≠gen→σ1 g=σ g)∧af σ1 I' base w' h'∧ab σ1 I' w' v' u:=by
 unfold gJ at he
 split at he
 ·rename_i hlen
  rw [hlen] at hov hor
  have hrg: ∀(j:Nat),j<rows.length→ ∃x,τ (nm ex ks.length j)=some x:=by
   intro j hj
   obtain ⟨k1,k2,_⟩:=hor j rows[j] (List.getElem?_eq_getElem hj)
   rw [←k1]
   refine ou (I:=I') (base:=b5 σ h ks base) (w:=w') ?_ k2
   have hrr:=Hc.rows 0 j
   rw [eu,if_pos rfl,List.getD_eq_getElem?_getD,List.getElem?_eq_getElem hj,Option.getD_some] at hrr
   exact hrr
  split at he
  ·rename_i hno
   have hid: ∀i,i<ks.length→nm ex ks.length i=i:=by
    intro i hi
    unfold nm
    split
    ·rename_i ht
     have hi':i<rows.length:=by omega
     have h1:=(hor i rows[i] (List.getElem?_eq_getElem hi')).1
     unfold nm at h1
     rw [if_pos ht] at h1
     have:=List.findIdx?_eq_none_iff.1 hno rows[i] (List.getElem_mem hi')
     simp [h1] at this
    ·rfl
   obtain ⟨a,b⟩:=k5 H hnd (fun i hi=>by rw [hid i hi];exact hτ i hi) hI hN hk hw Hc hr hov (fun j r hj=>⟨(hor j r hj).1,(hor j r hj).2.2⟩) he
   exact ⟨σ,fun _ _ h=>h,fun _ _=>rfl,a,b⟩
  ·rename_i i hfi
   simp only [Option.bind_eq_some_iff] at he
   obtain ⟨k,hki,he⟩:=he
   have hil:i<ks.length:=(List.getElem?_eq_some_iff.1 hki).1
   have hir:i<rows.length:=by omega
   have hgi:rows[i].g=ks.length:=by
    have:=(List.findIdx?_eq_some_iff_getElem.1 hfi).2.1
    simpa using this
   have hturn:ex=some (0,i):=by
    have h1:=(hor i rows[i] (List.getElem?_eq_getElem hir)).1
    unfold nm at h1
    split at h1
    ·rename_i ht;exact kZ ht
    ·rw [hgi] at h1;omega
   have hnm: ∀j,j≠i→nm ex ks.length j=j:=by
    intro j hj
    unfold nm
    rw [hturn,if_neg]
    simp [dr,Ne.symm hj]
   have hnmi:nm ex ks.length i=ks.length:=by
    unfold nm
    rw [hturn,if_pos]
    simp [dr]
   obtain ⟨x,hx⟩:=hrg i hir
   have H0:af (bf σ gen x) I base w (hput h k.1 k.2 ⟨gen,.dead⟩):=
    H.put (cl hg) (fun _ h=>h) (aO.refl I w).zero H.inW k.1 k.2 _ trivial fun d' s' b' _ hb'=>⟨rfl,(aY (H.rows d' s') hb').2.1,by simp [aj]⟩
   have hkm:k∈ks:=List.mem_of_getElem? hki
   have hoth: ∀b,b5 (bf σ gen x) (hput h k.1 k.2 ⟨gen,.dead⟩) ks base b→b5 σ h ks base b:=by
    rintro b (hb | ⟨d',s',hn,hb⟩)
    ·exact .inl hb
    ·have hne: ¬(k.1=d'∧k.2=s'):=fun e=>hn (by rw [←e.1,←e.2];exact hkm)
     rw [bY,if_neg hne,e7 (H.rows d' s') (cl hg)] at hb
     exact .inr ⟨d',s',hn,hb⟩
   have hτ1: ∀j,j<ks.length→τ (nm ex ks.length j)=bI (bf σ gen x) (hput h k.1 k.2 ⟨gen,.dead⟩) ks j:=by
    intro j hj
    have hkj:ks[j]? =some ks[j]:=List.getElem?_eq_getElem hj
    by_cases hji:j=i
    ·subst hji
     have:ks[j]=k:=by rw [hkj] at hki;injection hki
     rw [hx]
     simp [bI,hkj,this,bY,bj]
    ·have hne:ks[j]≠k:=fun e=>hji ((List.getElem?_inj hj hnd).1 (by rw [hkj,hki,e]))
     have hne2: ¬(k.1=ks[j].1∧k.2=ks[j].2):=fun e=>hne (Prod.ext e.1.symm e.2.symm)
     have e:τ j=σ (ac h ks[j].1 ks[j].2).g:=by rw [hτ j hj];simp [bI,hkj]
     obtain ⟨y,hy⟩:=hrg j (by omega)
     rw [hnm j hji] at hy
     have hng:(ac h ks[j].1 ks[j].2).g≠gen:=fun e2=>by rw [e,e2,hg] at hy;cases hy
     rw [hnm j hji,e]
     simp only [bI,hkj,Option.bind_some,bY,if_neg hne2]
     rw [cx hng]
   obtain ⟨a,b⟩:=k5 H0 hnd hτ1 hI (fun b hb=>(hN b hb).imp id fun h1 h2=>h1 (hoth b h2)) hk ⟨hw.os,hw.tape,hw.output,hw.size,fun k hk=>hw.block k (hoth k hk)⟩ (Hc.less hoth) hr hov (fun j r hj=>⟨(hor j r hj).1,(hor j r hj).2.2⟩) he
   exact ⟨_,cl hg,fun g hne=>cx hne,a,b⟩
 ·rename_i hlen
  split at he
  rotate_left
  ·cases he
  rename_i hnk
  have hnk:=kW (Option.isNone_iff_eq_none.1 hnk)
  have hlen:rows.length=(ks++[(d,slot)]).length:=by simp;omega
  have hnm: ∀j,nm ex ks.length j=j:=by
   intro j
   unfold nm
   split
   ·rename_i ht
    have hex:=kZ ht
    have:=h3l (by rw [hex];rfl)
    simp at hlen
    omega
   ·rfl
  have hrg: ∀(j:Nat),j<rows.length→ ∃x,τ j=some x:=by
   intro j hj
   obtain ⟨k1,k2,_⟩:=hor j rows[j] (List.getElem?_eq_getElem hj)
   rw [hnm] at k1
   rw [←k1]
   refine ou (I:=I') (base:=b5 σ h ks base) (w:=w') ?_ k2
   have hrr:=Hc.rows 0 j
   rw [eu,if_pos rfl,List.getD_eq_getElem?_getD,List.getElem?_eq_getElem hj,Option.getD_some] at hrr
   exact hrr
  obtain ⟨x,hx⟩:=hrg ks.length (by simp at hlen;omega)
  have H0:af (bf σ gen x) I base w (hput h d slot ⟨gen,.dead⟩):=
   H.put (cl hg) (fun _ h=>h) (aO.refl I w).zero H.inW d slot _ trivial fun d' s' b' _ hb'=>⟨rfl,(aY (H.rows d' s') hb').2.1,by simp [aj]⟩
  have hoth: ∀b,b5 (bf σ gen x) (hput h d slot ⟨gen,.dead⟩) (ks++[(d,slot)]) base b→b5 σ h ks base b:=by
   rintro b (hb | ⟨d',s',hn,hb⟩)
   ·exact .inl hb
   ·simp only [List.mem_append,List.mem_singleton,not_or] at hn
    have hne: ¬(d=d'∧slot=s'):=fun e=>hn.2 (Prod.ext e.1.symm e.2.symm)
    rw [bY,if_neg hne,e7 (H.rows d' s') (cl hg)] at hb
    exact .inr ⟨d',s',hn.1,hb⟩
  have hks: ∀k∈ks,ac (hput h d slot ⟨gen,.dead⟩) k.1 k.2=ac h k.1 k.2:=fun k hk=>by
   rw [bY,if_neg]
   rintro ⟨rfl,rfl⟩
   exact hnk hk
  have hτ1: ∀i,i<(ks++[(d,slot)]).length→τ i=bI (bf σ gen x) (hput h d slot ⟨gen,.dead⟩) (ks++[(d,slot)]) i:=by
   intro i hi
   by_cases hik:i<ks.length
   ·have hki:ks[i]? =some ks[i]:=List.getElem?_eq_getElem hik
    have e:τ i=σ (ac h ks[i].1 ks[i].2).g:=by rw [hτ i hik];simp [bI,hki]
    obtain ⟨y,hy⟩:=hrg i (by rw [hlen];exact hi)
    have hne:(ac h ks[i].1 ks[i].2).g≠gen:=fun e2=>by rw [e,e2,hg] at hy;cases hy
    simp only [bI,List.getElem?_append_left hik,hki,Option.bind_some,hks _ (List.getElem_mem hik)]
    rw [cx hne,e]
   ·have hie:i=ks.length:=by simp at hi;omega
    subst hie
    simp [bI,bY,bj,hx]
  rw [hlen] at hov hor
  have hτ1: ∀i,i<(ks++[(d,slot)]).length→τ (nm ex ks.length i)=bI (bf σ gen x) (hput h d slot ⟨gen,.dead⟩) (ks++[(d,slot)]) i:=fun i hi=>by rw [hnm];exact hτ1 i hi
  obtain ⟨a,b⟩:=k5 H0 (List.nodup_append.2 ⟨hnd,by simp,fun a ha b hb=>by rw [List.mem_singleton.1 hb];rintro rfl;exact hnk ha⟩) hτ1 hI
   (fun b hb=>(hN b hb).imp id fun h1 h2=>h1 (hoth b h2)) hk ⟨hw.os,hw.tape,hw.output,hw.size,fun k hk=>hw.block k (hoth k hk)⟩ (Hc.less hoth) hr hov (fun j r hj=>⟨(hor j r hj).1,(hor j r hj).2.2⟩) he
  exact ⟨_,cl hg,fun g hne=>cx hne,a,b⟩
end
theorem ib {α β:Type} {f:α→Option (List β)} : ∀ {l:List α} {L:List β},e6 f l=some L→ ∀x∈l,∃M,f x=some M∧ ∀y∈M,y∈L
 | [],_,_,x,hx=>by cases hx
 | a::l,L,h,x,hx=>by
  simp only [e6,Option.bind_eq_some_iff,Option.map_eq_some_iff] at h
  obtain ⟨M,hM,R,hR,rfl⟩:=h
  rcases List.mem_cons.1 hx with rfl | hx
  ·exact ⟨M,hM,fun y hy=>List.mem_append_left _ hy⟩
  ·obtain ⟨M',h1,h2⟩:=ib hR x hx
   exact ⟨M',h1,fun y hy=>List.mem_append_right _ (h2 y hy)⟩
section
variable {E:ap} {call:bu} {ys:Ys} {d gen:Nat} {base:ah} {C:Cx} {σ:aq} {I:ah} {w:World} {h:aa} {s s':St} {a:Act} {P:Program} {o:Oper} {ρ:Operand→AV} {ρc:Operand→Value}
theorem aH.mem {es:List ME} {xs:List MapEntry} (h:aH σ I w es xs): ∀x∈xs,∃e∈es,x.born=e.born∧x.key=e.key∧ab σ I w e.val x.val:=by
 induction h with
 | nil=>intro x hx;cases hx
 | cons e x es xs hb hk hv h ih=>
  intro y hy
  rcases List.mem_cons.1 hy with rfl | hy
  ·exact ⟨e,by simp,hb,hk,hv⟩
  ·obtain ⟨e',h1,h2⟩:=ih y hy
   exact ⟨e',List.mem_cons_of_mem _ h1,h2⟩
theorem sk {n:Nat} (hn:0<n): ∃j w1,(choose (.mapNext n)).run P w= .ok j w1∧j<n∧(w1=w∨w1= { w with drawn:=w.drawn+1}):=by
 by_cases hf:n≤1
 ·exact ⟨0,w,by simp [choose,Sem.run,Question.forced,hf],hn,.inl rfl⟩
 ·refine ⟨(Question.mapNext n).cut (w.tape w.drawn (.mapNext n)),{ w with drawn:=w.drawn+1},?_,?_,.inr rfl⟩
  ·simp only [choose,Sem.run,Question.forced,decide_eq_true_eq,hf,if_false]
  ·simp only [Question.cut]
   exact Nat.mod_lt _ hn
theorem ov:aB base σ I w σ I { w with drawn:=w.drawn+1} :=⟨fun _ _ h=>h,fun _ h=>h,fun _ h=> .inl h,⟨fun _ _=>rfl,fun _ _ _ h=>h,fun _ r h=>⟨r,h,bP.refl r⟩,fun _ h=>h⟩,⟨rfl,rfl,rfl,Nat.le_refl _,fun _ _=>rfl⟩⟩
theorem af.drawn (H:af σ I base w h):af σ I base { w with drawn:=w.drawn+1} h:=by
 have hx:aB base σ I w σ I { w with drawn:=w.drawn+1} :=ov
 exact H.keep (σ':=σ) (I':=I) (w':= { w with drawn:=w.drawn+1}) (fun _ _ h=>h) (fun _ h=>h) hx.kp H.inW (fun d s b hb=>⟨rfl,(aY (H.rows d s) hb).2.1⟩)
theorem sn {L:List (AV×aa)} (hop:j9 o ρ h=some L) (hρ: ∀x,ab σ I w (ρ x) (ρc x)) (H:af σ I base w h):
  ∃v h',(v,h')∈L∧aJ σ I base w gen ((execOp ρc o).run P w) v h':=by
 have over: ∀(w:World),ab σ I w (.pv (.tup [.lit (.bool false)])) (.tuple #[.bool false]):=fun w=> .pv _ _ (.tup [.lit (.bool false)] [.bool false] rfl fun j p v hp hv=>by
  match j with
  | 0=>simp at hp hv;subst hp;subst hv;exact .lit _
  | j+1=>simp at hp)
 unfold j9 at hop
 split at hop
 case h_2=>cases hop
 rename_i it ho
 have hr:=hρ it
 split at hop
 case h_2=>cases hop
 rename_i d1 s g he
 rw [he] at hr
 obtain ⟨b,ob,k,hs,hu⟩:=cp hr
 split at hop
 ·rename_i s1 s2 l1 hl
  obtain ⟨b',k',hs',⟨bm,hh,hbm⟩,hnI,hbb⟩:=H.live hl (by simp)
  rw [hs] at hs'
  simp only [Option.some.injEq,Prod.mk.injEq] at hs'
  obtain ⟨rfl,rfl,rfl⟩:=hs'
  simp only at hbm
  subst hbm
  simp only [Nat.zero_mul,Nat.add_zero] at hu
  simp only [Option.some.injEq] at hop
  subst hop
  have ac:(getObj b).run P w= .ok (.mapIter none s1 s2.toArray l1) w:=by simp [getObj,Sem.run,hh]
  refine ⟨_,_,List.mem_singleton.2 rfl,.same (.tuple #[.bool false]) H ?_ (over w)⟩
  simp only [execOp,ho]
  refine ay ?_
  simp [Instr.next,hu,ac]
 ·rename_i d2 s2 g2 since seen last hl
  obtain ⟨b',k',hs',⟨bm,hh,b2,o2,k2,hs2,hbm⟩,hnI,hbb⟩:=H.live hl (by simp)
  rw [hs] at hs'
  simp only [Option.some.injEq,Prod.mk.injEq] at hs'
  obtain ⟨rfl,rfl,rfl⟩:=hs'
  subst hbm
  simp only [Nat.zero_mul,Nat.add_zero] at hu
  have ac:(getObj b).run P w= .ok (.mapIter (some b2) since seen.toArray last) w:=by simp [getObj,Sem.run,hh]
  split at hop
  ·rename_i clock es hl2
   obtain ⟨a,hh2,hent,_,_,_,_,hget2⟩:=em H hl2 hs2
   split at hop
   ·cases hop
   rename_i htst
   simp only [Option.some.injEq] at hop
   have hold:aH σ I w (cZ since seen es) ((a.filter fun e=> !seen.toArray.contains e.born).filter (fun e=>decide (e.born<since))).toList:=by
    have:=hent.filter (p:=fun n=> !seen.contains n&&decide (n<since))
    simpa [cZ,Bool.and_comm] using this
   have hnew:aH σ I w (d8 since seen es) ((a.filter fun e=> !seen.toArray.contains e.born).filter (fun e=>decide (e.born≥since))).toList:=by
    have:=hent.filter (p:=fun n=> !seen.contains n&&decide (since≤n))
    simpa [d8,Bool.and_comm] using this
   have htest:(!seen.toArray.isEmpty&& !a.isEmpty&&a.all (fun e=>decide (e.born≥last)))=false:=by
    have h2:a.all (fun e=>decide (e.born≥last))=es.all (fun e=>decide (last≤e.born)):=by
     rw [←Array.all_toList];exact hent.all (p:=fun n=>decide (last≤n))
    have h3:a.isEmpty=es.isEmpty:=by rw [←hent.empty];cases a;simp
    rw [h2,h3]
    simpa using htst
   generalize hA:(a.filter fun e=> !seen.toArray.contains e.born).filter (fun e=>decide (e.born<since))=oldA at hold
   generalize hB:(a.filter fun e=> !seen.toArray.contains e.born).filter (fun e=>decide (e.born≥since))=newA at hnew
   have hemp:oldA.isEmpty=(cZ since seen es).isEmpty:=by rw [←hold.empty];cases oldA;simp
   have hpos:0<((if oldA.isEmpty then #[none] else #[])++(oldA++newA).map some).size:=by
    cases hz:oldA.isEmpty with
    | true=>simp;omega
    | false=>
     have:0<oldA.size:=by
      cases oldA with
      | mk l=>cases l with
       | nil=>simp at hz
       | cons x l=>simp
     simp;omega
   obtain ⟨j,w1,hch,hj,hw1⟩:=sk (P:=P) (w:=w) hpos
   have hx1:aB base σ I w σ I w1:=by
    rcases hw1 with e | e
    ·rw [e];exact aB.refl _ _ _ _
    ·rw [e];exact ov
   have H1:af σ I base w1 h:=by
    rcases hw1 with e | e
    ·rw [e];exact H
    ·rw [e];exact H.drawn
   have hh1:w1.heap[b]? =some (.mapIter (some b2) since seen.toArray last):=by
    rcases hw1 with e | e<;>(rw [e];exact hh)
   obtain ⟨c,hc⟩: ∃c,((if oldA.isEmpty then #[none] else #[])++(oldA++newA).map some)[j]? =some c:=⟨_,Array.getElem?_eq_getElem hj⟩
   have hmem:=Array.mem_of_getElem? hc
   cases c with
   | none=>
    have hz:oldA.isEmpty=true:=by
     cases hz:oldA.isEmpty with
     | true=>rfl
     | false=>rw [hz] at hmem;simp at hmem
    refine ⟨.pv (.tup [.lit (.bool false)]),h,?_,_,w1,.tuple #[.bool false],σ,I,?_,.inl rfl,over w1,H1,hx1,fun _ _=>rfl⟩
    ·rw [←hop,←hemp,hz]
     simp
    ·simp only [execOp,ho]
     refine ay ?_
     simp only [Instr.next,hu,Sem.run_bind,ac,Result.andThen_ok,hget2,htest,Bool.false_eq_true,if_false,hA,hB,hch,hc]
     rfl
   | some x=>
    have hx:x∈oldA.toList++newA.toList:=by
     rw [Array.mem_append] at hmem
     rcases hmem with hm | hm
     ·split at hm<;>simp at hm
     ·simpa using hm
    obtain ⟨e,he1,hxb,hxk,hxv⟩: ∃e∈cZ since seen es++d8 since seen es,x.born=e.born∧x.key=e.key∧ab σ I w e.val x.val:=by
     rcases List.mem_append.1 hx with hx | hx
     ·obtain ⟨e,h1,h2⟩:=hold.mem x hx
      exact ⟨e,List.mem_append_left _ h1,h2⟩
     ·obtain ⟨e,h1,h2⟩:=hnew.mem x hx
      exact ⟨e,List.mem_append_right _ h1,h2⟩
    obtain ⟨w2,q1,q2,q3,q4,q5⟩:=ff (I:=I) (base:=base) (.mapIter (some b2) since (seen++[x.born]).toArray clock) hh1 (by simp) (by simp) (by simp) hnI hbb
    refine ⟨dP [aU (.bool true),.pv (.lit e.key),e.val],_,?_,_,w2,.tuple #[.bool true,x.key,x.val],σ,I,?_,.inl rfl,ny (.pv _ _ (.lit _)) (by rw [hxk];exact .pv _ _ (.lit _)) ((hx1.rep hxv).mono (fun _ _ h=>h) (fun _ h=>h) q3.zero),
     H1.setPut (bd':= .mit (some (d2,s2,g2)) since (seen++[e.born]) clock) hl (by simp) (by simp [aj,hs]) (by simp [aj,hs]) q3 q2 ⟨b,k,hs,⟨some b2,?_,b2,o2,k2,hs2,rfl⟩,hnI,hbb⟩,hx1.trans ⟨fun _ _ h=>h,fun _ h=>h,fun _ h=> .inl h,q3,q4⟩,fun _ _=>rfl⟩
    ·rw [←hop]
     exact List.mem_append_right _ (List.mem_map.2 ⟨e,he1,rfl⟩)
    ·simp only [execOp,ho]
     refine ay ?_
     simp only [Instr.next,hu,Sem.run_bind,ac,Result.andThen_ok,hget2,htest,Bool.false_eq_true,if_false,hA,hB,hch,hc]
     have hpush:seen.toArray.push x.born=(seen++[x.born]).toArray:=by apply Array.ext';simp
     rw [hpush,q5]
     rfl
    ·rw [q1,←hxb]
  ·cases hop
 ·cases hop
def fm (E:ap) (C:Cx) (ys:Ys) (c:Code) (s:St) (L:List (av×St)):Prop:= ∀(σ:aq) (I:ah) (w:World) (a:Act) (Q:Exit→Act→World→Prop),bB C σ I w s a→bK E ys σ I w→
 (∀q∈L,∀σ' I' w' a',bL C s.g σ I w q.2 σ' I' w' a'→Q (fZ q.1) a' w')→c.wpIn (WF C.r) 0 E.P Q a w
theorem fj.nd {c:Code} {x:av} (h:fj E C ys c s x s'):fm E C ys c s [(x,s')]:=fun σ I w a Q H hys hQ=>h σ I w a Q H hys fun σ' I' w' a' hd=>hQ (x,s') (by simp) σ' I' w' a' hd
theorem sq {c:Code} {body:St→Option (List (av×St))} (hbody: ∀s L,body s=some L→fm E C ys c s L) {m:Nat} {L:List (av×St)} (hm:fL body m s=some L):fm E C ys (.loop c) s L:=by
 intro σ I w a Q H hys hQ
 let J:Nat→Act→World→Prop:=fun k a1 w1=> ∃σ1 I1 s1 L1,fL body k s1=some L1∧(∀q∈L1,q∈L)∧bL C s.g σ I w s1 σ1 I1 w1 a1
 classical
 let μ:Act→World→Nat:=fun a1 w1=>if h: ∃k,J k a1 w1 then Classical.choose (dD h) else 0
 refine wpIn_loop (fun a1 w1=> ∃k,J k a1 w1) μ ⟨m,σ,I,s,L,hm,fun q hq=>hq,bL.refl H⟩ fun a1 w1 hex=> ?_
 have hμ:μ a1 w1=Classical.choose (dD hex):=dif_pos hex
 obtain ⟨⟨σ1,I1,s1,L1,hk,hsub,hd⟩,_⟩:=Classical.choose_spec (dD hex)
 rw [←hμ] at hk
 cases hmu:μ a1 w1 with
 | zero=>rw [hmu] at hk;simp [fL] at hk
 | succ k=>
  rw [hmu] at hk
  simp only [fL,Option.bind_eq_some_iff] at hk
  obtain ⟨M,hb,hk⟩:=hk
  refine hbody s1 M hb σ1 I1 w1 a1 _ hd.rel (hys.later hd.ext.later) fun q hq σ2 I2 w2 a2 hd2=> ?_
  obtain ⟨L2,h2,h3⟩:=ib hk q hq
  obtain ⟨y,s2⟩:=q
  by_cases hy:y= .normal
  ·subst hy
   simp only [if_true] at h2
   have hJ:J k a2 w2:=⟨σ2,I2,s2,L2,h2,fun q hq=>hsub q (h3 q hq),hd.trans hd2⟩
   refine ⟨⟨k,hJ⟩,?_⟩
   have hex2: ∃k,J k a2 w2:=⟨k,hJ⟩
   have:μ a2 w2=Classical.choose (dD hex2):=dif_pos hex2
   rw [this]
   have:=(Classical.choose_spec (dD hex2)).2 k hJ
   omega
  ·simp only [if_neg hy,Option.some.injEq] at h2
   subst h2
   have:=hQ (y,s2) (hsub _ (h3 _ (by simp))) σ2 I2 w2 a2 (hd.trans hd2)
   cases y with
   | normal=>exact absurd rfl hy
   | _=>exact this
theorem sr (hcall:dB E call) {id:Nat} {ops:Array Oper} (hwf:bH E C.n (.region id ops false)=true) (hn:iW ops=true) {L:List (av×St)} (h:ka E call ys d ops s=some L):
  fm E C ys (.region id ops false) s L:=by
 intro σ I w a Q H hys hQ
 simp only [bH,Bool.and_eq_true] at hwf
 have hdst: ∀o∈ops,dT C.n o=true:=by
  have:=hwf.1
  rw [Array.all_eq_true_iff_forall_mem] at this
  exact this
 unfold ka at h
 simp only [Option.bind_eq_some_iff] at h
 obtain ⟨o,ho,N,hnx,h⟩:=h
 have hsz:0<ops.size:=(Array.getElem?_eq_some_iff.1 ho).1
 have hg:o.guard=none:=by
  unfold iW at hn
  rw [ho] at hn
  simp only [Bool.and_eq_true,Option.isNone_iff_eq_none] at hn
  exact hn.1
 have hdf: ∀c,o.op≠ .defer c:=fun c e=>by
  unfold iW at hn
  rw [ho] at hn
  simp [e] at hn
 have hdst': ∀dd,o.dst=some dd→dd<C.n:=fun dd hd=>by simpa [dT,hd] using hdst o (Array.mem_of_getElem? ho)
 have hlist:List.range ops.size=0::List.range' 1 (ops.size-1):=by
  obtain ⟨n,hn'⟩: ∃n,ops.size=n+1:=⟨ops.size-1,by omega⟩
  rw [List.range_eq_range',hn',List.range'_succ]
  simp
 refine wpIn_region ?_
 rw [hlist,wpOpsIn_cons]
 unfold wpOpIn
 rw [ho]
 simp only []
 rw [nF H o]
 have hw:bv ops s.t o=true:=by unfold bv;rw [hg]
 rw [hw]
 simp only [if_true]
 refine ⟨fun _ _=>trivial,?_⟩
 rw [Oper.semAt_eq _ _ _ hdf]
 obtain ⟨v,h',hmem,nx,w',u,σ',I',g1,g2,g3,g4,g5,g6⟩:=sn (P:=E.P) (gen:=s.g) (ρc:=a.eval) hnx (fun x=>gV H.tmp x) H.heap
 rw [g1]
 obtain ⟨M,hM,hsub⟩:=ib h _ hmem
 simp only [Option.map_eq_some_iff] at hM
 obtain ⟨s2,hrun,rfl⟩:=hM
 have hfr: ∀k,s.g+ops.size≤k→σ' k=none:=fun k hk=>by rw [g6 k (by omega)];exact H.fresh k (by omega)
 have hrel:bB C σ' I' w' { t:=aP s.t o.dst v,h:=h',g:=s.g+ops.size} (a.put o.dst u):=H.put hdst' g5 g3 g4 hfr
 have hrun':dz E call ys false d s.g ops (List.range' 1 (ops.size-1)) { t:=aP s.t o.dst v,h:=h',g:=s.g+ops.size} =some s2:=by
  rw [kz _ _ _ (fun j=>by simp [Nat.add_comm])] at hrun
  simpa using hrun
 have step:wpOpsIn (WF C.r) 0 E.P ops Q (List.range' 1 (ops.size-1)) (a.put o.dst u) w':=by
  refine kU hcall hdst _ σ' I' w' _ _ (List.nodup_range') (fun i hi=> ?_) hrun' hrel (hys.later g5.later) (by simp) fun σ2 I2 w2 a2 hd=>hQ (.normal,s2) (hsub _ (by simp)) σ2 I2 w2 a2 ⟨hd.rel,g5.trans hd.ext,fun k hk=> ?_,hd.grow⟩
  ·rw [List.mem_range'_1] at hi
   exact ⟨by rw [g6 _ (by omega)];exact H.fresh _ (by omega),by simp;omega⟩
  ·rw [hd.low k hk,g6 k (by omega)]
 rcases g2 with rfl | ⟨rfl,rfl⟩
 ·exact step
 ·exact step
theorem ss (hcall:dB E call) (hfz:cR E call) (hmix:E.P.follows .mixedOrders=true) (hent: ∀f,fH E f=true→ ∀args w,(callFunc f args).run E.P w= .ok (.enter f args) w) {fuel:Nat} :
  ∀(c:Code),bH E C.n c=true→ ∀(s:St) (L:List (av×St)),cv E call ys d fuel c s=some L→fm E C ys c s L:=by
 have det: ∀(c:Code),bH E C.n c=true→ ∀(s:St) (L:List (av×St)),(aK E call ys d fuel c s).map ([·])=some L→fm E C ys c s L:=by
  intro c hwf s L h
  simp only [Option.map_eq_some_iff] at h
  obtain ⟨⟨x,s'⟩,h,rfl⟩:=h
  exact (dE hcall hfz hmix hent c C hwf s x s' h).nd
 intro c
 induction c with
 | region id ops draw=>
  intro hwf s L h
  simp only [cv] at h
  split at h
  ·rename_i hc
   simp only [Bool.and_eq_true,Bool.not_eq_true'] at hc
   obtain ⟨rfl,hn⟩:=hc
   exact sr hcall hwf hn h
  ·exact det _ hwf s L h
 | seq y z ihy ihz=>
  intro hwf s L h σ I w a Q H hys hQ
  have hwf':=hwf
  simp only [bH,Bool.and_eq_true] at hwf'
  simp only [cv,Option.bind_eq_some_iff] at h
  obtain ⟨M,hy,h⟩:=h
  refine wpIn_seq (ihy hwf'.1 s M hy σ I w a _ H hys fun q hq σ1 I1 w1 a1 hd=> ?_)
  obtain ⟨L2,h2,h3⟩:=ib h q hq
  obtain ⟨x1,s1⟩:=q
  by_cases hx:x1= .normal
  ·subst hx
   simp only [if_true] at h2
   exact ihz hwf'.2 s1 L2 h2 σ1 I1 w1 a1 Q hd.rel (hys.later hd.ext.later) fun q hq σ' I' w' a' hd'=>hQ q (h3 q hq) σ' I' w' a' (hd.trans hd')
  ·simp only [if_neg hx,Option.some.injEq] at h2
   subst h2
   have:=hQ (x1,s1) (h3 _ (by simp)) σ1 I1 w1 a1 hd
   cases x1 with
   | normal=>exact absurd rfl hx
   | _=>exact this
 | cond c y z ihy ihz=>
  intro hwf s L h σ I w a Q H hys hQ
  have hwf':=hwf
  simp only [bH,Bool.and_eq_true] at hwf'
  simp only [cv] at h
  cases hb:bS (aw s.t c) with
  | none=>simp [hb] at h
  | some t=>
   have hev:=(hY (gV H.tmp c) t).1 hb
   cases t with
   | true=>exact wpIn_cond_true hev (ihy hwf'.1 s L (by simpa [hb] using h) σ I w a Q H hys hQ)
   | false=>exact wpIn_cond_false hev (ihz hwf'.2 s L (by simpa [hb] using h) σ I w a Q H hys hQ)
 | block id c ih=>
  intro hwf s L h σ I w a Q H hys hQ
  have hwf':=hwf
  simp only [bH] at hwf'
  simp only [cv,Option.map_eq_some_iff] at h
  obtain ⟨M,hc,rfl⟩:=h
  refine wpIn_block (ih hwf' s M hc σ I w a _ H hys fun q hq σ1 I1 w1 a1 hd=> ?_)
  have:=hQ (gL id q) (List.mem_map.2 ⟨q,hq,rfl⟩) σ1 I1 w1 a1 (by
   have e:(gL id q).2=q.2:=by unfold gL;split<;>rfl
   rw [e];exact hd)
  obtain ⟨x1,s1⟩:=q
  cases x1 with
  | exit id'=>
   simp only [gL,fZ,Exit.inBlock] at this ⊢
   by_cases e:id'=id
   ·simp only [e,if_true,fZ] at this ⊢; exact this
   ·simp only [e,if_false,fZ] at this ⊢; exact this
  | _=>exact this
 | loop c ih=>
  intro hwf s L h
  have hwf':=hwf
  simp only [bH] at hwf'
  simp only [cv] at h
  exact sq (fun s L hb=>ih hwf' s L hb) h
 | _=>intro hwf s L h;exact det _ hwf s L (by simpa only [cv] using h)
end
theorem ow {a b:Value} (h:iY a b=true):a=b:=by
 unfold iY at h
 split at h<;>simp only [Bool.and_eq_true,beq_iff_eq,decide_eq_true_eq,Bool.false_eq_true] at h
 ·rename_i x y
  obtain ⟨⟨x⟩⟩:=x
  obtain ⟨⟨y⟩⟩:=y
  simp only at h
  subst h
  rfl
 ·obtain ⟨rfl,rfl⟩:=h;rfl
 ·subst h;rfl
 ·rfl
 ·rfl
 ·rfl
 ·rename_i x y
  have h1:x= #[]:=Array.eq_empty_of_size_eq_zero h.1
  have h2:y= #[]:=Array.eq_empty_of_size_eq_zero h.2
  rw [h1,h2]
 ·obtain ⟨rfl,rfl⟩:=h;rfl
theorem b6 {α:Type} {f:α→α→Bool} : ∀ {l m:List α},(∀a b,f a b=true→a=b)→bJ f l m=true→l=m
 | [],[],_,_=>rfl
 | [],_::_,_,h=>by simp [bJ] at h
 | _::_,[],_,h=>by simp [bJ] at h
 | a::l,b::m,hf,h=>by
  simp only [bJ,Bool.and_eq_true] at h
  rw [hf a b h.1,b6 hf h.2]
theorem ox {a b:Fn} (h:iZ a b=true):a=b:=by
 unfold iZ at h
 split at h
 ·simp only [beq_iff_eq] at h;subst h;rfl
 ·cases h
theorem dH: ∀(n:Nat) (a b:PV),cD n a b=true→a=b
 | 0,_,_,h=>by simp [cD] at h
 | n+1,a,b,h=>by
  unfold cD at h
  split at h<;>(try simp only [Bool.and_eq_true,beq_iff_eq,Bool.false_eq_true] at h)
  ·rw [ow h]
  ·obtain ⟨⟨⟨rfl,rfl⟩,rfl⟩,h⟩:=h;rw [b6 (dH n) h]
  ·obtain ⟨rfl,h⟩:=h;rw [dH n _ _ h]
  ·rw [b6 (dH n) h]
  ·rw [b6 (dH n) h]
  ·obtain ⟨rfl,h⟩:=h;rw [dH n _ _ h]
  ·obtain ⟨⟨h1,h2⟩,h3⟩:=h;rw [ox h1,b6 (dH n) h2,b6 (dH n) h3]
theorem ew: ∀(n:Nat) (a b:AV),c5 n a b=true→a=b
 | 0,_,_,h=>by simp [c5] at h
 | n+1,a,b,h=>by
  unfold c5 at h
  split at h<;>(try simp only [Bool.and_eq_true,beq_iff_eq,Bool.false_eq_true] at h)
  ·rw [dH _ _ _ h]
  ·obtain ⟨⟨⟨⟨rfl,rfl⟩,rfl⟩,rfl⟩,rfl⟩:=h;rfl
  ·obtain ⟨⟨⟨⟨⟨rfl,rfl⟩,rfl⟩,rfl⟩,rfl⟩,rfl⟩:=h;rfl
  ·rw [b6 (ew n) h]
  ·rw [b6 (ew n) h]
  ·obtain ⟨⟨h1,h2⟩,h3⟩:=h;rw [ox h1,b6 (ew n) h2,b6 (ew n) h3]
  ·obtain ⟨⟨rfl,rfl⟩,rfl⟩:=h;rfl
  ·obtain ⟨rfl,h⟩:=h;rw [ew n _ _ h]
  ·subst h;rfl
  ·obtain ⟨⟨rfl,rfl⟩,rfl⟩:=h;rfl
theorem su (a b:ME) (h:kb a b=true):a=b:=by
 unfold kb at h
 simp only [Bool.and_eq_true,beq_iff_eq] at h
 obtain ⟨x,y,z⟩:=a
 obtain ⟨x',y',z'⟩:=b
 simp only at h
 obtain ⟨⟨rfl,h1⟩,h2⟩:=h
 rw [ow h1,ew _ _ _ h2]
theorem sv (a b:ba) (h:kc a b=true):a=b:=by
 unfold kc at h
 split at h<;>simp only [Bool.and_eq_true,beq_iff_eq,decide_eq_true_eq,Bool.false_eq_true] at h
 ·rfl
 ·obtain ⟨rfl,h⟩:=h;rw [ew _ _ _ h]
 ·obtain ⟨⟨⟨rfl,rfl⟩,rfl⟩,h⟩:=h;rw [b6 (dH _) h]
 ·rename_i x p y q
  obtain ⟨rfl,h⟩:=h
  obtain ⟨⟨x⟩⟩:=x
  obtain ⟨⟨y⟩⟩:=y
  simp only at h
  subst h
  rfl
 ·subst h;rfl
 ·obtain ⟨rfl,h⟩:=h;rw [b6 su h]
 ·obtain ⟨⟨rfl,h⟩,rfl⟩:=h;rw [b6 (fun a b h=>by simpa using h) h]
 ·obtain ⟨⟨⟨⟨⟨rfl,rfl⟩,rfl⟩,rfl⟩,h⟩,rfl⟩:=h;rw [b6 (fun a b h=>by simpa using h) h]
theorem sw (a b:ak) (h:ke a b=true):a=b:=by
 unfold ke at h
 simp only [Bool.and_eq_true,beq_iff_eq] at h
 obtain ⟨x,y⟩:=a
 obtain ⟨x',y'⟩:=b
 simp only at h
 obtain ⟨rfl,h1⟩:=h
 rw [sv _ _ h1]
theorem sx {a b:aa} (h:mp a b=true):a=b:=b6 (fun _ _ h=>b6 sw h) h
theorem oy {β:Type} (f:β→Nat): ∀(l:List β) (g:Nat),g≤l.foldl (fun g r=>max g (f r)) g∧ ∀r∈l,f r≤l.foldl (fun g r=>max g (f r)) g
 | [],g=>⟨Nat.le_refl _,fun r hr=>by cases hr⟩
 | x::l,g=>by
  obtain ⟨h1,h2⟩:=oy f l (max g (f x))
  simp only [List.foldl_cons]
  refine ⟨by omega,fun r hr=> ?_⟩
  rcases List.mem_cons.1 hr with rfl | hr
  ·omega
  ·exact h2 r hr
theorem sy {L:List (AV×aa×Nat)} {v:AV} {h:aa} {g:Nat} (hj:i6 L=some (v,h,g)): ∀q∈L,q.1=v∧q.2.1=h∧q.2.2≤g:=by
 cases L with
 | nil=>simp [i6] at hj
 | cons q l=>
  simp only [i6] at hj
  split at hj
  ·rename_i hall
   simp only [Option.some.injEq,Prod.mk.injEq] at hj
   obtain ⟨rfl,rfl,rfl⟩:=hj
   obtain ⟨h1,h2⟩:=oy (fun r:AV×aa×Nat=>r.2.2) l q.2.2
   intro r hr
   rcases List.mem_cons.1 hr with rfl | hr
   ·exact ⟨rfl,rfl,h1⟩
   ·rw [List.all_eq_true] at hall
    have:=hall r hr
    simp only [Bool.and_eq_true] at this
    exact ⟨ew _ _ _ this.1,sx this.2,h2 r hr⟩
  ·cases hj
section
variable {E:ap} {call:bu} {ys:Ys} {d:Nat} {base:ah} {C:Cx} {σ:aq} {I:ah} {w:World} {h:aa} {s s':St} {a:Act} {P:Program}
theorem sA {t:TypeId} {m:Nat} {ag:Bool} {d s g i off:Nat} {v v0:AV} {fz:Bool} {u0:Value} (H:af σ I base w h) (hm:aF P t=some m) (hag:b8 P t=some ag) (hra:ab σ I w (.mptr d s g i off) u0)
  (hl:Abs.live h d s g= .box v0 fz) (hi:i=0) (hv:di ag m off v0=some v): ∃ad u,u0= .pointer (some ad)∧(loadVar t ad).run P w= .ok u w∧ab σ I w v u:=by
 obtain ⟨b,ob,k,hs,hu⟩:=cp hra
 subst hi
 obtain ⟨b0,k0,e0,u0',hs0,hsh,hok,hru,hz,hf,h1c,hsz,hcell⟩:=dU (H.live hl (by simp))
 rw [hs] at hs0
 simp only [Option.some.injEq,Prod.mk.injEq] at hs0
 obtain ⟨rfl,rfl,rfl⟩:=hs0
 have hsub:=kB (σ:=σ) (I:=I) (w:=w) hv (us:=u0'.cells.toList) (by simpa using hsz) h1c fun j c x hc hx=>(hru.cells hok).2.2 j c x hc (by simpa using hx)
 have hload:=kC (P:=P) (w:=w) (b:=b) (o:=0) (us:=u0'.cells.toList) hm hag off fun j x hx=>by simpa using hcell j x (by simpa using hx)
 simp only [Nat.zero_mul,Nat.add_zero,Nat.zero_add] at hu hload
 cases ag with
 | true=>exact ⟨_,_,hu,hload.1 rfl (hsub.1 rfl).1,(hsub.1 rfl).2⟩
 | false=>
  obtain ⟨x,hx,hp⟩:=hsub.2 rfl
  exact ⟨_,_,hu,hload.2 rfl x hx,hp⟩
def f9 (tmps:Array Value):ResultVar→Sem Value
 | .tmp t=>pure (tmps.getD t undef)
 | .cell a t=>do loadVar t (←asAddr (tmps.getD a undef))
theorem oz (H:bB C σ I w s a) {r:ResultVar} {v:AV} (hv:fJ P s.h s.t r=some v): ∃u,(f9 a.tmps r).run P w= .ok u w∧ab σ I w v u:=by
 cases r with
 | tmp i=>
  simp only [fJ,Option.some.injEq] at hv
  subst hv
  exact ⟨_,rfl,H.tmp i⟩
 | cell i ty=>
  simp only [fJ,bind,Option.bind_eq_some_iff] at hv
  obtain ⟨m,hm,ag,hag,hv⟩:=hv
  have hr:=H.tmp i
  split at hv
  ·rename_i d s' g k off ht
   rw [ht] at hr
   split at hv
   ·rename_i v0 fz hl
    split at hv
    ·rename_i hi
     obtain ⟨ad,u,hu,hrun,hrep⟩:=sA H.heap hm hag hr hl hi hv
     exact ⟨u,by simp [f9,hu,asAddr,hrun],hrep⟩
    ·cases hv
   ·cases hv
  ·cases hv
theorem oA (H:bB C σ I w s a): ∀(rs:List ResultVar) (vs:List AV),rs.mapM (fJ P s.h s.t)=some vs→ ∃us:List Value,(rs.mapM (f9 a.tmps)).run P w= .ok us w∧us.length=vs.length∧vs.length=rs.length∧
  ∀(j:Nat) (p:AV) (u:Value),vs[j]? =some p→us[j]? =some u→ab σ I w p u
 | [],vs,h=>by
  simp at h
  subst h
  exact ⟨[],rfl,rfl,rfl,fun j p u hp=>by simp at hp⟩
 | r::rs,vs,h=>by
  simp only [List.mapM_cons,bind,Option.bind_eq_some_iff,pure,Option.some.injEq] at h
  obtain ⟨v,hv,vs',hvs,rfl⟩:=h
  obtain ⟨u,hu,hr⟩:=oz H hv
  obtain ⟨us,hus,hl,hl2,hrs⟩:=oA H rs vs' hvs
  refine ⟨u::us,by simp [List.mapM_cons,hu,hus],by simp [hl],by simp [hl2],fun j p x hp hx=> ?_⟩
  cases j with
  | zero=>simp at hp hx;subst hp hx;exact hr
  | succ j=>exact hrs j p x (by simpa using hp) (by simpa using hx)
theorem sB {cs:List AV} {vs:List Value} (hl:vs.length=cs.length)
  (hr: ∀(j:Nat) (p:AV) (v:Value),cs[j]? =some p→vs[j]? =some v→ab σ I w p v):ab σ I w (j6 cs) (.tuple vs.toArray):=by
 unfold j6
 cases ha:aQ cs with
 | none=>exact .tup cs vs hl hr
 | some ps=>
  have hcs:=dX ha
  subst hcs
  refine .pv _ _ (.tup ps vs (by simpa using hl) fun j p v hp hv=> ?_)
  exact aG (hr j (.pv p) v (by simp [hp]) hv)
theorem sC (H:bB C σ I w s a) {fn:Func} {v:AV} (hv:b3 P fn s.h s.t=some v): ∃u,(results fn a.tmps).run P w= .ok u w∧ab σ I w v u:=by
 have hres:results fn a.tmps=(do let vs ←fn.results.mapM (f9 a.tmps);pure (if h:vs.size=1 then vs[0] else .tuple vs)):=by
  unfold results
  congr 1
 have hrun: ∀us:List Value,(fn.results.toList.mapM (f9 a.tmps)).run P w= .ok us w→(fn.results.mapM (f9 a.tmps)).run P w= .ok us.toArray w:=by
  intro us hus
  rw [Array.mapM_eq_mapM_toList]
  simp [hus]
 unfold b3 at hv
 split at hv
 ·rename_i r hrs
  obtain ⟨u,hu,hr⟩:=oz H hv
  have:=hrun [u] (by rw [hrs];simp [hu])
  exact ⟨u,by rw [hres];simp [this],hr⟩
 ·rename_i hne
  simp only [Option.map_eq_some_iff] at hv
  obtain ⟨vs,hvs,rfl⟩:=hv
  obtain ⟨us,hus,hl,hl2,hr⟩:=oA H _ vs hvs
  have h1:us.toArray.size≠1:=by
   intro e
   have e2:fn.results.toList.length=1:=by rw [←hl2,←hl];simpa using e
   obtain ⟨r,hr⟩:=List.length_eq_one_iff.1 e2
   exact hne r hr
  refine ⟨.tuple us.toArray,?_,sB hl hr⟩
  rw [hres]
  have:=hrun us hus
  simp only [Sem.run_bind,this,Result.andThen_ok]
  rw [dif_neg h1]
  rfl
theorem oB (h:aa) (d s:Nat):ac (h++[[]]) d s=ac h d s:=by
 unfold ac
 congr 1
 simp only [List.getD_eq_getElem?_getD]
 rw [List.getElem?_append]
 split
 ·rfl
 ·rename_i hd
  rw [List.getElem?_eq_none (by omega:h.length≤d)]
  cases hx:d-h.length<;>simp
theorem oC (h:aa) (k d s:Nat):ac (h.take k) d s=if d<k then ac h d s else ae:=by
 unfold ac
 simp only [List.getD_eq_getElem?_getD]
 rw [List.getElem?_take]
 split
 ·rfl
 ·simp
theorem af.sub {h':aa} (H:af σ I base w h) (hh: ∀d s,ac h' d s=ac h d s∨ac h' d s=ae):af σ I base w h' where
 inW:=H.inW
 rows d s:=by rcases hh d s with e | e<;>rw [e];exact H.rows d s;trivial
 apart d s d' s' b h1 h2:=by
  rcases hh d s with e | e<;>rw [e] at h1
  ·rcases hh d' s' with e' | e'<;>rw [e'] at h2
   ·exact H.apart d s d' s' b h1 h2
   ·simp [aj,ae] at h2
  ·simp [aj,ae] at h1
theorem af.append (H:af σ I base w h):af σ I base w (h++[[]]):=H.sub fun d s=> .inl (oB h d s)
theorem af.take (H:af σ I base w h) (k:Nat):af σ I base w (h.take k):=H.sub fun d s=>by
 rw [oC];split
 ·exact .inl rfl
 ·exact .inr rfl
theorem ga (d s:Nat):ac [[]] d s=ae:=by
 have:=oB [] d s
 simp only [List.nil_append] at this
 rw [this]
 simp [ac]
theorem oD {σc:aq} {base':ah} {h2 h3 hc:aa} {dc slot gen:Nat} {v v':AV} {u:Value} (H2:af σ I base w h2) (Hc:af σc I base' w hc) (hbase: ∀b,¬base' b→ ¬base b) (hr:ab σc I w v u)
  (he:iS dc hc v d slot gen h2=some (v',h3)) (hg:σ gen=none) (hap: ∀d s s' b,aj σ (ac h2 d s)=some b→aj σc (ac hc dc s')≠some b):
  ∃x,ab (bf σ gen x) I w v' u∧af (bf σ gen x) I base w h3:=by
 unfold iS at he
 split at he
 ·rename_i d' s' g' off n full
  split at he
  ·rename_i hd
   subst hd
   split at he
   ·rename_i k e xs fz hl
    simp only [Option.some.injEq,Prod.mk.injEq] at he
    obtain ⟨rfl,rfl⟩:=he
    have hrow:=Hc.live hl (by simp)
    have hlr:=cQ hl (by simp)
    obtain ⟨b,o,m,hs,hsh,hm,hx,hcc,hz⟩:=hrow
    cases hr with
    | msl _ _ _ _ _ _ b' o' k' cap ad had hs' hn hfull hroom=>
     rw [hs] at hs'
     simp only [Option.some.injEq,Prod.mk.injEq] at hs'
     obtain ⟨rfl,rfl,rfl⟩:=hs'
     refine ⟨(b,o,k),.msl _ _ _ _ _ _ b o k cap ad had (bj ..) hn hfull hroom,?_⟩
     refine H2.put (cl hg) (fun _ h=>h) (aO.refl I w) H2.inW d slot _ ?_ ?_
     ·refine ⟨b,o,m,bj ..,hsh,hm,hx,hcc,?_⟩
      cases fz with
      | true=>exact hz
      | false=>exact ⟨hz.1,hbase _ hz.2.1,hz.2.2⟩
     ·intro d2 s2 b2 _ hb2
      refine ⟨rfl,(aY (H2.rows d2 s2) hb2).2.1,fun hq=> ?_⟩
      refine hap d2 s2 s' b2 hb2 ?_
      rw [hlr]
      cases fz with
      | true=>simp [aj] at hq
      | false=>
       simp only [aj,bj,Option.map_some,Option.some.injEq] at hq
       simp [aj,hs,hq]
   ·cases he
  ·cases he
 ·rename_i d' s' g' off
  split at he
  ·rename_i hd
   subst hd
   split at he
   ·rename_i p hl
    simp only [Option.some.injEq,Prod.mk.injEq] at he
    obtain ⟨rfl,rfl⟩:=he
    have hrow:=Hc.live hl (by simp)
    have hlr:=cQ hl (by simp)
    obtain ⟨b,e,hs,hsh,hok,hcc,hz⟩:=hrow
    cases hr with
    | mptr _ _ _ _ _ b' o' k' hs'=>
     rw [hs] at hs'
     simp only [Option.some.injEq,Prod.mk.injEq] at hs'
     obtain ⟨rfl,rfl,rfl⟩:=hs'
     refine ⟨(b,0,1),.mptr _ _ _ _ _ b 0 1 (bj ..),?_⟩
     refine H2.put (cl hg) (fun _ h=>h) (aO.refl I w) H2.inW d slot _ ?_ ?_
     ·refine ⟨b,e,bj ..,hsh,hok,fun j q hq=> ?_,hz.1,hbase _ hz.2.1,hz.2.2⟩
      obtain ⟨u,h1,h2,h3⟩:=hcc j q hq
      refine ⟨u,h1,h2,?_⟩
      simp only [AV.cells,List.getElem?_map,Option.map_eq_some_iff] at hq
      obtain ⟨q',_,rfl⟩:=hq
      cases h3 with
      | pv _ _ h3=>exact .pv _ _ h3
     ·intro d2 s2 b2 _ hb2
      refine ⟨rfl,(aY (H2.rows d2 s2) hb2).2.1,fun hq=> ?_⟩
      refine hap d2 s2 s' b2 hb2 ?_
      rw [hlr]
      simp only [aj,bj,Option.map_some,Option.some.injEq] at hq
      simp [aj,hs,hq]
   ·cases he
  ·cases he
 ·cases he
structure ez (σ:aq) (I:ah) (base:ah) (w:World) (g:Nat) (v:AV) (h':aa) (g':Nat) (u:Value) (w':World) (σ':aq) (I':ah):Prop where
 rep:ab σ' I' w' v u
 heap:af σ' I' base w' h'
 ext:aB base σ I w σ' I' w'
 low: ∀k,k<g→σ' k=σ k
 high: ∀k,g'≤k→σ' k=none
 grow:g≤g'
theorem oE {P:Program} {fn:Func} {tmps:Array Value} {R:Ending→World→Prop} {lo:Nat} (I:ah) (w0:World): ∀(ds:List Deferred) (w:World),(∀x∈ds,∃D,lo≤D∧x= { target:= .collected D,args:= #[]} ∧w.heap[D]? =some (Obj.deferred (some [])))→ds.Nodup→
  (∀w':World,(∀b:Nat,(∀x:Obj,w.heap[b]? =some x→x≠Obj.deferred (some []))→w'.heap[b]? =w.heap[b]?)→(∀b:Nat,b<lo→w'.heap[b]? =w.heap[b]?)→w'.heap.size=w.heap.size→w'.os=w.os∧w'.tape=w.tape∧w'.output=w.output→
   ∃v,(results fn tmps).run P w'= .ok v w'∧R (.returned v) w')→LeavesInM (WF none) 0 P fn tmps R ds .returning w
 | [],w,_,_,h=>h w (fun _ _=>rfl) (fun _ _=>rfl) rfl ⟨rfl,rfl,rfl⟩
 | d::ds,w,hm,hnd,h=>by
  obtain ⟨D,hD,rfl,hh⟩:=hm d (by simp)
  have hlt:=cj hh
  have hoth: ∀b,b≠D→(w.putObj D (.deferred none)).heap[b]? =w.heap[b]? :=fun b hb=>World.putObj_heap_other hb
  refine ⟨by simp,.inl ⟨D,_,rfl,run_takeDeferred hh,?_⟩⟩
  refine oE (lo:=lo) I w0 ds _ (fun x hx=> ?_) (List.nodup_cons.1 hnd).2 fun w' h1 h2 h3 h4=>h w' (fun b hb=> ?_) (fun b hb=> ?_) ?_ h4
  ·obtain ⟨D',d1,rfl,d3⟩:=hm x (by simp [hx])
   have hne:D'≠D:=fun e=>by subst e;exact (List.nodup_cons.1 hnd).1 hx
   exact ⟨D',d1,rfl,by rw [hoth D' hne];exact d3⟩
  ·have hne:b≠D:=fun e=>by subst e;exact hb _ hh rfl
   rw [h1 b (fun x hx=>by rw [hoth b hne] at hx;exact hb x hx),hoth b hne]
  ·rw [h2 b hb,hoth b (by omega)]
  ·rw [h3];simp [World.putObj]
theorem sD (n:Nat) (l:List AV) (i:Nat):bz (c3 n l) i=bz l i:=by
 unfold bz c3
 by_cases hi:i<l.length
 ·simp [List.getD_eq_getElem?_getD,List.getElem?_append_left hi]
 ·have h0:l[i]? =none:=List.getElem?_eq_none (by omega)
  simp only [List.getD_eq_getElem?_getD,h0,Option.getD_none,List.getElem?_append_right (by omega:l.length≤i),List.getElem?_replicate]
  split<;>rfl
theorem sE (n d:Nat) (h:aa) (d' s:Nat):ac (c4 n d h) d' s=ac h d' s:=by
 unfold ac c4
 rw [dv]
 by_cases hd:d=d'
 ·subst hd
  simp only [if_true]
  by_cases hi:s<(h.getD d []).length
  ·simp only [List.getD_eq_getElem?_getD (l:=_++_),List.getElem?_append_left hi]
   simp only [List.getD_eq_getElem?_getD]
  ·have h0:(h.getD d [])[s]? =none:=List.getElem?_eq_none (by omega)
   rw [List.getD_eq_getElem?_getD (l:=_++_),List.getElem?_append_right (by omega),List.getElem?_replicate,List.getD_eq_getElem?_getD (l:=h.getD d []),h0]
   split<;>rfl
 ·simp [hd]
theorem oF {f:FuncId} {fn:Func} {c:Code} (hc:fn.body=some c) (hf:E.P.funcs[f]? =some fn) (hwf:b9 E fn=true) {g:Nat} {args:List AV} {us:List Value} {L:List (av×St)}
  (hcode:fm E ⟨fn.ntmps,base,w.heap.size,none⟩ ys c { t:=c3 fn.ntmps args,h:=c4 fn.ntmps d h,g:=g} L)
  (hend: ∀q∈L,(q.1= .normal∨q.1= .ret)∧ ∃v',b3 E.P fn q.2.h q.2.t=some v')
  (hys:bK E ys σ I w) (H:af σ I base w h) (hB:aW base w.heap.size) (hl:us.length=args.length)
  (hr: ∀(j:Nat) (p:AV) (u:Value),args[j]? =some p→us[j]? =some u→ab σ I w p u) (hfr: ∀k,g≤k→σ k=none):
  bE E.P f us.toArray w fun u w'=> ∃q,q∈L∧ ∃v',b3 E.P fn q.2.h q.2.t=some v'∧ ∃σ' I',ez σ I base w g v' q.2.h q.2.g u w' σ' I':=by
 simp only [b9,hc,Bool.and_eq_true,Bool.not_eq_true'] at hwf
 have hname:=hwf.1
 have hrun:(callFunc f us.toArray).run E.P w= .ok (.enter f us.toArray) w:=by
  simp only [beq_eq_false_iff_ne,ne_eq] at hname
  simp [callFunc,hf,hc,hname]
 generalize hR:(fun (u:Value) (w':World)=> ∃q,q∈L∧ ∃v',b3 E.P fn q.2.h q.2.t=some v'∧ ∃σ' I',ez σ I base w g v' q.2.h q.2.g u w' σ' I')=R
 refine .inr (.inl ⟨hrun,?_⟩)
 refine (callsIn_wide (n:=0)).1 (callsIn_of_wp_marks (F:=WF none) hf hc trivial ?_)
 have H0:bB ⟨fn.ntmps,base,w.heap.size,none⟩ σ I w { t:=c3 fn.ntmps args,h:=c4 fn.ntmps d h,g:=g} { tmps:=us.toArray++Array.replicate (fn.ntmps-us.toArray.size) undef,defers:=[]} :=by
  refine ⟨fun i=> ?_,H.sub fun d' s'=> .inl (sE _ _ _ _ _),hfr,hB,by simp;omega,fun x hx=>by simp at hx,List.nodup_nil,fun l hl=>(by cases hl),hB,Nat.le_refl _⟩
  rw [jB]
  simp only [sD]
  simp only [bz]
  by_cases hi:i<args.length
  ·have h1:args.getD i bb=args[i]:=by simp [hi]
   have h2:(us.toArray++Array.replicate (fn.ntmps-us.toArray.size) undef)[i]? =some us[i]:=by
    rw [Array.getElem?_append_left (by simp;omega)]
    simp
   rw [h1,h2]
   exact hr i _ _ (by simp [hi]) (by simp)
  ·have h1:args.getD i bb=bb:=by simp [List.getElem?_eq_none (by omega:args.length≤i)]
   have h2:((us.toArray++Array.replicate (fn.ntmps-us.toArray.size) undef)[i]?).getD undef=undef:=by
    rw [Array.getElem?_append_right (by simp;omega),Array.getElem?_replicate]
    split<;>rfl
   rw [h1,h2]
   exact .pv _ _ (.lit _)
 refine hcode σ I w _ _ H0 hys fun q hq σ' I' w' a' hd=> ?_
 obtain ⟨x,s⟩:=q
 obtain ⟨hx,v',hres⟩:=hend _ hq
 simp only at hx hres hd
 have hleave:LeavesInM (WF none) 0 E.P fn a'.tmps (fun | .returned u,w'=>R u w' | _,_=>False) a'.defers .returning w':=by
  refine oE (lo:=w.heap.size) I w a'.defers w' hd.rel.marks hd.rel.nodup fun w2 h1 h2 h3 h4=> ?_
  have hsh: ∀b e n,w'.shape? b=some (e,n)→w2.heap[b]? =w'.heap[b]? :=fun b e n hb=>h1 b fun x hx e'=>by
   subst e'
   unfold World.shape? at hb
   rw [hx] at hb
   cases hb
  have hkI: ∀b,I' b→w2.heap[b]? =w'.heap[b]? :=fun b hb=>let ⟨o,h,hn⟩:=hd.rel.heap.inW b hb;h1 b fun x hx e'=>by rw [h] at hx;injection hx with hx;subst hx;exact hn e'
  have hrow: ∀d s' b,aj σ' (ac s.h d s')=some b→w2.heap[b]? =w'.heap[b]? :=by
   intro d s' b hb
   have hR:=hd.rel.heap.rows d s'
   generalize ac s.h d s'=r at hR hb
   obtain ⟨gr,bd⟩:=r
   cases bd with
   | dead=>simp [aj] at hb
   | box v0 fz=>
    obtain ⟨b',e,hs',hsh',_⟩:=hR
    cases fz with
    | true=>simp [aj] at hb
    | false=>simp [aj,hs'] at hb;subst hb;exact hsh _ _ _ hsh'
   | row k e xs fz=>
    obtain ⟨b',o,n,hs',hsh',_⟩:=hR
    cases fz with
    | true=>simp [aj] at hb
    | false=>simp [aj,hs'] at hb;subst hb;exact hsh _ _ _ hsh'
   | iter st pos=>
    obtain ⟨b',k,hs',hh,_⟩:=hR
    simp [aj,hs'] at hb
    subst hb
    exact h1 _ fun x hx e'=>by rw [hh] at hx;injection hx with hx;subst hx;cases e'
   | lp st=>
    obtain ⟨b',k,hs',⟨r,hh,_⟩,_⟩:=hR
    simp [aj,hs'] at hb
    subst hb
    exact h1 _ fun x hx e'=>by rw [hh] at hx;injection hx with hx;subst hx;cases e'
   | map clock es=>
    obtain ⟨b',k,hs',⟨r,hh,_⟩,_⟩:=hR
    simp [aj,hs'] at hb
    subst hb
    exact h1 _ fun x hx e'=>by rw [hh] at hx;injection hx with hx;subst hx;cases e'
   | mit m since seen last=>
    obtain ⟨b',k,hs',⟨r,hh,_⟩,_⟩:=hR
    simp [aj,hs'] at hb
    subst hb
    exact h1 _ fun x hx e'=>by rw [hh] at hx;injection hx with hx;subst hx;cases e'
  have hk0:dw I' w' w2:=⟨hkI,fun b e n hb=>by rw [fN (hsh b e n hb)];exact hb⟩
  have hH2:af σ' I' base w2 s.h:=hd.rel.heap.keep (fun _ _ h=>h) (fun _ h=>h) hk0 (fun b hb=>(hd.rel.heap.inW b hb).keep (hkI b hb)) fun d s' b hb=>⟨hrow d s' b hb,(aY (hd.rel.heap.rows d s') hb).2.1⟩
  have hS2:bB ⟨fn.ntmps,base,w2.heap.size,none⟩ σ' I' w2 s { a' with defers:=[]} :=
   ⟨fun i=>(hd.rel.tmp i).mono (fun _ _ h=>h) (fun _ h=>h) hk0,hH2,hd.rel.fresh,hd.rel.hb.mono (Nat.le_of_eq h3.symm),hd.rel.hn,fun x hx=>by simp at hx,List.nodup_nil,fun l hl=>(by cases hl),hd.rel.hb.mono (Nat.le_of_eq h3.symm),
    Nat.le_refl _⟩
  obtain ⟨u,hu,hrep⟩:=sC hS2 hres
  refine ⟨u,hu,?_⟩
  subst hR
  refine ⟨(x,s),hq,v',hres,σ',I',hrep,hH2,⟨hd.ext.sig,hd.ext.blk,hd.ext.new,⟨fun b hb=> ?_,fun b e n hb=> ?_,fun b r hb=> ?_,fun b hb=> ?_⟩,⟨?_,?_,?_,?_,fun k hk=> ?_⟩⟩,hd.low,hd.rel.fresh,hd.grow⟩
  ·rw [hkI b (hd.ext.blk b hb)];exact hd.ext.kp.keep b hb
  ·exact hk0.shape b e n (hd.ext.kp.shape b e n hb)
  ·obtain ⟨r',hr1,hr2⟩:=hd.ext.kp.loop b r hb
   exact ⟨r',by rw [h1 b (fun x hx e'=>by rw [hr1] at hx;injection hx with hx;subst hx;cases e')];exact hr1,hr2⟩
  ·rw [h2 b (cj hb)];exact hd.ext.kp.dfr b hb
  ·rw [h4.1];exact hd.ext.below.os
  ·rw [h4.2.1];exact hd.ext.below.tape
  ·rw [h4.2.2];exact hd.ext.below.output
  ·rw [h3];exact hd.ext.below.size
  ·rw [h2 k (hB k hk)];exact hd.ext.below.block k hk
 rcases hx with rfl | rfl
 ·exact hleave
 ·exact hleave
theorem k6 (hcall:dB E call) (hfz:cR E call) (hmix:E.P.follows .mixedOrders=true) (hent: ∀f,fH E f=true→ ∀args w,(callFunc f args).run E.P w= .ok (.enter f args) w) {f:FuncId} {fn:Func} (hf:E.P.funcs[f]? =some fn) (hwf:b9 E fn=true) {fuel g g':Nat} {args:List AV} {v:AV} {h':aa} {us:List Value}
  (hb:dp E call ys fuel fn d args h g=some (v,h',g')) (hys:bK E ys σ I w) (H:af σ I base w h) (hB:aW base w.heap.size) (hl:us.length=args.length)
  (hr: ∀(j:Nat) (p:AV) (u:Value),args[j]? =some p→us[j]? =some u→ab σ I w p u) (hfr: ∀k,g≤k→σ k=none):
  bE E.P f us.toArray w fun u w'=> ∃σ' I',ez σ I base w g v h' g' u w' σ' I':=by
 unfold dp at hb
 simp only [Option.bind_eq_some_iff] at hb
 obtain ⟨c,hc,hb⟩:=hb
 have hwf':=hwf
 simp only [b9,hc,Bool.and_eq_true,Bool.not_eq_true'] at hwf'
 have key: ∀(x:av) (s:St),aK E call ys d fuel c { t:=c3 fn.ntmps args,h:=c4 fn.ntmps d h,g:=g} =some (x,s)→(x= .normal∨x= .ret)→(b3 E.P fn s.h s.t).map (fun v=>(v,s.h,s.g))=some (v,h',g')→
   bE E.P f us.toArray w fun u w'=> ∃σ' I',ez σ I base w g v h' g' u w' σ' I':=by
  intro x s hs hx hres
  simp only [Option.map_eq_some_iff,Prod.mk.injEq] at hres
  obtain ⟨v',hres,rfl,rfl,rfl⟩:=hres
  refine (oF hc hf hwf (dE hcall hfz hmix hent c ⟨fn.ntmps,base,w.heap.size,none⟩ hwf'.2 _ x s hs).nd (fun q hq=> ?_) hys H hB hl hr hfr).mono ?_
  ·rw [List.mem_singleton.1 hq];exact ⟨hx,v',hres⟩
  ·rintro u w' ⟨q,hq,v2,hr2,hp⟩
   rw [List.mem_singleton.1 hq] at hr2 hp
   rw [hres] at hr2
   injection hr2 with hr2
   rw [hr2]
   exact hp
 split at hb
 ·rename_i s hs;exact key _ s hs (.inl rfl) hb
 ·rename_i s hs;exact key _ s hs (.inr rfl) hb
 ·cases hb
theorem oG {P:Program} {fn:Func} {q:av×St} {r:AV×aa×Nat} (h:iX P fn q=some r):(q.1= .normal∨q.1= .ret)∧b3 P fn q.2.h q.2.t=some r.1∧r.2.1=q.2.h∧r.2.2=q.2.g:=by
 unfold iX at h
 split at h
 ·simp only [Option.map_eq_some_iff] at h
  obtain ⟨v,h1,rfl⟩:=h
  exact ⟨.inl rfl,h1,rfl,rfl⟩
 ·simp only [Option.map_eq_some_iff] at h
  obtain ⟨v,h1,rfl⟩:=h
  exact ⟨.inr rfl,h1,rfl,rfl⟩
 ·cases h
def cS (P:Program) (f:FuncId) (us:Array Value) (w:World) (I:ah) (r:PV):Prop:=bE P f us w fun u w'=> ∃I':ah,am I' w' r u∧(∀b,I b→I' b)∧(∀b,I' b→I b∨w.heap.size≤b)∧
 Below w.heap.size w w'∧ ∀b,I' b→bn w' b
structure jE (P:Program) (gl:ah→World→Prop) (asm:TypeId→Bool) (f:FuncId) (t2 t1:TypeId):Prop where
 miss: ∀(I:ah) (w:World) (ty:TypeId) (x:Value) (t:Nat) (old:Value),asm ty=true→gl I w→w.cell? ⟨t,0,none⟩=some old→w.frozen? ⟨t,0,none⟩=false→
  bE P f #[.iface ty x,.iface t2 (.pointer (some ⟨t,0,none⟩))] w fun u w'=>u= .bool false∧Below w.heap.size w w'
 no: ∀(x:Value) (w:World),bE P f #[.nilIface,x] w fun u w'=>u= .bool false∧w'=w
 hit: ∀(I:ah) (w:World) (e:Addr) (t:Nat) (old:Value),gl I w→w.cell? ⟨t,0,none⟩=some old→w.frozen? ⟨t,0,none⟩=false→
  bE P f #[.iface t1 (.pointer (some e)),.iface t2 (.pointer (some ⟨t,0,none⟩))] w fun u w'=>u= .bool true∧ ∃w1,Below w.heap.size w w1∧w'=w1.setCell ⟨t,0,none⟩ (.pointer (some e))
structure k7 (P:Program) (f:FuncId) (T:TypeId):Prop where
 fresh: ∀(b:Nat) (w:World),w.cell? ⟨b,0,none⟩=some (.pointer none)→w.shape? b=some (T,2)→w.frozen? ⟨b,0,none⟩=false→
  bE P f #[.pointer (some ⟨b,0,none⟩)] w fun u w'=>u= .tuple #[]∧w'=w.setCell ⟨b,0,none⟩ (.pointer (some ⟨b,0,none⟩))
 used: ∀(b:Nat) (w:World),w.cell? ⟨b,0,none⟩=some (.pointer (some ⟨b,0,none⟩))→bE P f #[.pointer (some ⟨b,0,none⟩)] w fun u w'=>u= .tuple #[]∧w'=w
structure dI (E:ap):Prop where
 ck: ∀(f:FuncId) (T:TypeId),E.ckf f=some T→k7 E.P f T
 asw: ∀(f:FuncId) (t2 t1:TypeId),E.asf f t2=some t1→jE E.P E.gl E.asm f t2 t1
 mixed:E.P.follows .mixedOrders=true
 wf: ∀(f:FuncId) (fn:Func),E.ok f=true→E.P.funcs[f]? =some fn→b9 E fn=true
 intr: ∀(f:FuncId) (F:List PV→Option PV),E.intr f=some F→ ∀(ps:List PV) (r:PV),F ps=some r→ ∀(I:ah) (w:World) (us:List Value),Gl E I w→us.length=ps.length→
  (∀(j:Nat) (p:PV) (u:Value),ps[j]? =some p→us[j]? =some u→am I w p u)→(∀b,I b→bn w b)→cS E.P f us.toArray w I r
theorem jF (hE:dI E) (f:FuncId) (he:fH E f=true) (args:Array Value) (w:World):(callFunc f args).run E.P w= .ok (.enter f args) w:=by
 unfold fH at he
 simp only [Bool.and_eq_true] at he
 obtain ⟨⟨h1,h2⟩,h3⟩:=he
 split at h3
 ·rename_i fn hfn
  have hwf:=hE.wf f fn h1 hfn
  simp only [b9,Bool.and_eq_true,Bool.not_eq_true',beq_eq_false_iff_ne,ne_eq] at hwf
  cases hb:fn.body with
  | none=>rw [hb] at h3;cases h3
  | some c=>simp [callFunc,hfn,hb,hwf.1]
 ·cases h3
theorem ic {I':ah} {w':World} (H:af σ I base w h) (hB:aW base w.heap.size) (hI: ∀b,I b→I' b) (hN: ∀b,I' b→I b∨w.heap.size≤b) (hw:Below w.heap.size w w') (hin: ∀b,I' b→bn w' b):
  af σ I' base w' h∧aB base σ I w σ I' w':=by
 have hk:aO I w w':=⟨fun b hb=>hw.block b (H.lt b hb),fun b e n hs=>by rw [fN (hw.block b (gN hs))];exact hs,
  fun b r hr=>⟨r,by rw [hw.block b (cj hr)];exact hr,bP.refl r⟩,fun b hb=>by rw [hw.block b (cj hb)];exact hb⟩
 refine ⟨H.keep (fun _ _ h=>h) hI hk hin fun d s b hb=> ?_,⟨fun _ _ h=>h,hI,fun b hb=>(hN b hb).imp id (fun h1 h2=>Nat.lt_irrefl _ (Nat.lt_of_lt_of_le (hB b h2) h1)),hk,bT.of_below hw hB⟩⟩
 obtain ⟨h1,h2,h3⟩:=aY (H.rows d s) hb
 exact ⟨hw.block b h1,fun hb'=>(hN b hb').elim h2 (by omega)⟩
theorem k8 {ps:List PV} {us:List Value} {σ:aq} (hr: ∀(j:Nat) (p:PV) (u:Value),ps[j]? =some p→us[j]? =some u→am I w p u):
  ∀(j:Nat) (p:AV) (u:Value),(ps.map AV.pv)[j]? =some p→us[j]? =some u→ab σ I w p u:=by
 intro j p u hp hu
 simp only [List.getElem?_map,Option.map_eq_some_iff] at hp
 obtain ⟨q,hq,rfl⟩:=hp
 exact .pv _ _ (hr j q u hq hu)
theorem sF (H:af σ I base w h):af (fun _=>none) I (cw w) w [[]] where
 inW:=H.inW
 rows d s:=by rw [ga];trivial
 apart d s d' s' b h1:=by rw [ga] at h1;simp [aj,ae] at h1
theorem ez.pure {σ':aq} {I':ah} {w':World} {g g':Nat} {v:AV} {hc h2:aa} {u:Value} {p:PV} {k:Nat} (hp:ez (fun _=>none) I (cw w) w g v hc g' u w' σ' I') (hf:frz k v hc=some (p,h2)):
  ∃I'',am I'' w' p u∧(∀b,I b→I'' b)∧(∀b,I'' b→I b∨w.heap.size≤b)∧Below w.heap.size w w'∧ ∀b,I'' b→bn w' b:=by
 obtain ⟨I2,hpr,H2,m⟩:=fQ k v hc p h2 u I' hf hp.rep hp.heap
 refine ⟨I2,hpr,fun b hb=>m.1 b (hp.ext.blk b hb),fun b hb=> ?_,hp.ext.below.below,H2.inW⟩
 rcases m.2 b hb with h | h
 ·exact (hp.ext.new b h).imp id Nat.le_of_not_lt
 ·exact .inr (Nat.le_of_not_lt h)
theorem jG (E:ap): ∀n,cR E (aL E n)
 | 0=>fun f args _ _ _ _=>⟨fun _=>none,fun ys d slot gen h g=>by cases bi ao args h<;>rfl⟩
 | n+1=>fun f args hown hinl hrd hm=>by
  have has: ∀h,ef E f args h=none:=fun h=>by
   unfold ef
   split
   ·unfold eZ
    split
    ·simp [bc,ao] at hm
    ·rfl
   ·unfold eY
    split
    ·simp [bc,ao] at hm
    ·rfl
  cases hi:E.intr f with
  | some F=>
   refine ⟨F,fun ys d slot gen h g=> ?_⟩
   simp only [aL,hi]
  | none=>
   cases hf:E.P.funcs[f]? with
   | none=>exact ⟨fun _=>none,fun ys d slot gen h g=>by simp only [aL,hi,hf];cases bi ao args h<;>rfl⟩
   | some fn=>
    by_cases hok:E.ok f=false
    ·exact ⟨fun _=>none,fun ys d slot gen h g=>by simp only [aL,hi,hf,hok,if_true,has];cases bi ao args h<;>rfl⟩
    ·refine ⟨fun ps=>(dp E (aL E n) [] n fn 0 (ps.map .pv) [[]] 0).bind fun (v,hc,_)=>(frz ao v hc).map fun (p,_)=>p,fun ys d slot gen h g=> ?_⟩
     simp only [aL,hi,hf,hok,hinl,hown,hm,hrd,Bool.and_false,gK]
     cases bi ao args h with
     | none=>rfl
     | some q=>
      obtain ⟨ps,h1⟩:=q
      simp only [Option.bind_some,Bool.or_self,Bool.false_eq_true,if_false]
      cases dp E (aL E n) [] n fn 0 (ps.map .pv) [[]] 0 with
      | none=>rfl
      | some q=>
       obtain ⟨v,hc,g2⟩:=q
       simp only [Option.bind_some]
       cases frz ao v hc with
       | none=>rfl
       | some q=>rfl
theorem sG {t:TypeId} {v:AV} {u:Value} (hr:ab σ I w (.ifc t v) u): ∃u0,u= .iface t u0∧ab σ I w v u0:=by
 cases hr with
 | ifc _ _ u h=>exact ⟨u,rfl,h⟩
theorem oH {t:TypeId} {p:PV} {u:Value} (hr:am I w (.iface t p) u): ∃u0,u= .iface t u0∧am I w p u0:=by
 cases hr with
 | iface _ _ u h=>exact ⟨u,rfl,h⟩
theorem oI {f:FuncId} {t2 t1 ty:TypeId} {d s g0 b o k gen g:Nat} {old p:PV} {ue:Value} (hA:jE E.P E.gl E.asm f t2 t1) (hm:(E.asm ty&& !old.isAgg)=true) (hG:Gl E I w) (H:af σ I base w h) (hB:aW base w.heap.size) (hfr: ∀k,g≤k→σ k=none)
  (hs:σ g0=some (b,o,k)) (hl:Abs.live h d s g0= .box (.pv old) false) (he:ab σ I w (.pv (.iface ty p)) ue):
  bE E.P f #[ue,.iface t2 (.pointer (some ⟨b,o,none⟩))] w fun u w'=> ∃σ' I',dA σ I base w gen g (aU (.bool false)) h g u w' σ' I':=by
 obtain ⟨x,rfl,_⟩:=oH (aG he)
 have hcell:=H.live hl (by simp)
 obtain ⟨b',e,hs',hsh,hok,hc,hz⟩:=hcell
 rw [hs] at hs'
 simp only [Option.some.injEq,Prod.mk.injEq] at hs'
 obtain ⟨rfl,rfl,rfl⟩:=hs'
 have h0: ∃q,(AV.pv old).cells[0]? =some q:=by
  have hlen:0<(AV.pv old).cells.length:=by
   simp only [Bool.and_eq_true,Bool.not_eq_true'] at hm
   simp [AV.cells,kG hm.2]
  exact ⟨_,List.getElem?_eq_getElem hlen⟩
 obtain ⟨q,hq⟩:=h0
 obtain ⟨u,hu,_,_⟩:=hc 0 q hq
 have hlen0:0<(AV.pv old).cells.length:=(List.getElem?_eq_some_iff.1 hq).1
 refine (hA.miss I w ty x b u (by simp only [Bool.and_eq_true] at hm;exact hm.1) hG hu (hz.2.2 0 hlen0)).mono ?_
 rintro u w' ⟨rfl,hw⟩
 obtain ⟨H1,hx⟩:=ic (I':=I) H hB (fun _ h=>h) (fun _ h=> .inl h) hw (fun b hb=>(H.inW b hb).keep (hw.block b (H.lt b hb)))
 exact ⟨σ,I,.pv _ _ (.lit _),H1,hx,fun _ _ _=>rfl,hfr,Nat.le_refl _⟩
theorem sH (hE:dI E) {f:FuncId} {args:List AV} {gen g:Nat} {v:AV} {h':aa} {us:List Value} (ha:eY E f args h=some (v,h')) (hG:Gl E I w) (H:af σ I base w h) (hB:aW base w.heap.size)
  (hl:us.length=args.length) (hr: ∀(j:Nat) (p:AV) (u:Value),args[j]? =some p→us[j]? =some u→ab σ I w p u) (hg:σ gen=none) (hlt:gen<g) (hfr: ∀k,g≤k→σ k=none):
  bE E.P f us.toArray w fun u w'=> ∃σ' I',dA σ I base w gen g v h' g u w' σ' I':=by
 unfold eY at ha
 split at ha
 rotate_left
 ·cases ha
 rename_i e t2 d s g0
 simp only [Option.bind_eq_some_iff] at ha
 obtain ⟨t1,ht1,ha⟩:=ha
 have hA:=hE.asw f t2 t1 ht1
 match us,hl with
 | [ue,ut],_=>
  have he:=hr 0 _ ue rfl rfl
  have ht:=hr 1 _ ut rfl rfl
  obtain ⟨ut,rfl,ht2⟩:=sG ht
  obtain ⟨b,o,k,hs,rfl⟩:=cp ht2
  simp only [Nat.zero_mul,Nat.add_zero] at*
  split at ha
  ·rename_i old t r o1 hlive hlx
   split at ha
   rotate_left
   ·split at ha
    rotate_left
    ·cases ha
    rename_i hm
    simp only [Option.some.injEq,Prod.mk.injEq] at ha
    obtain ⟨rfl,rfl⟩:=ha
    exact oI hA hm hG H hB hfr hs hlive he
   rename_i hc
   obtain ⟨rfl,hok,hag⟩:=hc
   simp only [Option.some.injEq,Prod.mk.injEq] at ha
   obtain ⟨rfl,rfl⟩:=ha
   have hpe:=aG he
   obtain ⟨ue,rfl,hpe2⟩:=oH hpe
   obtain ⟨b1,ob1,vs,rfl,hI1,_⟩:=jq hpe2
   have hcs:old.cells=[old]:=kG hag
   obtain ⟨b0,k0,e0,u0',hs0,hsh,hok',hru,hz,hf,h1c,hsz,hcell⟩:=dU (H.live hlive (by simp))
   rw [hs] at hs0
   simp only [Option.some.injEq,Prod.mk.injEq] at hs0
   obtain ⟨rfl,rfl,rfl⟩:=hs0
   subst hf
   have hlen1:(AV.pv old).cells.length=1:=by simp [AV.cells,hcs]
   rw [hlen1] at hsz hz
   have hu0: ∃x,u0'.cells[0]? =some x:=⟨u0'.cells[0],Array.getElem?_eq_getElem (by omega)⟩
   obtain ⟨x0,hx0⟩:=hu0
   refine (hA.hit I w ⟨b1,ob1+o1,none⟩ b x0 hG (hcell 0 x0 hx0) (hz.2.2 0 (by omega))).mono ?_
   rintro u w' ⟨rfl,w1,hw,rfl⟩
   obtain ⟨H1,hx⟩:=ic (I':=I) H hB (fun _ h=>h) (fun _ h=> .inl h) hw (fun b hb=>(H.inW b hb).keep (hw.block b (H.lt b hb)))
   have hput:=kH (off:=0) (new:=[.pv (.ptr r o1)]) (vs:=[.pointer (some ⟨b1,ob1+o1,none⟩)]) (v':= .pv (.ptr r o1)) H1 hlive hs rfl (by simp [Value.oneCell'])
    (fun j p u hp hu=>by
     match j with
     | 0=>simp at hp hu;subst hp;subst hu;exact hx.rep (.pv _ _ hpe2)
     | j+1=>simp at hp) (by simp) (by simp [cX,AV.cells,AV.isAgg,AV.isTag,hcs,hag])
   exact ⟨σ,I,.pv _ _ (.lit _),hput.1,hx.trans hput.2.1,fun _ _ _=>rfl,hfr,Nat.le_refl _⟩
  ·rename_i old t p hlive _
   split at ha
   rotate_left
   ·cases ha
   rename_i hm
   simp only [Option.some.injEq,Prod.mk.injEq] at ha
   obtain ⟨rfl,rfl⟩:=ha
   exact oI hA hm hG H hB hfr hs hlive he
  ·rename_i he0
   simp only [Option.some.injEq,Prod.mk.injEq] at ha
   obtain ⟨rfl,rfl⟩:=ha
   have hpe:=aG he
   cases hpe
   refine (hA.no _ w).mono ?_
   rintro u w' ⟨rfl,rfl⟩
   exact ⟨σ,I,.pv _ _ (.lit _),H,aB.refl _ _ _ _,fun _ _ _=>rfl,hfr,Nat.le_refl _⟩
  ·cases ha
theorem sI (hE:dI E) {f:FuncId} {args:List AV} {gen g:Nat} {v:AV} {h':aa} {us:List Value} (ha:eZ E f args h=some (v,h')) (H:af σ I base w h)
  (hl:us.length=args.length) (hr: ∀(j:Nat) (p:AV) (u:Value),args[j]? =some p→us[j]? =some u→ab σ I w p u) (hfr: ∀k,g≤k→σ k=none):
  bE E.P f us.toArray w fun u w'=> ∃σ' I',dA σ I base w gen g v h' g u w' σ' I':=by
 unfold eZ at ha
 split at ha
 rotate_left
 ·cases ha
 rename_i d s g0
 simp only [Option.bind_eq_some_iff] at ha
 obtain ⟨T,hT,ha⟩:=ha
 have hC:=hE.ck f T hT
 match us,hl with
 | [up],_=>
  have hp:=hr 0 _ up rfl rfl
  obtain ⟨b,o,k,hs,rfl⟩:=cp hp
  split at ha
  ·rename_i c l hlive
   obtain ⟨b0,k0,e0,u0,hs0,hsh,hok0,hru,hz,hf,h1c,hsz,hcell⟩:=dU (H.live hlive (by simp))
   rw [hs] at hs0
   simp only [Option.some.injEq,Prod.mk.injEq] at hs0
   obtain ⟨rfl,rfl,rfl⟩:=hs0
   subst hf
   have hlt:0<u0.cells.size:=by rw [hsz];simp [AV.cells]
   have hx0: ∃x,u0.cells[0]? =some x:=⟨u0.cells[0],Array.getElem?_eq_getElem hlt⟩
   obtain ⟨x0,hx0⟩:=hx0
   have hc0:=(hru.cells hok0).2.2 0 c x0 rfl hx0
   have hcl:=hcell 0 x0 hx0
   simp only [Nat.zero_mul,Nat.add_zero,Nat.zero_add] at*
   split at ha
   ·rename_i t
    split at ha
    rotate_left
    ·cases ha
    rename_i ht
    obtain ⟨rfl,hl1⟩:=ht
    simp only [Option.some.injEq,Prod.mk.injEq] at ha
    obtain ⟨rfl,rfl⟩:=ha
    have hbt:=qb (kF (H.live hlive (by simp)) hs hsh) rfl
    subst hbt
    have hx:x0= .pointer none:=by cases hc0;rfl
    subst hx
    have hsz2:(AV.agg (.btag t::l)).cells.length=2:=by simp [AV.cells,hl1]
    rw [hsz2] at hsh
    refine (hC.fresh b w hcl hsh (hz.2.2 0 (by rw [hsz2];omega))).mono ?_
    rintro u w' ⟨rfl,rfl⟩
    have hput:=kH (off:=0) (new:=[.mptr d s g0 0 0]) (vs:=[.pointer (some ⟨b,0,none⟩)]) (v':= .agg (.mptr d s g0 0 0::l)) H hlive hs rfl (by simp [Value.oneCell'])
     (fun j p u hp' hu=>by
      match j with
      | 0=>
       simp at hp' hu
       subst hp';subst hu
       have:=ab.mptr (I:=I) (w:=w) d s g0 0 0 b 0 1 hs
       simpa using this
      | j+1=>simp at hp') (by simp) (by simp [cX,AV.cells,AV.isAgg,AV.isTag,bN,cA,aQ])
    exact ⟨σ,I,.pv _ _ (.tup [] [] rfl fun j p v hp=>by simp at hp),hput.1,hput.2.1,fun _ _ _=>rfl,hfr,Nat.le_refl _⟩
   ·rename_i d' s' g'
    split at ha
    rotate_left
    ·cases ha
    rename_i heq
    obtain ⟨rfl,rfl,rfl⟩:=heq
    simp only [Option.some.injEq,Prod.mk.injEq] at ha
    obtain ⟨rfl,rfl⟩:=ha
    obtain ⟨b1,o1,k1,hs1,hx⟩:=cp hc0
    rw [hs] at hs1
    simp only [Option.some.injEq,Prod.mk.injEq] at hs1
    obtain ⟨rfl,rfl,rfl⟩:=hs1
    simp only [Nat.zero_mul,Nat.add_zero] at hx
    subst hx
    refine (hC.used b w hcl).mono ?_
    rintro u w' ⟨rfl,rfl⟩
    exact ⟨σ,I,.pv _ _ (.tup [] [] rfl fun j p v hp=>by simp at hp),H,aB.refl _ _ _ _,fun _ _ _=>rfl,hfr,Nat.le_refl _⟩
   ·cases ha
  ·cases ha
theorem sJ (hE:dI E) {f:FuncId} {args:List AV} {gen g:Nat} {v:AV} {h':aa} {us:List Value} (ha:ef E f args h=some (v,h')) (hG:Gl E I w) (H:af σ I base w h) (hB:aW base w.heap.size)
  (hl:us.length=args.length) (hr: ∀(j:Nat) (p:AV) (u:Value),args[j]? =some p→us[j]? =some u→ab σ I w p u) (hg:σ gen=none) (hlt:gen<g) (hfr: ∀k,g≤k→σ k=none):
  bE E.P f us.toArray w fun u w'=> ∃σ' I',dA σ I base w gen g v h' g u w' σ' I':=by
 unfold ef at ha
 split at ha
 ·exact sI hE ha H hl hr hfr
 ·exact sH hE ha hG H hB hl hr hg hlt hfr
theorem oJ {gen slot g g1 g':Nat} {v0 v:AV} {h1 h':aa} {u:Value} {w':World} {σ':aq} {I':ah} (he:gM h d slot gen v0 h1 g1=some (v,h',g')) (hp:ez σ I base w g v0 h1 g1 u w' σ' I') (hg:σ gen=none) (hlt:gen<g):
  ∃σ' I',dA σ I base w gen g v h' g' u w' σ' I':=by
 unfold gM at he
 simp only [] at he
 have hgen:σ' gen=none:=by rw [hp.low gen hlt];exact hg
 split at he
 ·simp only [Option.some.injEq,Prod.mk.injEq] at he
  obtain ⟨rfl,rfl,rfl⟩:=he
  exact ⟨σ',I',hp.rep,hp.heap.take _,hp.ext,fun k hk _=>hp.low k hk,hp.high,hp.grow⟩
 ·split at he
  ·rename_i v' h2 had
   simp only [Option.some.injEq,Prod.mk.injEq] at he
   obtain ⟨rfl,rfl,rfl⟩:=he
   obtain ⟨x,hrep,H3⟩:=oD (hp.heap.take h.length) hp.heap (fun _ h=>h) hp.rep had hgen fun d s s' b hb1 hb2=>by
    rw [oC] at hb1
    split at hb1
    ·rename_i hd
     have:=hp.heap.apart _ _ _ _ b hb1 hb2
     omega
    ·simp [aj,ae] at hb1
   refine ⟨_,I',hrep,H3,⟨fun k y hk=>cl hgen _ _ (hp.ext.sig k y hk),hp.ext.blk,hp.ext.new,hp.ext.kp,hp.ext.below⟩,fun k hk hne=> ?_,fun k hk=> ?_,hp.grow⟩
   ·rw [bf,if_neg (by omega)];exact hp.low k hk
   ·have:=hp.grow
    rw [bf,if_neg (by omega)];exact hp.high k hk
  ·split at he
   ·simp only [Option.some.injEq,Prod.mk.injEq] at he
    obtain ⟨rfl,rfl,rfl⟩:=he
    obtain ⟨hrm,hhm⟩:=nA (gB h1 h.length j3 (dQ h.length ao v0) []) hp.rep hp.heap
    exact ⟨σ',I',hrm,hhm.take _,hp.ext,fun k hk _=>hp.low k hk,hp.high,hp.grow⟩
   split at he
   ·simp only [Option.some.injEq,Prod.mk.injEq] at he
    obtain ⟨rfl,rfl,rfl⟩:=he
    exact ⟨σ',I',hp.rep,hp.heap,hp.ext,fun k hk _=>hp.low k hk,hp.high,hp.grow⟩
   ·simp only [Option.map_eq_some_iff,Prod.mk.injEq] at he
    obtain ⟨⟨p,h2⟩,hfz,rfl,rfl,rfl⟩:=he
    obtain ⟨I2,hpr,H2,m⟩:=fQ ao v0 h1 p h2 u I' hfz hp.rep hp.heap
    exact ⟨σ',I2,.pv _ _ hpr,H2.take _,hp.ext.trans m.ext,fun k hk _=>hp.low k hk,hp.high,hp.grow⟩
theorem dA.up {gen g g1 g2:Nat} {v:AV} {h':aa} {u:Value} {w':World} {σ':aq} {I':ah} (hp:dA σ I base w gen g v h' g1 u w' σ' I') (hg:g1≤g2):dA σ I base w gen g v h' g2 u w' σ' I':=
 ⟨hp.rep,hp.heap,hp.ext,hp.low,fun k hk=>hp.high k (Nat.le_trans hg hk),Nat.le_trans hp.grow hg⟩
theorem oK (hE:dI E): ∀n,dB E (aL E n):=by
 intro n
 induction n with
 | zero=>intro ys σ I base w h f args d slot gen g v h' g' us he;simp [aL] at he
 | succ n ih=>
  intro ys σ I base w h f args d slot gen g v h' g' us he hys H hB hl hr hg hlt hfr
  have pure: ∀(ps:List PV) (h1:aa) (p:PV),bi ao args h=some (ps,h1)→(∀(I1:ah),Gl E I1 w→af σ I1 base w h1→us.length=ps.length→
    (∀(j:Nat) (p:PV) (u:Value),ps[j]? =some p→us[j]? =some u→am I1 w p u)→cS E.P f us.toArray w I1 p)→v= .pv p→h'=h1→g'=g→
    bE E.P f us.toArray w fun u w'=> ∃σ' I',dA σ I base w gen g v h' g' u w' σ' I':=by
   rintro ps h1 p hfz hdo rfl rfl rfl
   obtain ⟨I1,hlen,hpr,H1,m⟩:=je ao args h ps h' us I hfz hl hr H
   refine (hdo I1 (hys.2.mono m.1 fun _ _=>rfl) H1 (by omega) hpr).mono ?_
   rintro u w' ⟨I',hp,hI,hN,hw,hin⟩
   obtain ⟨H2,hx⟩:=ic H1 hB hI hN hw hin
   exact ⟨σ,I',.pv _ _ hp,H2,m.ext.trans hx,fun _ _ _=>rfl,hfr,Nat.le_refl _⟩
  simp only [aL] at he
  split at he
  ·rename_i F hF
   simp only [Option.bind_eq_some_iff,Option.map_eq_some_iff,Prod.mk.injEq] at he
   obtain ⟨⟨ps,h1⟩,hfz,r,hFr,rfl,rfl,rfl⟩:=he
   exact pure ps _ r hfz (fun I1 hG1 H1 hl1 hpr=>hE.intr f F hF ps r hFr I1 w us hG1 hl1 hpr H1.inW) rfl rfl rfl
  ·split at he
   ·cases he
   ·rename_i hF _ fn hfn
    split at he
    ·simp only [Option.map_eq_some_iff,Prod.mk.injEq] at he
     obtain ⟨⟨v1,h1⟩,has,rfl,rfl,rfl⟩:=he
     exact sJ hE has hys.2 H hB hl hr hg hlt hfr
    ·rename_i hok
     have hwf:=hE.wf f fn (by simpa using hok) hfn
     split at he
     ·split at he
      ·
       simp only [Option.bind_eq_some_iff] at he
       obtain ⟨⟨ks,cargs,rows⟩,hin,he⟩:=he
       simp only [] at he
       split at he
       rotate_left
       ·cases he
       rename_i hgen
       simp only [Option.bind_eq_some_iff,Option.map_eq_some_iff,Prod.mk.injEq] at he
       obtain ⟨⟨vc,rs⟩,hcan,⟨v1,h1⟩,hbk,rfl,rfl,rfl⟩:=he
       unfold iV at hcan
       simp only [Option.bind_eq_some_iff] at hcan
       obtain ⟨⟨vb,hb1,gb1⟩,hbody,hout⟩:=hcan
       obtain ⟨Hc,hBc,hlc,hrc,hrl,hnd⟩:=sf H hB hin hgen hl hr
       refine (k6 ih (jG E n) hE.mixed (jF hE) hfn hwf hbody (bK.nil hys.2) Hc.append hBc hlc hrc (fun k hk=>by simp [bI,List.getElem?_eq_none (show ks.length≤k by omega)])).mono ?_
       rintro u w' ⟨σ',I',hp⟩
       obtain ⟨I2,τ,ex,hτ,Hc2,hr2,m2,hm1,hm2,hm3,hov,hor⟩:=si hp.heap hp.rep hout
       rw [hrl] at hm1 hm2 hm3 hov hor
       obtain ⟨σ1,s1,s2,H3,hr3⟩:=sj (I':=I2) H hg hnd (fun i hi=>(hτ i (by omega)).trans (hp.low i (by omega))) (fun b hb=>m2.1 b (hp.ext.blk b hb)) (fun b hb=>(m2.2 b hb).elim (fun h=>hp.ext.new b h) .inr) hp.ext.kp.zero hp.ext.below Hc2 hr2 hm1 hm2 hm3 hov hor hbk
       refine ⟨σ1,I2,hr3,H3,⟨s1,fun b hb=>m2.1 b (hp.ext.blk b hb),fun b hb=> ?_,hp.ext.kp,⟨hp.ext.below.os,hp.ext.below.tape,hp.ext.below.output,hp.ext.below.size,fun k hk=>hp.ext.below.block k (.inl hk)⟩⟩,fun k _ hne=>s2 k hne,fun k hk=>by rw [s2 k (by omega)];exact hfr k hk,Nat.le_refl _⟩
       rcases m2.2 b hb with h2 | h2
       ·exact (hp.ext.new b h2).imp id fun h3 h4=>h3 (.inl h4)
       ·exact .inr fun h4=>h2 (.inl h4)
      split at he
      ·
       unfold mq at he
       simp only [Option.bind_eq_some_iff] at he
       obtain ⟨L,hb,M,hM,hj⟩:=he
       unfold mo at hb
       simp only [Option.bind_eq_some_iff] at hb
       obtain ⟨c,hc,hb⟩:=hb
       have hwf':=hwf
       simp only [b9,hc,Bool.and_eq_true,Bool.not_eq_true'] at hwf'
       have pick: ∀q∈L,∃r z,iX E.P fn q=some r∧gM h d slot gen r.1 r.2.1 r.2.2=some z∧z∈M:=fun q hq=>by
        obtain ⟨N,hN,hsub⟩:=ib hM q hq
        simp only [Option.bind_eq_some_iff,Option.map_eq_some_iff] at hN
        obtain ⟨r,h1,z,h2,rfl⟩:=hN
        exact ⟨r,z,h1,h2,hsub z (by simp)⟩
       refine (oF hc hfn hwf (ss ih (jG E n) hE.mixed (jF hE) c hwf'.2 _ L hb) (fun q hq=> ?_) hys H.append hB hl hr hfr).mono ?_
       ·obtain ⟨r,z,h1,_⟩:=pick q hq
        have:=oG h1
        exact ⟨this.1,_,this.2.1⟩
       ·rintro u w' ⟨q,hq,v',hres,σ',I',hp⟩
        obtain ⟨r,z,h1,h2,h3⟩:=pick q hq
        obtain ⟨_,e1,e2,e3⟩:=oG h1
        obtain ⟨r1,r2,r3⟩:=r
        simp only at e1 e2 e3
        rw [hres] at e1
        injection e1 with e1
        subst e1 e2 e3
        obtain ⟨e1,e2,e3⟩:=sy hj z h3
        obtain ⟨z1,z2,z3⟩:=z
        simp only at e1 e2 e3
        subst e1 e2
        obtain ⟨σ2,I2,hq⟩:=oJ h2 hp hg hlt
        exact ⟨σ2,I2,hq.up e3⟩
      simp only [Option.bind_eq_some_iff] at he
      obtain ⟨⟨v0,h1,g1⟩,hbody,he⟩:=he
      refine (k6 ih (jG E n) hE.mixed (jF hE) hfn hwf hbody hys H.append hB hl hr hfr).mono ?_
      rintro u w' ⟨σ',I',hp⟩
      exact oJ he hp hg hlt
     ·simp only [Option.bind_eq_some_iff] at he
      obtain ⟨⟨ps,h1⟩,hfz,⟨v0,hc,g0⟩,hbody,he⟩:=he
      simp only [] at hbody he
      have run: ∀(I1:ah),Gl E I1 w→af σ I1 base w h1→us.length=ps.length→(∀(j:Nat) (p:PV) (u:Value),ps[j]? =some p→us[j]? =some u→am I1 w p u)→
        bE E.P f us.toArray w fun u w'=> ∃σ' I',ez (fun _=>none) I1 (cw w) w 0 v0 hc g0 u w' σ' I':=fun I1 hG1 H1 hl1 hpr=>
       k6 ih (jG E n) hE.mixed (jF hE) hfn hwf hbody (bK.nil hG1) (sF H1) (cw.bnd w) (by simpa using hl1) (k8 hpr) fun _ _=>rfl
      have dopure: ∀(p:PV) (k:Nat) (h2:aa),frz k v0 hc=some (p,h2)→ ∀(I1:ah),Gl E I1 w→af σ I1 base w h1→us.length=ps.length→
        (∀(j:Nat) (p:PV) (u:Value),ps[j]? =some p→us[j]? =some u→am I1 w p u)→cS E.P f us.toArray w I1 p:=fun p k h2 hf I1 hG1 H1 hl1 hpr=>
       (run I1 hG1 H1 hl1 hpr).mono fun u w' ⟨σ',I',hp⟩=>hp.pure hf
      split at he
      ·split at he
       ·rename_i p
        simp only [Option.some.injEq,Prod.mk.injEq] at he
        obtain ⟨rfl,rfl,rfl⟩:=he
        exact pure ps _ p hfz (dopure p 1 hc (by simp [frz,pk,marks])) rfl rfl rfl
       ·simp only [Option.map_eq_some_iff,Prod.mk.injEq] at he
        obtain ⟨⟨v',h2⟩,had,rfl,rfl,rfl⟩:=he
        obtain ⟨I1,hlen,hpr,H1,m⟩:=je ao args h ps h1 us I hfz hl hr H
        refine (run I1 (hys.2.mono m.1 fun _ _=>rfl) H1 (by omega) hpr).mono ?_
        rintro u w' ⟨σ',I',hp⟩
        obtain ⟨H2,hx⟩:=ic (I':=I') (w':=w') H1 hB hp.ext.blk (fun b hb=>(hp.ext.new b hb).imp id Nat.le_of_not_lt) hp.ext.below.below hp.heap.inW
        obtain ⟨x,hrep,H3⟩:=oD H2 hp.heap (fun b h1 h2=>h1 (hB b h2)) hp.rep had hg fun d s s' b hb1 hb2=>by
         have h1':=(H1.rows d s)
         have h3:b<w.heap.size:=by
          have:=aY h1' (b:=b) (by exact hb1)
          exact this.1
         exact (aY (hp.heap.rows 0 s') hb2).2.2 h3
        refine ⟨_,I',hrep,H3,m.ext.trans ⟨fun k y hk=>cl hg _ _ hk,hx.blk,hx.new,hx.kp,hx.below⟩,fun k hk hne=> ?_,fun k hk=> ?_,Nat.le_refl _⟩
        ·rw [bf,if_neg (by omega)]
        ·rw [bf,if_neg (by omega)];exact hfr k hk
      ·simp only [Option.bind_eq_some_iff] at he
       obtain ⟨⟨p,h2⟩,hf,he⟩:=he
       unfold gK at he
       split at he
       ·
        split at he
        ·rename_i x hx0
         have hx0:p= .lit x:=hx0
         subst hx0
         simp only [Option.some.injEq,Prod.mk.injEq] at he
         obtain ⟨rfl,rfl,rfl⟩:=he
         obtain ⟨I1,hlen,hpr,H1,m⟩:=je ao args h ps h1 us I hfz hl hr H
         refine (dopure _ _ h2 hf I1 (hys.2.mono m.1 fun _ _=>rfl) H1 (by omega) hpr).mono ?_
         rintro u w' ⟨I',hp,hI,hN,hw,hin⟩
         obtain ⟨H2,hx⟩:=ic (I':=I) H hB (fun _ h=>h) (fun _ h=> .inl h) hw (fun b hb=>(H.inW b hb).keep (hw.block b (H.lt b hb)))
         have hu:ab σ I w' (.pv (.lit x)) u:=by
          have hp:am I' w' (.lit x) u:=hp
          cases hp
          exact .pv _ _ (.lit _)
         exact ⟨σ,I,hu,H2,hx,fun _ _ _=>rfl,hfr,Nat.le_refl _⟩
        ·cases he
       ·simp only [Option.some.injEq,Prod.mk.injEq] at he
        obtain ⟨rfl,rfl,rfl⟩:=he
        exact pure ps _ p hfz (dopure p _ h2 hf) rfl rfl rfl
end
end Go.Proofs.YtdbjadjdljaobaaGreatDoor.Abs
namespace Go.Proofs.YtdbjadjdljaobaaGreatDoor.Abs
open Go
abbrev bV:=(Nat→Nat)→Ys
def fp:bV:=fun _=>[]
def cT (N:Nat) (a:Nat→Nat):Prop:= ∀i,N≤a i
theorem cT.mono {N M:Nat} {a:Nat→Nat} (h:cT N a) (hm:M≤N):cT M a:=fun i=>Nat.le_trans hm (h i)
def sK (n:Nat) (a:Nat→Nat):Nat→Nat
 | 0=>n
 | i+1=>a i
theorem cT.cons {N n:Nat} {a:Nat→Nat} (hn:N≤n) (h:cT N a):cT N (sK n a):=fun i=>by
 cases i with
 | zero=>exact hn
 | succ i=>exact h i
section
variable {E:ap} {ys:bV} {d:Nat}
def sL (E:ap) (ys:bV) (d:Nat) (c:Code) (s:St) (x:av) (s':St):Prop:= ∃N,∀a,cT N a→ ∀n,N≤n→aK E (aL E n) (ys a) d n c s=some (x,s')
def Wp (E:ap) (ys:bV) (d:Nat) (c:Code) (Q:av→St→Prop) (s:St):Prop:= ∃x s',sL E ys d c s x s'∧Q x s'
def sM (E:ap) (ys:bV) (st:Bool) (d gb:Nat) (all:Array Oper) (os:List Oper) (i:Nat) (s s':St):Prop:= ∃N,∀a,cT N a→ ∀n,N≤n→ec E (aL E n) (ys a) st d gb all os i s=some s'
def ig (E:ap) (ys:bV) (st:Bool) (d gb:Nat) (all:Array Oper) (os:List Oper) (i:Nat) (Q:St→Prop) (s:St):Prop:= ∃s',sM E ys st d gb all os i s s'∧Q s'
def cG (E:ap) (ys:bV) (st:Bool) (d gb:Nat) (all:Array Oper) (i:Nat) (o:Oper) (s s':St):Prop:= ∃N,∀a,cT N a→ ∀n,N≤n→bw E (aL E n) (ys a) st d gb all i o s=some s'
variable {Q:av→St→Prop} {s:St}
theorem sN (h:Q .normal s):Wp E ys d .skip Q s:=⟨_,_,⟨0,fun _ _ _ _=>rfl⟩,h⟩
theorem sO {l:Nat} (h:Q .normal s):Wp E ys d (.label l) Q s:=⟨_,_,⟨0,fun _ _ _ _=>rfl⟩,h⟩
theorem sP (h:Q .ret s):Wp E ys d .ret Q s:=⟨_,_,⟨0,fun _ _ _ _=>rfl⟩,h⟩
theorem sQ {id:Nat} (h:Q (.exit id) s):Wp E ys d (.exit id) Q s:=⟨_,_,⟨0,fun _ _ _ _=>rfl⟩,h⟩
theorem sR {l:Nat} (h:Q (.goto l) s):Wp E ys d (.goto l) Q s:=⟨_,_,⟨0,fun _ _ _ _=>rfl⟩,h⟩
def oL (E:ap) (ys:bV) (d:Nat) (b:Code) (Q:av→St→Prop):av→St→Prop
 | .normal,s=>Wp E ys d b Q s
 | x,s=>Q x s
theorem sS {a b:Code} (h:Wp E ys d a (oL E ys d b Q) s):Wp E ys d (.seq a b) Q s:=by
 obtain ⟨x,s1,⟨N,hN⟩,hq⟩:=h
 cases x with
 | normal=>
  obtain ⟨y,s2,⟨M,hM⟩,hq⟩:=hq
  exact ⟨y,s2,⟨max N M,fun a ha n hn=>by simp only [aK,hN a (ha.mono (by omega)) n (by omega)];exact hM a (ha.mono (by omega)) n (by omega)⟩,hq⟩
 | _=>exact ⟨_,s1,⟨N,fun a ha n hn=>by simp only [aK,hN a ha n hn]⟩,hq⟩
theorem sT {c:Operand} {x y:Code} {t:Bool} (hc:bS (aw s.t c)=some t) (h:Wp E ys d (if t then x else y) Q s):Wp E ys d (.cond c x y) Q s:=by
 obtain ⟨z,s1,⟨N,hN⟩,hq⟩:=h
 refine ⟨z,s1,⟨N,fun a ha n hn=> ?_⟩,hq⟩
 have:=hN a ha n hn
 cases t<;>simpa [aK,hc] using this
def ii (id:Nat) (Q:av→St→Prop):av→St→Prop
 | .exit id',s=>if id'=id then Q .normal s else Q (.exit id') s
 | x,s=>Q x s
theorem sU {id:Nat} {c:Code} (h:Wp E ys d c (ii id Q) s):Wp E ys d (.block id c) Q s:=by
 obtain ⟨x,s1,⟨N,hN⟩,hq⟩:=h
 cases x with
 | exit id'=>
  refine ⟨_,s1,⟨N,fun a ha n hn=>by simp only [aK,hN a ha n hn];rfl⟩,?_⟩
  simp only [ii] at hq
  by_cases e:id'=id
  ·rw [if_pos e] at hq ⊢; exact hq
  ·rw [if_neg e] at hq ⊢; exact hq
 | _=>exact ⟨_,s1,⟨N,fun a ha n hn=>by simp only [aK,hN a ha n hn]⟩,hq⟩
def fq (E:ap) (ys:bV) (d:Nat) (c:Code) (Q:av→St→Prop) (s:St):Prop:= ∃x s',(∃N,∀a,cT N a→ ∀n,N≤n→ ∀k,N≤k→dl (aK E (aL E n) (ys a) d n c) k s=some (x,s'))∧Q x s'
def oM (E:ap) (ys:bV) (d:Nat) (c:Code) (Q:av→St→Prop):av→St→Prop
 | .normal,s=>fq E ys d c Q s
 | x,s=>Q x s
theorem oN {c:Code} (h:fq E ys d c Q s):Wp E ys d (.loop c) Q s:=by
 obtain ⟨x,s1,⟨N,hN⟩,hq⟩:=h
 exact ⟨x,s1,⟨N,fun a ha n hn=>hN a ha n hn n hn⟩,hq⟩
theorem k9 {c:Code} (h:Wp E ys d c (oM E ys d c Q) s):fq E ys d c Q s:=by
 obtain ⟨x,s1,⟨N,hN⟩,hq⟩:=h
 have step: ∀a,cT N a→ ∀n,N≤n→ ∀k,dl (aK E (aL E n) (ys a) d n c) (k+1) s=match x with
   | .normal=>dl (aK E (aL E n) (ys a) d n c) k s1
   | x=>some (x,s1):=by
  intro a ha n hn k
  simp only [dl,hN a ha n hn]
  cases x<;>rfl
 cases x with
 | normal=>
  obtain ⟨y,s2,⟨M,hM⟩,hq⟩:=hq
  refine ⟨y,s2,⟨max N M+1,fun a ha n hn k hk=> ?_⟩,hq⟩
  obtain ⟨k,rfl⟩: ∃k',k=k'+1:=⟨k-1,by omega⟩
  rw [step a (ha.mono (by omega)) n (by omega)]
  exact hM a (ha.mono (by omega)) n (by omega) k (by omega)
 | _=>
  refine ⟨_,s1,⟨N+1,fun a ha n hn k hk=> ?_⟩,hq⟩
  obtain ⟨k,rfl⟩: ∃k',k=k'+1:=⟨k-1,by omega⟩
  rw [step a (ha.mono (by omega)) n (by omega)]
theorem sV {id:Nat} {ops:Array Oper} {draw:Bool} (hbad:(draw&&E.bad ops)=false) (h:ig E ys draw d s.g ops ops.toList 0 (fun s=>Q .normal s) { s with h:=if draw then dm E d ops.toList s.h else s.h,g:=s.g+ops.size}):Wp E ys d (.region id ops draw) Q s:=by
 obtain ⟨s1,⟨N,hN⟩,hq⟩:=h
 exact ⟨_,s1,⟨N,fun a ha n hn=>by simp only [aK,hbad,Bool.false_eq_true,if_false,hN a ha n hn,Option.map_some]⟩,hq⟩
variable {st:Bool} {gb:Nat} {all:Array Oper} {R:St→Prop}
theorem sW {i:Nat} (h:R s):ig E ys st d gb all [] i R s:=⟨s,⟨0,fun _ _ _ _=>rfl⟩,h⟩
theorem sX {o:Oper} {os:List Oper} {i:Nat} {s1:St} (h1:cG E ys st d gb all i o s s1) (h:ig E ys st d gb all os (i+1) R s1):ig E ys st d gb all (o::os) i R s:=by
 obtain ⟨N,hN⟩:=h1
 obtain ⟨s2,⟨M,hM⟩,hq⟩:=h
 exact ⟨s2,⟨max N M,fun a ha n hn=>by simp only [ec,hN a (ha.mono (by omega)) n (by omega),Option.bind_some];exact hM a (ha.mono (by omega)) n (by omega)⟩,hq⟩
def cU (E:ap) (f:FuncId) (ps:List PV) (r:PV):Prop:= ∃N,∀n,N≤n→ ∀ys args d slot gen h h1 g,bi ao args h=some (ps,h1)→(!E.rd f&&args.any (bc ao))=false→aL E n ys f args d slot gen h g=some (.pv r,if E.rd f then h else h1,g)
def oO (P:Program) (fn:Func) (r:PV) (x:av) (s:St):Prop:=(x= .normal∨x= .ret)∧ ∃v hp,b3 P fn s.h s.t=some v∧frz ao v s.h=some (r,hp)
theorem sY {f:FuncId} {fn:Func} {c:Code} {ps:List PV} {r:PV} (hi:E.intr f=none) (hf:E.P.funcs[f]? =some fn) (hb:fn.body=some c) (hok:E.ok f=true) (hinl:E.inl f=false) (hown:E.own f=false) (hlit:E.rd f=false∨ ∃x,r= .lit x)
    (h:Wp E fp 0 c (oO E.P fn r) { t:=c3 fn.ntmps (ps.map .pv),h:=[List.replicate fn.ntmps ae],g:=0}):cU E f ps r:=by
  obtain ⟨x,s1,⟨N,hN⟩,hx,v,hp,hv,hz1⟩:=h
  refine ⟨N+1,fun n hn ys args d slot gen h h1 g hz hm=> ?_⟩
  obtain ⟨n,rfl⟩: ∃k,n=k+1:=⟨n-1,by omega⟩
  have hc:aK E (aL E n) [] 0 n c _=_:=hN (fun _=>n) (fun _=>by show N≤n;omega) n (by omega)
  have hbody:dp E (aL E n) [] n fn 0 (ps.map .pv) [[]] 0=some (v,s1.h,s1.g):=by
    unfold dp
    have hpad:c4 fn.ntmps 0 [[]]=[List.replicate fn.ntmps ae]:=by simp [c4,bh]
    rw [hb,hpad]
    simp only [Option.bind_some,hc]
    rcases hx with rfl | rfl<;>simp [hv]
  have hout:gK (E.rd f) r h h1 g=some (.pv r,if E.rd f then h else h1,g):=by
    unfold gK
    cases hrd:E.rd f with
    | false=>rfl
    | true => rcases hlit with h0 | ⟨x,rfl⟩
              · rw [hrd] at h0;cases h0
              · rfl
  simp only [aL,hi,hf,hok,hinl,hown,hm,hz,hbody,hz1,hout,Option.bind_some,Option.map_some,Bool.or_self,Bool.false_eq_true,if_false,reduceCtorEq]
theorem oP (ps:List PV) (n:Nat) (h:aa):bi (n+1) (ps.map .pv) h=some (ps,h):=by
 have: ∀ps:List PV,bQ (pk h (n+1)) (ps.map .pv)=some (ps,[]):=by
  intro ps
  induction ps with
  | nil=>rfl
  | cons p ps ih=>
   have h1:pk h (n+1) (.pv p)=some (p,[]):=rfl
   simp only [List.map_cons,bQ,h1,ih,Option.bind_some,Option.map_some,List.append_nil]
 simp [bi,this,marks]
theorem oQ (ps:List PV) (n:Nat):(ps.map AV.pv).any (bc (n+1))=false:=by
 induction ps with
 | nil=>rfl
 | cons p ps ih=>simp [bc]
theorem sZ (hE:dI E) {f:FuncId} {ps:List PV} {r:PV} (h:cU E f ps r) {I:ah} {w:World} {us:List Value} (hgl:Gl E I w) (hl:us.length=ps.length)
  (hr: ∀(j:Nat) (p:PV) (u:Value),ps[j]? =some p→us[j]? =some u→am I w p u) (hin: ∀b,I b→bn w b):cS E.P f us.toArray w I r:=by
 obtain ⟨N,hN⟩:=h
 have hc:=hN N (Nat.le_refl _) [] (ps.map .pv) 0 0 0 [[]] [[]] 1 (oP ps 7 [[]]) (by rw [show (ps.map AV.pv).any (bc ao)=false from oQ ps 7,Bool.and_false])
 have H:af (fun _=>none) I (cw w) w [[]]:=⟨fun d s=>by rw [ga];trivial,fun d s d' s' b h1=>by rw [ga] at h1;simp [aj,ae] at h1,hin⟩
 refine (oK hE N [] (fun _=>none) I (cw w) w [[]] f _ 0 0 0 1 _ _ _ us hc (bK.nil hgl) H (cw.bnd w) (by simpa using hl) (k8 hr) rfl (by omega) (fun _ _=>rfl)).mono ?_
 rintro u w' ⟨σ',I',hp⟩
 exact ⟨I',aG hp.rep,hp.ext.blk,fun b hb=>(hp.ext.new b hb).imp id Nat.le_of_not_lt,hp.ext.below.below,hp.heap.inW⟩
def bg (E:ap) (f:FuncId) (args:List AV) (rows:List ak) (v:AV) (rs:List ak):Prop:= ∃fn,E.P.funcs[f]? =some fn∧ ∃N,∀n,N≤n→iV E (aL E n) n fn args rows=some (v,rs)
def oR (P:Program) (fn:Func) (m:Nat) (v:AV) (rs:List ak) (x:av) (s:St):Prop:=(x= .normal∨x= .ret)∧ ∃v0,b3 P fn s.h s.t=some v0∧eW m v0 s.h=some (v,rs)
theorem s0 {f:FuncId} {fn:Func} {c:Code} {args:List AV} {rows rs:List ak} {v:AV} (hf:E.P.funcs[f]? =some fn) (hb:fn.body=some c)
  (h:Wp E fp 1 c (oR E.P fn rows.length v rs) { t:=c3 fn.ntmps args,h:=[rows,List.replicate fn.ntmps ae],g:=rows.length}):bg E f args rows v rs:=by
 obtain ⟨x,s1,⟨N,hN⟩,hx,v0,hv,ho⟩:=h
 refine ⟨fn,hf,N,fun n hn=> ?_⟩
 have hc:aK E (aL E n) [] 1 n c _=_:=hN (fun _=>n) (fun _=>hn) n hn
 unfold iV dp
 have hpad:c4 fn.ntmps 1 [rows,[]]=[rows,List.replicate fn.ntmps ae]:=by simp [c4,bh]
 rw [hb,hpad]
 simp only [Option.bind_some,hc]
 rcases hx with rfl | rfl<;>simp [hv,ho]
def oS (E:ap) (f:FuncId) (ps:List PV) (k:Nat) (e:TypeId) (xs:List PV) (off m:Nat) (full:Bool):Prop:= ∃N,∀n,N≤n→ ∀ys args d slot gen h h1 g,bi ao args h=some (ps,h1)→(!E.rd f&&args.any (bc ao))=false→
 aL E n ys f args d slot gen h g=some (.msl d slot gen off m full,hput h1 d slot ⟨gen,.row k e xs false⟩,g)
def s4:bu:=fun _ _ _ _ _ _ _ _=>none
theorem s5 {i:Nat} {o:Oper} {s1:St} (h:bw E s4 [] st d gb all i o s=some s1):cG E ys st d gb all i o s s1:=by
 refine ⟨0,fun a _ n _=> ?_⟩
 unfold bw cu at h ⊢
 cases hw:bv all s.t o with
 | false=>rw [hw] at h;exact h
 | true=>
  rw [hw] at h
  simp only [if_true] at h ⊢
  unfold bx at h ⊢
  split at h
  ·split at h
   ·simp [Ys.get?] at h
   ·exfalso
    simp only [Option.map_eq_some_iff,Option.bind_eq_some_iff] at h
    obtain ⟨r,⟨⟨fid,a,b⟩,_,h⟩,_⟩:=h
    split at h
    ·cases h
    ·cases h
  ·exfalso
   simp only [Option.map_eq_some_iff,Option.bind_eq_some_iff] at h
   obtain ⟨r,⟨⟨fid,a⟩,_,h⟩,_⟩:=h
   cases h
  ·exact h
def eA (E:ap) (o:Oper) (ρ:Operand→AV) (fid:FuncId) (l:List AV):Prop:=
 (∃f args ats a b,o.op= .call { callee:= .value f,args:=args,argTypes:=ats} ∧cP (ρ f)=some (fid,a,b)∧l=a++args.toList.map ρ++b)∨
 ∃r m args ats rv,o.op= .call { callee:= .invoke r m,args:=args,argTypes:=ats} ∧gA E.P (ρ r) m=some (fid,rv)∧l=[rv]++args.toList.map ρ
theorem s6 {o:Oper} {ρ:Operand→AV} {fid:FuncId} {l:List AV} (hc:eA E o ρ fid l) (hst:(st&&(aN E o== .fz)&&l.any (bc ao))=false) (call:bu) (ys:Ys) (gen:Nat) (h:aa) (g:Nat):
  bx E call ys st d gen o ρ h g=call ys fid l d (o.dst.getD 0) gen h g:=by
 unfold bx
 rcases hc with ⟨f,args,ats,a,b,ho,hc,rfl⟩ | ⟨r,m,args,ats,rv,ho,hc,rfl⟩
 ·simp only [ho]
  split
  ·rename_i d' s' gl hy
   rw [hy] at hc
   simp [cP] at hc
  ·simp only [hc,Option.bind_some,hst,Bool.false_eq_true,if_false]
 ·simp only [ho,hc,Option.bind_some]
theorem ij {i:Nat} {o:Oper} {fid:FuncId} {l:List AV} {v:AV} {h':aa} {g':Nat} (hw:bv all s.t o=true) (hc:eA E o (aw s.t) fid l) (hst:(st&&(aN E o== .fz)&&l.any (bc ao))=false)
  (hN: ∃N,∀n,N≤n→ ∀ys,aL E n ys fid l d (o.dst.getD 0) (gb+i) s.h s.g=some (v,h',g')):cG E ys st d gb all i o s { t:=aP s.t o.dst v,h:=h',g:=g'} :=by
 obtain ⟨N,hN⟩:=hN
 refine ⟨N,fun a1 _ n hn=> ?_⟩
 unfold bw cu
 rw [hw]
 simp only [if_true]
 rw [s6 hc hst,hN n hn]
 rfl
theorem s7 {i:Nat} {o:Oper} {fid:FuncId} {l cargs:List AV} {ks:List K2} {rows rs:List ak} {v v':AV} {h':aa} (hw:bv all s.t o=true)
  (hc:eA E o (aw s.t) fid l) (hst:(st&&(aN E o== .fz))=false)
  (hi:E.intr fid=none) (hok:E.ok fid=true) (hcan:E.can fid=true) (hm:(E.inl fid||(!E.rd fid&&l.any (bc ao)))=true)
  (hin:gH s.h l=some (ks,cargs,rows)) (hg:fK s.h ks l=true) (hd:bg E fid cargs rows v rs) (hb:gJ d (o.dst.getD 0) (gb+i) ks s.h v rs=some (v',h')):
  cG E ys st d gb all i o s { t:=aP s.t o.dst v',h:=h',g:=s.g} :=by
 obtain ⟨fn,hf,N,hN⟩:=hd
 refine ij hw hc (by rw [hst];rfl) ⟨N+1,fun n hn ys=> ?_⟩
 obtain ⟨n,rfl⟩: ∃k,n=k+1:=⟨n-1,by omega⟩
 have hcall:=hN n (by omega)
 simp only [aL,hi,hf,hok,hcan,hm,hin,hg,hcall,hb,if_true,Option.bind_some,Option.map_some,reduceCtorEq,if_false]
def oT (E:ap) (f:FuncId) (ps:List PV) (v:Nat→AV) (fr:Nat→List ak) (dg:Nat):Prop:= ∃N,∀n,N≤n→ ∀ys d slot gen f0 g,aL E n ys f (ps.map .pv) d slot gen [f0] g=some (v g,[f0,fr g],g+dg)
theorem tb {i:Nat} {o:Oper} {fid:FuncId} {l:List AV} {ps:List PV} {v:Nat→AV} {fr:Nat→List ak} {dg:Nat} {f0:List ak} (hw:bv all s.t o=true) (hc:eA E o (aw s.t) fid l)
  (hz:l=ps.map .pv) (hh:s.h=[f0]) (hd:oT E fid ps v fr dg):
  cG E ys st d gb all i o s { t:=aP s.t o.dst (v s.g),h:=[f0,fr s.g],g:=s.g+dg} :=by
 obtain ⟨N,hN⟩:=hd
 subst hz
 have hm:(ps.map AV.pv).any (bc ao)=false:=oQ ps 7
 exact ij hw hc (by rw [hm,Bool.and_false]) ⟨N,fun n hn ys=>by rw [hh];exact hN n hn ys d (o.dst.getD 0) (gb+i) f0 s.g⟩
theorem tc {i:Nat} {o:Oper} {fid:FuncId} {l:List AV} {ps xs:List PV} {h1:aa} {k off m:Nat} {e:TypeId} {full:Bool} (hw:bv all s.t o=true) (hc:eA E o (aw s.t) fid l)
  (hz:bi ao l s.h=some (ps,h1)) (hm:(!E.rd fid&&l.any (bc ao))=false) (hst:(st&&(aN E o== .fz)&&l.any (bc ao))=false) (hd:oS E fid ps k e xs off m full):
  cG E ys st d gb all i o s { t:=aP s.t o.dst (.msl d (o.dst.getD 0) (gb+i) off m full),h:=hput h1 d (o.dst.getD 0) ⟨gb+i,.row k e xs false⟩,g:=s.g} :=by
 obtain ⟨N,hN⟩:=hd
 exact ij hw hc hst ⟨N,fun n hn ys=>hN n hn ys _ d (o.dst.getD 0) (gb+i) s.h h1 s.g hz hm⟩
theorem oU {i:Nat} {o:Oper} {fid:FuncId} {l:List AV} {ps:List PV} {h1:aa} {r:PV} (hw:bv all s.t o=true) (hc:eA E o (aw s.t) fid l)
  (hz:bi ao l s.h=some (ps,h1)) (hm:(!E.rd fid&&l.any (bc ao))=false) (hst:(st&&(aN E o== .fz)&&l.any (bc ao))=false) (hd:cU E fid ps r):
  cG E ys st d gb all i o s { t:=aP s.t o.dst (.pv r),h:=if E.rd fid then s.h else h1,g:=s.g} :=by
 obtain ⟨N,hN⟩:=hd
 exact ij hw hc hst ⟨N,fun n hn ys=>hN n hn ys _ d (o.dst.getD 0) (gb+i) s.h h1 s.g hz hm⟩
theorem oV {i:Nat} {o:Oper} {fid:FuncId} {fn:Func} {l:List AV} {v:AV} {h1:aa} (hw:bv all s.t o=true) (hc:eA E o (aw s.t) fid l) (hst:(st&&(aN E o== .fz)&&l.any (bc ao))=false)
  (hi:E.intr fid=none) (hf:E.P.funcs[fid]? =some fn) (hok:E.ok fid=false) (ha:ef E fid l s.h=some (v,h1)):cG E ys st d gb all i o s { t:=aP s.t o.dst v,h:=h1,g:=s.g} :=
 ij hw hc hst ⟨1,fun n hn ys=>by
  obtain ⟨n,rfl⟩: ∃k,n=k+1:=⟨n-1,by omega⟩
  simp only [aL,hi,hf,hok,if_true,ha,Option.map_some]⟩
def oW (ys:bV) (gl:Nat) (args:List AV) (h:aa) (g:Nat) (b:Bool) (h':aa) (g':Nat):Prop:= ∃N,∀a,cT N a→ ∃hd,(ys a).get? gl=some hd∧hd args h g=some (b,h',g')
theorem te {i:Nat} {o:Oper} {f:Operand} {args:Array Operand} {ats:Array TypeId} {d1 s1 gl:Nat} {b:Bool} {h':aa} {g':Nat} (hw:bv all s.t o=true) (ho:o.op= .call { callee:= .value f,args:=args,argTypes:=ats})
  (hc:aw s.t f= .yld d1 s1 gl) (hy:oW ys gl (args.toList.map (aw s.t)) s.h s.g b h' g'):cG E ys st d gb all i o s { t:=aP s.t o.dst (aU (.bool b)),h:=h',g:=g'} :=by
 obtain ⟨N,hN⟩:=hy
 refine ⟨N,fun a ha n hn=> ?_⟩
 obtain ⟨hd,h1,h2⟩:=hN a ha
 unfold bw cu
 rw [hw]
 simp only [if_true]
 unfold bx
 simp only [ho,hc,h1,Option.bind_some,h2,Option.map_some]
end
inductive an where
 | hole (n:Nat)
 | br (b:Bool) (k:an)
 | fork (a b:an)
 | lit (k:an)
 | val (p:PV) (k:an)
 | res (r:PV) (k:an)
 | resB (e:Bool) (a b:an)
 | resC (v:AV) (rs:List ak) (k:an)
 | resI (v:Nat→AV) (fr:Nat→List ak) (dg:Nat) (k:an)
 | resO (kk:Nat) (e:TypeId) (xs:List PV) (off m:Nat) (full:Bool) (k:an)
 | frz (ps:List PV) (h:aa) (k:an)
 | ev (k:an)
 | go (k:an)
 | mask (js hs:List Nat)
 deriving Inhabited
inductive ft where
 | seqK (c:Code)
 | blockK (id:Nat)
 | loopK (c:Code)
inductive tf (id:Nat) (e:Bool):Prop
inductive tg (id:Nat) (x:Option PV):Prop
inductive th (id:Nat) (f:FuncId) (ps:List PV):Prop
inductive ti (id:Nat) (f:FuncId) (args:List AV) (rows:List ak):Prop
inductive tj (id:Nat) (f:FuncId) (ps:List PV):Prop
inductive tk (id:Nat) (l:List AV) (h:aa):Prop
inductive cV (o:Oper) (s:St):Prop
inductive ik (c:Code) (s:St):Prop
inductive jH (id:Nat) (c:Code) (s:St):Prop
inductive tl:Prop
def an.id:an→Nat
 | .hole n=>n
 | _=>0
def cy (scr:an) (e:Bool) (K:Bool→an→Prop):Prop:=match scr with
 | .br true k=>e=true∧K true k
 | .br false k=>e=false∧K false k
 | .fork a b=>(e=true→K true a)∧(e=false→K false b)
 | .lit k=>match e with
  | true=>K true k
  | false=>K false k
 | scr=>tf scr.id e
def gc (scr:an) (x:Option PV) (K:PV→an→Prop):Prop:=match scr with
 | .val p k=>x=some p∧K p k
 | scr=>tg scr.id x
def gd (scr:an) (l:List AV) (h:aa) (K:List PV→aa→an→Prop):Prop:=match aQ l with
 | some ps=>K ps h scr
 | none=>match scr with
  | .frz ps h1 k=>bi ao l h=some (ps,h1)∧K ps h1 k
  | .ev k=>match bi ao l h with
   | some (ps,h1)=>K ps h1 k
   | none=>False
  | scr=>tk scr.id l h
def cz (h:aa) (d s g:Nat) (K:ba→Prop):Prop:=(ac h d s).g=g∧K (ac h d s).b
def fw (v:Option AV) (dflt top:Nat) (K:Nat→Prop):Prop:=match v with
 | none=>K dflt
 | some a=>match intOf? a with
  | some i=>(0≤i∧i≤(top:Int))∧K i.toNat
  | none=>False
def ge (n:Nat) (lo hi mx:Option AV) (K:Nat→Nat→Option Nat→Prop):Prop:=match mx with
 | none=>fw hi n n fun r=>fw lo 0 r fun l=>K l r none
 | some _=>match hi with
  | none=>False
  | some _=>fw mx n n fun m=>fw hi n m fun r=>fw lo 0 r fun l=>K l r (some m)
def lc (s:ByteArray) (i:Nat):Int:=((s.data.toList.getD i 0).toNat:Int)
theorem da {scr:an} {e:Bool} {K:Bool→an→Prop} (h:cy scr e K): ∃k,K e k:=by
 unfold cy at h
 split at h
 ·obtain ⟨rfl,h⟩:=h;exact ⟨_,h⟩
 ·obtain ⟨rfl,h⟩:=h;exact ⟨_,h⟩
 ·cases e with
  | true=>exact ⟨_,h.1 rfl⟩
  | false=>exact ⟨_,h.2 rfl⟩
 ·cases e<;>exact ⟨_,h⟩
 ·exact nomatch h
theorem jI {scr:an} {x:Option PV} {K:PV→an→Prop} (h:gc scr x K): ∃p k,x=some p∧K p k:=by
 unfold gc at h
 split at h
 ·exact ⟨_,_,h⟩
 ·exact nomatch h
theorem jJ {scr:an} {l:List AV} {h:aa} {K:List PV→aa→an→Prop} (hk:gd scr l h K): ∃ps h1 k,bi ao l h=some (ps,h1)∧K ps h1 k:=by
 unfold gd at hk
 split at hk
 ·rename_i ps hps
  rw [dX hps]
  exact ⟨ps,h,scr,oP ps 7 h,hk⟩
 ·split at hk
  ·exact ⟨_,_,_,hk⟩
  ·split at hk
   ·rename_i hz
    exact ⟨_,_,_,hz,hk⟩
   ·exact hk.elim
  ·exact nomatch hk
theorem cH {h:aa} {d s g:Nat} {K:ba→Prop} (hk:cz h d s g K):(ac h d s).g=g∧live h d s g=(ac h d s).b∧K (ac h d s).b:=
 ⟨hk.1,by unfold live;rw [if_pos hk.1],hk.2⟩
theorem il {v:Option AV} {dflt top:Nat} {K:Nat→Prop} (h:fw v dflt top K): ∃i,dM v dflt top=some i∧K i:=by
 unfold fw at h
 split at h
 ·exact ⟨_,rfl,h⟩
 ·split at h
  ·rename_i a _ i hi
   obtain ⟨h1,h2⟩:=h
   exact ⟨_,by simp only [dM,hi,Option.bind_some];rw [if_pos h1],h2⟩
  ·exact nomatch h
theorem jK {n:Nat} {lo hi mx:Option AV} {K:Nat→Nat→Option Nat→Prop} (h:ge n lo hi mx K): ∃l r m,dN n lo hi mx=some (l,r,m)∧K l r m:=by
 unfold ge at h
 split at h
 ·obtain ⟨r,hr,h⟩:=il h
  obtain ⟨l,hl,h⟩:=il h
  exact ⟨l,r,none,by simp [dN,hr,hl],h⟩
 ·split at h
  ·exact nomatch h
  ·obtain ⟨m,hm,h⟩:=il h
   obtain ⟨r,hr,h⟩:=il h
   obtain ⟨l,hl,h⟩:=il h
   exact ⟨l,r,some m,by simp [dN,hm,hr,hl],h⟩
def ld (size:Nat) (h:aa) (y:AV) (K:List PV→Prop):Prop:=match y with
 | .pv (.sl k nl _ ys)=>((nl=true→ys=[])∧(nl=false→k=size))∧K ys
 | .pv (.lit (.string s))=>size=1∧K (ar s)
 | .msl d s g off n _=>cz h d s g fun
  | .row k _ xs _=>(k=size∧off+n≤xs.length)∧K ((xs.drop off).take n)
  | _=>False
 | _=>False
theorem tp {size:Nat} {h:aa} {y:AV} {K:List PV→Prop} (hk:ld size h y K): ∃ys,ct size h y=some ys∧K ys:=by
 unfold ld at hk
 split at hk
 ·rename_i k nl full ys
  obtain ⟨⟨h1,h2⟩,hk⟩:=hk
  refine ⟨ys,?_,hk⟩
  unfold ct
  cases nl with
  | true=>have:=h1 rfl;subst this;rfl
  | false=>simp [h2 rfl]
 ·rename_i s
  obtain ⟨rfl,hk⟩:=hk
  exact ⟨_,rfl,hk⟩
 ·rename_i d s g off n full
  obtain ⟨_,h2,hk⟩:=cH hk
  unfold ct
  simp only [h2]
  split at hk
  ·rename_i k e xs fz hb
   try rw [hb]
   exact ⟨_,by simp only [];rw [if_pos hk.1],hk.2⟩
  ·exact nomatch hk
 ·exact nomatch hk
def lf (e size bytes d slot gen:Nat) (h:aa) (scr:an) (tgt:AV) (ys:List PV) (K:an→AV→aa→Prop) (bad:Prop):Prop:=match tgt with
 | .pv (.sl k nl full xs)=>cy scr ys.isEmpty fun b scr=>if b then K scr tgt h else cy scr nl fun b scr=>
  if b then (xs.length=0∧bO ys.length bytes=true)∧K scr (.msl d slot gen 0 ys.length false) (hput h d slot ⟨gen,.row size e ys false⟩)
  else (full=true∧k=size∧bO (xs.length+ys.length) bytes=true)∧K scr (.msl d slot gen 0 (xs.length+ys.length) false) (hput h d slot ⟨gen,.row size e (xs++ys) false⟩)
 | .msl d' s' g' off n full=>cz h d' s' g' fun
  | .row k e' xs fz=>cy scr full fun b scr=>
   if b then cy scr ys.isEmpty fun b scr=>if b then K scr tgt h
    else (k=size∧off+n≤xs.length∧bO (n+ys.length) bytes=true)∧K scr (.msl d slot gen 0 (n+ys.length) false) (hput h d slot ⟨gen,.row size e ((xs.drop off).take n++ys) false⟩)
   else (fz=false∧k=size∧e'=e∧off+n=xs.length∧bO (n+ys.length) bytes=true)∧K scr (.msl d' s' gen 0 (n+ys.length) false) (hput h d' s' ⟨gen,.row size e (xs.drop off++ys) false⟩)
  | _=>bad
 | _=>bad
def lg (P:Program) (e t1:TypeId) (d slot gen:Nat) (h:aa) (scr:an) (x y:AV) (K:an→AV→aa→Prop) (bad:Prop):Prop:=match P.underlying t1,x,y with
 | some (.int _),.pv (.sl _ nl _ xs),.pv (.lit (.int _ n))=>match aF P e,cY P e,bA P e with
  | some size,some bytes,some z=>if size=0∨z.cells.size≠size then bad else
   (nl=true∧xs.length=0∧1≤n∧bO n.toNat bytes=true)∧K scr (.msl d slot gen 0 n.toNat false) (hput h d slot ⟨gen,.row size e [] false⟩)
  | _,_,_=>bad
 | _,_,_=>bad
theorem tq {P:Program} {e t1:TypeId} {d slot gen:Nat} {h:aa} {scr:an} {x y:AV} {K:an→AV→aa→Prop} {bad:Prop} (hbad: ¬bad) (hk:lg P e t1 d slot gen h scr x y K bad):
  ∃k v h1,eR P e t1 d slot gen h x y=some (v,h1)∧K k v h1:=by
 unfold lg at hk
 unfold eR
 split at hk
 ·rename_i htn
  simp only [htn]
  split at hk
  ·rename_i size bytes z h1 h2 h3
   split at hk
   ·exact (hbad hk).elim
   ·rename_i hc
    obtain ⟨hc2,hk⟩:=hk
    exact ⟨_,_,_,by simp only [h1,h2,h3,Option.bind_eq_bind,Option.bind_some];rw [if_neg hc,if_pos hc2],hk⟩
  ·exact (hbad hk).elim
 ·exact (hbad hk).elim
theorem tr {e size bytes d slot gen:Nat} {h:aa} {scr:an} {tgt:AV} {ys:List PV} {K:an→AV→aa→Prop} {bad:Prop} (hbad: ¬bad) (hk:lf e size bytes d slot gen h scr tgt ys K bad):
  ∃k v h1,dL e size bytes d slot gen h tgt ys=some (v,h1)∧K k v h1:=by
 unfold lf at hk
 split at hk
 ·rename_i k nl full xs
  obtain ⟨scr,hk⟩:=da hk
  unfold dL
  simp only []
  cases hy:ys.isEmpty with
  | true=>rw [hy] at hk;exact ⟨_,_,_,by simp,hk⟩
  | false=>
   rw [hy] at hk
   simp only [Bool.false_eq_true,if_false] at hk ⊢
   obtain ⟨scr,hk⟩:=da hk
   cases nl with
   | true=>
    simp only [if_true] at hk ⊢
    exact ⟨_,_,_,by rw [if_pos hk.1],hk.2⟩
   | false=>
    simp only [Bool.false_eq_true,if_false] at hk ⊢
    exact ⟨_,_,_,by rw [if_pos hk.1],hk.2⟩
 ·rename_i d' s' g' off n full
  obtain ⟨_,h2,hk⟩:=cH hk
  unfold dL
  simp only [h2]
  split at hk
  ·rename_i k e' xs fz hb
   try rw [hb]
   simp only []
   obtain ⟨scr,hk⟩:=da hk
   cases full with
   | true=>
    simp only [if_true] at hk ⊢
    obtain ⟨scr,hk⟩:=da hk
    cases hy:ys.isEmpty with
    | true=>rw [hy] at hk;exact ⟨_,_,_,by simp,hk⟩
    | false=>
     rw [hy] at hk
     simp only [Bool.false_eq_true,if_false] at hk ⊢
     exact ⟨_,_,_,by rw [if_pos hk.1],hk.2⟩
   | false=>
    simp only [Bool.false_eq_true,if_false] at hk ⊢
    exact ⟨_,_,_,by rw [if_pos hk.1],hk.2⟩
  ·exact (hbad hk).elim
 ·exact (hbad hk).elim
def cI (r:Option (AV×aa)) (scr:an) (K:an→AV→aa→Prop) (bad:Prop):Prop:=match r with
 | some (v,h)=>K scr v h
 | none=>bad
theorem db {r:Option (AV×aa)} {scr:an} {K:an→AV→aa→Prop} {bad:Prop} (hbad: ¬bad) (hk:cI r scr K bad): ∃k v h1,r=some (v,h1)∧K k v h1:=by
 unfold cI at hk
 split at hk
 ·exact ⟨_,_,_,rfl,hk⟩
 ·exact (hbad hk).elim
def tt:PV→Bool
 | .agg (_::_::_::_::_::_::_::_::_::_::_::_::_)=>true
 | _=>false
def lh (ag:Bool) (m:Nat) (a:AV) (h:aa) (scr:an) (K:an→AV→aa→Prop) (bad:Prop):Prop:=match a with
 | .mptr d s g i off=>cz h d s g fun
  | .box v _=>cI (if i=0 then (di ag m off v).map (·,h) else none) scr K bad
  | .row _ _ xs _=>gc scr xs[i]? fun x scr=>cI ((cO ag m off x).map fun p=>(.pv p,h)) scr K bad
  | _=>bad
 | .pv (.ptr root off)=>if tt root&& !ag then gc scr root.cells[off]? fun p scr=>K scr (.pv p) h else cI ((cO ag m off root).map fun p=>(.pv p,h)) scr K bad
 | _=>bad
def li (m:Nat) (a x:AV) (h:aa) (scr:an) (K:an→AV→aa→Prop) (bad:Prop):Prop:=
 if x.cells.length=m∧m≠0∧x.ok=true then match a with
  | .mptr d s g i off=>cz h d s g fun
   | .box v false=>cI (if i=0 then (cX v off x.cells).map fun v'=>(bb,hput h d s ⟨g,.box v' false⟩) else none) scr K bad
   | .row _ _ _ false=>gd scr [x] h fun ps h1 scr=>match ps with
    | [p]=>cz h1 d s g fun
     | .row k e xs false=>gc scr xs[i]? fun y scr=>cI (if off+p.cells.length≤y.cells.length then (gu y off p.cells).map fun y'=>(bb,hput h1 d s ⟨g,.row k e (xs.set i y') false⟩) else none) scr K bad
     | _=>bad
    | _=>bad
   | _=>bad
  | _=>bad
 else bad
def lj (P:Program) (t:TypeId) (h:aa) (x:AV) (lo hi mx:Option AV) (K:AV→Prop) (bad:Prop):Prop:=match P.underlying t,x with
 | some .string,.pv (.lit (.string s))=>ge s.size lo hi mx fun l r m=>match m with
  | none=>K (aU (.string (s.extract l r)))
  | some _=>bad
 | some (.slice e),.pv (.sl k nl full xs)=>match aF P e with
  | some size=>ge xs.length lo hi mx fun l r m=>(nl=true∨k=size)∧K (.pv (.sl k nl (match m with | some m=>m==r | none=>full&&r==xs.length) ((xs.drop l).take (r-l))))
  | none=>bad
 | some (.slice e),.msl d s g off n full=>match aF P e with
  | some size=>ge n lo hi mx fun l r m=>cz h d s g fun
   | .row k _ _ _=>k=size∧K (.msl d s g (off+l) (r-l) (match m with | some m=>m==r | none=>full&&r==n))
   | _=>bad
  | none=>bad
 | some (.array n e),.mptr d s g i off=>match aF P e with
  | some size=>ge n lo hi mx fun l r m=>cz h d s g fun
   | .box v _=>(i=0∧size=1∧off+n≤v.cells.length)∧K (.msl d s g (off+l) (r-l) (m.getD n==r))
   | _=>bad
  | none=>bad
 | _,_=>bad
theorem tu {P:Program} {t:TypeId} {h:aa} {x:AV} {lo hi mx:Option AV} {K:AV→Prop} {bad:Prop} (hbad: ¬bad) (hk:lj P t h x lo hi mx K bad): ∃v,eQ P t h x lo hi mx=some v∧K v:=by
 unfold lj at hk
 unfold eQ
 split at hk
 ·rename_i s hP
  obtain ⟨l,r,m,hb,hk⟩:=jK hk
  cases m with
  | none=>exact ⟨_,by simp [hP,hb],hk⟩
  | some m=>exact (hbad hk).elim
 ·rename_i e k nl full xs hP
  split at hk
  ·rename_i size hs
   obtain ⟨l,r,m,hb,h1,hk⟩:=jK hk
   exact ⟨_,by cases m<;>simp [hP,hb,hs,h1],hk⟩
  ·exact (hbad hk).elim
 ·rename_i e d s g off n full hP
  split at hk
  ·rename_i size hs
   obtain ⟨l,r,m,hb,hk⟩:=jK hk
   obtain ⟨_,h2,hk⟩:=cH hk
   split at hk
   ·rename_i k _ _ _ hr
    exact ⟨_,by cases m<;>simp [hP,hb,hs,h2,hr,hk.1],hk.2⟩
   ·exact (hbad hk).elim
  ·exact (hbad hk).elim
 ·rename_i n e d s g i off hP
  split at hk
  ·rename_i size hs
   obtain ⟨l,r,m,hb,hk⟩:=jK hk
   obtain ⟨_,h2,hk⟩:=cH hk
   split at hk
   ·rename_i v _ hr
    exact ⟨_,by simp [hP,hb,hs,h2,hr,hk.1],hk.2⟩
   ·exact (hbad hk).elim
  ·exact (hbad hk).elim
 ·exact (hbad hk).elim
def lk (P:Program) (t:TypeId) (h:aa) (x ix:AV) (scr:an) (K:an→AV→aa→Prop) (bad:Prop):Prop:=match intOf? ix with
 | none=>bad
 | some i=>match P.underlying t,x with
  | some (.slice e),.pv (.sl k nl _ xs)=>match aF P e with
   | some size=>(0≤i∧nl=false∧k=size)∧gc scr xs[i.toNat]? fun y scr=>K scr (.pv (.ptr y 0)) h
   | none=>bad
  | some (.slice e),.msl d s g off n _=>match aF P e with
   | some size=>cz h d s g fun
    | .row k _ _ _=>(0≤i∧i<n∧k=size)∧K scr (.mptr d s g (off+i.toNat) 0) h
    | _=>bad
   | none=>bad
  | some (.array n e),.mptr d s g j o=>match aF P e with
   | some size=>(0≤i∧i<n)∧K scr (.mptr d s g j (o+i.toNat*size)) h
   | none=>bad
  | some (.array n e),.pv (.ptr r o)=>match aF P e with
   | some size=>(0≤i∧i<n)∧K scr (.pv (.ptr r (o+i.toNat*size))) h
   | none=>bad
  | _,_=>bad
def oX (P:Program) (t:TypeId) (h:aa) (x ix:AV) (other:Option (AV×aa)) (scr:an) (K:an→AV→aa→Prop) (bad:Prop):Prop:=match P.underlying t,x,ix with
 | some .string,.pv (.lit (.string s)),.pv (.lit (.int _ i))=>(0≤i∧i.toNat<s.size)∧K scr (aU (.int .u8 (lc s i.toNat))) h
 | _,_,_=>cI other scr K bad
def oY (P:Program) (t:TypeId) (d gen:Nat) (dst:Option Tmp) (h:aa) (l c:AV) (scr:an) (K:an→AV→aa→Prop) (bad:Prop):Prop:=match P.underlying t with
 | some (.slice e)=>match aF P e,cY P e,bA P e,dst,intOf? l,intOf? c with
  | some size,some bytes,some z,some s,some l,some c=>
   if size≠0∧(aA z).cells.length=size∧(aA z).ok=true then (0≤l∧l≤c∧bO c.toNat bytes=true)∧K scr (.msl d s gen 0 l.toNat (decide (l=c))) (hput h d s ⟨gen,.row size e (List.replicate l.toNat (aA z)) false⟩)
   else bad
  | _,_,_,_,_,_=>bad
 | _=>bad
def oZ (P:Program) (t:TypeId) (d gen:Nat) (dst:Option Tmp) (h:aa) (len:Nat) (parts:List (Nat×AV)) (scr:an) (K:an→AV→aa→Prop) (bad:Prop):Prop:=match P.underlying t with
 | some (.slice e)=>match aF P e,bA P e with
  | some size,some z=>
   if len=0∧parts.length=0 then K scr (.pv (.sl size false true [])) h else match dst with
    | some s=>
     if len*size≤16777216∧len*size≠0∧(aA z).cells.length=size∧(aA z).ok=true then
      gd scr (parts.map (·.2)) h fun ps h1 scr=>
       if (ps.all fun p=>p.cells.length==size&&p.ok)&&(parts.all fun q=>decide (q.1<len)) then
        K scr (.msl d s gen 0 len true) (hput h1 d s ⟨gen,.row size e (((parts.map (·.1)).zip ps).foldl (fun l q=>l.set q.1 q.2) (List.replicate len (aA z))) false⟩)
       else bad
     else bad
    | none=>bad
  | _,_=>bad
 | _=>bad
def o0 (a b:AV) (h:aa) (other:Option (AV×aa)) (scr:an) (K:an→AV→aa→Prop) (bad:Prop):Prop:=match a,b with
 | .pv (.lit (.string a)),.pv (.lit (.string b))=>a.size+b.size≤9223372036854775807∧K scr (aU (.string (a++b))) h
 | _,_=>cI other scr K bad
theorem tv (P:Program) (t:TypeId) (x y:Operand) (a b:ByteArray) (h:a.size+b.size≤9223372036854775807):cr P (do eqGuard .add t x y (.string a) (.string b);binOp .add t (.string a) (.string b))=some (.string (a++b)):=by
 have h2: ¬(((a.size+b.size:Nat):Int)>IntKind.i64.max):=by
  have:IntKind.i64.max=9223372036854775807:=by decide
  omega
 have h1:Op.stringOp .add a b=pure (.string (a++b)):=by unfold Op.stringOp;simp only [h2,if_false]
 show cr P (Op.stringOp .add a b)=_
 rw [h1]
 rfl
def o3 (P:Program) (t:TypeId) (h:aa) (x:AV) (other:Option (AV×aa)) (scr:an) (K:an→AV→aa→Prop) (bad:Prop):Prop:=match P.underlying t,x with
 | some (.slice e),.msl d s g off n _=>match bA P e with
  | some z=>cz h d s g fun
   | .row k e' xs false=>cy scr (n==0) fun b scr=>if b then K scr bb h else
     ((aA z).ok=true∧(aA z).cells.length=k∧k≠0∧off+n≤xs.length)∧K scr bb (hput h d s ⟨g,.row k e' (bN xs off (List.replicate n (aA z))) false⟩)
   | .box .. =>cI other scr K bad
   | _=>bad
  | none=>bad
 | _,_=>cI other scr K bad
def eB (xs:List PV):List UInt8:=(cB xs).getD []
def o4 (P:Program) (argTypes:Array TypeId) (h:aa) (x y:AV) (other:Option (AV×aa)) (scr:an) (K:an→AV→aa→Prop) (bad:Prop):Prop:=match x,y with
 | .mptr d s g off 0,.pv (.lit (.int .i64 n))=>cz h d s g fun
  | .row 1 e xs false=>match (argTypes[0]?).bind P.underlying with
   | some (.pointer e')=>(((1:Int)≤n∧n≤9223372036854775807∧off+n.toNat≤xs.length∧e'=e∧P.cellsOf e=1)∧(cB ((xs.drop off).take n.toNat)).isSome=true)∧
     K scr (aU (.string ⟨(eB ((xs.drop off).take n.toNat)).toArray⟩)) (hput h d s ⟨g,.row 1 e xs true⟩)
   | _=>bad
  | _=>bad
 | _,_=>cI other scr K bad
def o5 (it:AV) (h:aa) (scr:an) (K:an→AV→aa→Prop) (bad:Prop):Prop:=match it with
 | .mptr d s g 0 0=>cz h d s g fun
  | .iter b pos=>cy scr (decide (pos<b.size)) fun t scr=>
    if t then K scr (.pv (.tup [.lit (.bool true),.lit (.int .i64 pos),.lit (.int .i32 (Utf8.decode b pos).1)])) (hput h d s ⟨g,.iter b (pos+(Utf8.decode b pos).2)⟩) else K scr (.pv (.tup [.lit (.bool false)])) h
  | _=>bad
 | _=>bad
def ll (P:Program) (o:Oper) (ρ:Operand→AV) (d gen:Nat) (h:aa) (scr:an) (K:an→AV→aa→Prop) (bad:Prop):Prop:=match o.op with
 | .pick c a b=>match ρ c with
  | .pv (.lit (.bool t))=>cy scr t fun b' scr=>K scr (if b' then ρ a else ρ b) h
  | _=>bad
 | .load t a=>match aF P t,b8 P t with
  | some m,some ag=>lh ag m (ρ a) h scr K bad
  | _,_=>bad
 | .store t a x=>match aF P t with
  | some m=>li m (ρ a) (ρ x) h scr K bad
  | none=>bad
 | .slice t x lo hi mx=>lj P t h (ρ x) (lo.map ρ) (hi.map ρ) (mx.map ρ) (fun v=>K scr v h) bad
 | .indexAddr t x ix=>lk P t h (ρ x) (ρ ix) scr K bad
 | .binOp .add t x y _=>o0 (ρ x) (ρ y) h (ai P o ρ d gen h) scr K bad
 | .index t x ix=>oX P t h (ρ x) (ρ ix) (ai P o ρ d gen h) scr K bad
 | .makeSlice t l c=>oY P t d gen o.dst h (ρ l) (ρ c) scr K bad
 | .buildSlice t len parts=>oZ P t d gen o.dst h len (parts.toList.map fun q=>(q.1,ρ q.2)) scr K bad
 | .makeInterface t x=>match P.underlying t with
  | some (.interface _) | none=>bad
  | some d=>if iI P d then K scr (.ifc t (ρ x)) h else gd scr [ρ x] h fun ps h1 scr=>match ps with
   | [p]=>K scr (.pv (.iface t p)) h1
   | _=>bad
 | .call { callee:= .builtin .append,args,argTypes} =>match args.toList,argTypes.toList with
  | [x,y],[t0,t1]=>match P.underlying t0,gz P t1 with
   | some (.slice e),true=>match aF P e,cY P e,bA P e with
    | some size,some bytes,some z=>if size=0∨z.cells.size≠size then bad else
     ld size h (ρ y) fun ys=>lf e size bytes d (o.dst.getD 0) gen h scr (ρ x) ys K bad
    | _,_,_=>bad
   | some (.slice e),false=>lg P e t1 d (o.dst.getD 0) gen h scr (ρ x) (ρ y) K bad
   | _,_=>bad
  | _,_=>bad
 | .call { callee:= .builtin .clear,args,argTypes} =>match args.toList,argTypes.toList with
  | [x],[t]=>o3 P t h (ρ x) (ai P o ρ d gen h) scr K bad
  | _,_=>bad
 | .next it true=>o5 (ρ it) h scr K bad
 | .call { callee:= .builtin .unsafeString,args,argTypes} =>match args.toList with
  | [x,y]=>o4 P argTypes h (ρ x) (ρ y) (ai P o ρ d gen h) scr K bad
  | _=>bad
 | _=>cI (ai P o ρ d gen h) scr K bad
theorem o6 {v:AV} {h h1:aa} {p:PV} (hz:bi ao [v] h=some ([p],h1)):frz ao v h=some (p,h1):=by
 unfold bi at hz
 unfold frz
 simp only [bQ,Option.bind_some,Option.map_some,Option.map_eq_some_iff,Option.bind_eq_some_iff,Prod.mk.injEq] at hz
 obtain ⟨⟨qs,ks⟩,⟨⟨q,k1⟩,hq,hqs,rfl⟩,h1,h2⟩:=hz
 simp only [List.cons.injEq,and_true] at h1
 subst h1
 simp only [hq,Option.map_some,Option.some.injEq,Prod.mk.injEq,true_and]
 simpa using h2
theorem tw {ag:Bool} {m:Nat} {a:AV} {h:aa} {scr:an} {K:an→AV→aa→Prop} {bad:Prop} (hbad: ¬bad) (hk:lh ag m a h scr K bad):
  ∃k v h1,(match a with
  | .mptr d s g i off=>match live h d s g with
   | .box v _=>if i=0 then (di ag m off v).map (·,h) else none
   | .row _ _ xs _=>(xs[i]?).bind fun x=>(cO ag m off x).map fun p=>(AV.pv p,h)
   | _=>none
  | .pv (.ptr root off)=>(cO ag m off root).map fun p=>(AV.pv p,h)
  | _=>none)=some (v,h1)∧K k v h1:=by
 unfold lh at hk
 split at hk
 ·obtain ⟨_,h2,hk⟩:=cH hk
  simp only [h2]
  split at hk
  ·rename_i hb
   try rw [hb]
   exact db hbad hk
  ·rename_i hb
   try rw [hb]
   obtain ⟨x,scr,hx,hk⟩:=jI hk
   simp only [hx,Option.bind_some]
   exact db hbad hk
  ·exact (hbad hk).elim
 ·split at hk
  ·rename_i hb
   simp only [Bool.and_eq_true,Bool.not_eq_true'] at hb
   obtain ⟨x,scr,hx,hk⟩:=jI hk
   refine ⟨_,_,_,?_,hk⟩
   simp [cO,hb.2,hx]
  ·exact db hbad hk
 ·exact (hbad hk).elim
theorem tx {m:Nat} {a x:AV} {h:aa} {scr:an} {K:an→AV→aa→Prop} {bad:Prop} (hbad: ¬bad) (hk:li m a x h scr K bad):
  ∃k v h1,(if x.cells.length=m∧m≠0∧x.ok=true then
   match a with
   | .mptr d s g i off=>match live h d s g with
    | .box v false=>if i=0 then (cX v off x.cells).map fun v'=>(bb,hput h d s ⟨g,.box v' false⟩) else none
    | .row _ _ _ false=>(frz ao x h).bind fun (p,h1)=>match live h1 d s g with
     | .row k e xs false=>(xs[i]?).bind fun y=>if off+p.cells.length≤y.cells.length then (gu y off p.cells).map fun y'=>(bb,hput h1 d s ⟨g,.row k e (xs.set i y') false⟩) else none
     | _=>none
    | _=>none
   | _=>none
  else none)=some (v,h1)∧K k v h1:=by
 unfold li at hk
 split at hk
 ·rename_i hc
  rw [if_pos hc]
  split at hk
  ·obtain ⟨_,h2,hk⟩:=cH hk
   simp only [h2]
   split at hk
   ·rename_i hb
    try rw [hb]
    exact db hbad hk
   ·rename_i hb
    try rw [hb]
    obtain ⟨ps,h3,scr,hz,hk⟩:=jJ hk
    split at hk
    ·rename_i p
     obtain ⟨_,h4,hk⟩:=cH hk
     simp only [o6 hz,Option.bind_some,h4]
     split at hk
     ·rename_i hb2
      try rw [hb2]
      obtain ⟨y,scr,hy,hk⟩:=jI hk
      simp only [hy,Option.bind_some]
      exact db hbad hk
     ·exact (hbad hk).elim
    ·exact (hbad hk).elim
   ·exact (hbad hk).elim
  ·exact (hbad hk).elim
 ·exact (hbad hk).elim
theorem tz {P:Program} {t:TypeId} {h:aa} {x ix:AV} {scr:an} {K:an→AV→aa→Prop} {bad:Prop} (hbad: ¬bad) (hk:lk P t h x ix scr K bad):
  ∃k v h1,((intOf? ix).bind fun i=>match P.underlying t,x with
  | some (.slice e),.pv (.sl k nl _ xs)=>(aF P e).bind fun size=>if 0≤i∧nl=false∧k=size then (xs[i.toNat]?).map fun y=>(AV.pv (.ptr y 0),h) else none
  | some (.slice e),.msl d s g off n _=>(aF P e).bind fun size=>match live h d s g with
   | .row k _ _ _=>if 0≤i∧i<n∧k=size then some (.mptr d s g (off+i.toNat) 0,h) else none
   | _=>none
  | some (.array n e),.mptr d s g j o=>(aF P e).bind fun size=>if 0≤i∧i<n then some (.mptr d s g j (o+i.toNat*size),h) else none
  | some (.array n e),.pv (.ptr r o)=>(aF P e).bind fun size=>if 0≤i∧i<n then some (.pv (.ptr r (o+i.toNat*size)),h) else none
  | _,_=>none)=some (v,h1)∧K k v h1:=by
 unfold lk at hk
 split at hk
 ·exact (hbad hk).elim
 ·rename_i i hi
  simp only [hi,Option.bind_some]
  split at hk
  ·rename_i hP
   split at hk
   ·rename_i size hs
    obtain ⟨h1,hk⟩:=hk
    obtain ⟨y,scr,hy,hk⟩:=jI hk
    exact ⟨_,_,_,by simp only [hP,hs,Option.bind_some];rw [if_pos h1,hy];rfl,hk⟩
   ·exact (hbad hk).elim
  ·rename_i hP
   split at hk
   ·rename_i size hs
    obtain ⟨_,h2,hk⟩:=cH hk
    split at hk
    ·rename_i hb
     exact ⟨_,_,_,by simp only [hP,hs,Option.bind_some,h2,hb];rw [if_pos hk.1],hk.2⟩
    ·exact (hbad hk).elim
   ·exact (hbad hk).elim
  ·rename_i hP
   split at hk
   ·rename_i size hs
    exact ⟨_,_,_,by simp only [hP,hs,Option.bind_some];rw [if_pos hk.1],hk.2⟩
   ·exact (hbad hk).elim
  ·rename_i hP
   split at hk
   ·rename_i size hs
    exact ⟨_,_,_,by simp only [hP,hs,Option.bind_some];rw [if_pos hk.1],hk.2⟩
   ·exact (hbad hk).elim
  ·exact (hbad hk).elim
theorem tA (s:ByteArray) (i:Nat) (hi:i<s.size):lc s i=((s[i]'hi).toNat:Int):=by
 unfold lc
 have:s.data.toList.getD i 0=s[i]'hi:=by
  rw [List.getD_eq_getElem?_getD,Array.getElem?_toList]
  have hi':i<s.data.size:=hi
  rw [Array.getElem?_eq_getElem hi']
  rfl
 rw [this]
theorem tB {P:Program} {o:Oper} {ρ:Operand→AV} {d gen:Nat} {h:aa} {scr:an} {K:an→AV→aa→Prop} {bad:Prop} (hbad: ¬bad) (hk:ll P o ρ d gen h scr K bad):
  ∃k v h1,ai P o ρ d gen h=some (v,h1)∧K k v h1:=by
 unfold ll at hk
 split at hk
 ·rename_i c a b ho
  unfold ai
  simp only [ho]
  split at hk
  ·rename_i t hc
   obtain ⟨scr,hk⟩:=da hk
   exact ⟨_,_,_,by simp only [hc],hk⟩
  ·exact (hbad hk).elim
 ·rename_i t a ho
  unfold ai
  simp only [ho]
  split at hk
  ·rename_i m ag hm ha
   simp only [hm,ha,Option.bind_eq_bind,Option.bind_some]
   exact tw hbad hk
  ·exact (hbad hk).elim
 ·rename_i t a x ho
  unfold ai
  simp only [ho]
  split at hk
  ·rename_i m hm
   simp only [hm,Option.bind_eq_bind,Option.bind_some]
   exact tx hbad hk
  ·exact (hbad hk).elim
 ·rename_i t x lo hi mx ho
  obtain ⟨v,hv,hk⟩:=tu hbad hk
  exact ⟨_,_,_,by unfold ai;simp only [ho,hv,Option.map_some],hk⟩
 ·rename_i t x ix ho
  unfold ai
  simp only [ho]
  exact tz hbad hk
 ·rename_i t x y _ ho
  unfold o0 at hk
  split at hk
  ·rename_i a b hx hy
   refine ⟨_,_,_,?_,hk.2⟩
   unfold ai
   simp only [ho,j0,hx,hy,fD,iC,d6]
   rw [tv _ _ _ _ _ _ hk.1]
   rfl
  ·exact db hbad hk
 ·rename_i t x ix ho
  unfold oX at hk
  split at hk
  ·rename_i s k i hP hx hix
   obtain ⟨h12,hk⟩:=hk
   refine ⟨_,_,_,?_,hk⟩
   unfold ai
   simp only [ho,hP,hx,hix]
   rw [dif_pos h12,tA s i.toNat h12.2]
  ·exact db hbad hk
 ·rename_i t l c ho
  unfold oY at hk
  unfold ai
  simp only [ho]
  split at hk
  ·rename_i e hP
   split at hk
   ·rename_i size bytes z s l' c' h1 h2 h3 h4 h5 h6
    split at hk
    ·rename_i hc
     exact ⟨_,_,_,by simp only [hP,h1,h2,h3,h4,h5,h6,Option.bind_eq_bind,Option.bind_some];rw [if_pos ⟨hk.1.1,hk.1.2.1,hk.1.2.2,hc⟩],hk.2⟩
    ·exact (hbad hk).elim
   ·exact (hbad hk).elim
  ·exact (hbad hk).elim
 ·rename_i t len parts ho
  unfold oZ at hk
  unfold ai
  simp only [ho]
  split at hk
  ·rename_i e hP
   split at hk
   ·rename_i size z h1 h2
    simp only [hP,h1,h2,Option.bind_eq_bind,Option.bind_some]
    split at hk
    ·rename_i hc
     rw [if_pos (by simpa using hc)]
     exact ⟨_,_,_,rfl,hk⟩
    ·rename_i hc
     rw [if_neg (by simpa using hc)]
     split at hk
     ·rename_i s hs
      simp only [hs,Option.bind_some]
      split at hk
      ·rename_i hc2
       rw [if_pos hc2]
       obtain ⟨ps,h3,scr,hz,hk⟩:=jJ hk
       simp only [List.map_map] at hz
       have hz':bi ao (parts.toList.map fun q=>ρ q.2) h=some (ps,h3):=hz
       simp only [hz',Option.bind_some]
       split at hk
       ·rename_i hc3
        simp only [List.all_map,List.map_map] at hc3 hk
        have hc4:((ps.all fun p=>p.cells.length==size&&p.ok)&&(parts.toList.all fun q=>decide (q.1<len)))=true:=hc3
        exact ⟨_,_,_,by rw [if_pos hc4];rfl,hk⟩
       ·exact (hbad hk).elim
      ·exact (hbad hk).elim
     ·exact (hbad hk).elim
   ·exact (hbad hk).elim
  ·exact (hbad hk).elim
 ·rename_i t x ho
  unfold ai
  simp only [ho]
  split at hk
  ·exact (hbad hk).elim
  ·exact (hbad hk).elim
  ·rename_i d' hd1 hP
   have key: ∀r,(if iI P d' then some (AV.ifc t (ρ x),h) else (frz ao (ρ x) h).map fun (p,h1)=>(.pv (.iface t p),h1))=r→
     (match P.underlying t with
      | some (.interface _) | none=>none
      | some d=>if iI P d then some (AV.ifc t (ρ x),h) else (frz ao (ρ x) h).map fun (p,h1)=>(.pv (.iface t p),h1))=r:=by
    intro r hr
    rw [hP]
    split
    ·rename_i hc;simp at hc;exact (hd1 _ hc).elim
    ·rename_i hc;cases hc
    ·rename_i hc;injection hc with hc;subst hc;exact hr
   split at hk
   ·rename_i hpp
    exact ⟨_,_,_,key _ (by rw [if_pos hpp]),hk⟩
   rename_i hpp
   obtain ⟨ps,h3,scr,hz,hk⟩:=jJ hk
   split at hk
   ·rename_i p
    exact ⟨_,_,_,key _ (by rw [if_neg hpp,o6 hz];rfl),hk⟩
   ·exact (hbad hk).elim
 ·rename_i args argTypes ho
  unfold ai
  simp only [ho]
  split at hk
  ·rename_i x y t0 t1 hx ht
   unfold cg
   simp only [hx,ht,List.map_cons,List.map_nil]
   split at hk
   ·rename_i e hP ha
    simp only [hP,ha]
    split at hk
    ·rename_i size bytes z h1 h2 h3
     split at hk
     ·exact (hbad hk).elim
     ·rename_i hc
      obtain ⟨ys,hy,hk⟩:=tp hk
      obtain ⟨k,v,h4,ha,hk⟩:=tr hbad hk
      exact ⟨k,v,h4,by simp only [h1,h2,h3,hy,Option.bind_eq_bind,Option.bind_some];rw [if_neg hc];exact ha,hk⟩
    ·exact (hbad hk).elim
   ·rename_i e hP ha
    simp only [hP,ha]
    exact tq hbad hk
   ·exact (hbad hk).elim
  ·exact (hbad hk).elim
 ·rename_i args argTypes ho
  split at hk
  ·rename_i x t hx ht
   unfold o3 at hk
   split at hk
   ·rename_i e d1 s g off n full hP hv
    split at hk
    ·rename_i z hz
     obtain ⟨_,h2,hk⟩:=cH hk
     split at hk
     ·rename_i k e' xs hb
      obtain ⟨scr,hk⟩:=da hk
      have hlive:live h d1 s g= .row k e' xs false:=by rw [h2,hb]
      have h0:argTypes[0]? =some t:=by rw [←Array.getElem?_toList,ht];rfl
      by_cases hn:n=0
      ·subst hn
       simp only [beq_self_eq_true,if_true] at hk
       refine ⟨_,_,_,?_,hk⟩
       unfold ai cg bR
       simp only [ho,hx,List.map_cons,List.map_nil,h0,Option.bind_some,hP,hv,hz,hlive,if_true]
      ·have hnb:(n==0)=false:=by simpa using hn
       simp only [hnb,Bool.false_eq_true,if_false] at hk
       refine ⟨_,_,_,?_,hk.2⟩
       unfold ai cg bR
       simp only [ho,hx,List.map_cons,List.map_nil,h0,Option.bind_some,hP,hv,hz,hlive]
       rw [if_neg hn,if_pos hk.1]
     ·exact db hbad hk
     ·exact (hbad hk).elim
    ·exact (hbad hk).elim
   ·exact db hbad hk
  ·exact (hbad hk).elim
 ·rename_i it ho
  unfold o5 at hk
  split at hk
  ·rename_i d1 s g hv
   obtain ⟨_,h2,hk⟩:=cH hk
   split at hk
   ·rename_i b pos hb
    have hlive:live h d1 s g= .iter b pos:=by rw [h2,hb]
    obtain ⟨scr,hk⟩:=da hk
    unfold ai
    simp only [ho,hv,hlive]
    by_cases hc:pos<b.size
    ·simp only [hc,decide_true,if_true] at hk ⊢
     exact ⟨_,_,_,rfl,hk⟩
    ·simp only [hc,decide_false,Bool.false_eq_true,if_false] at hk ⊢
     exact ⟨_,_,_,rfl,hk⟩
   ·exact (hbad hk).elim
  ·exact (hbad hk).elim
 ·rename_i args argTypes ho
  split at hk
  ·rename_i x y hx
   unfold o4 at hk
   split at hk
   ·rename_i d1 s g off n hv hn
    obtain ⟨_,h2,hk⟩:=cH hk
    split at hk
    ·rename_i e xs hb
     have hlive:live h d1 s g= .row 1 e xs false:=by rw [h2,hb]
     split at hk
     ·rename_i e' hP
      obtain ⟨⟨hc,hsome⟩,hk⟩:=hk
      obtain ⟨bs,hbs⟩:=Option.isSome_iff_exists.1 hsome
      refine ⟨_,_,_,?_,hk⟩
      unfold ai cg bR
      simp only [ho,hx,List.map_cons,List.map_nil,hv,hn,hlive,hP]
      rw [if_pos hc]
      simp only [hbs,eB,Option.map_some,Option.getD_some]
     ·exact (hbad hk).elim
    ·exact (hbad hk).elim
   ·exact db hbad hk
  ·exact (hbad hk).elim
 ·exact db hbad hk
section
variable (E:ap) (ys:bV) (d:Nat)
def im (h:aa) (K:Prop):List (K2×Nat)→Prop
 | []=>K
 | q::l=>q.2=(ac h q.1.1 q.1.2).g∧im h K l
theorem jL {h:aa} {K:Prop} : ∀ {l:List (K2×Nat)},im h K l→cC h l=true∧K
 | [],hk=>⟨rfl,hk⟩
 | q::l,hk=>by
  obtain ⟨h1,h2⟩:=jL hk.2
  refine ⟨?_,h2⟩
  unfold cC at h1 ⊢
  simp only [List.all_cons,h1,Bool.and_true,beq_iff_eq]
  exact hk.1
def lm (h:aa) (ks:List K2) (args:List AV):List (K2×Nat):=args.flatMap (aV ao)++ks.flatMap fun k=>b4 (ac h k.1 k.2).b
theorem tC {h:aa} {ks:List K2} {args:List AV} (hg:cC h (lm h ks args)=true):fK h ks args=true:=by
 unfold cC lm at hg
 simp only [List.all_append,Bool.and_eq_true,List.all_flatMap] at hg
 simp only [fK,cC,Bool.and_eq_true,List.all_flatMap]
 exact hg
def o7 (slot gen:Nat) (fid:FuncId) (l:List AV) (h:aa) (scr:an) (K:an→AV→aa→Prop) (bad:Prop):Prop:=match gH h l with
 | none=>bad
 | some (ks,cargs,rows)=>im h (match scr with
  | .resC v rs k=>bg E fid cargs rows v rs∧(match gJ d slot gen ks h v rs with
   | some (v',h')=>K k v' h'
   | none=>bad)
  | scr=>ti scr.id fid cargs rows) (lm h ks l)
def ln (fid:FuncId) (l:List AV) (h:aa) (scr:an) (K:an→AV→aa→Prop) (bad:Prop):Prop:=match l with
 | [.pv e,.ifc t2 (.mptr d s g 0 0)]=>match E.asf fid t2,E.intr fid,E.P.funcs[fid]? with
  | some t1,none,some _=>match e with
   | .lit .nilIface=>K scr (aU (.bool false)) h
   | .iface t (.ptr r o)=>cz h d s g fun
    | .box (.pv old) false=>if t=t1∧old.ok=true∧old.isAgg=false then K scr (aU (.bool true)) (hput h d s ⟨g,.box (.pv (.ptr r o)) false⟩) else bad
    | _=>bad
   | _=>bad
  | _,_,_=>bad
 | _=>bad
def lq (fid:FuncId) (l:List AV) (h:aa) (scr:an) (K:an→AV→aa→Prop) (bad:Prop):Prop:=match l with
 | [.mptr d s g 0 0]=>match E.ckf fid,E.intr fid,E.P.funcs[fid]? with
  | some T,none,some _=>cz h d s g fun
   | .box (.agg (c::l)) false=>match c with
    | .btag t=>if t=T∧l.length=1 then K scr (.pv (.tup [])) (hput h d s ⟨g,.box (.agg (.mptr d s g 0 0::l)) false⟩) else bad
    | .mptr d' s' g' 0 0=>(d'=d∧s'=s∧g'=g)∧K scr (.pv (.tup [])) h
    | _=>bad
   | _=>bad
  | _,_,_=>bad
 | _=>bad
def jM (st:Bool) (gen:Nat) (o:Oper) (fid:FuncId) (l:List AV) (s:St) (scr:an) (K:an→AV→aa→Nat→Prop):Prop:=
 if E.ok fid then
  if E.can fid&&((E.intr fid).isNone&&(E.inl fid||(!E.rd fid&&l.any (bc ao)))) then
   if st&&(aN E o== .fz) then cV o s else o7 E d (o.dst.getD 0) gen fid l s.h scr (fun k v h=>K k v h s.g) (cV o s)
  else if E.inl fid then match aQ l,s.h with
   | some ps,[f0]=>match scr with
    | .resI v fr dg k=>oT E fid ps v fr dg∧K k (v s.g) [f0,fr s.g] (s.g+dg)
    | scr=>tj scr.id fid ps
   | _,_=>cV o s
  else if l.any (bc ao)&&(!E.rd fid||(st&&(aN E o== .fz))) then cV o s else
  gd scr l s.h fun ps h1 scr=>match scr with
   | .res r scr=>cU E fid ps r∧K scr (.pv r) (if E.rd fid then s.h else h1) s.g
   | .resO kk e xs off m full scr=>oS E fid ps kk e xs off m full∧K scr (.msl d (o.dst.getD 0) gen off m full) (hput h1 d (o.dst.getD 0) ⟨gen,.row kk e xs false⟩) s.g
   | .resB e a b=>cU E fid ps (.lit (.bool e))∧cy (.fork a b) e fun e scr=>K scr (aU (.bool e)) (if E.rd fid then s.h else h1) s.g
   | scr=>th scr.id fid ps
 else if st&&(aN E o== .fz) then cV o s else if (E.ckf fid).isSome then lq E fid l s.h scr (fun k v h=>K k v h s.g) (cV o s) else ln E fid l s.h scr (fun k v h=>K k v h s.g) (cV o s)
def jN (st:Bool) (gen:Nat) (o:Oper) (s:St) (scr:an) (K:an→AV→aa→Nat→Prop):Prop:=match o.op with
 | .call { callee:= .value f,args,..} =>match aw s.t f with
  | .yld _ _ gl=>match s.h with
   | []=>cV o s
   | f0::up=> ∃(b:Bool) (f0':List ak) (g':Nat),oW ys gl (args.toList.map (aw s.t)) (f0::up) s.g b (f0'::up) g'∧K scr (aU (.bool b)) (f0'::up) g'
  | fv=>match cP fv with
   | none=>cV o s
   | some (fid,a,b)=>jM E d st gen o fid (a++args.toList.map (aw s.t)++b) s scr K
 | .call { callee:= .invoke r m,args,..} =>match gA E.P (aw s.t r) m with
  | none=>cV o s
  | some (fid,rv)=>jM E d st gen o fid ([rv]++args.toList.map (aw s.t)) s scr K
 | _=>if st&&(aN E o== .al)&& !eT s.h d o.dst then cV o s else ll E.P o (aw s.t) d gen s.h scr (fun k v h=>K k v h s.g) (cV o s)
def tD (all:Array Oper) (i:Nat):Bool:=all.any fun o=>match o.guard with
 | some (j,_)=>j==i
 | none=>false
def jO (all:Array Oper) (i:Nat) (o:Oper) (s:St) (K:an→St→Prop) (scr:an) (v:AV) (h:aa) (g:Nat):Prop:=
 if tD all i then match bS v with
  | some e=>cy scr e fun b scr=>K scr { t:=aP s.t o.dst (aU (.bool b)),h:=h,g:=g}
  | none=>K scr { t:=aP s.t o.dst v,h:=h,g:=g}
 else K scr { t:=aP s.t o.dst v,h:=h,g:=g}
def jP (st:Bool) (gb:Nat) (all:Array Oper) (i:Nat) (o:Oper) (s:St) (scr:an) (K:an→St→Prop):Prop:=match o.guard with
 | none=>jN E ys d st (gb+i) o s scr (jO all i o s K)
 | some (j,want)=>match ((all[j]?).bind (·.dst)).bind fun i=>bS (bz s.t i) with
  | none=>K scr { t:=aP s.t o.dst bb,h:=s.h,g:=s.g}
  | some e=>cy scr e fun b scr=>if b==want then jN E ys d st (gb+i) o s scr (jO all i o s K)
    else K scr { t:=aP s.t o.dst bb,h:=s.h,g:=s.g}
inductive fA where
 | code (c:Code) (fr:List ft) (s:St)
 | ops (all:Array Oper) (draw:Bool) (gb:Nat) (os:List Oper) (i:Nat) (fr:List ft) (s:St)
 | exit (x:av) (fr:List ft) (s:St)
def KQ:List ft→(av→St→Prop)→av→St→Prop
 | [],Q=>Q
 | .seqK b::fr,Q=>oL E ys d b (KQ fr Q)
 | .blockK id::fr,Q=>ii id (KQ fr Q)
 | .loopK c::fr,Q=>oM E ys d c (KQ fr Q)
inductive jQ (E:ap) (ys:bV) (d:Nat) (c:Code) (Q:av→St→Prop) (s:St):Prop
 | mk (h:fq E ys d c Q s)
theorem jQ.h {E:ap} {ys:bV} {d:Nat} {c:Code} {Q:av→St→Prop} {s:St} :jQ E ys d c Q s→fq E ys d c Q s
 | ⟨h⟩=>h
def lr (js:List Nat) (j:Nat→AV) (t:List AV):List AV:=js.foldl (fun t i=>t.set i (j i)) t
def ls (d:Nat) (hs:List Nat) (jr:Nat→ak) (h:aa):aa:=h.set d (hs.foldl (fun l i=>l.set i (jr i)) (h.getD d []))
theorem o8 (t:List AV): ∀js,lr js (bz t) t=t
 | []=>rfl
 | i::js=>by
  have:t.set i (bz t i)=t:=by
   unfold bz
   by_cases hi:i<t.length
   ·simp [List.getD_eq_getElem?_getD,hi]
   ·exact List.set_eq_of_length_le (by omega)
  show lr js (bz t) (t.set i (bz t i))=t
  rw [this]
  exact o8 t js
theorem tE (d:Nat) (h:aa) (hs:List Nat):ls d hs (fun i=>(h.getD d []).getD i ae) h=h:=by
 have key: ∀(l:List ak) (hs:List Nat),hs.foldl (fun l' i=>l'.set i (l.getD i ae)) l=l:=by
  intro l hs
  induction hs with
  | nil=>rfl
  | cons i hs ih=>
   have:l.set i (l.getD i ae)=l:=by
    by_cases hi:i<l.length
    ·simp [List.getD_eq_getElem?_getD,hi]
    ·exact List.set_eq_of_length_le (by omega)
   rw [List.foldl_cons,this]
   exact ih
 unfold ls
 rw [key]
 by_cases hd:d<h.length
 ·simp [List.getD_eq_getElem?_getD,hd]
 ·exact List.set_eq_of_length_le (by omega)
def gf (E:ap) (ys:bV) (d:Nat) (js hs:List Nat) (c:Code) (Q:av→St→Prop) (s:St):Prop:= ∀(j:Nat→AV) (jr:Nat→ak) (g:Nat),jQ E ys d c Q { t:=lr js j s.t,h:=ls d hs jr s.h,g:=g}
theorem gf.h {E:ap} {ys:bV} {d:Nat} {js hs:List Nat} {c:Code} {Q:av→St→Prop} {s:St} (h:gf E ys d js hs c Q s):fq E ys d c Q s:=by
 have:=(h (bz s.t) (fun i=>(s.h.getD d []).getD i ae) s.g).h
 rw [o8,tE] at this
 exact this
inductive jR (E:ap) (ys:bV) (d:Nat) (f:Operand) (ps:Array Tmp) (assign body:Code) (Q:av→St→Prop) (s:St):Prop
 | mk (h:Wp E ys d (.rangeFunc f ps assign body) Q s)
theorem jR.h {E:ap} {ys:bV} {d:Nat} {f:Operand} {ps:Array Tmp} {assign body:Code} {Q:av→St→Prop} {s:St} :jR E ys d f ps assign body Q s→Wp E ys d (.rangeFunc f ps assign body) Q s
 | ⟨h⟩=>h
def tF (Q:av→St→Prop) (go:an→fA→Prop):an→fA→Prop
 | scr,.code c fr s=>match c with
  | .skip | .label _=>go scr (.exit .normal fr s)
  | .ret=>go scr (.exit .ret fr s)
  | .exit id=>go scr (.exit (.exit id) fr s)
  | .goto l=>go scr (.exit (.goto l) fr s)
  | .region id ops draw=>if draw&&E.bad ops then ik (.region id ops draw) s else go scr (.ops ops draw s.g ops.toList 0 fr { s with h:=if draw then dm E d ops.toList s.h else s.h,g:=s.g+ops.size})
  | .seq a b=>go scr (.code a (.seqK b::fr) s)
  | .cond c a b=>match bS (aw s.t c) with
   | some e=>cy scr e fun b' scr=>go scr (.code (if b' then a else b) fr s)
   | none=>ik (.cond c a b) s
  | .block id c=>go scr (.code c (.blockK id::fr) s)
  | .loop c=>match scr with
   | .go scr=>go scr (.code c (.loopK c::fr) s)
   | .mask js hs=>gf E ys d js hs c (KQ E ys d fr Q) s
   | scr=>jH scr.id c s
  | .rangeFunc f ps assign body=>jR E ys d f ps assign body (KQ E ys d fr Q) s
  | c=>ik c s
 | scr,.ops all draw gb os i fr s=>match os with
  | []=>go scr (.exit .normal fr s)
  | o::os=>jP E ys d draw gb all i o s scr fun scr s1=>go scr (.ops all draw gb os (i+1) fr s1)
 | scr,.exit x fr s=>match fr with
  | []=>Q x s
  | .seqK b::fr=>match x with
   | .normal=>go scr (.code b fr s)
   | x=>go scr (.exit x fr s)
  | .blockK id::fr=>match x with
   | .exit id'=>if id'=id then go scr (.exit .normal fr s) else go scr (.exit (.exit id') fr s)
   | x=>go scr (.exit x fr s)
  | .loopK c::fr=>match x with
   | .normal=>match scr with
    | .go scr=>go scr (.code c (.loopK c::fr) s)
    | .mask js hs=>gf E ys d js hs c (KQ E ys d fr Q) s
    | scr=>jH scr.id c s
   | x=>go scr (.exit x fr s)
def cW (Q:av→St→Prop):Nat→an→fA→Prop
 | 0,_,_=>tl
 | n+1,scr,t=>tF E ys d Q (cW Q n) scr t
def lu (Q:av→St→Prop):fA→Prop
 | .code c fr s=>Wp E ys d c (KQ E ys d fr Q) s
 | .ops all draw gb os i fr s=>ig E ys draw d gb all os i (fun s=>KQ E ys d fr Q .normal s) s
 | .exit x fr s=>KQ E ys d fr Q x s
variable {E ys d}
theorem tG {fid:FuncId} {l:List AV} {h:aa} {scr:an} {K:an→AV→aa→Prop} {bad:Prop} (hbad: ¬bad) (hk:ln E fid l h scr K bad):
  ∃k v h1 fn,eY E fid l h=some (v,h1)∧E.intr fid=none∧E.P.funcs[fid]? =some fn∧K k v h1:=by
 unfold ln at hk
 split at hk
 ·rename_i e t2 d s g
  split at hk
  ·rename_i t1 fn h1 h2 h3
   split at hk
   ·refine ⟨_,_,_,fn,?_,h2,h3,hk⟩
    simp only [eY,h1,Option.bind_some]
   ·rename_i t r o
    obtain ⟨_,hl,hk⟩:=cH hk
    split at hk
    ·rename_i old hb
     split at hk
     ·rename_i hc
      refine ⟨_,_,_,fn,?_,h2,h3,hk⟩
      simp only [eY,h1,Option.bind_some,hl,hb]
      rw [if_pos hc]
     ·exact (hbad hk).elim
    ·exact (hbad hk).elim
   ·exact (hbad hk).elim
  ·exact (hbad hk).elim
 ·exact (hbad hk).elim
theorem tH {fid:FuncId} {l:List AV} {h:aa} {scr:an} {K:an→AV→aa→Prop} {bad:Prop} (hbad: ¬bad) (hk:lq E fid l h scr K bad):
  ∃k v h1 fn,eZ E fid l h=some (v,h1)∧E.intr fid=none∧E.P.funcs[fid]? =some fn∧K k v h1:=by
 unfold lq at hk
 split at hk
 ·rename_i d s g
  split at hk
  ·rename_i T fn h1 h2 h3
   obtain ⟨_,hl,hk⟩:=cH hk
   split at hk
   ·rename_i c l hb
    split at hk
    ·split at hk
     ·rename_i hc
      refine ⟨_,_,_,fn,?_,h2,h3,hk⟩
      simp only [eZ,h1,Option.bind_some,hl,hb]
      rw [if_pos hc]
     ·exact (hbad hk).elim
    ·obtain ⟨hc,hk⟩:=hk
     refine ⟨_,_,_,fn,?_,h2,h3,hk⟩
     simp only [eZ,h1,Option.bind_some,hl,hb]
     rw [if_pos hc]
    ·exact (hbad hk).elim
   ·exact (hbad hk).elim
  ·exact (hbad hk).elim
 ·exact (hbad hk).elim
theorem o9 {st:Bool} {gb i:Nat} {all:Array Oper} {o:Oper} {fid:FuncId} {l:List AV} {s:St} {scr:an} {K:an→AV→aa→Nat→Prop} (hw:bv all s.t o=true) (hc:eA E o (aw s.t) fid l)
  (hk:jM E d st (gb+i) o fid l s scr K): ∃k v h1 g1,cG E ys st d gb all i o s { t:=aP s.t o.dst v,h:=h1,g:=g1} ∧K k v h1 g1:=by
 unfold jM at hk
 split at hk
 ·rename_i hok
  split at hk
  ·rename_i hcc
   simp only [Bool.and_eq_true,Option.isNone_iff_eq_none] at hcc
   obtain ⟨hcan,hi,hm⟩:=hcc
   split at hk
   ·exact nomatch hk
   rename_i hst
   unfold o7 at hk
   split at hk
   ·exact nomatch hk
   rename_i ks cargs rows hin
   obtain ⟨hgen,hk⟩:=jL hk
   split at hk
   ·obtain ⟨hd,hk⟩:=hk
    split at hk
    ·rename_i v' h' hb
     exact ⟨_,_,_,_,s7 hw hc (by simpa using hst) hi hok hcan hm hin (tC hgen) hd hb,hk⟩
    ·exact nomatch hk
   ·exact nomatch hk
  split at hk
  ·split at hk
   ·rename_i ps f0 hps hh
    split at hk
    ·exact ⟨_,_,_,_,tb hw hc (dX hps) hh hk.1,hk.2⟩
    ·exact nomatch hk
   ·exact nomatch hk
  split at hk
  ·exact nomatch hk
  ·rename_i hm0
   have hm:(!E.rd fid&&l.any (bc ao))=false∧(st&&(aN E o== .fz)&&l.any (bc ao))=false:=by
    generalize l.any (bc ao)=m at hm0
    cases m<;>simp_all
   obtain ⟨ps,h1,scr,hz,hk⟩:=jJ hk
   split at hk
   ·exact ⟨_,_,_,_,oU hw hc hz hm.1 hm.2 hk.1,hk.2⟩
   ·exact ⟨_,_,_,_,tc hw hc hz hm.1 hm.2 hk.1,hk.2⟩
   ·obtain ⟨hd,hk⟩:=hk
    obtain ⟨scr,hk⟩:=da hk
    exact ⟨_,_,_,_,oU hw hc hz hm.1 hm.2 hd,hk⟩
   ·exact nomatch hk
 ·rename_i hok
  split at hk
  ·exact nomatch hk
  ·rename_i hst
   have hst:(st&&(aN E o== .fz))=false:=by simpa using hst
   split at hk
   ·rename_i hck
    obtain ⟨k,v,h1,fn,ha,hi,hf,hk⟩:=tH (fun h=>nomatch h) hk
    exact ⟨k,v,h1,_,oV hw hc (by rw [hst];rfl) hi hf (by simpa using hok) (by unfold ef;rw [if_pos hck];exact ha),hk⟩
   ·rename_i hck
    obtain ⟨k,v,h1,fn,ha,hi,hf,hk⟩:=tG (fun h=>nomatch h) hk
    exact ⟨k,v,h1,_,oV hw hc (by rw [hst];rfl) hi hf (by simpa using hok) (by unfold ef;rw [if_neg hck];exact ha),hk⟩
theorem pd {st:Bool} {gb i:Nat} {all:Array Oper} {o:Oper} {s:St} {scr:an} {K:an→AV→aa→Nat→Prop} (hw:bv all s.t o=true) (hk:jN E ys d st (gb+i) o s scr K):
  ∃k v h1 g1,cG E ys st d gb all i o s { t:=aP s.t o.dst v,h:=h1,g:=g1} ∧K k v h1 g1:=by
 unfold jN at hk
 split at hk
 ·rename_i f args ats ho
  split at hk
  ·rename_i d1 s1 gl hev
   split at hk
   ·exact nomatch hk
   ·rename_i f0 up hh
    obtain ⟨b,f0',g',hy,hk⟩:=hk
    rw [←hh] at hy
    exact ⟨_,_,_,_,te hw ho hev hy,hk⟩
  ·split at hk
   ·exact nomatch hk
   ·rename_i fid a b hc
    exact o9 hw (.inl ⟨f,args,ats,a,b,ho,hc,rfl⟩) hk
 ·rename_i r m args ats ho
  split at hk
  ·exact nomatch hk
  ·rename_i fid rv hc
   exact o9 hw (.inr ⟨r,m,args,ats,rv,ho,hc,rfl⟩) hk
 ·rename_i hno hno2
  split at hk
  ·exact nomatch hk
  ·rename_i hst
   obtain ⟨k,v,h1,ha,hk⟩:=tB (fun h=>nomatch h) hk
   refine ⟨k,v,h1,_,s5 ?_,hk⟩
   unfold bw cu
   rw [hw]
   simp only [if_true]
   unfold bx
   split
   ·rename_i f args ats ho
    exact (hno _ _ _ ho).elim
   ·rename_i r m args ats ho
    exact (hno2 _ _ _ _ ho).elim
   ·rw [if_neg hst,ha]
    rfl
theorem tI {v:AV} {e:Bool} (h:bS v=some e):v=aU (.bool e):=by
 unfold bS at h
 split at h
 ·simp only [Option.some.injEq] at h;subst h;rfl
 ·cases h
theorem pe {all:Array Oper} {i:Nat} {o:Oper} {s:St} {K:an→St→Prop} {scr:an} {v:AV} {h:aa} {g:Nat} (hk:jO all i o s K scr v h g): ∃k,K k { t:=aP s.t o.dst v,h:=h,g:=g} :=by
 unfold jO at hk
 split at hk
 ·split at hk
  ·rename_i e he
   obtain ⟨k,hk⟩:=da hk
   rw [tI he]
   exact ⟨k,hk⟩
  ·exact ⟨_,hk⟩
 ·exact ⟨_,hk⟩
theorem tJ {st:Bool} {gb i:Nat} {all:Array Oper} {o:Oper} {s:St} {scr:an} {K:an→St→Prop} (hk:jP E ys d st gb all i o s scr K): ∃k s1,cG E ys st d gb all i o s s1∧K k s1:=by
 unfold jP at hk
 have off:bv all s.t o=false→cG E ys st d gb all i o s { t:=aP s.t o.dst bb,h:=s.h,g:=s.g} :=fun hw=>⟨0,fun a _ n _=>by unfold bw cu;rw [hw];rfl⟩
 split at hk
 ·rename_i hg
  obtain ⟨k,v,h1,g1,ho,hk⟩:=pd (ys:=ys) (all:=all) (by simp [bv,hg]) hk
  obtain ⟨k,hk⟩:=pe hk
  exact ⟨k,_,ho,hk⟩
 ·rename_i j want hg
  split at hk
  ·rename_i hb
   exact ⟨_,_,off (by simp only [bv,hg];rw [hb];rfl),hk⟩
  ·rename_i e hb
   obtain ⟨scr,hk⟩:=da hk
   split at hk
   ·rename_i he
    obtain ⟨k,v,h1,g1,ho,hk⟩:=pd (ys:=ys) (all:=all) (by simp only [bv,hg];rw [hb];simpa using he) hk
    obtain ⟨k,hk⟩:=pe hk
    exact ⟨k,_,ho,hk⟩
   ·rename_i he
    exact ⟨_,_,off (by simp only [bv,hg];rw [hb];simpa using he),hk⟩
theorem lv {Q:av→St→Prop} : ∀(n:Nat) (scr:an) (t:fA),cW E ys d Q n scr t→lu E ys d Q t:=by
 intro n
 induction n with
 | zero=>intro scr t h;cases t<;>exact nomatch h
 | succ n ih=>
  intro scr t h
  cases t with
  | code c fr s=>
   cases c with
   | skip=>exact sN (ih _ _ h)
   | label l=>exact sO (ih _ _ h)
   | ret=>exact sP (ih _ _ h)
   | exit id=>exact sQ (ih _ _ h)
   | goto l=>exact sR (ih _ _ h)
   | region id ops draw=>
    have h:(if (draw&&E.bad ops)=true then ik (.region id ops draw) s else cW E ys d Q n scr (.ops ops draw s.g ops.toList 0 fr { s with h:=if draw then dm E d ops.toList s.h else s.h,g:=s.g+ops.size})):=h
    split at h
    ·cases h
    ·rename_i hb;exact sV (by simpa using hb) (ih _ _ h)
   | seq a b=>exact sS (ih _ _ h)
   | cond c a b=>
    have h:(match bS (aw s.t c) with
     | some e=>cy scr e fun b' scr=>cW E ys d Q n scr (.code (if b' then a else b) fr s)
     | none=>ik (.cond c a b) s):=h
    split at h
    ·rename_i e he
     obtain ⟨scr,h⟩:=da h
     exact sT he (ih _ _ h)
    ·exact nomatch h
   | block id c=>exact sU (ih _ _ h)
   | loop c=>
    have h:(match (generalizing:=false) scr with
     | .go scr=>cW E ys d Q n scr (.code c (.loopK c::fr) s)
     | .mask js hs=>gf E ys d js hs c (KQ E ys d fr Q) s
     | scr=>jH scr.id c s):=h
    split at h
    ·exact oN (k9 (ih _ _ h))
    ·exact oN h.h
    ·exact nomatch h
   | rangeFunc f ps assign body=>exact jR.h h
   | _=>exact nomatch h
  | ops all draw gb os i fr s=>
   cases os with
   | nil=>exact sW (ih _ _ h)
   | cons o os=>
    have h:jP E ys d draw gb all i o s scr fun scr s1=>cW E ys d Q n scr (.ops all draw gb os (i+1) fr s1):=h
    obtain ⟨k,s1,h1,h⟩:=tJ (ys:=ys) h
    exact sX h1 (ih _ _ h)
  | exit x fr s=>
   cases fr with
   | nil=>exact h
   | cons f fr=>
    cases f with
    | seqK b=>cases x with
     | normal=>exact ih scr (.code b fr s) h
     | _=>exact ih scr (.exit _ fr s) h
    | blockK id=>
     cases x with
     | exit id'=>
      have h:(if id'=id then cW E ys d Q n scr (.exit .normal fr s) else cW E ys d Q n scr (.exit (.exit id') fr s)):=h
      show ii id (KQ E ys d fr Q) (.exit id') s
      simp only [ii]
      split at h
      ·rename_i he;rw [if_pos he];exact ih scr (.exit .normal fr s) h
      ·rename_i he;rw [if_neg he];exact ih scr (.exit _ fr s) h
     | _=>exact ih scr (.exit _ fr s) h
    | loopK c=>
     cases x with
     | normal=>
      have h:(match (generalizing:=false) scr with
       | .go scr=>cW E ys d Q n scr (.code c (.loopK c::fr) s)
       | .mask js hs=>gf E ys d js hs c (KQ E ys d fr Q) s
       | scr=>jH scr.id c s):=h
      show fq E ys d c (KQ E ys d fr Q) s
      split at h
      ·exact k9 (ih _ _ h)
      ·exact h.h
      ·exact nomatch h
     | _=>exact ih scr (.exit _ fr s) h
end
def gg (fn:Func):Code:=match fn.body with
 | some c=>c
 | none=> .skip
def io (P:Program) (fn:Func) (r:PV) (x:av) (s:St):Prop:=match x with
 | .normal | .ret=>match b3 P fn s.h s.t with
  | some (.pv p)=>p=r
  | some v=> ∃hp,frz ao v s.h=some (r,hp)
  | none=>False
 | _=>False
theorem tK {P:Program} {fn:Func} {r:PV} {x:av} {s:St} (h:io P fn r x s):oO P fn r x s:=by
 unfold io at h
 have key:(match b3 P fn s.h s.t with
  | some (.pv p)=>p=r
  | some v=> ∃hp,frz ao v s.h=some (r,hp)
  | none=>False)→ ∃v hp,b3 P fn s.h s.t=some v∧frz ao v s.h=some (r,hp):=by
  intro h
  split at h
  ·rename_i p hp
   subst h
   exact ⟨_,s.h,hp,rfl⟩
  ·rename_i v _ hv
   obtain ⟨hp,h⟩:=h
   exact ⟨_,hp,hv,h⟩
  ·exact h.elim
 cases x with
 | normal=>exact ⟨.inl rfl,key h⟩
 | ret=>exact ⟨.inr rfl,key h⟩
 | _=>exact h.elim
theorem pf {E:ap} {ys:bV} {d:Nat} {c:Code} {Q R:av→St→Prop} {s:St} (hQ: ∀x s,Q x s→R x s) (h:Wp E ys d c Q s):Wp E ys d c R s:=
 let ⟨x,s',h1,h2⟩:=h;⟨x,s',h1,hQ x s' h2⟩
def pg (fn:Func) (ps:List PV):fA:= .code (gg fn) [] { t:=c3 fn.ntmps (ps.map .pv),h:=[List.replicate fn.ntmps ae],g:=0}
def jS (E:ap) (fn:Func) (ps:List PV) (r:PV) (n:Nat) (scr:an):Prop:=cW E fp 0 (io E.P fn r) n scr (pg fn ps)
theorem lw {E:ap} {f:FuncId} {fn:Func} {ps:List PV} {r:PV} (n:Nat) (scr:an) (hi:E.intr f=none) (hf:E.P.funcs[f]? =some fn) (hb:fn.body.isSome=true) (hok:E.ok f=true) (hinl:E.inl f=false) (hown:E.own f=false)
  (h:jS E fn ps r n scr) (hlit:E.rd f=false∨ ∃x,r= .lit x:=by first | exact .inl rfl | exact .inr ⟨_,rfl⟩):cU E f ps r:=by
 obtain ⟨c,hc⟩:=Option.isSome_iff_exists.1 hb
 refine sY hi hf hc hok hinl hown hlit (pf (fun x s h=>tK h) ?_)
 have h1:=lv _ _ _ h
 simp only [pg,lu,KQ,gg,hc] at h1
 exact h1
def lz (ex:Option K2) (h1:aa) (K:Prop):Nat→Nat→Prop
 | _,0=>K
 | i,n+1=>(if dr ex i then True else (ac h1 0 i).g=i)∧im h1 (lz ex h1 K (i+1) n) (b4 (ac h1 0 i).b)
theorem ph {ex:Option K2} {h1:aa} {K:Prop} : ∀ {n i:Nat},lz ex h1 K i n→du ex h1 i n=true∧K
 | 0,i,h=>⟨rfl,h⟩
 | n+1,i,h=>by
  obtain ⟨h2,h3⟩:=jL h.2
  obtain ⟨h4,h5⟩:=ph h3
  refine ⟨?_,h5⟩
  simp only [du,h2,h4,Bool.and_true]
  have:=h.1
  split at this
  ·rename_i ht;simp [ht]
  ·simp [this]
def jT (m:Nat) (v0:AV) (h1:aa) (v:AV) (rs:List ak):Prop:=match aD (dS m (dR m v0 h1)) ao v0 with
 | some v'=>im h1 (lz (dR m v0 h1) h1 (match dt m (dR m v0 h1) h1 0 m with
  | some rs'=>v'=v∧rs'=rs
  | none=>False) 0 m) (aV ao v0)
 | none=> ∃p h2,frz ao v0 h1=some (p,h2)∧du (eV m h2) h2 0 m=true∧dt m (eV m h2) h2 0 m=some rs∧v= .pv p
theorem tL {m:Nat} {v0 v:AV} {h1:aa} {rs:List ak} (h:jT m v0 h1 v rs):eW m v0 h1=some (v,rs):=by
 unfold jT at h
 unfold eW
 split at h
 ·rename_i v' hv
  obtain ⟨h2,h⟩:=jL h
  obtain ⟨h3,h⟩:=ph h
  split at h
  ·rename_i rs' hrs
   obtain ⟨rfl,rfl⟩:=h
   simp only [hv,h2,h3,Bool.and_self,if_true,hrs,Option.map_some]
  ·exact h.elim
 ·rename_i hv
  obtain ⟨p,h2,hz,hok,hrs,rfl⟩:=h
  simp only [hv,hz,Option.bind_some,hok,if_true,hrs,Option.map_some]
def lA (P:Program) (fn:Func) (m:Nat) (v:AV) (rs:List ak) (x:av) (s:St):Prop:=match x with
 | .normal | .ret=>match b3 P fn s.h s.t with
  | some v0=>jT m v0 s.h v rs
  | none=>False
 | _=>False
theorem tM {P:Program} {fn:Func} {m:Nat} {v:AV} {rs:List ak} {x:av} {s:St} (h:lA P fn m v rs x s):oR P fn m v rs x s:=by
 unfold lA at h
 have key:(match b3 P fn s.h s.t with
  | some v0=>jT m v0 s.h v rs
  | none=>False)→ ∃v0,b3 P fn s.h s.t=some v0∧eW m v0 s.h=some (v,rs):=by
  intro h
  split at h
  ·rename_i v0 hv
   exact ⟨v0,hv,tL h⟩
  ·exact h.elim
 cases x with
 | normal=>exact ⟨.inl rfl,key h⟩
 | ret=>exact ⟨.inr rfl,key h⟩
 | _=>exact h.elim
def pi (fn:Func) (args:List AV) (rows:List ak):fA:= .code (gg fn) [] { t:=c3 fn.ntmps args,h:=[rows,List.replicate fn.ntmps ae],g:=rows.length}
def d4 (E:ap) (fn:Func) (args:List AV) (rows:List ak) (v:AV) (rs:List ak) (n:Nat) (scr:an):Prop:=cW E fp 1 (lA E.P fn rows.length v rs) n scr (pi fn args rows)
theorem eC {E:ap} {f:FuncId} {fn:Func} {args:List AV} {rows rs:List ak} {v:AV} (n:Nat) (scr:an) (hf:E.P.funcs[f]? =some fn) (hb:fn.body.isSome=true) (h:d4 E fn args rows v rs n scr):bg E f args rows v rs:=by
 obtain ⟨c,hc⟩:=Option.isSome_iff_exists.1 hb
 refine s0 hf hc (pf (fun x s h=>tM h) ?_)
 have h1:=lv _ _ _ h
 simp only [pi,lu,KQ,gg,hc] at h1
 exact h1
def eD:Code→List ft→List (Code×List ft)
 | .seq a b,fr=>eD a (.seqK b::fr)++eD b fr
 | .cond _ a b,fr=>eD a fr++eD b fr
 | .block id c,fr=>eD c (.blockK id::fr)
 | .loop c,fr=>(c,fr)::eD c (.loopK c::fr)
 | _,_=>[]
def cd (E:ap) (fn:Func) (r:PV) (k:Nat) (s:St):Prop:=match (eD (gg fn) [])[k]? with
 | some (c,fr)=>jQ E fp 0 c (KQ E fp 0 fr (io E.P fn r)) s
 | none=>False
def jU (E:ap) (fn:Func) (r:PV) (k:Nat) (n:Nat) (scr:an) (s:St):Prop:=match (eD (gg fn) [])[k]? with
 | some (c,fr)=>cW E fp 0 (io E.P fn r) n scr (.code c (.loopK c::fr) s)
 | none=>False
theorem lB {E:ap} {fn:Func} {r:PV} {k:Nat} {s:St} (n:Nat) (scr:an) (h:jU E fn r k n scr s):cd E fn r k s:=by
 unfold jU at h
 unfold cd
 split at h
 ·exact ⟨k9 (lv _ _ _ h)⟩
 ·exact h.elim
end Go.Proofs.YtdbjadjdljaobaaGreatDoor.Abs
namespace Go.Proofs.YtdbjadjdljaobaaGreatDoor.Abs
open Go Go.RowKit
def ce (E:ap) (f:FuncId) (F:List PV→Option PV):Prop:= ∀(ps:List PV) (r:PV),F ps=some r→ ∀(I:ah) (w:World) (us:List Value),Gl E I w→us.length=ps.length→
 (∀(j:Nat) (p:PV) (u:Value),ps[j]? =some p→us[j]? =some u→am I w p u)→(∀b,I b→bn w b)→cS E.P f us.toArray w I r
section
variable {E:ap} {I:ah} {w:World} {P:Program}
theorem eE {f:FuncId} {us:Array Value} {r:PV} (hent: ∀args w,(callFunc f args).run P w= .ok (.enter f args) w) {u:Value} {Q:World→Prop} (hc:Calls P f us w fun e w'=>e= .returned u∧Q w')
  (hQ: ∀w',Q w'→ ∃I':ah,am I' w' r u∧(∀b,I b→I' b)∧(∀b,I' b→I b∨w.heap.size≤b)∧Below w.heap.size w w'∧ ∀b,I' b→bn w' b):cS P f us w I r:=
 .inr (.inl ⟨hent _ _,hc.mono fun e w' ⟨he,hq⟩=>by subst he;exact hQ w' hq⟩)
theorem eF {w':World} {r:PV} {u:Value} (hB:Below w.heap.size w w') (hin: ∀b,I b→bn w b) (hr:am I w' r u):
  ∃I':ah,am I' w' r u∧(∀b,I b→I' b)∧(∀b,I' b→I b∨w.heap.size≤b)∧Below w.heap.size w w'∧ ∀b,I' b→bn w' b:=
 ⟨I,hr,fun _ h=>h,fun _ h=> .inl h,hB,fun b hb=>(hin b hb).keep (hB.block b (hin b hb).lt)⟩
theorem ip {us:List Value} {a b:Value} (hl:us.length=2) (hr: ∀(j:Nat) (p:PV) (u:Value),[PV.lit a,PV.lit b][j]? =some p→us[j]? =some u→am I w p u):us=[a,b]:=by
 match us,hl with
 | [x,y],_=>
  have h0:=bl (hr 0 _ x rfl rfl)
  have h1:=bl (hr 1 _ y rfl rfl)
  rw [h0,h1]
theorem tN {us:List Value} {a b c:Value} (hl:us.length=3) (hr: ∀(j:Nat) (p:PV) (u:Value),[PV.lit a,PV.lit b,PV.lit c][j]? =some p→us[j]? =some u→am I w p u):us=[a,b,c]:=by
 match us,hl with
 | [x,y,z],_=>
  have h0:=bl (hr 0 _ x rfl rfl)
  have h1:=bl (hr 1 _ y rfl rfl)
  have h2:=bl (hr 2 _ z rfl rfl)
  rw [h0,h1,h2]
theorem lC (vs:List Value):am I w (.tup (vs.map .lit)) (.tuple vs.toArray):=by
 refine .tup _ _ (by simp) fun j p v hp hv=> ?_
 simp only [List.getElem?_map,Option.map_eq_some_iff] at hp
 obtain ⟨x,hx,rfl⟩:=hp
 rw [hv] at hx
 injection hx with hx
 subst hx
 exact .lit _
theorem tP {g:Nat} {v:Value} (hg:am I w (.ptr (.lit v) 0) (.pointer (some ⟨g,0,none⟩))):w.cell? ⟨g,0,none⟩=some v:=by
 obtain ⟨b,o,vs,hu,hI,hv⟩:=jq hg
 simp only [Value.pointer.injEq,Option.some.injEq,Addr.mk.injEq] at hu
 obtain ⟨rfl,ho,_⟩:=hu
 have ho':o=0:=by omega
 subst ho'
 obtain ⟨h1,h2,h3⟩:=hv 0 (.lit v) rfl
 rw [bl h3] at h1
 simpa using h1
def az (l:List UInt8):PV:= .lit (.string ⟨l.toArray⟩)
def lD:List PV→Option PV
 | [.lit (.string s),.lit (.string sep)]=>if s.size<4294967281 then
   some (.tup [az (Lib.cut s.data.toList sep.data.toList).1,az (Lib.cut s.data.toList sep.data.toList).2.1,.lit (.bool (Lib.cut s.data.toList sep.data.toList).2.2)]) else none
 | _=>none
theorem tQ {f g:Nat} (hent: ∀args w,(callFunc f args).run E.P w= .ok (.enter f args) w) (hg: ∀I w,Gl E I w→ ∃m,w.cell? ⟨g,0,none⟩=some (.int .i64 m))
  (hc: ∀(s sep:ByteArray) (m:Int) (w:World),s.size<4294967281→w.cell? ⟨g,0,none⟩=some (.int .i64 m)→Calls E.P f #[.string s,.string sep] w fun e w'=>
   e= .returned (.tuple #[.string ⟨(Lib.cut s.data.toList sep.data.toList).1.toArray⟩,.string ⟨(Lib.cut s.data.toList sep.data.toList).2.1.toArray⟩,.bool (Lib.cut s.data.toList sep.data.toList).2.2])∧ ∃n,w'=w.drewN n):ce E f lD:=by
 intro ps r hF I w us hgl hl hr hin
 unfold lD at hF
 split at hF
 ·rename_i s sep
  split at hF
  ·rename_i hs
   injection hF with hF
   subst hF
   rw [ip (by simpa using hl) hr]
   obtain ⟨m,hm⟩:=hg I w hgl
   refine eE hent (hc s sep m w hs hm) ?_
   rintro w' ⟨n,rfl⟩
   exact eF ⟨rfl,rfl,rfl,Nat.le_refl _,fun _ _=>rfl⟩ hin (lC [_,_,_])
  ·cases hF
 ·cases hF
def lE:List PV→Option PV
 | [.lit (.string s),.lit (.int .i64 c)]=>if 0≤c∧c≤9223372036854775807∧s.size*c.toNat≤140737488355328 then some (az (Lib.repeatL s.data.toList c.toNat)) else none
 | _=>none
theorem tR {f:Nat} (hent: ∀args w,(callFunc f args).run E.P w= .ok (.enter f args) w)
  (hc: ∀(s:ByteArray) (c:Nat) (w:World),c≤9223372036854775807→s.size*c≤140737488355328→Calls E.P f #[.string s,.int .i64 c] w fun e w'=>
   e= .returned (.string ⟨(Lib.repeatL s.data.toList c).toArray⟩)∧Below w.heap.size w w'):ce E f lE:=by
 intro ps r hF I w us hgl hl hr hin
 unfold lE at hF
 split at hF
 ·rename_i s c
  split at hF
  ·rename_i hs
   injection hF with hF
   subst hF
   rw [ip (by simpa using hl) hr]
   have:=hc s c.toNat w (by omega) hs.2.2
   rw [Int.toNat_of_nonneg hs.1] at this
   exact eE hent this fun w' hB=>eF hB hin (.lit _)
  ·cases hF
 ·cases hF
def lF:List PV→Option PV
 | [.lit (.string s),.lit (.int .i64 b),.lit (.int .i64 z)]=>if b=10∧z=64∧s.size≤9223372036854775806 then match Lib.parseUintB 64 s.data.toList with
  | .ok u=>some (.tup [.lit (.int .u64 u),.lit .nilIface])
  | _=>none
  else none
 | _=>none
theorem tS {f t:Nat} (hent: ∀args w,(callFunc f args).run E.P w= .ok (.enter f args) w)
  (hc: ∀(s:ByteArray),s.size≤9223372036854775806→ ∀(u:Nat),Lib.parseUintB 64 s.data.toList= .ok u→ ∀(w:World),Calls E.P f #[.string s,.int .i64 10,.int .i64 64] w fun e w'=>
   e= .returned (.tuple #[.int .u64 u,.nilIface])∧(w'=w∨w'=Lib.bytesWorld w t s)):ce E f lF:=by
 intro ps r hF I w us hgl hl hr hin
 unfold lF at hF
 split at hF
 ·rename_i s b z
  split at hF
  ·rename_i hs
   obtain ⟨rfl,rfl,hs⟩:=hs
   split at hF
   ·rename_i u hu
    injection hF with hF
    subst hF
    rw [tN (by simpa using hl) hr]
    refine eE hent (hc s hs u hu w) ?_
    rintro w' (rfl | rfl)
    ·exact eF (Below.refl _ _) hin (lC [_,_])
    ·exact eF ⟨rfl,rfl,rfl,by rw [Lib.bytesWorld_size];omega,fun k hk=>Lib.bytesWorld_at_old w t s k hk⟩ hin (lC [_,_])
   ·cases hF
  ·cases hF
 ·cases hF
theorem tT (t:TypeId) (xs:List ByteArray) (hin: ∀b,I b→bn w b):
  ∃I':ah,am I' (w.alloc (.cells (xs.map Value.string).toArray t)) (.sl 1 false true (xs.map fun x=> .lit (.string x))) (.slice (some ⟨w.heap.size,0,none⟩) xs.length xs.length)∧(∀b,I b→I' b)∧(∀b,I' b→I b∨w.heap.size≤b)∧
   Below w.heap.size w (w.alloc (.cells (xs.map Value.string).toArray t))∧ ∀b,I' b→bn (w.alloc (.cells (xs.map Value.string).toArray t)) b:=by
 have hG:aZ w (w.alloc (.cells (xs.map Value.string).toArray t)) (.cells (xs.map Value.string).toArray t):=⟨rfl,rfl,rfl,rfl⟩
 refine ⟨fun b=>I b∨b=w.heap.size,?_,fun _ h=> .inl h,fun b hb=>hb.imp id (fun e=>by omega),(hG.below (cw.bnd w)).below,fun b hb=> ?_⟩
 ·have:=am.sl (I:=fun b=>I b∨b=w.heap.size) (w:=w.alloc (.cells (xs.map Value.string).toArray t)) 1 true (xs.map fun x=>PV.lit (.string x)) w.heap.size 0 xs.length (fun i j=>(.string (xs.getD i .empty)))
   (by simp) (by simp) (.inr rfl) (fun x hx=>by obtain ⟨y,_,rfl⟩:=List.mem_map.1 hx;exact ⟨rfl,rfl⟩) (fun i x hx j p hp=> ?_) (fun i x hx j p hp=> ?_)
  ·simpa using this
  ·simp only [List.getElem?_map,Option.map_eq_some_iff] at hx
   obtain ⟨y,hy,rfl⟩:=hx
   cases j with
   | zero=>
    refine ⟨?_,rfl⟩
    rw [hG.cell]
    simp [hy,List.getD_eq_getElem?_getD]
   | succ j=>simp [PV.cells] at hp
  ·simp only [List.getElem?_map,Option.map_eq_some_iff] at hx
   obtain ⟨y,hy,rfl⟩:=hx
   cases j with
   | zero=>
    simp [PV.cells] at hp
    subst hp
    simp only [List.getD_eq_getElem?_getD,hy,Option.getD_some]
    exact .lit _
   | succ j=>simp [PV.cells] at hp
 ·rcases hb with hb | rfl
  ·exact (hin b hb).keep (hG.old (hin b hb).lt)
  ·exact .of_shape hG.shape
def lG:List PV→Option PV
 | [.lit (.string s),.lit (.string sep)]=>if s.size<4294967281∧1≤sep.size then some (.sl 1 false true ((Lib.splitB sep 0 (Lib.countB s sep) s).map fun x=> .lit (.string x))) else none
 | _=>none
theorem tU {f g t:Nat} (hent: ∀args w,(callFunc f args).run E.P w= .ok (.enter f args) w) (hg: ∀I w,Gl E I w→ ∃m,w.cell? ⟨g,0,none⟩=some (.int .i64 m))
  (hlen: ∀s sep:ByteArray,1≤sep.size→(Lib.splitB sep 0 (Lib.countB s sep) s).length=Lib.countB s sep+1)
  (hc: ∀(s sep:ByteArray) (m:Int) (w:World),s.size<4294967281→w.cell? ⟨g,0,none⟩=some (.int .i64 m)→1≤sep.size→Calls E.P f #[.string s,.string sep] w fun e w'=>
   e= .returned (.slice (some ⟨w.heap.size,0,none⟩) (Lib.countB s sep+1) (Lib.countB s sep+1))∧w'=w.alloc (.cells ((Lib.splitB sep 0 (Lib.countB s sep) s).map Value.string).toArray t)):ce E f lG:=by
 intro ps r hF I w us hgl hl hr hin
 unfold lG at hF
 split at hF
 ·rename_i s sep
  split at hF
  ·rename_i hs
   injection hF with hF
   subst hF
   rw [ip (by simpa using hl) hr]
   obtain ⟨m,hm⟩:=hg I w hgl
   refine eE hent (hc s sep m w hs.1 hm hs.2) ?_
   rintro w' rfl
   have:=tT (I:=I) (w:=w) t (Lib.splitB sep 0 (Lib.countB s sep) s) hin
   rw [hlen s sep hs.2] at this
   exact this
  ·cases hF
 ·cases hF
def gh:List PV→Option (List ByteArray)
 | []=>some []
 | .lit (.string s)::l=>(gh l).map (s:: ·)
 | _::_=>none
theorem pj: ∀ {l:List PV} {xs:List ByteArray},gh l=some xs→l=xs.map fun x=> .lit (.string x)
 | [],xs,h=>by simp [gh] at h;subst h;rfl
 | p::l,xs,h=>by
  cases p with
  | lit v=>
   cases v<;>simp only [gh,Option.map_eq_some_iff] at h<;>try (cases h;done)
   obtain ⟨ys,hy,rfl⟩:=h
   rw [pj hy];rfl
  | _=>simp [gh] at h
def lH:List PV→Option PV
 | [.sl k nl full l,.lit (.string sep)]=>match gh l with
  | some xs=>if xs.length≤140737488355328∧(Lib.join (xs.map fun x=>x.data.toList) sep.data.toList).length≤140737488355328 then some (az (Lib.join (xs.map fun x=>x.data.toList) sep.data.toList)) else none
  | none=>none
 | _=>none
theorem tV {f:Nat} (hent: ∀args w,(callFunc f args).run E.P w= .ok (.enter f args) w)
  (h0: ∀(a:Option Addr) (c:Nat) (sep:ByteArray) (w:World),Calls E.P f #[.slice a 0 c,.string sep] w fun e w'=>e= .returned (.string ⟨#[]⟩)∧w'=w)
  (hc: ∀(bk o c:Nat) (xs:List ByteArray) (sep:ByteArray) (w:World),(∀(j:Nat) (x:ByteArray),xs[j]? =some x→w.cell? ⟨bk,o+j,none⟩=some (.string x))→bk<w.heap.size→xs.length≤140737488355328→xs.length≤c→
   (Lib.join (xs.map fun x=>x.data.toList) sep.data.toList).length≤140737488355328→Calls E.P f #[.slice (some ⟨bk,o,none⟩) xs.length c,.string sep] w fun e w'=>
    e= .returned (.string ⟨(Lib.join (xs.map fun x=>x.data.toList) sep.data.toList).toArray⟩)∧Below w.heap.size w w'):ce E f lH:=by
 intro ps r hF I w us hgl hl hr hin
 unfold lH at hF
 split at hF
 ·rename_i k nl full l sep
  split at hF
  ·rename_i xs hxs
   split at hF
   ·rename_i hs
    injection hF with hF
    subst hF
    have hl':=pj hxs
    obtain ⟨x,hx⟩: ∃x,us=[x,.string sep]:=by
     match us,hl with
     | [x,y],_=>exact ⟨x,by rw [bl (hr 1 _ y rfl rfl)]⟩
    subst hx
    have hx:=hr 0 _ x rfl rfl
    have nil: ∀(a:Option Addr) (c:Nat),xs=[]→x= .slice a 0 c→cS E.P f [x,.string sep].toArray w I (az (Lib.join (xs.map fun x=>x.data.toList) sep.data.toList)):=by
     rintro a c rfl rfl
     exact eE hent (h0 a c sep w) fun w' hw=>by subst hw;exact eF (Below.refl _ _) hin (.lit _)
    cases hx with
    | nil=>exact nil none 0 (by simpa using hl'.symm) rfl
    | emp _ _ a cap=>exact nil (some a) cap (by simpa using hl'.symm) rfl
    | sl _ _ _ b o cap vs hcap hfull hI hk hcc hrr=>
     subst hl'
     by_cases hne:xs=[]
     ·subst hne;exact nil _ cap rfl rfl
     ·have hk1:k=1:=by
       obtain ⟨y,ys,rfl⟩:=List.exists_cons_of_ne_nil hne
       have:=(hk (.lit (.string y)) (by simp)).1
       simpa [PV.cells] using this.symm
      subst hk1
      have hcells: ∀(j:Nat) (x:ByteArray),xs[j]? =some x→w.cell? ⟨b,o+j,none⟩=some (.string x):=by
       intro j y hj
       have h1:=(hcc j (.lit (.string y)) (by simp [hj]) 0 (.lit (.string y)) rfl).1
       have h2:=hrr j (.lit (.string y)) (by simp [hj]) 0 (.lit (.string y)) rfl
       rw [bl h2] at h1
       simpa using h1
      have:=hc b o cap xs sep w hcells (hin b hI).lt hs.1 (by simpa using hcap) hs.2
      simp only [List.length_map]
      exact eE hent this fun w' hB=>eF hB hin (.lit _)
   ·cases hF
  ·cases hF
 ·cases hF
end
end Go.Proofs.YtdbjadjdljaobaaGreatDoor.Abs
namespace Go.Proofs.YtdbjadjdljaobaaGreatDoor.Abs
open Go Go.Proofs
def lI:List PV→Option PV
 | [.lit (.int .u64 n),.lit (.int .i64 b)]=>if b=10∧0≤n∧n<18446744073709551616 then some (az (Lib.decDigits n.toNat)) else none
 | _=>none
def lJ:List PV→Option PV
 | [.iface 101 (.lit (.int .i64 _))]=>some (.iface 258 (.agg [.lit (.pointer (some ⟨14,101,none⟩))]))
 | _=>none
def lK:List PV→Option PV
 | [.agg [.lit (.pointer (some ⟨14,101,none⟩))]]=>some (.lit (.bool true))
 | _=>none
def lL:List PV→Option PV
 | [.lit (.string b),.lit (.int .u8 c)]=>some (.lit (.int .i64 (match (List.range b.size).find? fun i=>b[i]! ==c.toNat.toUInt8 with
  | some i=>(i:Int)
  | none=> -1)))
 | _=>none
def lM:List PV→Option PV
 | [.lit (.int .i64 n)]=>if-9223372036854775808≤n∧n≤9223372036854775807 then some (az (Lib.itoa n)) else none
 | _=>none
def iq (f:FuncId):Option (List PV→Option PV):=match f with
 | 120=>some lD
 | 170=>some lG
 | 217=>some lH
 | 267=>some lE
 | 237=>some lF
 | 302=>some lI
 | 128=>some lJ
 | 312=>some lL
 | 340=>some lM
 | 383=>some lK
 | _=>none
def jV:List PV→Option PV
 | []=>some (.lit (.bool true))
 | _=>none
def aI (c:UInt8):Nat×UInt8:=if 65≤c∧c≤90 then (1,c+32) else if (97≤c∧c≤122)∨(48≤c∧c≤57) then (1,c) else if c=45∨c=95∨c=46 then (2,c) else (0,c)
def cf (by_:List UInt8):List UInt8→List UInt8→Bool→List UInt8×Bool
 | [],out,sg=>(out,!sg)
 | c::l,out,sg=>if (aI c).1=1 then cf by_ l ((if sg&& !out.isEmpty then out++by_ else out)++[(aI c).2]) false
  else if (aI c).1=2∧out.isEmpty=false then cf by_ l out true else ([],false)
def eG (raw by_:List UInt8):List UInt8×Bool:=if raw.length<1∨64<raw.length then ([],false) else cf by_ raw [] true
def gi (raw:List UInt8):List UInt8×Int:=if (eG raw [45]).2 then ((eG raw [45]).1,0) else ([],60)
def lN:List PV→Option PV
 | [.lit (.string b)]=>some (.tup [az (gi b.data.toList).1,.lit (.int .i64 (gi b.data.toList).2)])
 | _=>none
def lO (f:FuncId):Option (List PV→Option PV):=match f with
 | 29=>some jV
 | 7=>some jV
 | 83=>some lN
 | f=>iq f
abbrev bs (l:List UInt8):ByteArray:=⟨l.toArray⟩
abbrev tW (a b c:Int) (p:PV):PV:= .agg [.lit (.int .u32 a),.lit (.int .u32 b),.lit (.int .u32 c),p]
abbrev tX (a b c:Int) (p:PV) (o:Bool):PV:= .agg [.lit (.int .u32 a),.lit (.int .u32 b),.lit (.int .u32 c),p,.lit (.bool o)]
abbrev tY (a b c:Int) (p:PV) (o e:Bool):PV:= .agg [.lit (.int .u32 a),.lit (.int .u32 b),.lit (.int .u32 c),p,.lit (.bool o),.lit (.bool e)]
abbrev tZ (a b c:Int) (p:PV) (o:Bool) (a1 b1 c1:Int) (p1:PV) (o1 e:Bool):PV:=
 .agg [.lit (.int .u32 a),.lit (.int .u32 b),.lit (.int .u32 c),p,.lit (.bool o),.lit (.int .u32 a1),.lit (.int .u32 b1),.lit (.int .u32 c1),p1,.lit (.bool o1),.lit (.bool e)]
abbrev b7 (x:Int):AV:= .pv (.lit (.int .i64 x))
abbrev cJ (x:ByteArray):AV:= .pv (.lit (.string x))
abbrev au (x:Int):PV:= .lit (.int .i64 x)
abbrev bW (x:Bool):PV:= .lit (.bool x)
def fB (I:Nat→Prop) (w:World):Prop:=(∃m,am I w (.ptr (.lit (.int .i64 m)) 0) (.pointer (some ⟨1,0,none⟩)))∧Lib.TabIs Tryz.prog w "internal/strconv.uint64pow10" .u64 Lib.pow10Tab∧I 6∧
 w.cell? ⟨0,0,none⟩=some (.iface 258 (.agg #[.pointer (some ⟨14,37,none⟩)]))∧I 0
theorem t6 (I I':Nat→Prop) (w w':World) (h:fB I w) (hI: ∀b,I b→I' b) (hk: ∀b,I b→w'.heap[b]? =w.heap[b]?):fB I' w':=by
 obtain ⟨⟨m,h1⟩,h2,h3,h4,h5⟩:=h
 refine ⟨⟨m,h1.mono hI hk⟩,?_,hI _ h3,?_,hI _ h5⟩
 rotate_left
 ·unfold World.cell? at h4 ⊢
  rw [hk _ h5]
  exact h4
 have hg:Tryz.prog.globalNamed "internal/strconv.uint64pow10"=some 6:=by kernel_rfl
 unfold Lib.TabIs World.var? at*
 rw [hg] at h2 ⊢
 simp only [Option.bind_some] at h2 ⊢
 rw [hk _ h3]
 exact h2
def t7:List (Nat×String):=[(19,"fold.go:180"),(22,"fold.go:185"),(15,"fold.go:112"),(12,"fold.go:134"),(15,"page.go:106"),(7,"page.go:170"),(9,"page.go:174"),(5,"page.go:181"),(18,"page.go:135"),(28,"page.go:137"),(22,"page.go:138"),(28,"page.go:143"),(11,"event.go:226"),(12,"asof.go:185"),(12,"asof.go:239"),(8,"asof.go:242"),(6,"resolve.go:107"),(7,"resolve.go:74"),(14,"resolve.go:30")]
noncomputable def E0:ap:= {
 P:=Tryz.prog
 intr:=iq
 inl:=fun f=>[65,140,190,245,104,160,201,144,77,52,256,300,175,230,233,289,318,319,337,346].contains f
 own:=fun f=>[231].contains f
 can:=fun f=>[65,140,190,245,104,160,201,256,300,196,195,197,194,230,233,289,318,319,337,346].contains f
 rd:=fun f=>[316,181,241].contains f
 asf:=fun f t=>if f=55∧t=110 then some 108 else none
 asm:=fun t=>t==101||t==428
 ckf:=fun f=>if f=255 then some 302 else none
 any:=fun f=>[79,80,102,103,44].contains f
 bad:=fun ops=>t7.any fun q=>ops.size==q.1&&(ops[0]?).any fun o=>o.pos==q.2
 ok:=fun f=> !([55,255,394].contains f)
 gl:=fB
 glm:=t6}
noncomputable def E1:ap:= { E0 with intr:=lO}
theorem gj (l:List UInt8):ByteArray.size (bs l)=l.length:=rfl
abbrev gk (k:Nat) (nl full:Bool) (l:List (List UInt8)):PV:= .sl k nl full (l.map az)
structure V where
 a:Int
 b:Int
 c:Int
 k:Nat
 nl:Bool
 full:Bool
 pre:List (List UInt8)
 deriving Inhabited
abbrev V.p (v:V):PV:=tW v.a v.b v.c (gk v.k v.nl v.full v.pre)
structure I where
 lo:V
 lopen:Bool
 hi:V
 hopen:Bool
 less:Bool
 deriving Inhabited
abbrev I.p (x:I):PV:=tZ x.lo.a x.lo.b x.lo.c (gk x.lo.k x.lo.nl x.lo.full x.lo.pre) x.lopen x.hi.a x.hi.b x.hi.c (gk x.hi.k x.hi.nl x.hi.full x.hi.pre) x.hopen x.less
structure Ed where
 v:V
 behind:Bool
 less:Bool
 deriving Inhabited
abbrev Ed.p (x:Ed):PV:=tY x.v.a x.v.b x.v.c (gk x.v.k x.v.nl x.v.full x.v.pre) x.behind x.less
structure Bd where
 v:V
 op:Bool
 deriving Inhabited
abbrev Bd.p (x:Bd):PV:=tX x.v.a x.v.b x.v.c (gk x.v.k x.v.nl x.v.full x.v.pre) x.op
abbrev V.q (v:V):PV:=gk v.k v.nl v.full v.pre
def an.lts:Nat→an→an
 | 0,k=>k
 | n+1,k=> .lit (an.lts n k)
def iv:List (Nat×Nat)→List Nat
 | []=>[]
 | (a,b)::l=>List.range' a (b+1-a)++iv l
abbrev jj (j:Nat→AV) (a n:Nat):List AV:=(List.range' a n).map j
def pm (n:Nat):Prop:=n<4611686018427387904
def u32 (n:Int):Prop:=0≤n∧n<4294967296
def ir (sz k:Nat) (nl:Bool) (n:Nat):Prop:=(nl=true→n=0)∧(nl=false→k=sz)
structure V.ok (v:V):Prop where
 a:u32 v.a
 b:u32 v.b
 c:u32 v.c
 sl:ir 1 v.k v.nl v.pre.length
 len:pm v.pre.length
 str: ∀s∈v.pre,pm s.length
structure I.ok (x:I):Prop where
 lo:x.lo.ok
 hi:x.hi.ok
end Go.Proofs.YtdbjadjdljaobaaGreatDoor.Abs

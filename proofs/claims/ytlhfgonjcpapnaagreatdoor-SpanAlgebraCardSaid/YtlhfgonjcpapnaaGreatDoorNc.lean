/-
  The abstract machine over the model, its soundness, walks of the program's functions and what they compute. Conditions: the values are of their types.
-/
import Derived.Test.YtlhfgonjcpapnaaGreatDoorProg
import Derived.Test.YtlhfgonjcpapnaaGreatDoorNb
import Derived.Lib.IndexMore
import Derived.Lib.Split
import Derived.Lib.Repeat
import Derived.Lib.JoinFns
import Derived.Lib.ParseIntB
import Derived.Lib.ConvBytes
import Derived.Lib.SplitLaws
import Derived.Lib.Join
import Derived.KernelRfl
import Derived.Lib.ItoaNum
import Derived.Lib.LaidTab
import Derived.Deep.Slices
import Derived.SizedLaws
import Derived.Shelf.Strings.Builder1
import Derived.Shelf.Strings.Builder2
import Derived.Shelf.Strings.OnBuilder
import Derived.Shelf.Small.Utf8
import Derived.Shelf.Small.Strs
import Derived.Shelf.Strings.BuilderF
import Derived.Shelf.Utf8.RuneCount
import Derived.Shelf.Strconv.Itoa0
import Derived.Shelf.Strconv.Itoa1
import Derived.Shelf.LaysM
import Derived.Shelf.Strconv.Itoa2
import Derived.Shelf.Strconv.Itoa3
import Derived.Ground.MpProg
import Derived.Shelf.Pu.ParseUintPublic10
import Derived.Shelf.Strings.Search1
import Derived.Shelf.Strings.Search2
import Derived.Shelf.Strings.Search3
import Derived.Shelf.Strings.Cut
import Derived.Shelf.Strings.Count
import Derived.Shelf.Strings.Shaped
import Derived.Shelf.Strings.Prefix
import Derived.Shelf.Strings.Split
import Derived.Shelf.Strings.SplitShaped
import Derived.Shelf.Unicode.Decode
import Derived.Shelf.Strings.Runes
import Derived.Shelf.Strings.RuneCount
import Derived.Shelf.Strings.AsciiSet
import Derived.Shelf.Strings.Explode
import Derived.Shelf.Bits.Mul64
import Derived.Shelf.Strings.Repeat
import Derived.Shelf.Unicode.DecodeSlow
import Derived.Shelf.Unicode.DecodeAny
import Derived.Ground.Names2Prog
import Derived.Shelf.Slices.Clone
import Derived.Shelf.Slices.SearchI
import Derived.Ground.SlgnProg
import Derived.Shelf.SlicesE.Clone
import Derived.Lib.Walk
import Derived.Lib.ItoaMem
import Derived.WalkKit
import Derived.BigCall
import Derived.BigGuard

set_option linter.all false
set_option linter.unnecessarySimpa false

namespace Go.Proofs.YtlhfgonjcpapnaaGreatDoor.Abs
open Go
section
variable (E : Env) (ys : Fam) (d : Nat)
def gensP (h : Heap) (K : Prop) : List (K2 × Nat) → Prop
  | [] => K
  | q :: l => q.2 = (hget h q.1.1 q.1.2).g ∧ gensP h K l
theorem gensP_ok {h : Heap} {K : Prop} : ∀ {l : List (K2 × Nat)}, gensP h K l → gensOk h l = true ∧ K
  | [], hk => ⟨rfl, hk⟩
  | q :: l, hk => by
    obtain ⟨h1, h2⟩ := gensP_ok hk.2
    refine ⟨?_, h2⟩
    unfold gensOk at h1 ⊢
    simp only [List.all_cons, h1, Bool.and_true, beq_iff_eq]
    exact hk.1
def canRefs (h : Heap) (ks : List K2) (args : List AV) : List (K2 × Nat) := args.flatMap (refs frzDepth) ++ ks.flatMap fun k => refsB (hget h k.1 k.2).b
theorem canGens_of {h : Heap} {ks : List K2} {args : List AV} (hg : gensOk h (canRefs h ks args) = true) : canGens h ks args = true := by
  unfold gensOk canRefs at hg
  simp only [List.all_append, Bool.and_eq_true, List.all_flatMap] at hg
  simp only [canGens, gensOk, Bool.and_eq_true, List.all_flatMap]
  exact hg
def wpCan (fid : FuncId) (l : List AV) (h : Heap) (scr : Scr) (K : Scr → AV → Heap → Prop) (bad : Prop) : Prop := match canIn h l with
  | none => bad
  | some (ks, cargs, rows) => gensP h (match scr with
    | .resC v rs k => DenC E fid cargs rows v rs ∧ (match canBack ks h v rs with
      | some (v', h') => K k v' h'
      | none => bad)
    | scr => NeedResC scr.id fid cargs rows) (canRefs h ks l)
def wpStep (st : Bool) (gen : Nat) (o : Oper) (s : St) (scr : Scr) (K : Scr → AV → Heap → Nat → Prop) : Prop := match o.op with
  | .call { callee := .value f, args, .. } => match evalA s.t f with
    | .yld _ _ gl => match s.h with
      | [] => Bad o s
      | f0 :: up => ∃ (b : Bool) (f0' : List Row) (g' : Nat), YTo ys gl (args.toList.map (evalA s.t)) (f0 :: up) s.g b (f0' :: up) g' ∧ K scr (litA (.bool b)) (f0' :: up) g'
    | fv => match calleeOf fv with
      | none => Bad o s
      | some (fid, a, b) =>
        if E.can fid && ((E.intr fid).isNone && (E.ok fid && (E.inl fid || (!E.rd fid && (a ++ args.toList.map (evalA s.t) ++ b).any (hasMut frzDepth))))) then
          if st && (clsOp E o == .fz) then Bad o s else wpCan E fid (a ++ args.toList.map (evalA s.t) ++ b) s.h scr (fun k v h => K k v h s.g) (Bad o s)
        else if E.inl fid then match allPV (a ++ args.toList.map (evalA s.t) ++ b), s.h with
          | some ps, [f0] => match scr with
            | .resI v fr dg k => DenI E fid ps v fr dg ∧ K k (v s.g) [f0, fr s.g] (s.g + dg)
            | scr => NeedResI scr.id fid ps
          | _, _ => Bad o s
        else if (a ++ args.toList.map (evalA s.t) ++ b).any (hasMut frzDepth) && (!E.rd fid || (st && (clsOp E o == .fz))) then Bad o s else
        wpFrzs scr (a ++ args.toList.map (evalA s.t) ++ b) s.h fun ps h1 scr => match scr with
          | .res r scr => Den E fid ps r ∧ K scr (.pv r) (if E.rd fid then s.h else h1) s.g
          | .resO kk e xs off m full scr => DenO E fid ps kk e xs off m full ∧ K scr (.msl d (o.dst.getD 0) gen off m full) (hput h1 d (o.dst.getD 0) ⟨gen, .row kk e xs false⟩) s.g
          | .resB e a b => Den E fid ps (.lit (.bool e)) ∧ wpBr (.fork a b) e fun e scr => K scr (litA (.bool e)) (if E.rd fid then s.h else h1) s.g
          | scr => NeedRes scr.id fid ps
  | _ => if st && (clsOp E o == .al) && !deadK s.h d o.dst then Bad o s else wpAop E.P o (evalA s.t) d gen s.h scr (fun k v h => K k v h s.g) (Bad o s)
def isGuard (all : Array Oper) (i : Nat) : Bool := all.any fun o => match o.guard with
  | some (j, _) => j == i
  | none => false
def wpPut (all : Array Oper) (i : Nat) (o : Oper) (s : St) (K : Scr → St → Prop) (scr : Scr) (v : AV) (h : Heap) (g : Nat) : Prop :=
  if isGuard all i then match boolA v with
    | some e => wpBr scr e fun b scr => K scr { t := putD s.t o.dst (litA (.bool b)), h := h, g := g }
    | none => K scr { t := putD s.t o.dst v, h := h, g := g }
  else K scr { t := putD s.t o.dst v, h := h, g := g }
def wpOp (st : Bool) (gb : Nat) (all : Array Oper) (i : Nat) (o : Oper) (s : St) (scr : Scr) (K : Scr → St → Prop) : Prop := match o.guard with
  | none => wpStep E ys d st (gb + i) o s scr (wpPut all i o s K)
  | some (j, want) => match ((all[j]?).bind (·.dst)).bind fun i => boolA (getT s.t i) with
    | none => K scr { t := putD s.t o.dst undefA, h := s.h, g := s.g }
    | some e => wpBr scr e fun b scr => if b == want then wpStep E ys d st (gb + i) o s scr (wpPut all i o s K)
        else K scr { t := putD s.t o.dst undefA, h := s.h, g := s.g }
inductive Task where
  | code (c : Code) (fr : List Frame) (s : St)
  | ops (all : Array Oper) (draw : Bool) (gb : Nat) (os : List Oper) (i : Nat) (fr : List Frame) (s : St)
  | exit (x : AExit) (fr : List Frame) (s : St)
def KQ : List Frame → (AExit → St → Prop) → AExit → St → Prop
  | [], Q => Q
  | .seqK b :: fr, Q => thenQ E ys d b (KQ fr Q)
  | .blockK id :: fr, Q => blockQ id (KQ fr Q)
  | .loopK c :: fr, Q => roundQ E ys d c (KQ fr Q)
inductive AtL (E : Env) (ys : Fam) (d : Nat) (c : Code) (Q : AExit → St → Prop) (s : St) : Prop
  | mk (h : WpL E ys d c Q s)
theorem AtL.h {E : Env} {ys : Fam} {d : Nat} {c : Code} {Q : AExit → St → Prop} {s : St} : AtL E ys d c Q s → WpL E ys d c Q s
  | ⟨h⟩ => h
def maskT (js : List Nat) (j : Nat → AV) (t : List AV) : List AV := js.foldl (fun t i => t.set i (j i)) t
def maskH (d : Nat) (hs : List Nat) (jr : Nat → Row) (h : Heap) : Heap := h.set d (hs.foldl (fun l i => l.set i (jr i)) (h.getD d []))
theorem maskT_id (t : List AV) : ∀ js, maskT js (getT t) t = t
  | [] => rfl
  | i :: js => by
    have : t.set i (getT t i) = t := by
      unfold getT
      by_cases hi : i < t.length
      · simp [List.getD_eq_getElem?_getD, hi]
      · exact List.set_eq_of_length_le (by omega)
    show maskT js (getT t) (t.set i (getT t i)) = t
    rw [this]
    exact maskT_id t js
theorem maskH_id (d : Nat) (h : Heap) (hs : List Nat) : maskH d hs (fun i => (h.getD d []).getD i row0) h = h := by
  have key : ∀ (l : List Row) (hs : List Nat), hs.foldl (fun l' i => l'.set i (l.getD i row0)) l = l := by
    intro l hs
    induction hs with
    | nil => rfl
    | cons i hs ih =>
      have : l.set i (l.getD i row0) = l := by
        by_cases hi : i < l.length
        · simp [List.getD_eq_getElem?_getD, hi]
        · exact List.set_eq_of_length_le (by omega)
      rw [List.foldl_cons, this]
      exact ih
  unfold maskH
  rw [key]
  by_cases hd : d < h.length
  · simp [List.getD_eq_getElem?_getD, hd]
  · exact List.set_eq_of_length_le (by omega)
def AtM (E : Env) (ys : Fam) (d : Nat) (js hs : List Nat) (c : Code) (Q : AExit → St → Prop) (s : St) : Prop := ∀ (j : Nat → AV) (jr : Nat → Row) (g : Nat), AtL E ys d c Q { t := maskT js j s.t, h := maskH d hs jr s.h, g := g }
theorem AtM.h {E : Env} {ys : Fam} {d : Nat} {js hs : List Nat} {c : Code} {Q : AExit → St → Prop} {s : St} (h : AtM E ys d js hs c Q s) : WpL E ys d c Q s := by
  have := (h (getT s.t) (fun i => (s.h.getD d []).getD i row0) s.g).h
  rw [maskT_id, maskH_id] at this
  exact this
inductive RangeAt (E : Env) (ys : Fam) (d : Nat) (f : Operand) (ps : Array Tmp) (assign body : Code) (Q : AExit → St → Prop) (s : St) : Prop
  | mk (h : Wp E ys d (.rangeFunc f ps assign body) Q s)
theorem RangeAt.h {E : Env} {ys : Fam} {d : Nat} {f : Operand} {ps : Array Tmp} {assign body : Code} {Q : AExit → St → Prop} {s : St} : RangeAt E ys d f ps assign body Q s → Wp E ys d (.rangeFunc f ps assign body) Q s
  | ⟨h⟩ => h
def goStep (Q : AExit → St → Prop) (go : Scr → Task → Prop) : Scr → Task → Prop
  | scr, .code c fr s => match c with
    | .skip | .label _ => go scr (.exit .normal fr s)
    | .ret => go scr (.exit .ret fr s)
    | .exit id => go scr (.exit (.exit id) fr s)
    | .goto l => go scr (.exit (.goto l) fr s)
    | .region _ ops draw => go scr (.ops ops draw s.g ops.toList 0 fr { s with h := if draw then killKeys E d ops.toList s.h else s.h, g := s.g + ops.size })
    | .seq a b => go scr (.code a (.seqK b :: fr) s)
    | .cond c a b => match boolA (evalA s.t c) with
      | some e => wpBr scr e fun b' scr => go scr (.code (if b' then a else b) fr s)
      | none => BadC (.cond c a b) s
    | .block id c => go scr (.code c (.blockK id :: fr) s)
    | .loop c => match scr with
      | .go scr => go scr (.code c (.loopK c :: fr) s)
      | .mask js hs => AtM E ys d js hs c (KQ E ys d fr Q) s
      | scr => NeedMask scr.id c s
    | .rangeFunc f ps assign body => RangeAt E ys d f ps assign body (KQ E ys d fr Q) s
    | c => BadC c s
  | scr, .ops all draw gb os i fr s => match os with
    | [] => go scr (.exit .normal fr s)
    | o :: os => wpOp E ys d draw gb all i o s scr fun scr s1 => go scr (.ops all draw gb os (i + 1) fr s1)
  | scr, .exit x fr s => match fr with
    | [] => Q x s
    | .seqK b :: fr => match x with
      | .normal => go scr (.code b fr s)
      | x => go scr (.exit x fr s)
    | .blockK id :: fr => match x with
      | .exit id' => if id' = id then go scr (.exit .normal fr s) else go scr (.exit (.exit id') fr s)
      | x => go scr (.exit x fr s)
    | .loopK c :: fr => match x with
      | .normal => match scr with
        | .go scr => go scr (.code c (.loopK c :: fr) s)
        | .mask js hs => AtM E ys d js hs c (KQ E ys d fr Q) s
        | scr => NeedMask scr.id c s
      | x => go scr (.exit x fr s)
def wpGo (Q : AExit → St → Prop) : Nat → Scr → Task → Prop
  | 0, _, _ => Tired
  | n + 1, scr, t => goStep E ys d Q (wpGo Q n) scr t
def TaskWp (Q : AExit → St → Prop) : Task → Prop
  | .code c fr s => Wp E ys d c (KQ E ys d fr Q) s
  | .ops all draw gb os i fr s => WpOps E ys draw d gb all os i (fun s => KQ E ys d fr Q .normal s) s
  | .exit x fr s => KQ E ys d fr Q x s
variable {E ys d}
theorem wpStep_ok {st : Bool} {gb i : Nat} {all : Array Oper} {o : Oper} {s : St} {scr : Scr} {K : Scr → AV → Heap → Nat → Prop} (hw : wantedA all s.t o = true) (hk : wpStep E ys d st (gb + i) o s scr K) :
    ∃ k v h1 g1, OpTo E ys st d gb all i o s { t := putD s.t o.dst v, h := h1, g := g1 } ∧ K k v h1 g1 := by
  unfold wpStep at hk
  split at hk
  · rename_i f args ats ho
    split at hk
    · rename_i d1 s1 gl hev
      split at hk
      · exact nomatch hk
      · rename_i f0 up hh
        obtain ⟨b, f0', g', hy, hk⟩ := hk
        rw [← hh] at hy
        exact ⟨_, _, _, _, op_yld hw ho hev hy, hk⟩
    · rename_i hny
      split at hk
      · exact nomatch hk
      · rename_i fid a b hc
        split at hk
        · rename_i hcc
          simp only [Bool.and_eq_true, Option.isNone_iff_eq_none] at hcc
          obtain ⟨hcan, hi, hok, hm⟩ := hcc
          split at hk
          · exact nomatch hk
          rename_i hst
          unfold wpCan at hk
          split at hk
          · exact nomatch hk
          rename_i ks cargs rows hin
          obtain ⟨hgen, hk⟩ := gensP_ok hk
          split at hk
          · obtain ⟨hd, hk⟩ := hk
            split at hk
            · rename_i v' h' hb
              exact ⟨_, _, _, _, op_can hw ho hc (by simpa using hst) hi hok hcan hm hin (canGens_of hgen) hd hb, hk⟩
            · exact nomatch hk
          · exact nomatch hk
        split at hk
        · split at hk
          · rename_i ps f0 hps hh
            split at hk
            · exact ⟨_, _, _, _, op_inl hw ho hc (allPV_map hps) hh hk.1, hk.2⟩
            · exact nomatch hk
          · exact nomatch hk
        split at hk
        · exact nomatch hk
        · rename_i hm0
          have hm : (!E.rd fid && (a ++ args.toList.map (evalA s.t) ++ b).any (hasMut frzDepth)) = false ∧ (st && (clsOp E o == .fz) && (a ++ args.toList.map (evalA s.t) ++ b).any (hasMut frzDepth)) = false := by
            generalize (a ++ args.toList.map (evalA s.t) ++ b).any (hasMut frzDepth) = m at hm0
            cases m <;> simp_all
          obtain ⟨ps, h1, scr, hz, hk⟩ := wpFrzs_ok hk
          split at hk
          · exact ⟨_, _, _, _, op_call hw ho hc hz hm.1 hm.2 hk.1, hk.2⟩
          · exact ⟨_, _, _, _, op_own hw ho hc hz hm.1 hm.2 hk.1, hk.2⟩
          · obtain ⟨hd, hk⟩ := hk
            obtain ⟨scr, hk⟩ := wpBr_ok hk
            exact ⟨_, _, _, _, op_call hw ho hc hz hm.1 hm.2 hd, hk⟩
          · exact nomatch hk
  · rename_i hno
    split at hk
    · exact nomatch hk
    · rename_i hst
      obtain ⟨k, v, h1, ha, hk⟩ := wpAop_ok (fun h => nomatch h) hk
      refine ⟨k, v, h1, _, op_do ?_, hk⟩
      unfold ostep opV
      rw [hw]
      simp only [if_true]
      unfold stepV
      split
      · rename_i f args ats ho
        exact (hno _ _ _ ho).elim
      · rw [if_neg hst, ha]
        rfl
theorem boolA_lit {v : AV} {e : Bool} (h : boolA v = some e) : v = litA (.bool e) := by
  unfold boolA at h
  split at h
  · simp only [Option.some.injEq] at h; subst h; rfl
  · cases h
theorem wpPut_ok {all : Array Oper} {i : Nat} {o : Oper} {s : St} {K : Scr → St → Prop} {scr : Scr} {v : AV} {h : Heap} {g : Nat} (hk : wpPut all i o s K scr v h g) : ∃ k, K k { t := putD s.t o.dst v, h := h, g := g } := by
  unfold wpPut at hk
  split at hk
  · split at hk
    · rename_i e he
      obtain ⟨k, hk⟩ := wpBr_ok hk
      rw [boolA_lit he]
      exact ⟨k, hk⟩
    · exact ⟨_, hk⟩
  · exact ⟨_, hk⟩
theorem wpOp_ok {st : Bool} {gb i : Nat} {all : Array Oper} {o : Oper} {s : St} {scr : Scr} {K : Scr → St → Prop} (hk : wpOp E ys d st gb all i o s scr K) : ∃ k s1, OpTo E ys st d gb all i o s s1 ∧ K k s1 := by
  unfold wpOp at hk
  have off : wantedA all s.t o = false → OpTo E ys st d gb all i o s { t := putD s.t o.dst undefA, h := s.h, g := s.g } := fun hw => ⟨0, fun a _ n _ => by unfold ostep opV; rw [hw]; rfl⟩
  split at hk
  · rename_i hg
    obtain ⟨k, v, h1, g1, ho, hk⟩ := wpStep_ok (ys := ys) (all := all) (by simp [wantedA, hg]) hk
    obtain ⟨k, hk⟩ := wpPut_ok hk
    exact ⟨k, _, ho, hk⟩
  · rename_i j want hg
    split at hk
    · rename_i hb
      exact ⟨_, _, off (by simp only [wantedA, hg]; rw [hb]; rfl), hk⟩
    · rename_i e hb
      obtain ⟨scr, hk⟩ := wpBr_ok hk
      split at hk
      · rename_i he
        obtain ⟨k, v, h1, g1, ho, hk⟩ := wpStep_ok (ys := ys) (all := all) (by simp only [wantedA, hg]; rw [hb]; simpa using he) hk
        obtain ⟨k, hk⟩ := wpPut_ok hk
        exact ⟨k, _, ho, hk⟩
      · rename_i he
        exact ⟨_, _, off (by simp only [wantedA, hg]; rw [hb]; simpa using he), hk⟩
theorem wpGo_ok {Q : AExit → St → Prop} : ∀ (n : Nat) (scr : Scr) (t : Task), wpGo E ys d Q n scr t → TaskWp E ys d Q t := by
  intro n
  induction n with
  | zero => intro scr t h; cases t <;> exact nomatch h
  | succ n ih =>
    intro scr t h
    cases t with
    | code c fr s =>
      cases c with
      | skip => exact ev_skip (ih _ _ h)
      | label l => exact ev_label (ih _ _ h)
      | ret => exact ev_ret (ih _ _ h)
      | exit id => exact ev_exit (ih _ _ h)
      | goto l => exact ev_goto (ih _ _ h)
      | region id ops draw => exact ev_region (ih _ _ h)
      | seq a b => exact ev_seq (ih _ _ h)
      | cond c a b =>
        have h : (match boolA (evalA s.t c) with
          | some e => wpBr scr e fun b' scr => wpGo E ys d Q n scr (.code (if b' then a else b) fr s)
          | none => BadC (.cond c a b) s) := h
        split at h
        · rename_i e he
          obtain ⟨scr, h⟩ := wpBr_ok h
          exact ev_cond he (ih _ _ h)
        · exact nomatch h
      | block id c => exact ev_block (ih _ _ h)
      | loop c =>
        have h : (match (generalizing := false) scr with
          | .go scr => wpGo E ys d Q n scr (.code c (.loopK c :: fr) s)
          | .mask js hs => AtM E ys d js hs c (KQ E ys d fr Q) s
          | scr => NeedMask scr.id c s) := h
        split at h
        · exact ev_loop (ev_round (ih _ _ h))
        · exact ev_loop h.h
        · exact nomatch h
      | rangeFunc f ps assign body => exact RangeAt.h h
      | _ => exact nomatch h
    | ops all draw gb os i fr s =>
      cases os with
      | nil => exact ops_nil (ih _ _ h)
      | cons o os =>
        have h : wpOp E ys d draw gb all i o s scr fun scr s1 => wpGo E ys d Q n scr (.ops all draw gb os (i + 1) fr s1) := h
        obtain ⟨k, s1, h1, h⟩ := wpOp_ok (ys := ys) h
        exact ops_cons h1 (ih _ _ h)
    | exit x fr s =>
      cases fr with
      | nil => exact h
      | cons f fr =>
        cases f with
        | seqK b => cases x with
          | normal => exact ih scr (.code b fr s) h
          | _ => exact ih scr (.exit _ fr s) h
        | blockK id =>
          cases x with
          | exit id' =>
            have h : (if id' = id then wpGo E ys d Q n scr (.exit .normal fr s) else wpGo E ys d Q n scr (.exit (.exit id') fr s)) := h
            show blockQ id (KQ E ys d fr Q) (.exit id') s
            simp only [blockQ]
            split at h
            · rename_i he; rw [if_pos he]; exact ih scr (.exit .normal fr s) h
            · rename_i he; rw [if_neg he]; exact ih scr (.exit _ fr s) h
          | _ => exact ih scr (.exit _ fr s) h
        | loopK c =>
          cases x with
          | normal =>
            have h : (match (generalizing := false) scr with
              | .go scr => wpGo E ys d Q n scr (.code c (.loopK c :: fr) s)
              | .mask js hs => AtM E ys d js hs c (KQ E ys d fr Q) s
              | scr => NeedMask scr.id c s) := h
            show WpL E ys d c (KQ E ys d fr Q) s
            split at h
            · exact ev_round (ih _ _ h)
            · exact h.h
            · exact nomatch h
          | _ => exact ih scr (.exit _ fr s) h
end
def bodyOf (fn : Func) : Code := match fn.body with
  | some c => c
  | none => .skip
def finQ (P : Program) (fn : Func) (r : PV) (x : AExit) (s : St) : Prop := match x with
  | .normal | .ret => match resultsF P fn s.h s.t with
    | some (.pv p) => p = r
    | some v => ∃ hp, frz frzDepth v s.h = some (r, hp)
    | none => False
  | _ => False
theorem finQ_ok {P : Program} {fn : Func} {r : PV} {x : AExit} {s : St} (h : finQ P fn r x s) : endQ P fn r x s := by
  unfold finQ at h
  have key : (match resultsF P fn s.h s.t with
    | some (.pv p) => p = r
    | some v => ∃ hp, frz frzDepth v s.h = some (r, hp)
    | none => False) → ∃ v hp, resultsF P fn s.h s.t = some v ∧ frz frzDepth v s.h = some (r, hp) := by
    intro h
    split at h
    · rename_i p hp
      subst h
      exact ⟨_, s.h, hp, rfl⟩
    · rename_i v _ hv
      obtain ⟨hp, h⟩ := h
      exact ⟨_, hp, hv, h⟩
    · exact h.elim
  cases x with
  | normal => exact ⟨.inl rfl, key h⟩
  | ret => exact ⟨.inr rfl, key h⟩
  | _ => exact h.elim
theorem wp_mono {E : Env} {ys : Fam} {d : Nat} {c : Code} {Q R : AExit → St → Prop} {s : St} (hQ : ∀ x s, Q x s → R x s) (h : Wp E ys d c Q s) : Wp E ys d c R s :=
  let ⟨x, s', h1, h2⟩ := h; ⟨x, s', h1, hQ x s' h2⟩
def startOf (fn : Func) (ps : List PV) : Task := .code (bodyOf fn) [] { t := padT fn.ntmps (ps.map .pv), h := [List.replicate fn.ntmps row0], g := 0 }
def FnGo (E : Env) (fn : Func) (ps : List PV) (r : PV) (n : Nat) (scr : Scr) : Prop := wpGo E noY 0 (finQ E.P fn r) n scr (startOf fn ps)
theorem den_go {E : Env} {f : FuncId} {fn : Func} {ps : List PV} {r : PV} (n : Nat) (scr : Scr) (hi : E.intr f = none) (hf : E.P.funcs[f]? = some fn) (hb : fn.body.isSome = true) (hok : E.ok f = true) (hinl : E.inl f = false) (hown : E.own f = false)
    (h : FnGo E fn ps r n scr) (hlit : E.rd f = false ∨ ∃ x, r = .lit x := by first | exact .inl rfl | exact .inr ⟨_, rfl⟩) : Den E f ps r := by
  obtain ⟨c, hc⟩ := Option.isSome_iff_exists.1 hb
  refine den_body hi hf hc hok hinl hown hlit (wp_mono (fun x s h => finQ_ok h) ?_)
  have h1 := wpGo_ok _ _ _ h
  simp only [startOf, TaskWp, KQ, bodyOf, hc] at h1
  exact h1
def finQO (P : Program) (fn : Func) (k : Nat) (e : TypeId) (xs : List PV) (off m : Nat) (full : Bool) (x : AExit) (s : St) : Prop := match x with
  | .normal | .ret => match resultsF P fn s.h s.t with
    | some (.msl 0 s1 g1 off' m' full') => (off' = off ∧ m' = m ∧ full' = full) ∧ wpLive s.h 0 s1 g1 fun
      | .row k' e' xs' false => k' = k ∧ e' = e ∧ xs' = xs
      | _ => False
    | _ => False
  | _ => False
theorem finQO_ok {P : Program} {fn : Func} {k : Nat} {e : TypeId} {xs : List PV} {off m : Nat} {full : Bool} {x : AExit} {s : St} (h : finQO P fn k e xs off m full x s) : endQO P fn k e xs off m full x s := by
  unfold finQO at h
  have key : (match resultsF P fn s.h s.t with
    | some (.msl 0 s1 g1 off' m' full') => (off' = off ∧ m' = m ∧ full' = full) ∧ wpLive s.h 0 s1 g1 fun
      | .row k' e' xs' false => k' = k ∧ e' = e ∧ xs' = xs
      | _ => False
    | _ => False) → ∃ s1 g1, resultsF P fn s.h s.t = some (.msl 0 s1 g1 off m full) ∧ live s.h 0 s1 g1 = .row k e xs false := by
    intro hh
    split at hh
    · rename_i s1 g1 off' m' full' hv
      obtain ⟨⟨e1, e2, e3⟩, hh⟩ := hh
      obtain ⟨_, h2, hh⟩ := wpLive_ok hh
      split at hh
      · rename_i hb
        obtain ⟨e4, e5, e6⟩ := hh
        exact ⟨s1, g1, by rw [hv, e1, e2, e3], by rw [h2, hb, e4, e5, e6]⟩
      · exact hh.elim
    · exact hh.elim
  cases x with
  | normal => exact ⟨.inl rfl, key h⟩
  | ret => exact ⟨.inr rfl, key h⟩
  | _ => exact h.elim
def FnGoO (E : Env) (fn : Func) (ps : List PV) (k : Nat) (e : TypeId) (xs : List PV) (off m : Nat) (full : Bool) (n : Nat) (scr : Scr) : Prop := wpGo E noY 0 (finQO E.P fn k e xs off m full) n scr (startOf fn ps)
theorem denO_go {E : Env} {f : FuncId} {fn : Func} {ps xs : List PV} {k off m : Nat} {e : TypeId} {full : Bool} (n : Nat) (scr : Scr) (hi : E.intr f = none) (hf : E.P.funcs[f]? = some fn) (hb : fn.body.isSome = true) (hok : E.ok f = true) (hinl : E.inl f = false) (hown : E.own f = true)
    (h : FnGoO E fn ps k e xs off m full n scr) : DenO E f ps k e xs off m full := by
  obtain ⟨c, hc⟩ := Option.isSome_iff_exists.1 hb
  refine denO_body hi hf hc hok hinl hown (wp_mono (fun x s h => finQO_ok h) ?_)
  have h1 := wpGo_ok _ _ _ h
  simp only [startOf, TaskWp, KQ, bodyOf, hc] at h1
  exact h1
def finQP (P : Program) (fn : Func) (r : PV) (x : AExit) (s : St) : Prop := match x with
  | .normal | .ret => match resultsF P fn s.h s.t with
    | some (.pv p) => p = r
    | _ => False
  | _ => False
def FnGoP (E : Env) (fn : Func) (ps : List PV) (r : PV) (n : Nat) (scr : Scr) : Prop := wpGo E noY 0 (finQP E.P fn r) n scr (startOf fn ps)
theorem denP_go {E : Env} {f : FuncId} {fn : Func} {ps : List PV} {r : PV} (n : Nat) (scr : Scr) (hi : E.intr f = none) (hf : E.P.funcs[f]? = some fn) (hb : fn.body.isSome = true) (hok : E.ok f = true) (hinl : E.inl f = false) (hown : E.own f = true)
    (h : FnGoP E fn ps r n scr) (hrd : E.rd f = false := by rfl) : Den E f ps r := by
  obtain ⟨c, hc⟩ := Option.isSome_iff_exists.1 hb
  refine denP_body hi hf hc hok hinl hown hrd (wp_mono (Q := finQP E.P fn r) (fun x s h => ?_) ?_)
  · have key : (match resultsF E.P fn s.h s.t with
      | some (.pv p) => p = r
      | _ => False) → resultsF E.P fn s.h s.t = some (.pv r) := by
      intro h
      split at h
      · rename_i p hp
        subst h
        exact hp
      · exact h.elim
    cases x with
    | normal => exact ⟨.inl rfl, key h⟩
    | ret => exact ⟨.inr rfl, key h⟩
    | _ => exact h.elim
  · have h1 := wpGo_ok _ _ _ h
    simp only [startOf, TaskWp, KQ, bodyOf, hc] at h1
    exact h1
def rowsP (h1 : Heap) (K : Prop) : Nat → Nat → Prop
  | _, 0 => K
  | i, n + 1 => (hget h1 0 i).g = i ∧ gensP h1 (rowsP h1 K (i + 1) n) (refsB (hget h1 0 i).b)
theorem rowsP_ok {h1 : Heap} {K : Prop} : ∀ {n i : Nat}, rowsP h1 K i n → rowsOk h1 i n = true ∧ K
  | 0, i, h => ⟨rfl, h⟩
  | n + 1, i, h => by
    obtain ⟨h2, h3⟩ := gensP_ok h.2
    obtain ⟨h4, h5⟩ := rowsP_ok h3
    exact ⟨by simp only [rowsOk, h2, h4, Bool.and_true, beq_iff_eq]; exact h.1, h5⟩
def outP (m : Nat) (v0 : AV) (h1 : Heap) (v : AV) (rs : List Row) : Prop := match ren (nameOut m) frzDepth v0 with
  | some v' => gensP h1 (rowsP h1 (match outRows m h1 0 m with
    | some rs' => v' = v ∧ rs' = rs
    | none => False) 0 m) (refs frzDepth v0)
  | none => ∃ p h2, frz frzDepth v0 h1 = some (p, h2) ∧ rowsOk h2 0 m = true ∧ outRows m h2 0 m = some rs ∧ v = .pv p
theorem outP_ok {m : Nat} {v0 v : AV} {h1 : Heap} {rs : List Row} (h : outP m v0 h1 v rs) : canOut m v0 h1 = some (v, rs) := by
  unfold outP at h
  unfold canOut
  split at h
  · rename_i v' hv
    obtain ⟨h2, h⟩ := gensP_ok h
    obtain ⟨h3, h⟩ := rowsP_ok h
    split at h
    · rename_i rs' hrs
      obtain ⟨rfl, rfl⟩ := h
      simp only [hv, h2, h3, Bool.and_self, if_true, hrs, Option.map_some]
    · exact h.elim
  · rename_i hv
    obtain ⟨p, h2, hz, hok, hrs, rfl⟩ := h
    simp only [hv, hz, Option.bind_some, hok, if_true, hrs, Option.map_some]
def finQC (P : Program) (fn : Func) (m : Nat) (v : AV) (rs : List Row) (x : AExit) (s : St) : Prop := match x with
  | .normal | .ret => match resultsF P fn s.h s.t with
    | some v0 => outP m v0 s.h v rs
    | none => False
  | _ => False
theorem finQC_ok {P : Program} {fn : Func} {m : Nat} {v : AV} {rs : List Row} {x : AExit} {s : St} (h : finQC P fn m v rs x s) : endQC P fn m v rs x s := by
  unfold finQC at h
  have key : (match resultsF P fn s.h s.t with
    | some v0 => outP m v0 s.h v rs
    | none => False) → ∃ v0, resultsF P fn s.h s.t = some v0 ∧ canOut m v0 s.h = some (v, rs) := by
    intro h
    split at h
    · rename_i v0 hv
      exact ⟨v0, hv, outP_ok h⟩
    · exact h.elim
  cases x with
  | normal => exact ⟨.inl rfl, key h⟩
  | ret => exact ⟨.inr rfl, key h⟩
  | _ => exact h.elim
def startC (fn : Func) (args : List AV) (rows : List Row) : Task := .code (bodyOf fn) [] { t := padT fn.ntmps args, h := [rows, List.replicate fn.ntmps row0], g := rows.length }
def FnGoC (E : Env) (fn : Func) (args : List AV) (rows : List Row) (v : AV) (rs : List Row) (n : Nat) (scr : Scr) : Prop := wpGo E noY 1 (finQC E.P fn rows.length v rs) n scr (startC fn args rows)
theorem denC_go {E : Env} {f : FuncId} {fn : Func} {args : List AV} {rows rs : List Row} {v : AV} (n : Nat) (scr : Scr) (hf : E.P.funcs[f]? = some fn) (hb : fn.body.isSome = true) (h : FnGoC E fn args rows v rs n scr) : DenC E f args rows v rs := by
  obtain ⟨c, hc⟩ := Option.isSome_iff_exists.1 hb
  refine denC_body hf hc (wp_mono (fun x s h => finQC_ok h) ?_)
  have h1 := wpGo_ok _ _ _ h
  simp only [startC, TaskWp, KQ, bodyOf, hc] at h1
  exact h1
def loopsOf : Code → List Frame → List (Code × List Frame)
  | .seq a b, fr => loopsOf a (.seqK b :: fr) ++ loopsOf b fr
  | .cond _ a b, fr => loopsOf a fr ++ loopsOf b fr
  | .block id c, fr => loopsOf c (.blockK id :: fr)
  | .loop c, fr => (c, fr) :: loopsOf c (.loopK c :: fr)
  | _, _ => []
def LoopAt (E : Env) (fn : Func) (r : PV) (k : Nat) (s : St) : Prop := match (loopsOf (bodyOf fn) [])[k]? with
  | some (c, fr) => AtL E noY 0 c (KQ E noY 0 fr (finQ E.P fn r)) s
  | none => False
def LoopGo (E : Env) (fn : Func) (r : PV) (k : Nat) (n : Nat) (scr : Scr) (s : St) : Prop := match (loopsOf (bodyOf fn) [])[k]? with
  | some (c, fr) => wpGo E noY 0 (finQ E.P fn r) n scr (.code c (.loopK c :: fr) s)
  | none => False
theorem loop_go {E : Env} {fn : Func} {r : PV} {k : Nat} {s : St} (n : Nat) (scr : Scr) (h : LoopGo E fn r k n scr s) : LoopAt E fn r k s := by
  unfold LoopGo at h
  unfold LoopAt
  split at h
  · exact ⟨ev_round (wpGo_ok _ _ _ h)⟩
  · exact h.elim
def LoopAtC (E : Env) (fn : Func) (m : Nat) (v : AV) (rs : List Row) (k : Nat) (s : St) : Prop := match (loopsOf (bodyOf fn) [])[k]? with
  | some (c, fr) => AtL E noY 1 c (KQ E noY 1 fr (finQC E.P fn m v rs)) s
  | none => False
def LoopGoC (E : Env) (fn : Func) (m : Nat) (v : AV) (rs : List Row) (k : Nat) (n : Nat) (scr : Scr) (s : St) : Prop := match (loopsOf (bodyOf fn) [])[k]? with
  | some (c, fr) => wpGo E noY 1 (finQC E.P fn m v rs) n scr (.code c (.loopK c :: fr) s)
  | none => False
theorem loopC_go {E : Env} {fn : Func} {m : Nat} {v : AV} {rs : List Row} {k : Nat} {s : St} (n : Nat) (scr : Scr) (h : LoopGoC E fn m v rs k n scr s) : LoopAtC E fn m v rs k s := by
  unfold LoopGoC at h
  unfold LoopAtC
  split at h
  · exact ⟨ev_round (wpGo_ok _ _ _ h)⟩
  · exact h.elim
def rangesOf : Code → List Frame → List (Operand × Array Tmp × Code × Code × List Frame)
  | .seq a b, fr => rangesOf a (.seqK b :: fr) ++ rangesOf b fr
  | .cond _ a b, fr => rangesOf a fr ++ rangesOf b fr
  | .block id c, fr => rangesOf c (.blockK id :: fr)
  | .loop c, fr => rangesOf c (.loopK c :: fr)
  | .rangeFunc f ps a b, fr => [(f, ps, a, b, fr)]
  | _, _ => []
def FnGoI (E : Env) (ys : Fam) (D : Nat) (fn : Func) (args : List AV) (h : Heap) (g : Nat) (R : AExit → St → Prop) (n : Nat) (scr : Scr) : Prop := wpGo E ys D R n scr (.code (bodyOf fn) [] { t := padT fn.ntmps args, h := h, g := g })
theorem fnI_go {E : Env} {ys : Fam} {D : Nat} {fn : Func} {c : Code} {args : List AV} {h : Heap} {g : Nat} {R : AExit → St → Prop} (n : Nat) (scr : Scr) (hb : fn.body = some c) (hk : FnGoI E ys D fn args h g R n scr) : Wp E ys D c R { t := padT fn.ntmps args, h := h, g := g } := by
  have h1 := wpGo_ok _ _ _ hk
  simp only [TaskWp, KQ, bodyOf, hb] at h1
  exact h1
def LoopAtI (E : Env) (ys : Fam) (D : Nat) (fn : Func) (R : AExit → St → Prop) (k : Nat) (s : St) : Prop := match (loopsOf (bodyOf fn) [])[k]? with
  | some (c, fr) => AtL E ys D c (KQ E ys D fr R) s
  | none => False
def LoopGoI (E : Env) (ys : Fam) (D : Nat) (fn : Func) (R : AExit → St → Prop) (k : Nat) (n : Nat) (scr : Scr) (s : St) : Prop := match (loopsOf (bodyOf fn) [])[k]? with
  | some (c, fr) => wpGo E ys D R n scr (.code c (.loopK c :: fr) s)
  | none => False
theorem loopI_go {E : Env} {ys : Fam} {D : Nat} {fn : Func} {R : AExit → St → Prop} {k : Nat} {s : St} (n : Nat) (scr : Scr) (h : LoopGoI E ys D fn R k n scr s) : LoopAtI E ys D fn R k s := by
  unfold LoopGoI at h
  unfold LoopAtI
  split at h
  · exact ⟨ev_round (wpGo_ok _ _ _ h)⟩
  · exact h.elim
def RangeAtF (E : Env) (fn : Func) (r : PV) (k : Nat) (s : St) : Prop := match (rangesOf (bodyOf fn) [])[k]? with
  | some (f, ps, a, b, fr) => RangeAt E noY 0 f ps a b (KQ E noY 0 fr (finQ E.P fn r)) s
  | none => False
def BodyGo (E : Env) (fn : Func) (k : Nat) (R : AExit → St → Prop) (n : Nat) (scr : Scr) (s : St) : Prop := match (rangesOf (bodyOf fn) [])[k]? with
  | some (_, _, _, b, _) => wpGo E noY 0 R n scr (.code b [] s)
  | none => False
def AssignGo (E : Env) (fn : Func) (k : Nat) (R : AExit → St → Prop) (n : Nat) (scr : Scr) (s : St) : Prop := match (rangesOf (bodyOf fn) [])[k]? with
  | some (_, _, a, _, _) => wpGo E noY 0 R n scr (.code a [] s)
  | none => False
def AfterGo (E : Env) (fn : Func) (r : PV) (k : Nat) (n : Nat) (scr : Scr) (x : AExit) (s : St) : Prop := match (rangesOf (bodyOf fn) [])[k]? with
  | some (_, _, _, _, fr) => wpGo E noY 0 (finQ E.P fn r) n scr (.exit x fr s)
  | none => False
end Go.Proofs.YtlhfgonjcpapnaaGreatDoor.Abs

namespace Go.Proofs.YtlhfgonjcpapnaaGreatDoor.Abs
open Go Go.RowKit
def IntrAt (E : Env) (f : FuncId) (F : List PV → Option PV) : Prop := ∀ (ps : List PV) (r : PV), F ps = some r → ∀ (I : Blk) (w : World) (us : List Value), Gl E I w → us.length = ps.length →
  (∀ (j : Nat) (p : PV) (u : Value), ps[j]? = some p → us[j]? = some u → PRep I w p u) → (∀ b, I b → Solid w b) → PureDoes E.P f us.toArray w I r
section
variable {E : Env} {I : Blk} {w : World} {P : Program}
theorem pure_of_calls {f : FuncId} {us : Array Value} {r : PV} (hent : ∀ args w, (callFunc f args).run P w = .ok (.enter f args) w) {u : Value} {Q : World → Prop} (hc : Calls P f us w fun e w' => e = .returned u ∧ Q w')
    (hQ : ∀ w', Q w' → ∃ I' : Blk, PRep I' w' r u ∧ (∀ b, I b → I' b) ∧ (∀ b, I' b → I b ∨ w.heap.size ≤ b) ∧ Below w.heap.size w w' ∧ ∀ b, I' b → Solid w' b) : PureDoes P f us w I r :=
  .inr (.inl ⟨hent _ _, hc.mono fun e w' ⟨he, hq⟩ => by subst he; exact hQ w' hq⟩)
theorem post_below {w' : World} {r : PV} {u : Value} (hB : Below w.heap.size w w') (hin : ∀ b, I b → Solid w b) (hr : PRep I w' r u) :
    ∃ I' : Blk, PRep I' w' r u ∧ (∀ b, I b → I' b) ∧ (∀ b, I' b → I b ∨ w.heap.size ≤ b) ∧ Below w.heap.size w w' ∧ ∀ b, I' b → Solid w' b :=
  ⟨I, hr, fun _ h => h, fun _ h => .inl h, hB, fun b hb => (hin b hb).keep (hB.block b (hin b hb).lt)⟩
theorem two_lits {us : List Value} {a b : Value} (hl : us.length = 2) (hr : ∀ (j : Nat) (p : PV) (u : Value), [PV.lit a, PV.lit b][j]? = some p → us[j]? = some u → PRep I w p u) : us = [a, b] := by
  match us, hl with
  | [x, y], _ =>
    have h0 := prep_lit (hr 0 _ x rfl rfl)
    have h1 := prep_lit (hr 1 _ y rfl rfl)
    rw [h0, h1]
theorem three_lits {us : List Value} {a b c : Value} (hl : us.length = 3) (hr : ∀ (j : Nat) (p : PV) (u : Value), [PV.lit a, PV.lit b, PV.lit c][j]? = some p → us[j]? = some u → PRep I w p u) : us = [a, b, c] := by
  match us, hl with
  | [x, y, z], _ =>
    have h0 := prep_lit (hr 0 _ x rfl rfl)
    have h1 := prep_lit (hr 1 _ y rfl rfl)
    have h2 := prep_lit (hr 2 _ z rfl rfl)
    rw [h0, h1, h2]
theorem tup_lits (vs : List Value) : PRep I w (.tup (vs.map .lit)) (.tuple vs.toArray) := by
  refine .tup _ _ (by simp) fun j p v hp hv => ?_
  simp only [List.getElem?_map, Option.map_eq_some_iff] at hp
  obtain ⟨x, hx, rfl⟩ := hp
  rw [hv] at hx
  injection hx with hx
  subst hx
  exact .lit _
theorem gv_cell {g : Nat} {v : Value} (hg : PRep I w (.ptr (.lit v) 0) (.pointer (some ⟨g, 0, none⟩))) : w.cell? ⟨g, 0, none⟩ = some v := by
  obtain ⟨b, o, vs, hu, hI, hv⟩ := prep_ptr hg
  simp only [Value.pointer.injEq, Option.some.injEq, Addr.mk.injEq] at hu
  obtain ⟨rfl, ho, _⟩ := hu
  have ho' : o = 0 := by omega
  subst ho'
  obtain ⟨h1, h2, h3⟩ := hv 0 (.lit v) rfl
  rw [prep_lit h3] at h1
  simpa using h1
def strP (l : List UInt8) : PV := .lit (.string ⟨l.toArray⟩)
def cutP : List PV → Option PV
  | [.lit (.string s), .lit (.string sep)] => if s.size < 4294967281 then
      some (.tup [strP (Lib.cut s.data.toList sep.data.toList).1, strP (Lib.cut s.data.toList sep.data.toList).2.1, .lit (.bool (Lib.cut s.data.toList sep.data.toList).2.2)]) else none
  | _ => none
theorem cut_intr {f g : Nat} (hent : ∀ args w, (callFunc f args).run E.P w = .ok (.enter f args) w) (hg : ∀ I w, Gl E I w → ∃ m, w.cell? ⟨g, 0, none⟩ = some (.int .i64 m))
    (hc : ∀ (s sep : ByteArray) (m : Int) (w : World), s.size < 4294967281 → w.cell? ⟨g, 0, none⟩ = some (.int .i64 m) → Calls E.P f #[.string s, .string sep] w fun e w' =>
      e = .returned (.tuple #[.string ⟨(Lib.cut s.data.toList sep.data.toList).1.toArray⟩, .string ⟨(Lib.cut s.data.toList sep.data.toList).2.1.toArray⟩, .bool (Lib.cut s.data.toList sep.data.toList).2.2]) ∧ ∃ n, w' = w.drewN n) : IntrAt E f cutP := by
  intro ps r hF I w us hgl hl hr hin
  unfold cutP at hF
  split at hF
  · rename_i s sep
    split at hF
    · rename_i hs
      injection hF with hF
      subst hF
      rw [two_lits (by simpa using hl) hr]
      obtain ⟨m, hm⟩ := hg I w hgl
      refine pure_of_calls hent (hc s sep m w hs hm) ?_
      rintro w' ⟨n, rfl⟩
      exact post_below ⟨rfl, rfl, rfl, Nat.le_refl _, fun _ _ => rfl⟩ hin (tup_lits [_, _, _])
    · cases hF
  · cases hF
def repeatP : List PV → Option PV
  | [.lit (.string s), .lit (.int .i64 c)] => if 0 ≤ c ∧ c ≤ 9223372036854775807 ∧ s.size * c.toNat ≤ 140737488355328 then some (strP (Lib.repeatL s.data.toList c.toNat)) else none
  | _ => none
theorem repeat_intr {f : Nat} (hent : ∀ args w, (callFunc f args).run E.P w = .ok (.enter f args) w)
    (hc : ∀ (s : ByteArray) (c : Nat) (w : World), c ≤ 9223372036854775807 → s.size * c ≤ 140737488355328 → Calls E.P f #[.string s, .int .i64 c] w fun e w' =>
      e = .returned (.string ⟨(Lib.repeatL s.data.toList c).toArray⟩) ∧ Below w.heap.size w w') : IntrAt E f repeatP := by
  intro ps r hF I w us hgl hl hr hin
  unfold repeatP at hF
  split at hF
  · rename_i s c
    split at hF
    · rename_i hs
      injection hF with hF
      subst hF
      rw [two_lits (by simpa using hl) hr]
      have := hc s c.toNat w (by omega) hs.2.2
      rw [Int.toNat_of_nonneg hs.1] at this
      exact pure_of_calls hent this fun w' hB => post_below hB hin (.lit _)
    · cases hF
  · cases hF
def parseP : List PV → Option PV
  | [.lit (.string s), .lit (.int .i64 b), .lit (.int .i64 z)] => if b = 10 ∧ z = 64 ∧ s.size ≤ 9223372036854775806 then match Lib.parseUintB 64 s.data.toList with
    | .ok u => some (.tup [.lit (.int .u64 u), .lit .nilIface])
    | _ => none
    else none
  | _ => none
theorem parse_intr {f t : Nat} (hent : ∀ args w, (callFunc f args).run E.P w = .ok (.enter f args) w)
    (hc : ∀ (s : ByteArray), s.size ≤ 9223372036854775806 → ∀ (u : Nat), Lib.parseUintB 64 s.data.toList = .ok u → ∀ (w : World), Calls E.P f #[.string s, .int .i64 10, .int .i64 64] w fun e w' =>
      e = .returned (.tuple #[.int .u64 u, .nilIface]) ∧ (w' = w ∨ w' = Lib.bytesWorld w t s)) : IntrAt E f parseP := by
  intro ps r hF I w us hgl hl hr hin
  unfold parseP at hF
  split at hF
  · rename_i s b z
    split at hF
    · rename_i hs
      obtain ⟨rfl, rfl, hs⟩ := hs
      split at hF
      · rename_i u hu
        injection hF with hF
        subst hF
        rw [three_lits (by simpa using hl) hr]
        refine pure_of_calls hent (hc s hs u hu w) ?_
        rintro w' (rfl | rfl)
        · exact post_below (Below.refl _ _) hin (tup_lits [_, _])
        · exact post_below ⟨rfl, rfl, rfl, by rw [Lib.bytesWorld_size]; omega, fun k hk => Lib.bytesWorld_at_old w t s k hk⟩ hin (tup_lits [_, _])
      · cases hF
    · cases hF
  · cases hF
theorem post_strs (t : TypeId) (xs : List ByteArray) (hin : ∀ b, I b → Solid w b) :
    ∃ I' : Blk, PRep I' (w.alloc (.cells (xs.map Value.string).toArray t)) (.sl 1 false true (xs.map fun x => .lit (.string x))) (.slice (some ⟨w.heap.size, 0, none⟩) xs.length xs.length) ∧ (∀ b, I b → I' b) ∧ (∀ b, I' b → I b ∨ w.heap.size ≤ b) ∧
      Below w.heap.size w (w.alloc (.cells (xs.map Value.string).toArray t)) ∧ ∀ b, I' b → Solid (w.alloc (.cells (xs.map Value.string).toArray t)) b := by
  have hG : Grows w (w.alloc (.cells (xs.map Value.string).toArray t)) (.cells (xs.map Value.string).toArray t) := ⟨rfl, rfl, rfl, rfl⟩
  refine ⟨fun b => I b ∨ b = w.heap.size, ?_, fun _ h => .inl h, fun b hb => hb.imp id (fun e => by omega), (hG.below (Old.bnd w)).below, fun b hb => ?_⟩
  · have := PRep.sl (I := fun b => I b ∨ b = w.heap.size) (w := w.alloc (.cells (xs.map Value.string).toArray t)) 1 true (xs.map fun x => PV.lit (.string x)) w.heap.size 0 xs.length (fun i j => (.string (xs.getD i .empty)))
      (by simp) (by simp) (.inr rfl) (fun x hx => by obtain ⟨y, _, rfl⟩ := List.mem_map.1 hx; exact ⟨rfl, rfl⟩) (fun i x hx j p hp => ?_) (fun i x hx j p hp => ?_)
    · simpa using this
    · simp only [List.getElem?_map, Option.map_eq_some_iff] at hx
      obtain ⟨y, hy, rfl⟩ := hx
      cases j with
      | zero =>
        refine ⟨?_, rfl⟩
        rw [hG.cell]
        simp [hy, List.getD_eq_getElem?_getD]
      | succ j => simp [PV.cells] at hp
    · simp only [List.getElem?_map, Option.map_eq_some_iff] at hx
      obtain ⟨y, hy, rfl⟩ := hx
      cases j with
      | zero =>
        simp [PV.cells] at hp
        subst hp
        simp only [List.getD_eq_getElem?_getD, hy, Option.getD_some]
        exact .lit _
      | succ j => simp [PV.cells] at hp
  · rcases hb with hb | rfl
    · exact (hin b hb).keep (hG.old (hin b hb).lt)
    · exact .of_shape hG.shape
def splitP : List PV → Option PV
  | [.lit (.string s), .lit (.string sep)] => if s.size < 4294967281 ∧ 1 ≤ sep.size then some (.sl 1 false true ((Lib.splitB sep 0 (Lib.countB s sep) s).map fun x => .lit (.string x))) else none
  | _ => none
theorem split_intr {f g t : Nat} (hent : ∀ args w, (callFunc f args).run E.P w = .ok (.enter f args) w) (hg : ∀ I w, Gl E I w → ∃ m, w.cell? ⟨g, 0, none⟩ = some (.int .i64 m))
    (hlen : ∀ s sep : ByteArray, 1 ≤ sep.size → (Lib.splitB sep 0 (Lib.countB s sep) s).length = Lib.countB s sep + 1)
    (hc : ∀ (s sep : ByteArray) (m : Int) (w : World), s.size < 4294967281 → w.cell? ⟨g, 0, none⟩ = some (.int .i64 m) → 1 ≤ sep.size → Calls E.P f #[.string s, .string sep] w fun e w' =>
      e = .returned (.slice (some ⟨w.heap.size, 0, none⟩) (Lib.countB s sep + 1) (Lib.countB s sep + 1)) ∧ w' = w.alloc (.cells ((Lib.splitB sep 0 (Lib.countB s sep) s).map Value.string).toArray t)) : IntrAt E f splitP := by
  intro ps r hF I w us hgl hl hr hin
  unfold splitP at hF
  split at hF
  · rename_i s sep
    split at hF
    · rename_i hs
      injection hF with hF
      subst hF
      rw [two_lits (by simpa using hl) hr]
      obtain ⟨m, hm⟩ := hg I w hgl
      refine pure_of_calls hent (hc s sep m w hs.1 hm hs.2) ?_
      rintro w' rfl
      have := post_strs (I := I) (w := w) t (Lib.splitB sep 0 (Lib.countB s sep) s) hin
      rw [hlen s sep hs.2] at this
      exact this
    · cases hF
  · cases hF
def strsP : List PV → Option (List ByteArray)
  | [] => some []
  | .lit (.string s) :: l => (strsP l).map (s :: ·)
  | _ :: _ => none
theorem strsP_map : ∀ {l : List PV} {xs : List ByteArray}, strsP l = some xs → l = xs.map fun x => .lit (.string x)
  | [], xs, h => by simp [strsP] at h; subst h; rfl
  | p :: l, xs, h => by
    cases p with
    | lit v =>
      cases v <;> simp only [strsP, Option.map_eq_some_iff] at h <;> try (cases h; done)
      obtain ⟨ys, hy, rfl⟩ := h
      rw [strsP_map hy]; rfl
    | _ => simp [strsP] at h
def joinP : List PV → Option PV
  | [.sl k nl full l, .lit (.string sep)] => match strsP l with
    | some xs => if xs.length ≤ 140737488355328 ∧ (Lib.join (xs.map fun x => x.data.toList) sep.data.toList).length ≤ 140737488355328 then some (strP (Lib.join (xs.map fun x => x.data.toList) sep.data.toList)) else none
    | none => none
  | _ => none
theorem join_intr {f : Nat} (hent : ∀ args w, (callFunc f args).run E.P w = .ok (.enter f args) w)
    (h0 : ∀ (a : Option Addr) (c : Nat) (sep : ByteArray) (w : World), Calls E.P f #[.slice a 0 c, .string sep] w fun e w' => e = .returned (.string ⟨#[]⟩) ∧ w' = w)
    (hc : ∀ (bk o c : Nat) (xs : List ByteArray) (sep : ByteArray) (w : World), (∀ (j : Nat) (x : ByteArray), xs[j]? = some x → w.cell? ⟨bk, o + j, none⟩ = some (.string x)) → bk < w.heap.size → xs.length ≤ 140737488355328 → xs.length ≤ c →
      (Lib.join (xs.map fun x => x.data.toList) sep.data.toList).length ≤ 140737488355328 → Calls E.P f #[.slice (some ⟨bk, o, none⟩) xs.length c, .string sep] w fun e w' =>
        e = .returned (.string ⟨(Lib.join (xs.map fun x => x.data.toList) sep.data.toList).toArray⟩) ∧ Below w.heap.size w w') : IntrAt E f joinP := by
  intro ps r hF I w us hgl hl hr hin
  unfold joinP at hF
  split at hF
  · rename_i k nl full l sep
    split at hF
    · rename_i xs hxs
      split at hF
      · rename_i hs
        injection hF with hF
        subst hF
        have hl' := strsP_map hxs
        obtain ⟨x, hx⟩ : ∃ x, us = [x, .string sep] := by
          match us, hl with
          | [x, y], _ => exact ⟨x, by rw [prep_lit (hr 1 _ y rfl rfl)]⟩
        subst hx
        have hx := hr 0 _ x rfl rfl
        have nil : ∀ (a : Option Addr) (c : Nat), xs = [] → x = .slice a 0 c → PureDoes E.P f [x, .string sep].toArray w I (strP (Lib.join (xs.map fun x => x.data.toList) sep.data.toList)) := by
          rintro a c rfl rfl
          exact pure_of_calls hent (h0 a c sep w) fun w' hw => by subst hw; exact post_below (Below.refl _ _) hin (.lit _)
        cases hx with
        | nil => exact nil none 0 (by simpa using hl'.symm) rfl
        | emp _ _ a cap => exact nil (some a) cap (by simpa using hl'.symm) rfl
        | sl _ _ _ b o cap vs hcap hfull hI hk hcc hrr =>
          subst hl'
          by_cases hne : xs = []
          · subst hne; exact nil _ cap rfl rfl
          · have hk1 : k = 1 := by
              obtain ⟨y, ys, rfl⟩ := List.exists_cons_of_ne_nil hne
              have := (hk (.lit (.string y)) (by simp)).1
              simpa [PV.cells] using this.symm
            subst hk1
            have hcells : ∀ (j : Nat) (x : ByteArray), xs[j]? = some x → w.cell? ⟨b, o + j, none⟩ = some (.string x) := by
              intro j y hj
              have h1 := (hcc j (.lit (.string y)) (by simp [hj]) 0 (.lit (.string y)) rfl).1
              have h2 := hrr j (.lit (.string y)) (by simp [hj]) 0 (.lit (.string y)) rfl
              rw [prep_lit h2] at h1
              simpa using h1
            have := hc b o cap xs sep w hcells (hin b hI).lt hs.1 (by simpa using hcap) hs.2
            simp only [List.length_map]
            exact pure_of_calls hent this fun w' hB => post_below hB hin (.lit _)
      · cases hF
    · cases hF
  · cases hF
end
end Go.Proofs.YtlhfgonjcpapnaaGreatDoor.Abs

namespace Go.Proofs.YtlhfgonjcpapnaaGreatDoor.Abs
open Go Go.Proofs
def fmtP : List PV → Option PV
  | [.lit (.int .u64 n), .lit (.int .i64 b)] => if b = 10 ∧ 0 ≤ n ∧ n < 18446744073709551616 then some (strP (Lib.decDigits n.toNat)) else none
  | _ => none
def libF0 (f : FuncId) : Option (List PV → Option PV) := match f with
  | 68 => some cutP
  | 69 => some splitP
  | 40 => some joinP
  | 75 => some repeatP
  | 110 => some parseP
  | 112 => some fmtP
  | _ => none
def aliveP : List PV → Option PV
  | [] => some (.lit (.bool true))
  | _ => none
def libF (f : FuncId) : Option (List PV → Option PV) := match f with
  | 10 => some aliveP
  | f => libF0 f
abbrev bs (l : List UInt8) : ByteArray := ⟨l.toArray⟩
abbrev verP (a b c : Int) (p : PV) : PV := .agg [.lit (.int .u32 a), .lit (.int .u32 b), .lit (.int .u32 c), p]
abbrev bndP (a b c : Int) (p : PV) (o : Bool) : PV := .agg [.lit (.int .u32 a), .lit (.int .u32 b), .lit (.int .u32 c), p, .lit (.bool o)]
abbrev edgP (a b c : Int) (p : PV) (o e : Bool) : PV := .agg [.lit (.int .u32 a), .lit (.int .u32 b), .lit (.int .u32 c), p, .lit (.bool o), .lit (.bool e)]
abbrev itvP (a b c : Int) (p : PV) (o : Bool) (a1 b1 c1 : Int) (p1 : PV) (o1 e : Bool) : PV :=
  .agg [.lit (.int .u32 a), .lit (.int .u32 b), .lit (.int .u32 c), p, .lit (.bool o), .lit (.int .u32 a1), .lit (.int .u32 b1), .lit (.int .u32 c1), p1, .lit (.bool o1), .lit (.bool e)]
abbrev intA (x : Int) : AV := .pv (.lit (.int .i64 x))
abbrev bolA (x : Bool) : AV := .pv (.lit (.bool x))
abbrev strA (x : ByteArray) : AV := .pv (.lit (.string x))
abbrev intP (x : Int) : PV := .lit (.int .i64 x)
abbrev bolP (x : Bool) : PV := .lit (.bool x)
def glE (I : Nat → Prop) (w : World) : Prop := (∃ m, PRep I w (.ptr (.lit (.int .i64 m)) 0) (.pointer (some ⟨0, 0, none⟩))) ∧ Lib.TabIs Tryz.prog w "internal/strconv.uint64pow10" .u64 Lib.pow10Tab ∧ I 3
theorem glE_mono (I I' : Nat → Prop) (w w' : World) (h : glE I w) (hI : ∀ b, I b → I' b) (hk : ∀ b, I b → w'.heap[b]? = w.heap[b]?) : glE I' w' := by
  obtain ⟨⟨m, h1⟩, h2, h3⟩ := h
  refine ⟨⟨m, h1.mono hI hk⟩, ?_, hI _ h3⟩
  have hg : Tryz.prog.globalNamed "internal/strconv.uint64pow10" = some 3 := by kernel_rfl
  unfold Lib.TabIs World.var? at *
  rw [hg] at h2 ⊢
  simp only [Option.bind_some] at h2 ⊢
  rw [hk _ h3]
  exact h2
noncomputable def E0 : Env := {
  P := Tryz.prog
  intr := libF0
  inl := fun f => [51, 94, 97, 132, 154, 155, 178, 191].contains f
  own := fun f => [95, 105].contains f
  can := fun f => [94, 97, 132, 154, 155, 178, 191].contains f
  rd := fun f => [152, 83, 121].contains f
  ok := fun f => !(f == 79)
  gl := glE
  glm := glE_mono }
noncomputable def E1 : Env := { E0 with intr := libF }
end Go.Proofs.YtlhfgonjcpapnaaGreatDoor.Abs

namespace Go.Proofs.YtlhfgonjcpapnaaGreatDoor.Abs
open Go Go.Proofs
theorem size_bs (l : List UInt8) : ByteArray.size (bs l) = l.length := rfl
theorem toList_bs (l : List UInt8) : ByteArray.toList (bs l) = l := by
  rw [ByteArray.toList_eq]
theorem wrap_i64 (x : Int) (h1 : -9223372036854775808 ≤ x) (h2 : x < 9223372036854775808) : IntKind.wrap IntKind.i64 x = x := by
  simp only [IntKind.wrap, IntKind.bits, IntKind.signed]
  simp
  omega
theorem wrap_u64 (x : Int) (h1 : 0 ≤ x) (h2 : x < 18446744073709551616) : IntKind.wrap IntKind.u64 x = x := by
  simp only [IntKind.wrap, IntKind.bits, IntKind.signed]
  simp
  omega
end Go.Proofs.YtlhfgonjcpapnaaGreatDoor.Abs

namespace Go.Proofs.YtlhfgonjcpapnaaGreatDoor.Abs
open Go Go.Proofs
abbrev preP (k : Nat) (nl full : Bool) (l : List (List UInt8)) : PV := .sl k nl full (l.map strP)
structure V where
  a : Int
  b : Int
  c : Int
  k : Nat
  nl : Bool
  full : Bool
  pre : List (List UInt8)
  deriving Inhabited
abbrev V.p (v : V) : PV := verP v.a v.b v.c (preP v.k v.nl v.full v.pre)
structure I where
  lo : V
  lopen : Bool
  hi : V
  hopen : Bool
  less : Bool
  deriving Inhabited
abbrev I.p (x : I) : PV := itvP x.lo.a x.lo.b x.lo.c (preP x.lo.k x.lo.nl x.lo.full x.lo.pre) x.lopen x.hi.a x.hi.b x.hi.c (preP x.hi.k x.hi.nl x.hi.full x.hi.pre) x.hopen x.less
structure Ed where
  v : V
  behind : Bool
  less : Bool
  deriving Inhabited
abbrev Ed.p (x : Ed) : PV := edgP x.v.a x.v.b x.v.c (preP x.v.k x.v.nl x.v.full x.v.pre) x.behind x.less
structure Bd where
  v : V
  op : Bool
  deriving Inhabited
abbrev Bd.p (x : Bd) : PV := bndP x.v.a x.v.b x.v.c (preP x.v.k x.v.nl x.v.full x.v.pre) x.op
abbrev listP (k : Nat) (nl full : Bool) (l : List I) : PV := .sl k nl full (l.map I.p)
abbrev V.q (v : V) : PV := preP v.k v.nl v.full v.pre
abbrev gI (l : List I) (i : Int) : I := List.getD l (Int.toNat i) default
theorem gI_nat (l : List I) (i : Nat) : gI l (i : Int) = l.getD i default := rfl
theorem gI_zero (l : List I) : gI l 0 = l.getD 0 default := rfl
def Scr.lts : Nat → Scr → Scr
  | 0, k => k
  | n + 1, k => .lit (Scr.lts n k)
def iv : List (Nat × Nat) → List Nat
  | [] => []
  | (a, b) :: l => List.range' a (b + 1 - a) ++ iv l
abbrev jj (j : Nat → AV) (a n : Nat) : List AV := (List.range' a n).map j
abbrev AtAll (fn : Func) (r : PV) (k : Nat) (S : (Nat → AV) → (Nat → Row) → Nat → St) : Prop := ∀ (j : Nat → AV) (jr : Nat → Row) (g : Nat), LoopAt E1 fn r k (S j jr g)
def small (n : Nat) : Prop := n < 4611686018427387904
def u32 (n : Int) : Prop := 0 ≤ n ∧ n < 4294967296
def slOk (sz k : Nat) (nl : Bool) (n : Nat) : Prop := (nl = true → n = 0) ∧ (nl = false → k = sz)
theorem sl_at {sz k : Nat} {nl : Bool} {n i : Nat} (h : slOk sz k nl n) (hi : i < n) : nl = false ∧ k = sz := by
  cases nl with
  | false => exact ⟨rfl, h.2 rfl⟩
  | true => have := h.1 rfl; omega
structure V.ok (v : V) : Prop where
  a : u32 v.a
  b : u32 v.b
  c : u32 v.c
  sl : slOk 1 v.k v.nl v.pre.length
  len : small v.pre.length
  str : ∀ s ∈ v.pre, small s.length
structure I.ok (x : I) : Prop where
  lo : x.lo.ok
  hi : x.hi.ok
end Go.Proofs.YtlhfgonjcpapnaaGreatDoor.Abs

namespace Go.Proofs.YtlhfgonjcpapnaaGreatDoor.Abs
open Go Go.Proofs
inductive F2 (I : Blk) (w : World) : List PV → List Value → Prop
  | nil : F2 I w [] []
  | cons {p : PV} {v : Value} {ps : List PV} {vs : List Value} (h : PRep I w p v) (h1 : v.oneCell' = true) (r : F2 I w ps vs) : F2 I w (p :: ps) (v :: vs)
theorem F2.length {I : Blk} {w : World} {ps : List PV} {vs : List Value} (h : F2 I w ps vs) : ps.length = vs.length := by
  induction h with
  | nil => rfl
  | cons _ _ _ ih => simp [ih]
theorem F2.get {I : Blk} {w : World} {ps : List PV} {vs : List Value} (h : F2 I w ps vs) : ∀ {j : Nat} {p : PV} {v : Value}, ps[j]? = some p → vs[j]? = some v → PRep I w p v ∧ v.oneCell' = true := by
  induction h with
  | nil => intro j p v hp; simp at hp
  | cons a b r ih =>
    intro j p v hp hv
    cases j with
    | zero => simp only [List.getElem?_cons_zero, Option.some.injEq] at hp hv; subst hp; subst hv; exact ⟨a, b⟩
    | succ j => simp only [List.getElem?_cons_succ] at hp hv; exact ih hp hv
theorem F2.append {I : Blk} {w : World} {ps qs : List PV} {vs us : List Value} (h : F2 I w ps vs) (k : F2 I w qs us) : F2 I w (ps ++ qs) (vs ++ us) := by
  induction h with
  | nil => exact k
  | cons a b r ih => exact .cons a b ih
def isSt (P : Program) (t : TypeId) : Bool := match P.underlying t with
  | some (.struct _) => true
  | _ => false
def mkE (st : Bool) (cs : List PV) : PV := if st then .agg cs else cs.headD default
def wellF (W : TypeId → List PV → Prop) : List Field → List PV → Prop
  | [], r => r = []
  | f :: fs, r => ∃ a b, r = a ++ b ∧ W f.type a ∧ wellF W fs b
def wellP (P : Program) : Nat → TypeId → List PV → Prop
  | 0, _, _ => False
  | n + 1, t, cs => match P.underlying t with
    | some .bool => ∃ b, cs = [.lit (.bool b)]
    | some (.int k) => ∃ x, cs = [.lit (.int k x)] ∧ (Lit.int k x).wf = true
    | some .string => ∃ s : ByteArray, cs = [.lit (.string s)] ∧ s.size ≤ reachBytes
    | some (.slice e) => ∃ (k : Nat) (nl : Bool) (rs : List (List PV)), cs = [.sl k nl false (rs.map (mkE (isSt P e)))] ∧ slOk (P.cellsOf e) k nl rs.length ∧ rs.length * P.bytesOf e ≤ reachBytes ∧ ∀ r ∈ rs, wellP P n e r
    | some (.struct fs) => wellF (wellP P n) fs.toList cs
    | _ => False
def contigB (P : Program) : List Field → Nat → Nat → Bool
  | [], o, n => o == n
  | f :: fs, o, n => (f.offset == o) && contigB P fs (o + P.cellsOf f.type) n
def plainT (P : Program) : Nat → TypeId → Bool
  | 0, _ => false
  | m + 1, t => match P.underlying t with
    | some .bool | some (.int _) | some .string => P.cellsOf t == 1
    | some (.slice e) => P.cellsOf t == 1 && plainT P m e && decide (0 < P.cellsOf e)
    | some (.struct fs) => contigB P fs.toList 0 (P.cellsOf t) && fs.toList.all (fun f => plainT P m f.type)
    | _ => false
theorem wa_mem {H : Type} {P : Program} {e : TypeId} : ∀ {l : List (DataW H)} {d : DataW H} {n : Nat}, d ∈ l → n ∈ d.weights P e → n ∈ DataW.weightsAll P e l
  | x :: l, d, n, hd, hn => by
    simp only [DataW.weightsAll, List.mem_append]
    cases List.mem_cons.1 hd with
    | inl h => subst h; exact .inl hn
    | inr h => exact .inr (wa_mem h hn)
theorem well_one {P : Program} {n : Nat} {t : TypeId} {r : List PV} (hs : isSt P t = false) (h : wellP P n t r) : ∃ p, r = [p] ∧ p.cells = [p] ∧ p.ok = true := by
  cases n with
  | zero => exact h.elim
  | succ n =>
    unfold wellP at h
    unfold isSt at hs
    split at h
    · obtain ⟨b, rfl⟩ := h; exact ⟨_, rfl, rfl, rfl⟩
    · obtain ⟨b, rfl, _⟩ := h; exact ⟨_, rfl, rfl, rfl⟩
    · obtain ⟨b, rfl, _⟩ := h; exact ⟨_, rfl, rfl, rfl⟩
    · obtain ⟨k, nl, rs, rfl, _⟩ := h; exact ⟨_, rfl, rfl, rfl⟩
    · rename_i he; rw [he] at hs; cases hs
    · exact h.elim
theorem mkE_cells {P : Program} {n : Nat} {t : TypeId} {r : List PV} (h : wellP P n t r) : (mkE (isSt P t) r).cells = r ∧ (mkE (isSt P t) r).ok = true := by
  unfold mkE
  cases hs : isSt P t with
  | true => exact ⟨rfl, rfl⟩
  | false =>
    obtain ⟨p, rfl, h1, h2⟩ := well_one hs h
    exact ⟨h1, h2⟩
theorem list_of {α : Type} {q : Nat → α → Prop} : ∀ n, (∀ i, i < n → ∃ x, q i x) → ∃ l : List α, l.length = n ∧ ∀ i (h : i < l.length), q i l[i]
  | 0, _ => ⟨[], rfl, fun i h => absurd h (Nat.not_lt_zero _)⟩
  | n + 1, h => by
    obtain ⟨l, hl, hq⟩ := list_of n (fun i hi => h i (Nat.lt_succ_of_lt hi))
    obtain ⟨x, hx⟩ := h n (Nat.lt_succ_self n)
    refine ⟨l ++ [x], by simp [hl], fun i hi => ?_⟩
    by_cases hc : i < l.length
    · rw [List.getElem_append_left hc]; exact hq i hc
    · have : i = n := by simp at hi; omega
      subst this
      rw [List.getElem_append_right (by omega)]
      simpa [hl] using hx
theorem add_add (a : Addr) (i j : Nat) : (a.add i).add j = a.add (i + j) := by
  unfold Addr.add
  by_cases hi : i = 0 <;> by_cases hj : j = 0 <;> simp [hi, hj, Nat.add_assoc]
theorem cell_spot {w : World} {a : Addr} {v : Value} (h : w.cell? a = some v) : a.spot = none ∧ ∃ e n, w.shape? a.block = some (e, n) := by
  unfold World.cell? at h
  split at h
  · rename_i c t f hb
    split at h
    · cases h
    · rename_i hs
      refine ⟨by simpa using hs, t, c.size, ?_⟩
      unfold World.shape?
      rw [hb]
  · cases h
section
variable {H : Type} {enc : TypeId × Value → H} {P : Program} {w : World} {I : Blk} {held : Bool}
theorem fields_of {total : Nat} {cs : List Value} (hcs : cs.length = total) {W : TypeId → List PV → Prop} : ∀ (fs : List Field) (o : Nat), contigB P fs o total = true → o ≤ total →
    (∀ f ∈ fs, ∃ ps, W f.type ps ∧ F2 I w ps ((cs.drop f.offset).take (P.cellsOf f.type))) → ∃ ps, wellF W fs ps ∧ F2 I w ps (cs.drop o)
  | [], o, hc, _, _ => by
    simp only [contigB, beq_iff_eq] at hc
    rw [List.drop_of_length_le (by omega)]
    exact ⟨[], rfl, .nil⟩
  | f :: fs, o, hc, ho, h => by
    simp only [contigB, Bool.and_eq_true, beq_iff_eq] at hc
    obtain ⟨h1, h2⟩ := hc
    obtain ⟨a, ha, hfa⟩ := h f (by simp)
    rw [h1] at hfa
    have hle : o + P.cellsOf f.type ≤ total := by
      have : ∀ (fs : List Field) (o : Nat), contigB P fs o total = true → o ≤ total := by
        intro fs
        induction fs with
        | nil => intro o h; simp only [contigB, beq_iff_eq] at h; omega
        | cons g gs ih => intro o h; simp only [contigB, Bool.and_eq_true, beq_iff_eq] at h; have := ih _ h.2; omega
      exact this _ _ h2
    obtain ⟨b, hb, hfb⟩ := fields_of hcs fs (o + P.cellsOf f.type) h2 hle (fun g hg => h g (by simp [hg]))
    refine ⟨a ++ b, ⟨a, b, rfl, ha, hb⟩, ?_⟩
    have e : cs.drop o = (cs.drop o).take (P.cellsOf f.type) ++ cs.drop (o + P.cellsOf f.type) := by
      rw [← List.drop_drop, List.take_append_drop]
    rw [e]
    exact hfa.append hfb
theorem of_trod (hI : ∀ b e n, w.shape? b = some (e, n) → I b) : ∀ (fuel : Nat) (t : TypeId) (cs : List Value) (x : DataW H × List MemPlace) (m : Nat), DataW.trod enc P w 0 (fun _ => true) held fuel t cs = some x → plainT P m t = true →
    (∀ n ∈ x.1.weights P t, n ≤ reachBytes) → ∃ ps, wellP P fuel t ps ∧ F2 I w ps cs := by
  intro fuel
  induction fuel with
  | zero => intro t cs x m h; simp [DataW.trod] at h
  | succ fuel ih =>
    intro t cs x m h hp hw
    cases m with
    | zero => simp [plainT] at hp
    | succ m =>
      unfold plainT at hp
      unfold wellP
      split at hp
      · rename_i ht
        obtain ⟨b, rfl, rfl⟩ := DataW.trod_bool ht h
        exact ⟨_, ⟨b, rfl⟩, .cons (.lit _) rfl .nil⟩
      · rename_i k ht
        obtain ⟨b, rfl, rfl, hb⟩ := DataW.trod_int ht h
        exact ⟨_, ⟨b, rfl, hb⟩, .cons (.lit _) rfl .nil⟩
      · rename_i ht
        obtain ⟨s, rfl, rfl, _⟩ := DataW.trod_string ht h
        exact ⟨_, ⟨s, rfl, by
          have h1 := hw s.data.toList.length (by simp only [DataW.weights, List.mem_singleton])
          rw [Array.length_toList] at h1
          exact h1⟩, .cons (.lit _) rfl .nil⟩
      · rename_i e ht
        simp only [Bool.and_eq_true, beq_iff_eq, decide_eq_true_eq] at hp
        obtain ⟨⟨_, hp2⟩, hp3⟩ := hp
        rcases DataW.trod_slice ht h with ⟨rfl, rfl⟩ | ⟨a, len, cap, elems, rest, n, hn, rfl, rfl, _, hlen, hmax, hel, hx, _, _⟩
        · exact ⟨_, ⟨0, true, [], rfl, ⟨fun _ => rfl, fun e => Bool.noConfusion e⟩, by simp, fun r hr => absurd hr (List.not_mem_nil)⟩, .cons (.nil 0 false) rfl .nil⟩
        · obtain rfl : fuel = n := by omega
          have hwt := hw
          simp only [DataW.weights, ht, List.mem_cons, List.length_map] at hwt
          have hsz := hwt _ (.inl rfl)
          obtain ⟨rs, hrs, hq⟩ := list_of (q := fun i r => wellP P fuel e r ∧ ∃ cs', w.cells? 0 (a.add (i * P.cellsOf e)) (P.cellsOf e) = some cs' ∧ F2 I w r cs') len (fun i hi => by
            have h12 := hx i (by omega)
            rw [List.getElem?_eq_getElem (by omega)] at h12
            obtain ⟨cs', h1, h2⟩ := Option.bind_eq_some_iff.1 h12
            obtain ⟨ps, hps, hf⟩ := ih e cs' _ m h2 hp2 (fun k hk => hwt k (.inr (List.mem_append_left _ (wa_mem (List.mem_map.2 ⟨_, List.getElem_mem _, rfl⟩) hk))))
            exact ⟨ps, hps, cs', h1, hf⟩)
          have hlen2 : rs.length * P.bytesOf e ≤ reachBytes := by
            refine Nat.le_trans (Nat.mul_le_mul_right _ ?_) hsz
            omega
          have hwell : ∀ r ∈ rs, wellP P fuel e r := fun r hr => by
            obtain ⟨i, hi, rfl⟩ := List.getElem_of_mem hr
            exact (hq i hi).1
          refine ⟨_, ⟨P.cellsOf e, false, rs, rfl, ⟨fun e => Bool.noConfusion e, fun _ => rfl⟩, hlen2, hwell⟩, .cons ?_ rfl .nil⟩
          by_cases h0 : len = 0
          · have : rs = [] := List.length_eq_zero_iff.1 (by omega)
            subst this; subst h0
            exact .emp _ _ _ _ (fun e => Bool.noConfusion e)
          · have hget : ∀ (i : Nat) (x : PV), (rs.map (mkE (isSt P e)))[i]? = some x → ∃ hi : i < rs.length, x.cells = rs[i] := fun i x hx => by
              rw [List.getElem?_map] at hx
              obtain ⟨r, hr, rfl⟩ := Option.map_eq_some_iff.1 hx
              obtain ⟨hi, rfl⟩ := List.getElem?_eq_some_iff.1 hr
              exact ⟨hi, (mkE_cells (hq i hi).1).1⟩
            have hcell : ∀ (i j : Nat) (p : PV) (hi : i < rs.length), rs[i][j]? = some p → ∃ v, w.cell? (a.add (i * P.cellsOf e + j)) = some v ∧ v.oneCell' = true ∧ PRep I w p v := fun i j p hi hp => by
              obtain ⟨_, cs', h1, hf⟩ := hq i hi
              obtain ⟨_, hl, hc⟩ := World.cells?_some h1
              have hj : j < cs'.length := by rw [← hf.length]; exact (List.getElem?_eq_some_iff.1 hp).1
              have hv : cs'[j]? = some cs'[j] := List.getElem?_eq_getElem hj
              obtain ⟨h3, h4⟩ := hf.get hp hv
              have := hc j (by omega)
              rw [add_add, hv] at this
              exact ⟨_, this, h4, h3⟩
            have hk : a.spot = none ∧ I a.block := by
              obtain ⟨_, cs', h1, hf⟩ := hq 0 (by omega)
              obtain ⟨_, hl, hc⟩ := World.cells?_some h1
              have := hc 0 hp3
              rw [List.getElem?_eq_getElem (by omega)] at this
              obtain ⟨h5, e', n', h6⟩ := cell_spot this
              have ea : ((a.add (0 * P.cellsOf e)).add 0) = a := by unfold Addr.add; simp
              rw [ea] at h5 h6
              exact ⟨h5, hI _ _ _ h6⟩
            obtain ⟨b, o, sp⟩ := a
            obtain ⟨rfl, hIb⟩ := hk
            have hadd : ∀ n, (⟨b, o, none⟩ : Addr).add n = ⟨b, o + n, none⟩ := fun n => by
              unfold Addr.add
              by_cases hn : n = 0
              · subst hn; simp
              · simp [hn]
            have hc2 : ∀ (i : Nat) (x : PV), (rs.map (mkE (isSt P e)))[i]? = some x → ∀ (j : Nat) (p : PV), x.cells[j]? = some p →
                ∃ v, w.cell? ⟨b, o + i * P.cellsOf e + j, none⟩ = some v ∧ v.oneCell' = true ∧ PRep I w p v := fun i x hx j p hp => by
              obtain ⟨hi, e1⟩ := hget i x hx
              rw [e1] at hp
              obtain ⟨v, h1, h2, h3⟩ := hcell i j p hi hp
              rw [hadd, ← Nat.add_assoc] at h1
              exact ⟨v, h1, h2, h3⟩
            have hlm : (rs.map (mkE (isSt P e))).length = len := by simp [hrs]
            rw [← hlm]
            refine .sl _ _ _ b o cap (fun i j => (w.cell? ⟨b, o + i * P.cellsOf e + j, none⟩).getD default) (by omega) (fun e => Bool.noConfusion e) hIb (fun x hx => ?_) (fun i x hx j p hp => ?_) (fun i x hx j p hp => ?_)
            · obtain ⟨r, hr, rfl⟩ := List.mem_map.1 hx
              obtain ⟨i, hi, rfl⟩ := List.getElem_of_mem hr
              obtain ⟨h3, cs', h1, hf⟩ := hq i hi
              obtain ⟨_, hl, _⟩ := World.cells?_some h1
              refine ⟨?_, (mkE_cells h3).2⟩
              rw [(mkE_cells h3).1, hf.length, hl]
            · obtain ⟨v, h1, h2, h3⟩ := hc2 i x hx j p hp
              simp only [h1, Option.getD_some]
              exact ⟨trivial, h2⟩
            · obtain ⟨v, h1, h2, h3⟩ := hc2 i x hx j p hp
              simp only [h1, Option.getD_some]
              exact h3
      · rename_i fs ht
        simp only [Bool.and_eq_true, List.all_eq_true] at hp
        obtain ⟨xs, n, hn, rfl, hl, hxl, hf⟩ := DataW.trod_struct ht h
        obtain rfl : fuel = n := by omega
        have hwf : ∀ (fl : List Field) (l : List (DataW H)) (i : Nat) (f : Field) (d : DataW H) (k : Nat), fl[i]? = some f → l[i]? = some d → k ∈ d.weights P f.type → k ∈ DataW.weightsEach P (fl.map (·.type)) l := by
          intro fl l i f d k h1 h2 h3
          exact DataW.weights_mem_each (j := i) (t := f.type) (by simp [h1]) h2 k h3
        obtain ⟨ps, h1, h2⟩ := fields_of (I := I) (w := w) hl fs.toList 0 hp.1 (by omega) (W := wellP P fuel) (fun f hfm => by
          obtain ⟨i, hi, rfl⟩ := List.getElem_of_mem hfm
          have hfi : fs[i]? = some fs.toList[i] := by simp at hi ⊢
          have hx := hf i _ hfi
          have hi' : i < xs.length := by rw [hxl]; simpa using hi
          rw [List.getElem?_eq_getElem hi'] at hx
          obtain ⟨ps, hps, hf2⟩ := ih _ _ _ m hx (hp.2 _ hfm) (fun k hk => hw k (by
            simp only [DataW.weights, ht]
            exact hwf fs.toList (xs.map (·.1)) i _ _ k (List.getElem?_eq_getElem hi) (by simp [hi']) hk))
          exact ⟨ps, hps, hf2⟩)
        exact ⟨ps, h1, by simpa using h2⟩
      · cases hp
end
theorem well_str0 {P : Program} {n : Nat} {t : TypeId} {cs : List PV} (ht : P.underlying t = some .string) (h : wellP P n t cs) : ∃ s : ByteArray, cs = [.lit (.string s)] ∧ s.size ≤ reachBytes := by
  cases n with
  | zero => exact h.elim
  | succ n => unfold wellP at h; rw [ht] at h; exact h
end Go.Proofs.YtlhfgonjcpapnaaGreatDoor.Abs

namespace Go.Proofs
open Go.Shelf
def Tryz.lays156_ren : Go.Shelf.Ren := ⟨fun | 156 => 40 | 165 => 77 | 166 => 78 | 169 => 79 | 240 => 116 | 241 => 117 | 276 => 145 | 277 => 146 | n => n, fun | 31 => 33 | 9 => 9 | 3 => 3 | 4 => 4 | 0 => 0 | 20 => 20 | 72 => 107 | 76 => 111 | 70 => 104 | 37 => 105 | 75 => 110 | 127 => 136 | 164 => 156 | 5 => 5 | 80 => 113 | n => n, fun | n => n⟩
theorem Tryz.lays156 : Go.Proofs.Lays.n156 Tryz.prog Tryz.lays156_ren := {
  mixed := by kernel_rfl
  f156 := Tryz.func40.trans (congrArg some (by kernel_rfl))
  f165 := Tryz.func77.trans (congrArg some (by kernel_rfl))
  f166 := Tryz.func78.trans (congrArg some (by kernel_rfl))
  f169 := Tryz.func79.trans (congrArg some (by kernel_rfl))
  f240 := Tryz.func116.trans (congrArg some (by kernel_rfl))
  f241 := Tryz.func117.trans (congrArg some (by kernel_rfl))
  f276 := Tryz.func145.trans (congrArg some (by kernel_rfl))
  f277 := Tryz.func146.trans (congrArg some (by kernel_rfl))
  t0 := Tryz.underlying0
  a0 := Tryz.isAgg0
  z0 := Tryz.sizeOf0
  v0 := Tryz.zeroValue0
  t3 := Tryz.underlying3
  a3 := Tryz.isAgg3
  z3 := Tryz.sizeOf3
  v3 := Tryz.zeroValue3
  t4 := Tryz.underlying4
  a4 := Tryz.isAgg4
  z4 := Tryz.sizeOf4
  v4 := Tryz.zeroValue4
  t9 := Tryz.underlying9
  a9 := Tryz.isAgg9
  z9 := Tryz.sizeOf9
  v9 := Tryz.zeroValue9
  t20 := Tryz.underlying20
  a20 := Tryz.isAgg20
  z20 := Tryz.sizeOf20
  v20 := Tryz.zeroValue20
  t31 := Tryz.underlying33
  a31 := Tryz.isAgg33
  z31 := Tryz.sizeOf33
  v31 := Tryz.zeroValue33
  t37 := Tryz.underlying105
  a37 := Tryz.isAgg105
  z37 := Tryz.sizeOf105
  v37 := Tryz.zeroValue105
  t70 := Tryz.underlying104
  a70 := Tryz.isAgg104
  z70 := Tryz.sizeOf104
  v70 := Tryz.zeroValue104
  t72 := Tryz.underlying107
  a72 := Tryz.isAgg107
  z72 := Tryz.sizeOf107
  v72 := Tryz.zeroValue107
  t75 := Tryz.underlying110
  a75 := Tryz.isAgg110
  z75 := Tryz.sizeOf110
  v75 := Tryz.zeroValue110
  t76 := Tryz.underlying111
  a76 := Tryz.isAgg111
  z76 := Tryz.sizeOf111
  v76 := Tryz.zeroValue111
  t127 := Tryz.underlying136
  a127 := Tryz.isAgg136
  z127 := Tryz.sizeOf136
  v127 := Tryz.zeroValue136
  t164 := Tryz.underlying156
  a164 := Tryz.isAgg156
  z164 := Tryz.sizeOf156
  v164 := Tryz.zeroValue156 }
theorem Tryz.Builder_Extra_156 : Builder.Extra Tryz.prog Tryz.lays156_ren := {
  sizeBuilder := by kernel_rfl
  liesBuilder := by kernel_rfl
  t5 := Tryz.underlying5
  a5 := Tryz.isAgg5
  z5 := Tryz.sizeOf5
  v5 := Tryz.zeroValue5
  infoByte := by kernel_rfl
  cellsByte := by kernel_rfl
  sizeByte := by kernel_rfl
  neB5 := by decide }
open Go.RowKit in
theorem Tryz.strings_Join_none (a : Option Addr) (c : Nat) (sep : ByteArray) (w : World) :
    Calls Tryz.prog 40 #[.slice a 0 c, .string sep] w fun e w' => e = .returned (.string ⟨#[]⟩) ∧ w' = w := Any.strings_Join_none Tryz.lays156 Tryz.Builder_Extra_156 a c sep w
open Go.RowKit in
theorem Tryz.strings_Join (bk o c : Nat) (xs : List ByteArray) (sep : ByteArray) (w : World) (hcells : ∀ (j : Nat) x, xs[j]? = some x → w.cell? ⟨bk, o + j, none⟩ = some (.string x)) (hbk : bk < w.heap.size) (hN : xs.length ≤ 140737488355328) (hcap : xs.length ≤ c) (hlen : (Lib.join (xs.map (·.data.toList)) sep.data.toList).length ≤ 140737488355328) :
    Calls Tryz.prog 40 #[.slice (some ⟨bk, o, none⟩) xs.length c, .string sep] w fun e w' => e = .returned (.string ⟨(Lib.join (xs.map (·.data.toList)) sep.data.toList).toArray⟩) ∧ Below w.heap.size w w' := Any.strings_Join Tryz.lays156 Tryz.Builder_Extra_156 bk o c xs sep w hcells hbk hN hcap hlen
def Tryz.lays283_ren : Go.Shelf.Ren := ⟨fun | 283 => 171 | n => n, fun | 3 => 3 | 9 => 9 | 4 => 4 | n => n, fun | n => n⟩
theorem Tryz.lays283 : Go.Proofs.Lays.n283 Tryz.prog Tryz.lays283_ren := {
  mixed := by kernel_rfl
  f283 := Tryz.func171.trans (congrArg some (by kernel_rfl))
  t3 := Tryz.underlying3
  a3 := Tryz.isAgg3
  z3 := Tryz.sizeOf3
  v3 := Tryz.zeroValue3
  t4 := Tryz.underlying4
  a4 := Tryz.isAgg4
  z4 := Tryz.sizeOf4
  v4 := Tryz.zeroValue4
  t9 := Tryz.underlying9
  a9 := Tryz.isAgg9
  z9 := Tryz.sizeOf9
  v9 := Tryz.zeroValue9 }
open Go.Lib in
theorem Tryz.internal_strconv_small (i : Nat) (h : i < 100) (w : World) :
    Calls Tryz.prog 171 #[.int .i64 i] w fun e w' => e = .returned (.string ⟨(Lib.decDigits i).toArray⟩) ∧ w' = w := Any.internal_strconv_small Tryz.lays283 i h w
def Tryz.laysM284_ren : Go.Shelf.Ren := ⟨fun | 284 => 172 | 129 => 186 | 317 => 185 | 318 => 187 | n => n, fun | 53 => 125 | 3 => 3 | 212 => 200 | 0 => 0 | 4 => 4 | 46 => 131 | 5 => 5 | 9 => 9 | n => n, fun | 17 => 3 | n => n⟩
theorem Tryz.laysM284 : Go.Proofs.LaysM.n284 Tryz.prog Tryz.laysM284_ren := {
  mixed := by kernel_rfl
  f129 := Tryz.func186.trans (congrArg some (by kernel_rfl))
  f284 := Tryz.func172.trans (congrArg some (by kernel_rfl))
  f317 := Tryz.func185.trans (congrArg some (by kernel_rfl))
  f318 := Tryz.func187.trans (congrArg some (by kernel_rfl))
  t0 := Tryz.underlying0
  a0 := Tryz.isAgg0
  z0 := Tryz.sizeOf0
  v0 := Tryz.zeroValue0
  t3 := Tryz.underlying3
  a3 := Tryz.isAgg3
  z3 := Tryz.sizeOf3
  v3 := Tryz.zeroValue3
  t4 := Tryz.underlying4
  a4 := Tryz.isAgg4
  z4 := Tryz.sizeOf4
  v4 := Tryz.zeroValue4
  t5 := Tryz.underlying5
  a5 := Tryz.isAgg5
  z5 := Tryz.sizeOf5
  v5 := Tryz.zeroValue5
  t9 := Tryz.underlying9
  a9 := Tryz.isAgg9
  z9 := Tryz.sizeOf9
  v9 := Tryz.zeroValue9
  t46 := Tryz.underlying131
  a46 := Tryz.isAgg131
  z46 := Tryz.sizeOf131
  v46 := Tryz.zeroValue131
  t53 := Tryz.underlying125
  a53 := Tryz.isAgg125
  z53 := Tryz.sizeOf125
  v53 := Tryz.zeroValue125
  t212 := Tryz.underlying200
  a212 := Tryz.isAgg200
  z212 := Tryz.sizeOf200
  v212 := Tryz.zeroValue200
  g17 := by kernel_rfl
  i0 := by kernel_rfl
  i3 := by kernel_rfl
  i4 := by kernel_rfl
  i5 := by kernel_rfl
  i9 := by kernel_rfl
  i46 := by kernel_rfl
  i53 := by kernel_rfl
  i212 := by kernel_rfl
  m17 := by kernel_rfl }
open Go.Lib in
theorem Tryz.internal_strconv_numDigits (u : Nat) (h1 : 1 ≤ u) (h2 : u < 18446744073709551616) (w : World) (htab : Lib.TabIs Tryz.prog w "internal/strconv.uint64pow10" .u64 Lib.pow10Tab) :
    Calls Tryz.prog 172 #[.int .u64 u] w fun e w' => e = .returned (.int .i64 (Lib.nDigits u)) ∧ w' = w := Any.internal_strconv_numDigits Tryz.laysM284 u h1 h2 w htab
def Tryz.lays285_ren : Go.Shelf.Ren := ⟨fun | 285 => 173 | n => n, fun | 37 => 105 | 53 => 125 | 3 => 3 | 4 => 4 | 51 => 46 | 9 => 9 | 5 => 5 | 0 => 0 | n => n, fun | n => n⟩
theorem Tryz.lays285 : Go.Proofs.Lays.n285 Tryz.prog Tryz.lays285_ren := {
  mixed := by kernel_rfl
  f285 := Tryz.func173.trans (congrArg some (by kernel_rfl))
  t0 := Tryz.underlying0
  a0 := Tryz.isAgg0
  z0 := Tryz.sizeOf0
  v0 := Tryz.zeroValue0
  t3 := Tryz.underlying3
  a3 := Tryz.isAgg3
  z3 := Tryz.sizeOf3
  v3 := Tryz.zeroValue3
  t4 := Tryz.underlying4
  a4 := Tryz.isAgg4
  z4 := Tryz.sizeOf4
  v4 := Tryz.zeroValue4
  t5 := Tryz.underlying5
  a5 := Tryz.isAgg5
  z5 := Tryz.sizeOf5
  v5 := Tryz.zeroValue5
  t9 := Tryz.underlying9
  a9 := Tryz.isAgg9
  z9 := Tryz.sizeOf9
  v9 := Tryz.zeroValue9
  t37 := Tryz.underlying105
  a37 := Tryz.isAgg105
  z37 := Tryz.sizeOf105
  v37 := Tryz.zeroValue105
  t51 := Tryz.underlying46
  a51 := Tryz.isAgg46
  z51 := Tryz.sizeOf46
  v51 := Tryz.zeroValue46
  t53 := Tryz.underlying125
  a53 := Tryz.isAgg125
  z53 := Tryz.sizeOf125
  v53 := Tryz.zeroValue125 }
open Go.RowKit Go.Sort Go.Lib in
theorem Tryz.internal_strconv_formatBase10 (blk off cap : Nat) (u : Nat) (d : Array UInt8) (w : World) (hH : Holds (fun (b : UInt8) => Value.int .u8 (b.toNat : Int)) w blk off d) (hu : u < 10 ^ d.size) (hu64 : u < 18446744073709551616) (hsz : d.size < 4611686018427387904) :
    Calls Tryz.prog 173 #[.slice (some ⟨blk, off, none⟩) d.size cap, .int .u64 u] w fun e w' =>
      e = .returned (.tuple #[]) ∧ ∃ (n v' : Nat) (dk : Array UInt8), w' = (putRow (fun (b : UInt8) => Value.int .u8 (b.toNat : Int)) w blk off dk).drewN n ∧ FmtInv d.size u 0 v' dk := Any.internal_strconv_formatBase10 Tryz.lays285 blk off cap u d w hH hu hu64 hsz
def Tryz.laysPu14_ren : Go.Shelf.Ren := ⟨fun | 14 => 110 | 16 => 139 | 17 => 140 | 19 => 165 | 20 => 166 | 21 => 167 | 22 => 168 | 23 => 169 | 24 => 170 | 25 => 182 | 27 => 184 | 26 => 183 | 28 => 192 | 29 => 197 | 30 => 171 | 31 => 172 | 32 => 173 | 33 => 174 | 35 => 186 | 34 => 185 | 36 => 187 | 37 => 188 | 38 => 189 | 39 => 193 | 40 => 194 | n => n, fun | 9 => 9 | 3 => 3 | 22 => 125 | 24 => 110 | 25 => 126 | 4 => 4 | 34 => 181 | 5 => 5 | 36 => 131 | 37 => 105 | 0 => 0 | 39 => 183 | 21 => 21 | 44 => 197 | 47 => 136 | 50 => 210 | 48 => 208 | 2 => 2 | 52 => 187 | 55 => 190 | 59 => 200 | 60 => 46 | 20 => 20 | 61 => 201 | 65 => 214 | 66 => 215 | 67 => 113 | n => n, fun | 0 => 1 | 1 => 2 | 2 => 3 | 3 => 6 | 4 => 7 | n => n⟩
theorem Tryz.laysPu14 : Go.Proofs.LaysPu.n14 Tryz.prog Tryz.laysPu14_ren := {
  mixed := by kernel_rfl
  f14 := Tryz.func110.trans (congrArg some (by kernel_rfl))
  f16 := Tryz.func139.trans (congrArg some (by kernel_rfl))
  f17 := Tryz.func140.trans (congrArg some (by kernel_rfl))
  f19 := Tryz.func165.trans (congrArg some (by kernel_rfl))
  f20 := Tryz.func166.trans (congrArg some (by kernel_rfl))
  f21 := Tryz.func167.trans (congrArg some (by kernel_rfl))
  f22 := Tryz.func168.trans (congrArg some (by kernel_rfl))
  f23 := Tryz.func169.trans (congrArg some (by kernel_rfl))
  f24 := Tryz.func170.trans (congrArg some (by kernel_rfl))
  f25 := Tryz.func182.trans (congrArg some (by kernel_rfl))
  f26 := Tryz.func183.trans (congrArg some (by kernel_rfl))
  f27 := Tryz.func184.trans (congrArg some (by kernel_rfl))
  f28 := Tryz.func192.trans (congrArg some (by kernel_rfl))
  f29 := Tryz.func197.trans (congrArg some (by kernel_rfl))
  f30 := Tryz.func171.trans (congrArg some (by kernel_rfl))
  f31 := Tryz.func172.trans (congrArg some (by kernel_rfl))
  f32 := Tryz.func173.trans (congrArg some (by kernel_rfl))
  f33 := Tryz.func174.trans (congrArg some (by kernel_rfl))
  f34 := Tryz.func185.trans (congrArg some (by kernel_rfl))
  f35 := Tryz.func186.trans (congrArg some (by kernel_rfl))
  f36 := Tryz.func187.trans (congrArg some (by kernel_rfl))
  f37 := Tryz.func188.trans (congrArg some (by kernel_rfl))
  f38 := Tryz.func189.trans (congrArg some (by kernel_rfl))
  f39 := Tryz.func193.trans (congrArg some (by kernel_rfl))
  f40 := Tryz.func194.trans (congrArg some (by kernel_rfl))
  t0 := Tryz.underlying0
  a0 := Tryz.isAgg0
  z0 := Tryz.sizeOf0
  v0 := Tryz.zeroValue0
  i0 := by kernel_rfl
  t2 := Tryz.underlying2
  a2 := Tryz.isAgg2
  z2 := Tryz.sizeOf2
  v2 := Tryz.zeroValue2
  i2 := by kernel_rfl
  t3 := Tryz.underlying3
  a3 := Tryz.isAgg3
  z3 := Tryz.sizeOf3
  v3 := Tryz.zeroValue3
  i3 := by kernel_rfl
  t4 := Tryz.underlying4
  a4 := Tryz.isAgg4
  z4 := Tryz.sizeOf4
  v4 := Tryz.zeroValue4
  i4 := by kernel_rfl
  t5 := Tryz.underlying5
  a5 := Tryz.isAgg5
  z5 := Tryz.sizeOf5
  v5 := Tryz.zeroValue5
  i5 := by kernel_rfl
  t9 := Tryz.underlying9
  a9 := Tryz.isAgg9
  z9 := Tryz.sizeOf9
  v9 := Tryz.zeroValue9
  i9 := by kernel_rfl
  t20 := Tryz.underlying20
  a20 := Tryz.isAgg20
  z20 := Tryz.sizeOf20
  v20 := Tryz.zeroValue20
  i20 := by kernel_rfl
  t21 := Tryz.underlying21
  a21 := Tryz.isAgg21
  z21 := Tryz.sizeOf21
  v21 := Tryz.zeroValue21
  i21 := by kernel_rfl
  t22 := Tryz.underlying125
  a22 := Tryz.isAgg125
  z22 := Tryz.sizeOf125
  v22 := Tryz.zeroValue125
  i22 := by kernel_rfl
  t24 := Tryz.underlying110
  a24 := Tryz.isAgg110
  z24 := Tryz.sizeOf110
  v24 := Tryz.zeroValue110
  i24 := by kernel_rfl
  t25 := Tryz.underlying126
  a25 := Tryz.isAgg126
  z25 := Tryz.sizeOf126
  v25 := Tryz.zeroValue126
  i25 := by kernel_rfl
  t34 := Tryz.underlying181
  a34 := Tryz.isAgg181
  z34 := Tryz.sizeOf181
  v34 := Tryz.zeroValue181
  i34 := by kernel_rfl
  c34 := by kernel_rfl
  t36 := Tryz.underlying131
  a36 := Tryz.isAgg131
  z36 := Tryz.sizeOf131
  v36 := Tryz.zeroValue131
  i36 := by kernel_rfl
  t37 := Tryz.underlying105
  a37 := Tryz.isAgg105
  z37 := Tryz.sizeOf105
  v37 := Tryz.zeroValue105
  i37 := by kernel_rfl
  t39 := Tryz.underlying183
  a39 := Tryz.isAgg183
  z39 := Tryz.sizeOf183
  v39 := Tryz.zeroValue183
  i39 := by kernel_rfl
  t44 := Tryz.underlying197
  a44 := Tryz.isAgg197
  z44 := Tryz.sizeOf197
  v44 := Tryz.zeroValue197
  i44 := by kernel_rfl
  t47 := Tryz.underlying136
  a47 := Tryz.isAgg136
  z47 := Tryz.sizeOf136
  v47 := Tryz.zeroValue136
  i47 := by kernel_rfl
  t48 := Tryz.underlying208
  a48 := Tryz.isAgg208
  z48 := Tryz.sizeOf208
  v48 := Tryz.zeroValue208
  i48 := by kernel_rfl
  t50 := Tryz.underlying210
  a50 := Tryz.isAgg210
  z50 := Tryz.sizeOf210
  v50 := Tryz.zeroValue210
  i50 := by kernel_rfl
  t52 := Tryz.underlying187
  a52 := Tryz.isAgg187
  z52 := Tryz.sizeOf187
  v52 := Tryz.zeroValue187
  i52 := by kernel_rfl
  t55 := Tryz.underlying190
  a55 := Tryz.isAgg190
  z55 := Tryz.sizeOf190
  v55 := Tryz.zeroValue190
  i55 := by kernel_rfl
  t59 := Tryz.underlying200
  a59 := Tryz.isAgg200
  z59 := Tryz.sizeOf200
  v59 := Tryz.zeroValue200
  i59 := by kernel_rfl
  t60 := Tryz.underlying46
  a60 := Tryz.isAgg46
  z60 := Tryz.sizeOf46
  v60 := Tryz.zeroValue46
  i60 := by kernel_rfl
  t61 := Tryz.underlying201
  a61 := Tryz.isAgg201
  z61 := Tryz.sizeOf201
  t65 := Tryz.underlying214
  a65 := Tryz.isAgg214
  z65 := Tryz.sizeOf214
  v65 := Tryz.zeroValue214
  i65 := by kernel_rfl
  t66 := Tryz.underlying215
  a66 := Tryz.isAgg215
  z66 := Tryz.sizeOf215
  v66 := Tryz.zeroValue215
  i66 := by kernel_rfl
  t67 := Tryz.underlying113
  a67 := Tryz.isAgg113
  z67 := Tryz.sizeOf113
  v67 := Tryz.zeroValue113
  i67 := by kernel_rfl
  g0 := by kernel_rfl
  m0 := by kernel_rfl
  g1 := by kernel_rfl
  m1 := by kernel_rfl
  g2 := by kernel_rfl
  m2 := by kernel_rfl
  g3 := by kernel_rfl
  m3 := by kernel_rfl
  g4 := by kernel_rfl
  m4 := by kernel_rfl }
open Go.RowKit in
theorem Tryz.strconv_ParseUint_10_at64_ok (s : ByteArray) (hmax : s.size ≤ 9223372036854775806) (u : Nat) (h : Lib.parseUintB 64 s.data.toList = .ok u) (w : World) :
    Calls Tryz.prog 110 #[.string s, .int .i64 10, .int .i64 64] w fun e w' => e = .returned (.tuple #[.int .u64 u, .nilIface]) ∧ (w' = w ∨ w' = Lib.bytesWorld w 5 s) := Any.strconv_ParseUint_10_at64_ok Tryz.laysPu14 s hmax u h w
def Tryz.lays145_ren : Go.Shelf.Ren := ⟨fun | 145 => 68 | 220 => 106 | 219 => 135 | 217 => 158 | 225 => 159 | 224 => 160 | 267 => 161 | 266 => 179 | 314 => 180 | n => n, fun | 9 => 9 | 4 => 4 | 59 => 91 | 3 => 3 | 5 => 5 | 46 => 131 | 146 => 152 | 51 => 46 | n => n, fun | 1 => 0 | n => n⟩
theorem Tryz.lays145 : Go.Proofs.Lays.n145 Tryz.prog Tryz.lays145_ren := {
  mixed := by kernel_rfl
  f145 := Tryz.func68.trans (congrArg some (by kernel_rfl))
  f217 := Tryz.func158.trans (congrArg some (by kernel_rfl))
  f219 := Tryz.func135.trans (congrArg some (by kernel_rfl))
  f220 := Tryz.func106.trans (congrArg some (by kernel_rfl))
  f224 := Tryz.func160.trans (congrArg some (by kernel_rfl))
  f225 := Tryz.func159.trans (congrArg some (by kernel_rfl))
  f266 := Tryz.func179.trans (congrArg some (by kernel_rfl))
  f267 := Tryz.func161.trans (congrArg some (by kernel_rfl))
  f314 := Tryz.func180.trans (congrArg some (by kernel_rfl))
  t3 := Tryz.underlying3
  a3 := Tryz.isAgg3
  z3 := Tryz.sizeOf3
  v3 := Tryz.zeroValue3
  t4 := Tryz.underlying4
  a4 := Tryz.isAgg4
  z4 := Tryz.sizeOf4
  v4 := Tryz.zeroValue4
  t5 := Tryz.underlying5
  a5 := Tryz.isAgg5
  z5 := Tryz.sizeOf5
  v5 := Tryz.zeroValue5
  t9 := Tryz.underlying9
  a9 := Tryz.isAgg9
  z9 := Tryz.sizeOf9
  v9 := Tryz.zeroValue9
  t46 := Tryz.underlying131
  a46 := Tryz.isAgg131
  z46 := Tryz.sizeOf131
  v46 := Tryz.zeroValue131
  t51 := Tryz.underlying46
  a51 := Tryz.isAgg46
  z51 := Tryz.sizeOf46
  v51 := Tryz.zeroValue46
  t59 := Tryz.underlying91
  a59 := Tryz.isAgg91
  z59 := Tryz.sizeOf91
  v59 := Tryz.zeroValue91
  t146 := Tryz.underlying152
  a146 := Tryz.isAgg152
  z146 := Tryz.sizeOf152
  v146 := Tryz.zeroValue152
  g1 := by kernel_rfl }
open Go.RowKit Go.Lib in
theorem Tryz.strings_Cut (s sep : ByteArray) (m : Int) (w : World) (hs : s.size < 4294967281) (hm : w.cell? ⟨0, 0, none⟩ = some (.int .i64 m)) :
    Calls Tryz.prog 68 #[.string s, .string sep] w fun e w' => e = .returned (.tuple #[.string ⟨(Lib.cut s.data.toList sep.data.toList).1.toArray⟩, .string ⟨(Lib.cut s.data.toList sep.data.toList).2.1.toArray⟩, .bool (Lib.cut s.data.toList sep.data.toList).2.2]) ∧ ∃ n, w' = w.drewN n := Any.strings_Cut Tryz.lays145 s sep m w hs hm
def Tryz.lays146_ren : Go.Shelf.Ren := ⟨fun | 146 => 69 | 221 => 107 | 268 => 136 | 138 => 137 | 143 => 138 | 195 => 162 | 197 => 163 | 218 => 164 | 219 => 135 | 260 => 181 | 217 => 158 | 225 => 159 | 224 => 160 | 267 => 161 | 266 => 179 | 314 => 180 | n => n, fun | 9 => 9 | 31 => 33 | 3 => 3 | 4 => 4 | 0 => 0 | 105 => 179 | 21 => 21 | 5 => 5 | 46 => 131 | 119 => 204 | 139 => 207 | 138 => 206 | 146 => 152 | 51 => 46 | n => n, fun | 1 => 0 | 3 => 4 | 4 => 5 | n => n⟩
theorem Tryz.lays146 : Go.Proofs.Lays.n146 Tryz.prog Tryz.lays146_ren := {
  mixed := by kernel_rfl
  f138 := Tryz.func137.trans (congrArg some (by kernel_rfl))
  f143 := Tryz.func138.trans (congrArg some (by kernel_rfl))
  f146 := Tryz.func69.trans (congrArg some (by kernel_rfl))
  f195 := Tryz.func162.trans (congrArg some (by kernel_rfl))
  f197 := Tryz.func163.trans (congrArg some (by kernel_rfl))
  f217 := Tryz.func158.trans (congrArg some (by kernel_rfl))
  f218 := Tryz.func164.trans (congrArg some (by kernel_rfl))
  f219 := Tryz.func135.trans (congrArg some (by kernel_rfl))
  f221 := Tryz.func107.trans (congrArg some (by kernel_rfl))
  f224 := Tryz.func160.trans (congrArg some (by kernel_rfl))
  f225 := Tryz.func159.trans (congrArg some (by kernel_rfl))
  f260 := Tryz.func181.trans (congrArg some (by kernel_rfl))
  f266 := Tryz.func179.trans (congrArg some (by kernel_rfl))
  f267 := Tryz.func161.trans (congrArg some (by kernel_rfl))
  f268 := Tryz.func136.trans (congrArg some (by kernel_rfl))
  f314 := Tryz.func180.trans (congrArg some (by kernel_rfl))
  t0 := Tryz.underlying0
  a0 := Tryz.isAgg0
  z0 := Tryz.sizeOf0
  v0 := Tryz.zeroValue0
  t3 := Tryz.underlying3
  a3 := Tryz.isAgg3
  z3 := Tryz.sizeOf3
  v3 := Tryz.zeroValue3
  t4 := Tryz.underlying4
  a4 := Tryz.isAgg4
  z4 := Tryz.sizeOf4
  v4 := Tryz.zeroValue4
  t5 := Tryz.underlying5
  a5 := Tryz.isAgg5
  z5 := Tryz.sizeOf5
  v5 := Tryz.zeroValue5
  t9 := Tryz.underlying9
  a9 := Tryz.isAgg9
  z9 := Tryz.sizeOf9
  v9 := Tryz.zeroValue9
  t21 := Tryz.underlying21
  a21 := Tryz.isAgg21
  z21 := Tryz.sizeOf21
  v21 := Tryz.zeroValue21
  t31 := Tryz.underlying33
  a31 := Tryz.isAgg33
  z31 := Tryz.sizeOf33
  v31 := Tryz.zeroValue33
  t46 := Tryz.underlying131
  a46 := Tryz.isAgg131
  z46 := Tryz.sizeOf131
  v46 := Tryz.zeroValue131
  t51 := Tryz.underlying46
  a51 := Tryz.isAgg46
  z51 := Tryz.sizeOf46
  v51 := Tryz.zeroValue46
  t105 := Tryz.underlying179
  a105 := Tryz.isAgg179
  z105 := Tryz.sizeOf179
  v105 := Tryz.zeroValue179
  t119 := Tryz.underlying204
  a119 := Tryz.isAgg204
  z119 := Tryz.sizeOf204
  t138 := Tryz.underlying206
  a138 := Tryz.isAgg206
  z138 := Tryz.sizeOf206
  v138 := Tryz.zeroValue206
  t139 := Tryz.underlying207
  a139 := Tryz.isAgg207
  z139 := Tryz.sizeOf207
  v139 := Tryz.zeroValue207
  t146 := Tryz.underlying152
  a146 := Tryz.isAgg152
  z146 := Tryz.sizeOf152
  v146 := Tryz.zeroValue152
  g1 := by kernel_rfl
  g3 := by kernel_rfl
  g4 := by kernel_rfl }
open Go.RowKit Go.Lib in
theorem Tryz.strings_Split (s sep : ByteArray) (m : Int) (w : World) (hs : s.size < 4294967281) (hm : w.cell? ⟨0, 0, none⟩ = some (.int .i64 m)) (h1 : 1 ≤ sep.size) :
    Calls Tryz.prog 69 #[.string s, .string sep] w fun e w' =>
      e = .returned (.slice (some ⟨w.heap.size, 0, none⟩) (Lib.countB s sep + 1) (Lib.countB s sep + 1)) ∧ w' = w.alloc (.cells ((Lib.splitB sep 0 (Lib.countB s sep) s).map Value.string).toArray 9) := Any.strings_Split Tryz.lays146 (by kernel_rfl) s sep m w hs hm h1
def Tryz.lays105_ren : Go.Shelf.Ren := ⟨fun | 105 => 75 | 212 => 113 | 99 => 114 | 165 => 77 | 166 => 78 | 170 => 115 | 169 => 79 | 263 => 142 | 264 => 143 | 206 => 144 | 240 => 116 | 241 => 117 | 276 => 145 | 277 => 146 | n => n, fun | 9 => 9 | 3 => 3 | 4 => 4 | 20 => 20 | 0 => 0 | 46 => 131 | 109 => 132 | 5 => 5 | 72 => 107 | 76 => 111 | 51 => 46 | 146 => 152 | 53 => 125 | 148 => 154 | 70 => 104 | 37 => 105 | 75 => 110 | 127 => 136 | 164 => 156 | 80 => 113 | n => n, fun | n => n⟩
theorem Tryz.lays105 : Go.Proofs.Lays.n105 Tryz.prog Tryz.lays105_ren := {
  mixed := by kernel_rfl
  f99 := Tryz.func114.trans (congrArg some (by kernel_rfl))
  f105 := Tryz.func75.trans (congrArg some (by kernel_rfl))
  f165 := Tryz.func77.trans (congrArg some (by kernel_rfl))
  f166 := Tryz.func78.trans (congrArg some (by kernel_rfl))
  f169 := Tryz.func79.trans (congrArg some (by kernel_rfl))
  f170 := Tryz.func115.trans (congrArg some (by kernel_rfl))
  f206 := Tryz.func144.trans (congrArg some (by kernel_rfl))
  f212 := Tryz.func113.trans (congrArg some (by kernel_rfl))
  f240 := Tryz.func116.trans (congrArg some (by kernel_rfl))
  f241 := Tryz.func117.trans (congrArg some (by kernel_rfl))
  f263 := Tryz.func142.trans (congrArg some (by kernel_rfl))
  f264 := Tryz.func143.trans (congrArg some (by kernel_rfl))
  f276 := Tryz.func145.trans (congrArg some (by kernel_rfl))
  f277 := Tryz.func146.trans (congrArg some (by kernel_rfl))
  t0 := Tryz.underlying0
  a0 := Tryz.isAgg0
  z0 := Tryz.sizeOf0
  v0 := Tryz.zeroValue0
  t3 := Tryz.underlying3
  a3 := Tryz.isAgg3
  z3 := Tryz.sizeOf3
  v3 := Tryz.zeroValue3
  t4 := Tryz.underlying4
  a4 := Tryz.isAgg4
  z4 := Tryz.sizeOf4
  v4 := Tryz.zeroValue4
  t5 := Tryz.underlying5
  a5 := Tryz.isAgg5
  z5 := Tryz.sizeOf5
  v5 := Tryz.zeroValue5
  t9 := Tryz.underlying9
  a9 := Tryz.isAgg9
  z9 := Tryz.sizeOf9
  v9 := Tryz.zeroValue9
  t20 := Tryz.underlying20
  a20 := Tryz.isAgg20
  z20 := Tryz.sizeOf20
  v20 := Tryz.zeroValue20
  t37 := Tryz.underlying105
  a37 := Tryz.isAgg105
  z37 := Tryz.sizeOf105
  v37 := Tryz.zeroValue105
  t46 := Tryz.underlying131
  a46 := Tryz.isAgg131
  z46 := Tryz.sizeOf131
  v46 := Tryz.zeroValue131
  t51 := Tryz.underlying46
  a51 := Tryz.isAgg46
  z51 := Tryz.sizeOf46
  v51 := Tryz.zeroValue46
  t53 := Tryz.underlying125
  a53 := Tryz.isAgg125
  z53 := Tryz.sizeOf125
  v53 := Tryz.zeroValue125
  t70 := Tryz.underlying104
  a70 := Tryz.isAgg104
  z70 := Tryz.sizeOf104
  v70 := Tryz.zeroValue104
  t72 := Tryz.underlying107
  a72 := Tryz.isAgg107
  z72 := Tryz.sizeOf107
  v72 := Tryz.zeroValue107
  t75 := Tryz.underlying110
  a75 := Tryz.isAgg110
  z75 := Tryz.sizeOf110
  v75 := Tryz.zeroValue110
  t76 := Tryz.underlying111
  a76 := Tryz.isAgg111
  z76 := Tryz.sizeOf111
  v76 := Tryz.zeroValue111
  t109 := Tryz.underlying132
  a109 := Tryz.isAgg132
  z109 := Tryz.sizeOf132
  v109 := Tryz.zeroValue132
  t127 := Tryz.underlying136
  a127 := Tryz.isAgg136
  z127 := Tryz.sizeOf136
  v127 := Tryz.zeroValue136
  t146 := Tryz.underlying152
  a146 := Tryz.isAgg152
  z146 := Tryz.sizeOf152
  v146 := Tryz.zeroValue152
  t148 := Tryz.underlying154
  a148 := Tryz.isAgg154
  z148 := Tryz.sizeOf154
  v148 := Tryz.zeroValue154
  t164 := Tryz.underlying156
  a164 := Tryz.isAgg156
  z164 := Tryz.sizeOf156
  v164 := Tryz.zeroValue156 }
theorem Tryz.Builder_Extra_105 : Builder.Extra Tryz.prog Tryz.lays105_ren := {
  sizeBuilder := by kernel_rfl
  liesBuilder := by kernel_rfl
  t5 := Tryz.underlying5
  a5 := Tryz.isAgg5
  z5 := Tryz.sizeOf5
  v5 := Tryz.zeroValue5
  infoByte := by kernel_rfl
  cellsByte := by kernel_rfl
  sizeByte := by kernel_rfl
  neB5 := by decide }
open Go.RowKit Go.Lib in
theorem Tryz.strings_Repeat (s : ByteArray) (c : Nat) (w : World) (hc : c ≤ 9223372036854775807) (hlen : s.size * c ≤ 140737488355328) :
    Calls Tryz.prog 75 #[.string s, .int .i64 c] w fun e w' => e = .returned (.string ⟨(Lib.repeatL s.data.toList c).toArray⟩) ∧ Below w.heap.size w w' := Any.strings_Repeat Tryz.lays105 Tryz.Builder_Extra_105 s c w hc hlen
end Go.Proofs

namespace Go.Proofs.YtlhfgonjcpapnaaGreatDoor.Abs
open Go.Proofs
open Go.Shelf Go.RowKit Go.Sort Go.Lib
theorem fu_holds_zero (w : World) (T : TypeId) (nd : Nat) (hs : nd ≤ 24) : Holds (fun (b : UInt8) => Value.int .u8 (b.toNat : Int)) (w.alloc (.cells zeros24 T)) w.heap.size 0 (Array.replicate nd (0 : UInt8)) := fun j hj => by
  have hj' : j < nd := by simpa using hj
  refine ⟨?_, World.frozen?_alloc_new _ _ _ _⟩
  rw [World.cell?_alloc_new, zeros24_at _ (by omega), getElem!_pos _ j hj]
  simp
theorem fu_fin (w : World) (o : Obj) (dk : Array UInt8) (k : Nat) : ∃ os, (putRow (fun (b : UInt8) => Value.int .u8 (b.toNat : Int)) (w.alloc o) w.heap.size 0 dk).drewN k = grow (w.drewN k) os := by
  rw [alloc_eq_grow]
  obtain ⟨os', _, e⟩ := putRow_grow_new (fun (b : UInt8) => Value.int .u8 (b.toNat : Int)) w #[o] w.heap.size 0 dk (Nat.le_refl _)
  exact ⟨os', by rw [e]; rfl⟩
set_option maxHeartbeats 6400000 in
set_option maxRecDepth 100000 in
theorem fu_internal (u : Nat) (hu64 : u < 18446744073709551616) (w : World) (htab : Lib.TabIs Tryz.prog w "internal/strconv.uint64pow10" .u64 Lib.pow10Tab) :
    Calls Tryz.prog 141 #[.int .u64 u, .int .i64 10] w fun e w' => e = .returned (.string ⟨(Lib.decDigits u).toArray⟩) ∧ ∃ k os, w' = grow (w.drewN k) os := by
  have mixed : Tryz.prog.follows .mixedOrders = true := by kernel_rfl
  have e171 : ∀ args w, (callFunc 171 args).run Tryz.prog w = .ok (.enter 171 args) w := enters_of (fn := Tryz.f171) (by kernel_rfl) (by kernel_rfl) rfl
  have e172 : ∀ args w, (callFunc 172 args).run Tryz.prog w = .ok (.enter 172 args) w := enters_of (fn := Tryz.f172) (by kernel_rfl) (by kernel_rfl) rfl
  have e173 : ∀ args w, (callFunc 173 args).run Tryz.prog w = .ok (.enter 173 args) w := enters_of (fn := Tryz.f173) (by kernel_rfl) (by kernel_rfl) rfl
  have hf : Tryz.prog.funcs[141]? = some Tryz.f141 := by kernel_rfl
  have hn : Tryz.f141.ntmps = 32 := rfl
  by_cases hs : u < 100
  · go_enter hf, hn
    go_wp2_with (go_at_fn 171; refine (Tryz.internal_strconv_small u hs _).mono ?_; rintro e w' ⟨rfl, rfl⟩)
    go_ret
    exact ⟨rfl, 0, #[], by simp [World.drewN_zero]⟩
  · have hu1 : 1 ≤ u := by omega
    have hnd20 : Lib.nDigits u ≤ 20 := by have := Lib.numDigits_eq u hu1 hu64; split at this <;> omega
    have hb3 : Lib.nDigits u ≤ 24 := by omega
    have hal : Tryz.prog.arrayLen 187 = 24 := by simp [Program.arrayLen, Tryz.underlying187]
    have hsl1 : ∀ W, (Instr.sliceAt 187 (.pointer (some ⟨w.heap.size, 0, none⟩)) none (some (.int .i64 (Lib.nDigits u : Int))) none).run Tryz.prog W = .ok (.slice (some ⟨w.heap.size, 0, none⟩) (Lib.nDigits u) 24) W := fun W => by
      rw [run_sliceAt_array_h W 187 ⟨w.heap.size, 0, none⟩ (by simp [Program.arrayLen, Program.elem, Tryz.underlying187]) .i64 (Lib.nDigits u : Int) (by omega) (by rw [hal]; omega)]
      go_simp
    have hH0 := fu_holds_zero w 187 (Lib.nDigits u) (by omega)
    have hfmt := Tryz.internal_strconv_formatBase10 w.heap.size 0 24 u (Array.replicate (Lib.nDigits u) 0) (w.alloc (.cells Lib.zeros24 187)) hH0 (by rw [Array.size_replicate]; exact Lib.lt_pow_nDigits u) hu64 (by rw [Array.size_replicate]; omega)
    rw [Array.size_replicate] at hfmt
    have HH0 := Lib.hid hH0
    clear hH0 hal
    go_enter hf, hn
    go_wp2_with (first
      | (go_at_fn 172; refine (Tryz.internal_strconv_numDigits u hu1 hu64 _ (Lib.tabIs_alloc htab _)).mono ?_; rintro e w' ⟨rfl, rfl⟩))
    go_at_fn 173
    refine hfmt.mono ?_
    rintro e w' ⟨rfl, k, v', dk, rfl, hF⟩
    have hcv : (convert 105 9 (.slice (some ⟨w.heap.size, 0, none⟩) (Lib.nDigits u) 24)).run Tryz.prog ((putRow (fun (b : UInt8) => Value.int .u8 (b.toNat : Int)) (w.alloc (.cells Lib.zeros24 187)) w.heap.size 0 dk).drewN k) = .ok (.string ⟨(Lib.decDigits u).toArray⟩) ((putRow (fun (b : UInt8) => Value.int .u8 (b.toNat : Int)) (w.alloc (.cells Lib.zeros24 187)) w.heap.size 0 dk).drewN k) := by
      have h := run_convert_bytes_back (P := Tryz.prog) ((putRow (fun (b : UInt8) => Value.int .u8 (b.toNat : Int)) (w.alloc (.cells Lib.zeros24 187)) w.heap.size 0 dk).drewN k) 105 9 5 ⟨w.heap.size, 0, none⟩ 24 (Lib.decDigits u) Tryz.underlying105 Tryz.underlying5 Tryz.underlying9 (fun j hj => by
        rw [Lib.row_is_numeral hF j hj, Lib.add_plain, World.cell?_drewN]
        exact cell?_putRow (fun (b : UInt8) => Value.int .u8 (b.toNat : Int)) _ w.heap.size 0 _ dk HH0.out (by rw [hF.size, Array.size_replicate]) j (by rw [hF.size]; rw [Lib.decDigits_length] at hj; exact hj))
      rw [Lib.decDigits_length] at h
      exact h
    go_wp2
    go_ret
    obtain ⟨os, eo⟩ := fu_fin w (.cells Lib.zeros24 187) dk k
    exact ⟨rfl, k, os, eo⟩
set_option maxRecDepth 100000 in
theorem fu_public (u : Nat) (hu64 : u < 18446744073709551616) (w : World) (htab : Lib.TabIs Tryz.prog w "internal/strconv.uint64pow10" .u64 Lib.pow10Tab) :
    Calls Tryz.prog 112 #[.int .u64 u, .int .i64 10] w fun e w' => e = .returned (.string ⟨(Lib.decDigits u).toArray⟩) ∧ ∃ k os, w' = grow (w.drewN k) os := by
  have mixed : Tryz.prog.follows .mixedOrders = true := by kernel_rfl
  have e141 : ∀ args w, (callFunc 141 args).run Tryz.prog w = .ok (.enter 141 args) w := enters_of (fn := Tryz.f141) (by kernel_rfl) (by kernel_rfl) rfl
  have hf : Tryz.prog.funcs[112]? = some Tryz.f112 := by kernel_rfl
  have hn : Tryz.f112.ntmps = 8 := rfl
  go_enter hf, hn
  go_wp2_with (go_at_fn 141; refine (fu_internal u hu64 _ htab).mono ?_; rintro e w' ⟨rfl, k, os, rfl⟩)
  go_ret
  exact ⟨rfl, k, os, rfl⟩
end Go.Proofs.YtlhfgonjcpapnaaGreatDoor.Abs

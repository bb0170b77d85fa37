/-
  The abstract machine over the model, its soundness, walks of the program's functions and what they compute. Conditions: the values are of their types.
-/
import Derived.Test.YtcoeigibikbfdaaGreatDoorProg
import Derived.Test.YtcoeigibikbfdaaGreatDoorNb
import Derived.Lib.IndexMore
import Derived.Lib.Split
import Derived.Lib.Repeat
import Derived.Lib.JoinFns
import Derived.Lib.ParseIntB
import Derived.Lib.ConvBytes
import Derived.Lib.SplitLaws
import Derived.Lib.Join
import Derived.KernelRfl
import Derived.Lib.ItoaNum
import Derived.Lib.LaidTab
import Derived.Deep.Slices
import Derived.SizedLaws
import Derived.Shelf.Strings.Builder1
import Derived.Shelf.Strings.Builder2
import Derived.Shelf.Strings.OnBuilder
import Derived.Shelf.Small.Utf8
import Derived.Shelf.Small.Strs
import Derived.Shelf.Strings.BuilderF
import Derived.Shelf.Utf8.RuneCount
import Derived.Shelf.Strconv.Itoa0
import Derived.Shelf.Strconv.Itoa1
import Derived.Shelf.LaysM
import Derived.Shelf.Strconv.Itoa2
import Derived.Shelf.Strconv.Itoa3
import Derived.Ground.MpProg
import Derived.Shelf.Pu.ParseUintPublic10
import Derived.Shelf.Strings.Search1
import Derived.Shelf.Strings.Search2
import Derived.Shelf.Strings.Search3
import Derived.Shelf.Strings.Cut
import Derived.Shelf.Strings.Count
import Derived.Shelf.Strings.Shaped
import Derived.Shelf.Strings.Prefix
import Derived.Shelf.Strings.Split
import Derived.Shelf.Strings.Replace
import Derived.Shelf.Strings.SplitShaped
import Derived.Shelf.Unicode.Decode
import Derived.Shelf.Strings.Runes
import Derived.Shelf.Strings.RuneCount
import Derived.Shelf.Strings.AsciiSet
import Derived.Shelf.Strings.Explode
import Derived.Shelf.Bits.Mul64
import Derived.Shelf.Strings.Repeat
import Derived.Shelf.Unicode.DecodeSlow
import Derived.Shelf.Unicode.DecodeAny
import Derived.Ground.Names2Prog
import Derived.Shelf.Slices.Clone
import Derived.Shelf.Slices.SearchI
import Derived.Ground.SlgnProg
import Derived.Shelf.SlicesE.Clone
import Derived.Lib.Walk
import Derived.Lib.ItoaMem
import Derived.WalkKit
import Derived.BigCall
import Derived.BigGuard
import Derived.LaidEql
import Derived.Stop.Asserts
import Derived.RowKitTokens
import Derived.Lib.Builder
import Derived.Laws.Externs
import Derived.Lib.Strings
import Derived.Lib.Slices
import Derived.Lib.UnsafeStr

set_option linter.all false
set_option linter.unnecessarySimpa false

namespace Go.Proofs.YtcoeigibikbfdaaGreatDoor.Abs
open Go
abbrev Fam := (Nat → Nat) → Ys
def noY : Fam := fun _ => []
def Big (N : Nat) (a : Nat → Nat) : Prop := ∀ i, N ≤ a i
theorem Big.mono {N M : Nat} {a : Nat → Nat} (h : Big N a) (hm : M ≤ N) : Big M a := fun i => Nat.le_trans hm (h i)
def consF (n : Nat) (a : Nat → Nat) : Nat → Nat
  | 0 => n
  | i + 1 => a i
theorem Big.cons {N n : Nat} {a : Nat → Nat} (hn : N ≤ n) (h : Big N a) : Big N (consF n a) := fun i => by
  cases i with
  | zero => exact hn
  | succ i => exact h i
section
variable {E : Env} {ys : Fam} {d : Nat}
def Runs (E : Env) (ys : Fam) (d : Nat) (c : Code) (s : St) (x : AExit) (s' : St) : Prop := ∃ N, ∀ a, Big N a → ∀ n, N ≤ n → codeF E (callN E n) (ys a) d n c s = some (x, s')
def Wp (E : Env) (ys : Fam) (d : Nat) (c : Code) (Q : AExit → St → Prop) (s : St) : Prop := ∃ x s', Runs E ys d c s x s' ∧ Q x s'
def OpsTo (E : Env) (ys : Fam) (st : Bool) (d gb : Nat) (all : Array Oper) (os : List Oper) (i : Nat) (s s' : St) : Prop := ∃ N, ∀ a, Big N a → ∀ n, N ≤ n → opsF E (callN E n) (ys a) st d gb all os i s = some s'
def WpOps (E : Env) (ys : Fam) (st : Bool) (d gb : Nat) (all : Array Oper) (os : List Oper) (i : Nat) (Q : St → Prop) (s : St) : Prop := ∃ s', OpsTo E ys st d gb all os i s s' ∧ Q s'
def OpTo (E : Env) (ys : Fam) (st : Bool) (d gb : Nat) (all : Array Oper) (i : Nat) (o : Oper) (s s' : St) : Prop := ∃ N, ∀ a, Big N a → ∀ n, N ≤ n → ostep E (callN E n) (ys a) st d gb all i o s = some s'
variable {Q : AExit → St → Prop} {s : St}
theorem ev_skip (h : Q .normal s) : Wp E ys d .skip Q s := ⟨_, _, ⟨0, fun _ _ _ _ => rfl⟩, h⟩
theorem ev_label {l : Nat} (h : Q .normal s) : Wp E ys d (.label l) Q s := ⟨_, _, ⟨0, fun _ _ _ _ => rfl⟩, h⟩
theorem ev_ret (h : Q .ret s) : Wp E ys d .ret Q s := ⟨_, _, ⟨0, fun _ _ _ _ => rfl⟩, h⟩
theorem ev_exit {id : Nat} (h : Q (.exit id) s) : Wp E ys d (.exit id) Q s := ⟨_, _, ⟨0, fun _ _ _ _ => rfl⟩, h⟩
theorem ev_goto {l : Nat} (h : Q (.goto l) s) : Wp E ys d (.goto l) Q s := ⟨_, _, ⟨0, fun _ _ _ _ => rfl⟩, h⟩
def thenQ (E : Env) (ys : Fam) (d : Nat) (b : Code) (Q : AExit → St → Prop) : AExit → St → Prop
  | .normal, s => Wp E ys d b Q s
  | x, s => Q x s
theorem ev_seq {a b : Code} (h : Wp E ys d a (thenQ E ys d b Q) s) : Wp E ys d (.seq a b) Q s := by
  obtain ⟨x, s1, ⟨N, hN⟩, hq⟩ := h
  cases x with
  | normal =>
    obtain ⟨y, s2, ⟨M, hM⟩, hq⟩ := hq
    exact ⟨y, s2, ⟨max N M, fun a ha n hn => by simp only [codeF, hN a (ha.mono (by omega)) n (by omega)]; exact hM a (ha.mono (by omega)) n (by omega)⟩, hq⟩
  | _ => exact ⟨_, s1, ⟨N, fun a ha n hn => by simp only [codeF, hN a ha n hn]⟩, hq⟩
theorem ev_cond {c : Operand} {x y : Code} {t : Bool} (hc : boolA (evalA s.t c) = some t) (h : Wp E ys d (if t then x else y) Q s) : Wp E ys d (.cond c x y) Q s := by
  obtain ⟨z, s1, ⟨N, hN⟩, hq⟩ := h
  refine ⟨z, s1, ⟨N, fun a ha n hn => ?_⟩, hq⟩
  have := hN a ha n hn
  cases t <;> simpa [codeF, hc] using this
def blockQ (id : Nat) (Q : AExit → St → Prop) : AExit → St → Prop
  | .exit id', s => if id' = id then Q .normal s else Q (.exit id') s
  | x, s => Q x s
theorem ev_block {id : Nat} {c : Code} (h : Wp E ys d c (blockQ id Q) s) : Wp E ys d (.block id c) Q s := by
  obtain ⟨x, s1, ⟨N, hN⟩, hq⟩ := h
  cases x with
  | exit id' =>
    refine ⟨_, s1, ⟨N, fun a ha n hn => by simp only [codeF, hN a ha n hn]; rfl⟩, ?_⟩
    simp only [blockQ] at hq
    by_cases e : id' = id
    · rw [if_pos e] at hq ⊢; exact hq
    · rw [if_neg e] at hq ⊢; exact hq
  | _ => exact ⟨_, s1, ⟨N, fun a ha n hn => by simp only [codeF, hN a ha n hn]⟩, hq⟩
def WpL (E : Env) (ys : Fam) (d : Nat) (c : Code) (Q : AExit → St → Prop) (s : St) : Prop := ∃ x s', (∃ N, ∀ a, Big N a → ∀ n, N ≤ n → ∀ k, N ≤ k → loopF (codeF E (callN E n) (ys a) d n c) k s = some (x, s')) ∧ Q x s'
def roundQ (E : Env) (ys : Fam) (d : Nat) (c : Code) (Q : AExit → St → Prop) : AExit → St → Prop
  | .normal, s => WpL E ys d c Q s
  | x, s => Q x s
theorem ev_loop {c : Code} (h : WpL E ys d c Q s) : Wp E ys d (.loop c) Q s := by
  obtain ⟨x, s1, ⟨N, hN⟩, hq⟩ := h
  exact ⟨x, s1, ⟨N, fun a ha n hn => hN a ha n hn n hn⟩, hq⟩
theorem ev_round {c : Code} (h : Wp E ys d c (roundQ E ys d c Q) s) : WpL E ys d c Q s := by
  obtain ⟨x, s1, ⟨N, hN⟩, hq⟩ := h
  have step : ∀ a, Big N a → ∀ n, N ≤ n → ∀ k, loopF (codeF E (callN E n) (ys a) d n c) (k + 1) s = match x with
      | .normal => loopF (codeF E (callN E n) (ys a) d n c) k s1
      | x => some (x, s1) := by
    intro a ha n hn k
    simp only [loopF, hN a ha n hn]
    cases x <;> rfl
  cases x with
  | normal =>
    obtain ⟨y, s2, ⟨M, hM⟩, hq⟩ := hq
    refine ⟨y, s2, ⟨max N M + 1, fun a ha n hn k hk => ?_⟩, hq⟩
    obtain ⟨k, rfl⟩ : ∃ k', k = k' + 1 := ⟨k - 1, by omega⟩
    rw [step a (ha.mono (by omega)) n (by omega)]
    exact hM a (ha.mono (by omega)) n (by omega) k (by omega)
  | _ =>
    refine ⟨_, s1, ⟨N + 1, fun a ha n hn k hk => ?_⟩, hq⟩
    obtain ⟨k, rfl⟩ : ∃ k', k = k' + 1 := ⟨k - 1, by omega⟩
    rw [step a (ha.mono (by omega)) n (by omega)]
theorem ev_region {id : Nat} {ops : Array Oper} {draw : Bool} (hbad : (draw && E.bad ops) = false) (h : WpOps E ys draw d s.g ops ops.toList 0 (fun s => Q .normal s) { s with h := if draw then killKeys E d ops.toList s.h else s.h, g := s.g + ops.size }) : Wp E ys d (.region id ops draw) Q s := by
  obtain ⟨s1, ⟨N, hN⟩, hq⟩ := h
  exact ⟨_, s1, ⟨N, fun a ha n hn => by simp only [codeF, hbad, Bool.false_eq_true, if_false, hN a ha n hn, Option.map_some]⟩, hq⟩
variable {st : Bool} {gb : Nat} {all : Array Oper} {R : St → Prop}
theorem ops_nil {i : Nat} (h : R s) : WpOps E ys st d gb all [] i R s := ⟨s, ⟨0, fun _ _ _ _ => rfl⟩, h⟩
theorem ops_cons {o : Oper} {os : List Oper} {i : Nat} {s1 : St} (h1 : OpTo E ys st d gb all i o s s1) (h : WpOps E ys st d gb all os (i + 1) R s1) : WpOps E ys st d gb all (o :: os) i R s := by
  obtain ⟨N, hN⟩ := h1
  obtain ⟨s2, ⟨M, hM⟩, hq⟩ := h
  exact ⟨s2, ⟨max N M, fun a ha n hn => by simp only [opsF, hN a (ha.mono (by omega)) n (by omega), Option.bind_some]; exact hM a (ha.mono (by omega)) n (by omega)⟩, hq⟩
def Den (E : Env) (f : FuncId) (ps : List PV) (r : PV) : Prop := ∃ N, ∀ n, N ≤ n → ∀ ys args d slot gen h h1 g, frzs frzDepth args h = some (ps, h1) → (!E.rd f && args.any (hasMut frzDepth)) = false → callN E n ys f args d slot gen h g = some (.pv r, if E.rd f then h else h1, g)
def endQ (P : Program) (fn : Func) (r : PV) (x : AExit) (s : St) : Prop := (x = .normal ∨ x = .ret) ∧ ∃ v hp, resultsF P fn s.h s.t = some v ∧ frz frzDepth v s.h = some (r, hp)
theorem den_intr {f : FuncId} {F : List PV → Option PV} {ps : List PV} {r : PV} (hi : E.intr f = some F) (hF : F ps = some r) (hrd : E.rd f = false := by rfl) : Den E f ps r := by
  refine ⟨1, fun n hn ys args d slot gen h h1 g hz hm => ?_⟩
  obtain ⟨n, rfl⟩ : ∃ k, n = k + 1 := ⟨n - 1, by omega⟩
  simp only [callN, hi, hz, Option.bind_some, hF, Option.map_some, hrd, Bool.false_eq_true, if_false]
theorem den_body {f : FuncId} {fn : Func} {c : Code} {ps : List PV} {r : PV} (hi : E.intr f = none) (hf : E.P.funcs[f]? = some fn) (hb : fn.body = some c) (hok : E.ok f = true) (hinl : E.inl f = false) (hown : E.own f = false) (hlit : E.rd f = false ∨ ∃ x, r = .lit x)
    (h : Wp E noY 0 c (endQ E.P fn r) { t := padT fn.ntmps (ps.map .pv), h := [List.replicate fn.ntmps row0], g := 0 }) : Den E f ps r := by
  obtain ⟨x, s1, ⟨N, hN⟩, hx, v, hp, hv, hz1⟩ := h
  refine ⟨N + 1, fun n hn ys args d slot gen h h1 g hz hm => ?_⟩
  obtain ⟨n, rfl⟩ : ∃ k, n = k + 1 := ⟨n - 1, by omega⟩
  have hc : codeF E (callN E n) [] 0 n c _ = _ := hN (fun _ => n) (fun _ => by show N ≤ n; omega) n (by omega)
  have hbody : bodyF E (callN E n) [] n fn 0 (ps.map .pv) [[]] 0 = some (v, s1.h, s1.g) := by
    unfold bodyF
    have hpad : padH fn.ntmps 0 [[]] = [List.replicate fn.ntmps row0] := by simp [padH, putL]
    rw [hb, hpad]
    simp only [Option.bind_some, hc]
    rcases hx with rfl | rfl <;> simp [hv]
  have hout : rdOut (E.rd f) r h h1 g = some (.pv r, if E.rd f then h else h1, g) := by
    unfold rdOut
    cases hrd : E.rd f with
    | false => rfl
    | true => rcases hlit with h0 | ⟨x, rfl⟩
              · rw [hrd] at h0; cases h0
              · rfl
  simp only [callN, hi, hf, hok, hinl, hown, hm, hz, hbody, hz1, hout, Option.bind_some, Option.map_some, Bool.or_self, Bool.false_eq_true, if_false, reduceCtorEq]
theorem frzs_pvs (ps : List PV) (n : Nat) (h : Heap) : frzs (n + 1) (ps.map .pv) h = some (ps, h) := by
  have : ∀ ps : List PV, pks (pk h (n + 1)) (ps.map .pv) = some (ps, []) := by
    intro ps
    induction ps with
    | nil => rfl
    | cons p ps ih =>
      have h1 : pk h (n + 1) (.pv p) = some (p, []) := rfl
      simp only [List.map_cons, pks, h1, ih, Option.bind_some, Option.map_some, List.append_nil]
  simp [frzs, this, marks]
theorem mut_pvs (ps : List PV) (n : Nat) : (ps.map AV.pv).any (hasMut (n + 1)) = false := by
  induction ps with
  | nil => rfl
  | cons p ps ih => simp [hasMut]
theorem den_sound (hE : EnvOk E) {f : FuncId} {ps : List PV} {r : PV} (h : Den E f ps r) {I : Blk} {w : World} {us : List Value} (hgl : Gl E I w) (hl : us.length = ps.length)
    (hr : ∀ (j : Nat) (p : PV) (u : Value), ps[j]? = some p → us[j]? = some u → PRep I w p u) (hin : ∀ b, I b → Solid w b) : PureDoes E.P f us.toArray w I r := by
  obtain ⟨N, hN⟩ := h
  have hc := hN N (Nat.le_refl _) [] (ps.map .pv) 0 0 0 [[]] [[]] 1 (frzs_pvs ps 7 [[]]) (by rw [show (ps.map AV.pv).any (hasMut frzDepth) = false from mut_pvs ps 7, Bool.and_false])
  have H : HRep (fun _ => none) I (Old w) w [[]] := ⟨fun d s => by rw [hget_nil]; trivial, fun d s d' s' b h1 => by rw [hget_nil] at h1; simp [blkOf, row0] at h1, hin⟩
  refine (callN_sound hE N [] (fun _ => none) I (Old w) w [[]] f _ 0 0 0 1 _ _ _ us hc (YsOk.nil hgl) H (Old.bnd w) (by simpa using hl) (reps_pv hr) rfl (by omega) (fun _ _ => rfl)).mono ?_
  rintro u w' ⟨σ', I', hp⟩
  exact ⟨I', rep_pv hp.rep, hp.ext.blk, fun b hb => (hp.ext.new b hb).imp id Nat.le_of_not_lt, hp.ext.below.below, hp.heap.inW⟩
def DenC (E : Env) (f : FuncId) (args : List AV) (rows : List Row) (v : AV) (rs : List Row) : Prop := ∃ fn, E.P.funcs[f]? = some fn ∧ ∃ N, ∀ n, N ≤ n → canF E (callN E n) n fn args rows = some (v, rs)
def DenO (E : Env) (f : FuncId) (ps : List PV) (k : Nat) (e : TypeId) (xs : List PV) (off m : Nat) (full : Bool) : Prop := ∃ N, ∀ n, N ≤ n → ∀ ys args d slot gen h h1 g, frzs frzDepth args h = some (ps, h1) → (!E.rd f && args.any (hasMut frzDepth)) = false →
  callN E n ys f args d slot gen h g = some (.msl d slot gen off m full, hput h1 d slot ⟨gen, .row k e xs false⟩, g)
def noCall : CallFn := fun _ _ _ _ _ _ _ _ => none
theorem op_do {i : Nat} {o : Oper} {s1 : St} (h : ostep E noCall [] st d gb all i o s = some s1) : OpTo E ys st d gb all i o s s1 := by
  refine ⟨0, fun a _ n _ => ?_⟩
  unfold ostep opV at h ⊢
  cases hw : wantedA all s.t o with
  | false => rw [hw] at h; exact h
  | true =>
    rw [hw] at h
    simp only [if_true] at h ⊢
    unfold stepV at h ⊢
    split at h
    · split at h
      · simp [Ys.get?] at h
      · exfalso
        simp only [Option.map_eq_some_iff, Option.bind_eq_some_iff] at h
        obtain ⟨r, ⟨⟨fid, a, b⟩, _, h⟩, _⟩ := h
        split at h
        · cases h
        · cases h
    · exfalso
      simp only [Option.map_eq_some_iff, Option.bind_eq_some_iff] at h
      obtain ⟨r, ⟨⟨fid, a⟩, _, h⟩, _⟩ := h
      cases h
    · exact h
def CallTo (E : Env) (o : Oper) (ρ : Operand → AV) (fid : FuncId) (l : List AV) : Prop :=
  (∃ f args ats a b, o.op = .call { callee := .value f, args := args, argTypes := ats } ∧ calleeOf (ρ f) = some (fid, a, b) ∧ l = a ++ args.toList.map ρ ++ b) ∨
  ∃ r m args ats rv, o.op = .call { callee := .invoke r m, args := args, argTypes := ats } ∧ methodA E.P (ρ r) m = some (fid, rv) ∧ l = [rv] ++ args.toList.map ρ
theorem stepV_call {o : Oper} {ρ : Operand → AV} {fid : FuncId} {l : List AV} (hc : CallTo E o ρ fid l) (hst : (st && (clsOp E o == .fz) && l.any (hasMut frzDepth)) = false) (call : CallFn) (ys : Ys) (gen : Nat) (h : Heap) (g : Nat) :
    stepV E call ys st d gen o ρ h g = call ys fid l d (o.dst.getD 0) gen h g := by
  unfold stepV
  rcases hc with ⟨f, args, ats, a, b, ho, hc, rfl⟩ | ⟨r, m, args, ats, rv, ho, hc, rfl⟩
  · simp only [ho]
    split
    · rename_i d' s' gl hy
      rw [hy] at hc
      simp [calleeOf] at hc
    · simp only [hc, Option.bind_some, hst, Bool.false_eq_true, if_false]
  · simp only [ho, hc, Option.bind_some]
theorem op_of {i : Nat} {o : Oper} {fid : FuncId} {l : List AV} {v : AV} {h' : Heap} {g' : Nat} (hw : wantedA all s.t o = true) (hc : CallTo E o (evalA s.t) fid l) (hst : (st && (clsOp E o == .fz) && l.any (hasMut frzDepth)) = false)
    (hN : ∃ N, ∀ n, N ≤ n → ∀ ys, callN E n ys fid l d (o.dst.getD 0) (gb + i) s.h s.g = some (v, h', g')) : OpTo E ys st d gb all i o s { t := putD s.t o.dst v, h := h', g := g' } := by
  obtain ⟨N, hN⟩ := hN
  refine ⟨N, fun a1 _ n hn => ?_⟩
  unfold ostep opV
  rw [hw]
  simp only [if_true]
  rw [stepV_call hc hst, hN n hn]
  rfl
theorem op_can {i : Nat} {o : Oper} {fid : FuncId} {l cargs : List AV} {ks : List K2} {rows rs : List Row} {v v' : AV} {h' : Heap} (hw : wantedA all s.t o = true)
    (hc : CallTo E o (evalA s.t) fid l) (hst : (st && (clsOp E o == .fz)) = false)
    (hi : E.intr fid = none) (hok : E.ok fid = true) (hcan : E.can fid = true) (hm : (E.inl fid || (!E.rd fid && l.any (hasMut frzDepth))) = true)
    (hin : canIn s.h l = some (ks, cargs, rows)) (hg : canGens s.h ks l = true) (hd : DenC E fid cargs rows v rs) (hb : canBack d (o.dst.getD 0) (gb + i) ks s.h v rs = some (v', h')) :
    OpTo E ys st d gb all i o s { t := putD s.t o.dst v', h := h', g := s.g } := by
  obtain ⟨fn, hf, N, hN⟩ := hd
  refine op_of hw hc (by rw [hst]; rfl) ⟨N + 1, fun n hn ys => ?_⟩
  obtain ⟨n, rfl⟩ : ∃ k, n = k + 1 := ⟨n - 1, by omega⟩
  have hcall := hN n (by omega)
  simp only [callN, hi, hf, hok, hcan, hm, hin, hg, hcall, hb, if_true, Option.bind_some, Option.map_some, reduceCtorEq, if_false]
def DenI (E : Env) (f : FuncId) (ps : List PV) (v : Nat → AV) (fr : Nat → List Row) (dg : Nat) : Prop := ∃ N, ∀ n, N ≤ n → ∀ ys d slot gen f0 g, callN E n ys f (ps.map .pv) d slot gen [f0] g = some (v g, [f0, fr g], g + dg)
theorem op_inl {i : Nat} {o : Oper} {fid : FuncId} {l : List AV} {ps : List PV} {v : Nat → AV} {fr : Nat → List Row} {dg : Nat} {f0 : List Row} (hw : wantedA all s.t o = true) (hc : CallTo E o (evalA s.t) fid l)
    (hz : l = ps.map .pv) (hh : s.h = [f0]) (hd : DenI E fid ps v fr dg) :
    OpTo E ys st d gb all i o s { t := putD s.t o.dst (v s.g), h := [f0, fr s.g], g := s.g + dg } := by
  obtain ⟨N, hN⟩ := hd
  subst hz
  have hm : (ps.map AV.pv).any (hasMut frzDepth) = false := mut_pvs ps 7
  exact op_of hw hc (by rw [hm, Bool.and_false]) ⟨N, fun n hn ys => by rw [hh]; exact hN n hn ys d (o.dst.getD 0) (gb + i) f0 s.g⟩
theorem op_own {i : Nat} {o : Oper} {fid : FuncId} {l : List AV} {ps xs : List PV} {h1 : Heap} {k off m : Nat} {e : TypeId} {full : Bool} (hw : wantedA all s.t o = true) (hc : CallTo E o (evalA s.t) fid l)
    (hz : frzs frzDepth l s.h = some (ps, h1)) (hm : (!E.rd fid && l.any (hasMut frzDepth)) = false) (hst : (st && (clsOp E o == .fz) && l.any (hasMut frzDepth)) = false) (hd : DenO E fid ps k e xs off m full) :
    OpTo E ys st d gb all i o s { t := putD s.t o.dst (.msl d (o.dst.getD 0) (gb + i) off m full), h := hput h1 d (o.dst.getD 0) ⟨gb + i, .row k e xs false⟩, g := s.g } := by
  obtain ⟨N, hN⟩ := hd
  exact op_of hw hc hst ⟨N, fun n hn ys => hN n hn ys _ d (o.dst.getD 0) (gb + i) s.h h1 s.g hz hm⟩
theorem op_call {i : Nat} {o : Oper} {fid : FuncId} {l : List AV} {ps : List PV} {h1 : Heap} {r : PV} (hw : wantedA all s.t o = true) (hc : CallTo E o (evalA s.t) fid l)
    (hz : frzs frzDepth l s.h = some (ps, h1)) (hm : (!E.rd fid && l.any (hasMut frzDepth)) = false) (hst : (st && (clsOp E o == .fz) && l.any (hasMut frzDepth)) = false) (hd : Den E fid ps r) :
    OpTo E ys st d gb all i o s { t := putD s.t o.dst (.pv r), h := if E.rd fid then s.h else h1, g := s.g } := by
  obtain ⟨N, hN⟩ := hd
  exact op_of hw hc hst ⟨N, fun n hn ys => hN n hn ys _ d (o.dst.getD 0) (gb + i) s.h h1 s.g hz hm⟩
theorem op_as {i : Nat} {o : Oper} {fid : FuncId} {fn : Func} {l : List AV} {v : AV} {h1 : Heap} (hw : wantedA all s.t o = true) (hc : CallTo E o (evalA s.t) fid l) (hst : (st && (clsOp E o == .fz) && l.any (hasMut frzDepth)) = false)
    (hi : E.intr fid = none) (hf : E.P.funcs[fid]? = some fn) (hok : E.ok fid = false) (ha : specF E fid l s.h = some (v, h1)) : OpTo E ys st d gb all i o s { t := putD s.t o.dst v, h := h1, g := s.g } :=
  op_of hw hc hst ⟨1, fun n hn ys => by
    obtain ⟨n, rfl⟩ : ∃ k, n = k + 1 := ⟨n - 1, by omega⟩
    simp only [callN, hi, hf, hok, if_true, ha, Option.map_some]⟩
def YTo (ys : Fam) (gl : Nat) (args : List AV) (h : Heap) (g : Nat) (b : Bool) (h' : Heap) (g' : Nat) : Prop := ∃ N, ∀ a, Big N a → ∃ hd, (ys a).get? gl = some hd ∧ hd args h g = some (b, h', g')
theorem op_yld {i : Nat} {o : Oper} {f : Operand} {args : Array Operand} {ats : Array TypeId} {d1 s1 gl : Nat} {b : Bool} {h' : Heap} {g' : Nat} (hw : wantedA all s.t o = true) (ho : o.op = .call { callee := .value f, args := args, argTypes := ats })
    (hc : evalA s.t f = .yld d1 s1 gl) (hy : YTo ys gl (args.toList.map (evalA s.t)) s.h s.g b h' g') : OpTo E ys st d gb all i o s { t := putD s.t o.dst (litA (.bool b)), h := h', g := g' } := by
  obtain ⟨N, hN⟩ := hy
  refine ⟨N, fun a ha n hn => ?_⟩
  obtain ⟨hd, h1, h2⟩ := hN a ha
  unfold ostep opV
  rw [hw]
  simp only [if_true]
  unfold stepV
  simp only [ho, hc, h1, Option.bind_some, h2, Option.map_some]
end
end Go.Proofs.YtcoeigibikbfdaaGreatDoor.Abs

namespace Go.Proofs.YtcoeigibikbfdaaGreatDoor.Abs
open Go
inductive Scr where
  | hole (n : Nat)
  | br (b : Bool) (k : Scr)
  | fork (a b : Scr)
  | lit (k : Scr)
  | val (p : PV) (k : Scr)
  | res (r : PV) (k : Scr)
  | resB (e : Bool) (a b : Scr)
  | resC (v : AV) (rs : List Row) (k : Scr)
  | resI (v : Nat → AV) (fr : Nat → List Row) (dg : Nat) (k : Scr)
  | resO (kk : Nat) (e : TypeId) (xs : List PV) (off m : Nat) (full : Bool) (k : Scr)
  | frz (ps : List PV) (h : Heap) (k : Scr)
  | ev (k : Scr)
  | go (k : Scr)
  | mask (js hs : List Nat)
  deriving Inhabited
inductive Frame where
  | seqK (c : Code)
  | blockK (id : Nat)
  | loopK (c : Code)
inductive NeedBr (id : Nat) (e : Bool) : Prop
inductive NeedVal (id : Nat) (x : Option PV) : Prop
inductive NeedRes (id : Nat) (f : FuncId) (ps : List PV) : Prop
inductive NeedResC (id : Nat) (f : FuncId) (args : List AV) (rows : List Row) : Prop
inductive NeedResI (id : Nat) (f : FuncId) (ps : List PV) : Prop
inductive NeedFrz (id : Nat) (l : List AV) (h : Heap) : Prop
inductive Bad (o : Oper) (s : St) : Prop
inductive BadC (c : Code) (s : St) : Prop
inductive NeedMask (id : Nat) (c : Code) (s : St) : Prop
inductive Tired : Prop
def Scr.id : Scr → Nat
  | .hole n => n
  | _ => 0
def wpBr (scr : Scr) (e : Bool) (K : Bool → Scr → Prop) : Prop := match scr with
  | .br true k => e = true ∧ K true k
  | .br false k => e = false ∧ K false k
  | .fork a b => (e = true → K true a) ∧ (e = false → K false b)
  | .lit k => match e with
    | true => K true k
    | false => K false k
  | scr => NeedBr scr.id e
def wpVal (scr : Scr) (x : Option PV) (K : PV → Scr → Prop) : Prop := match scr with
  | .val p k => x = some p ∧ K p k
  | scr => NeedVal scr.id x
def wpFrzs (scr : Scr) (l : List AV) (h : Heap) (K : List PV → Heap → Scr → Prop) : Prop := match allPV l with
  | some ps => K ps h scr
  | none => match scr with
    | .frz ps h1 k => frzs frzDepth l h = some (ps, h1) ∧ K ps h1 k
    | .ev k => match frzs frzDepth l h with
      | some (ps, h1) => K ps h1 k
      | none => False
    | scr => NeedFrz scr.id l h
def wpLive (h : Heap) (d s g : Nat) (K : Body → Prop) : Prop := (hget h d s).g = g ∧ K (hget h d s).b
def wpNat (v : Option AV) (dflt top : Nat) (K : Nat → Prop) : Prop := match v with
  | none => K dflt
  | some a => match intOf? a with
    | some i => (0 ≤ i ∧ i ≤ (top : Int)) ∧ K i.toNat
    | none => False
def wpBounds (n : Nat) (lo hi mx : Option AV) (K : Nat → Nat → Option Nat → Prop) : Prop := match mx with
  | none => wpNat hi n n fun r => wpNat lo 0 r fun l => K l r none
  | some _ => match hi with
    | none => False
    | some _ => wpNat mx n n fun m => wpNat hi n m fun r => wpNat lo 0 r fun l => K l r (some m)
def byteAt (s : ByteArray) (i : Nat) : Int := ((s.data.toList.getD i 0).toNat : Int)
theorem wpBr_ok {scr : Scr} {e : Bool} {K : Bool → Scr → Prop} (h : wpBr scr e K) : ∃ k, K e k := by
  unfold wpBr at h
  split at h
  · obtain ⟨rfl, h⟩ := h; exact ⟨_, h⟩
  · obtain ⟨rfl, h⟩ := h; exact ⟨_, h⟩
  · cases e with
    | true => exact ⟨_, h.1 rfl⟩
    | false => exact ⟨_, h.2 rfl⟩
  · cases e <;> exact ⟨_, h⟩
  · exact nomatch h
theorem wpVal_ok {scr : Scr} {x : Option PV} {K : PV → Scr → Prop} (h : wpVal scr x K) : ∃ p k, x = some p ∧ K p k := by
  unfold wpVal at h
  split at h
  · exact ⟨_, _, h⟩
  · exact nomatch h
theorem wpFrzs_ok {scr : Scr} {l : List AV} {h : Heap} {K : List PV → Heap → Scr → Prop} (hk : wpFrzs scr l h K) : ∃ ps h1 k, frzs frzDepth l h = some (ps, h1) ∧ K ps h1 k := by
  unfold wpFrzs at hk
  split at hk
  · rename_i ps hps
    rw [allPV_map hps]
    exact ⟨ps, h, scr, frzs_pvs ps 7 h, hk⟩
  · split at hk
    · exact ⟨_, _, _, hk⟩
    · split at hk
      · rename_i hz
        exact ⟨_, _, _, hz, hk⟩
      · exact hk.elim
    · exact nomatch hk
theorem wpLive_ok {h : Heap} {d s g : Nat} {K : Body → Prop} (hk : wpLive h d s g K) : (hget h d s).g = g ∧ live h d s g = (hget h d s).b ∧ K (hget h d s).b :=
  ⟨hk.1, by unfold live; rw [if_pos hk.1], hk.2⟩
theorem wpNat_ok {v : Option AV} {dflt top : Nat} {K : Nat → Prop} (h : wpNat v dflt top K) : ∃ i, natIn v dflt top = some i ∧ K i := by
  unfold wpNat at h
  split at h
  · exact ⟨_, rfl, h⟩
  · split at h
    · rename_i a _ i hi
      obtain ⟨h1, h2⟩ := h
      exact ⟨_, by simp only [natIn, hi, Option.bind_some]; rw [if_pos h1], h2⟩
    · exact nomatch h
theorem wpBounds_ok {n : Nat} {lo hi mx : Option AV} {K : Nat → Nat → Option Nat → Prop} (h : wpBounds n lo hi mx K) : ∃ l r m, bounds n lo hi mx = some (l, r, m) ∧ K l r m := by
  unfold wpBounds at h
  split at h
  · obtain ⟨r, hr, h⟩ := wpNat_ok h
    obtain ⟨l, hl, h⟩ := wpNat_ok h
    exact ⟨l, r, none, by simp [bounds, hr, hl], h⟩
  · split at h
    · exact nomatch h
    · obtain ⟨m, hm, h⟩ := wpNat_ok h
      obtain ⟨r, hr, h⟩ := wpNat_ok h
      obtain ⟨l, hl, h⟩ := wpNat_ok h
      exact ⟨l, r, some m, by simp [bounds, hm, hr, hl], h⟩
def wpElems (size : Nat) (h : Heap) (y : AV) (K : List PV → Prop) : Prop := match y with
  | .pv (.sl k nl _ ys) => ((nl = true → ys = []) ∧ (nl = false → k = size)) ∧ K ys
  | .pv (.lit (.string s)) => size = 1 ∧ K (bytesPV s)
  | .msl d s g off n _ => wpLive h d s g fun
    | .row k _ xs _ => (k = size ∧ off + n ≤ xs.length) ∧ K ((xs.drop off).take n)
    | _ => False
  | _ => False
theorem wpElems_ok {size : Nat} {h : Heap} {y : AV} {K : List PV → Prop} (hk : wpElems size h y K) : ∃ ys, elemsOf size h y = some ys ∧ K ys := by
  unfold wpElems at hk
  split at hk
  · rename_i k nl full ys
    obtain ⟨⟨h1, h2⟩, hk⟩ := hk
    refine ⟨ys, ?_, hk⟩
    unfold elemsOf
    cases nl with
    | true => have := h1 rfl; subst this; rfl
    | false => simp [h2 rfl]
  · rename_i s
    obtain ⟨rfl, hk⟩ := hk
    exact ⟨_, rfl, hk⟩
  · rename_i d s g off n full
    obtain ⟨_, h2, hk⟩ := wpLive_ok hk
    unfold elemsOf
    simp only [h2]
    split at hk
    · rename_i k e xs fz hb
      try rw [hb]
      exact ⟨_, by simp only []; rw [if_pos hk.1], hk.2⟩
    · exact nomatch hk
  · exact nomatch hk
def wpAppend (e size bytes d slot gen : Nat) (h : Heap) (scr : Scr) (tgt : AV) (ys : List PV) (K : Scr → AV → Heap → Prop) (bad : Prop) : Prop := match tgt with
  | .pv (.sl k nl full xs) => wpBr scr ys.isEmpty fun b scr => if b then K scr tgt h else wpBr scr nl fun b scr =>
    if b then (xs.length = 0 ∧ fitsRow ys.length bytes = true) ∧ K scr (.msl d slot gen 0 ys.length false) (hput h d slot ⟨gen, .row size e ys false⟩)
    else (full = true ∧ k = size ∧ fitsRow (xs.length + ys.length) bytes = true) ∧ K scr (.msl d slot gen 0 (xs.length + ys.length) false) (hput h d slot ⟨gen, .row size e (xs ++ ys) false⟩)
  | .msl d' s' g' off n full => wpLive h d' s' g' fun
    | .row k e' xs fz => wpBr scr full fun b scr =>
      if b then wpBr scr ys.isEmpty fun b scr => if b then K scr tgt h
        else (k = size ∧ off + n ≤ xs.length ∧ fitsRow (n + ys.length) bytes = true) ∧ K scr (.msl d slot gen 0 (n + ys.length) false) (hput h d slot ⟨gen, .row size e ((xs.drop off).take n ++ ys) false⟩)
      else (fz = false ∧ k = size ∧ e' = e ∧ off + n = xs.length ∧ fitsRow (n + ys.length) bytes = true) ∧ K scr (.msl d' s' gen 0 (n + ys.length) false) (hput h d' s' ⟨gen, .row size e (xs.drop off ++ ys) false⟩)
    | _ => bad
  | _ => bad
def wpZeros (P : Program) (e t1 : TypeId) (d slot gen : Nat) (h : Heap) (scr : Scr) (x y : AV) (K : Scr → AV → Heap → Prop) (bad : Prop) : Prop := match P.underlying t1, x, y with
  | some (.int _), .pv (.sl _ nl _ xs), .pv (.lit (.int _ n)) => match szOf P e, byOf P e, zeroOf P e with
    | some size, some bytes, some z => if size = 0 ∨ z.cells.size ≠ size then bad else
      (nl = true ∧ xs.length = 0 ∧ 1 ≤ n ∧ fitsRow n.toNat bytes = true) ∧ K scr (.msl d slot gen 0 n.toNat false) (hput h d slot ⟨gen, .row size e [] false⟩)
    | _, _, _ => bad
  | _, _, _ => bad
theorem wpZeros_ok {P : Program} {e t1 : TypeId} {d slot gen : Nat} {h : Heap} {scr : Scr} {x y : AV} {K : Scr → AV → Heap → Prop} {bad : Prop} (hbad : ¬ bad) (hk : wpZeros P e t1 d slot gen h scr x y K bad) :
    ∃ k v h1, azeros P e t1 d slot gen h x y = some (v, h1) ∧ K k v h1 := by
  unfold wpZeros at hk
  unfold azeros
  split at hk
  · rename_i htn
    simp only [htn]
    split at hk
    · rename_i size bytes z h1 h2 h3
      split at hk
      · exact (hbad hk).elim
      · rename_i hc
        obtain ⟨hc2, hk⟩ := hk
        exact ⟨_, _, _, by simp only [h1, h2, h3, Option.bind_eq_bind, Option.bind_some]; rw [if_neg hc, if_pos hc2], hk⟩
    · exact (hbad hk).elim
  · exact (hbad hk).elim
theorem wpAppend_ok {e size bytes d slot gen : Nat} {h : Heap} {scr : Scr} {tgt : AV} {ys : List PV} {K : Scr → AV → Heap → Prop} {bad : Prop} (hbad : ¬ bad) (hk : wpAppend e size bytes d slot gen h scr tgt ys K bad) :
    ∃ k v h1, aappend e size bytes d slot gen h tgt ys = some (v, h1) ∧ K k v h1 := by
  unfold wpAppend at hk
  split at hk
  · rename_i k nl full xs
    obtain ⟨scr, hk⟩ := wpBr_ok hk
    unfold aappend
    simp only []
    cases hy : ys.isEmpty with
    | true => rw [hy] at hk; exact ⟨_, _, _, by simp, hk⟩
    | false =>
      rw [hy] at hk
      simp only [Bool.false_eq_true, if_false] at hk ⊢
      obtain ⟨scr, hk⟩ := wpBr_ok hk
      cases nl with
      | true =>
        simp only [if_true] at hk ⊢
        exact ⟨_, _, _, by rw [if_pos hk.1], hk.2⟩
      | false =>
        simp only [Bool.false_eq_true, if_false] at hk ⊢
        exact ⟨_, _, _, by rw [if_pos hk.1], hk.2⟩
  · rename_i d' s' g' off n full
    obtain ⟨_, h2, hk⟩ := wpLive_ok hk
    unfold aappend
    simp only [h2]
    split at hk
    · rename_i k e' xs fz hb
      try rw [hb]
      simp only []
      obtain ⟨scr, hk⟩ := wpBr_ok hk
      cases full with
      | true =>
        simp only [if_true] at hk ⊢
        obtain ⟨scr, hk⟩ := wpBr_ok hk
        cases hy : ys.isEmpty with
        | true => rw [hy] at hk; exact ⟨_, _, _, by simp, hk⟩
        | false =>
          rw [hy] at hk
          simp only [Bool.false_eq_true, if_false] at hk ⊢
          exact ⟨_, _, _, by rw [if_pos hk.1], hk.2⟩
      | false =>
        simp only [Bool.false_eq_true, if_false] at hk ⊢
        exact ⟨_, _, _, by rw [if_pos hk.1], hk.2⟩
    · exact (hbad hk).elim
  · exact (hbad hk).elim
def wpRun (r : Option (AV × Heap)) (scr : Scr) (K : Scr → AV → Heap → Prop) (bad : Prop) : Prop := match r with
  | some (v, h) => K scr v h
  | none => bad
theorem wpRun_ok {r : Option (AV × Heap)} {scr : Scr} {K : Scr → AV → Heap → Prop} {bad : Prop} (hbad : ¬ bad) (hk : wpRun r scr K bad) : ∃ k v h1, r = some (v, h1) ∧ K k v h1 := by
  unfold wpRun at hk
  split at hk
  · exact ⟨_, _, _, rfl, hk⟩
  · exact (hbad hk).elim
def bigP : PV → Bool
  | .agg (_ :: _ :: _ :: _ :: _ :: _ :: _ :: _ :: _ :: _ :: _ :: _ :: _) => true
  | _ => false
def wpLoad (ag : Bool) (m : Nat) (a : AV) (h : Heap) (scr : Scr) (K : Scr → AV → Heap → Prop) (bad : Prop) : Prop := match a with
  | .mptr d s g i off => wpLive h d s g fun
    | .box v _ => wpRun (if i = 0 then (subA ag m off v).map (·, h) else none) scr K bad
    | .row _ _ xs _ => wpVal scr xs[i]? fun x scr => wpRun ((subP ag m off x).map fun p => (.pv p, h)) scr K bad
    | _ => bad
  | .pv (.ptr root off) => if bigP root && !ag then wpVal scr root.cells[off]? fun p scr => K scr (.pv p) h else wpRun ((subP ag m off root).map fun p => (.pv p, h)) scr K bad
  | _ => bad
def wpStore (m : Nat) (a x : AV) (h : Heap) (scr : Scr) (K : Scr → AV → Heap → Prop) (bad : Prop) : Prop :=
  if x.cells.length = m ∧ m ≠ 0 ∧ x.ok = true then match a with
    | .mptr d s g i off => wpLive h d s g fun
      | .box v false => wpRun (if i = 0 then (setA v off x.cells).map fun v' => (undefA, hput h d s ⟨g, .box v' false⟩) else none) scr K bad
      | .row _ _ _ false => wpFrzs scr [x] h fun ps h1 scr => match ps with
        | [p] => wpLive h1 d s g fun
          | .row k e xs false => wpVal scr xs[i]? fun y scr => wpRun (if off + p.cells.length ≤ y.cells.length then (setP y off p.cells).map fun y' => (undefA, hput h1 d s ⟨g, .row k e (xs.set i y') false⟩) else none) scr K bad
          | _ => bad
        | _ => bad
      | _ => bad
    | _ => bad
  else bad
def wpSlice (P : Program) (t : TypeId) (h : Heap) (x : AV) (lo hi mx : Option AV) (K : AV → Prop) (bad : Prop) : Prop := match P.underlying t, x with
  | some .string, .pv (.lit (.string s)) => wpBounds s.size lo hi mx fun l r m => match m with
    | none => K (litA (.string (s.extract l r)))
    | some _ => bad
  | some (.slice e), .pv (.sl k nl full xs) => match szOf P e with
    | some size => wpBounds xs.length lo hi mx fun l r m => (nl = true ∨ k = size) ∧ K (.pv (.sl k nl (match m with | some m => m == r | none => full && r == xs.length) ((xs.drop l).take (r - l))))
    | none => bad
  | some (.slice e), .msl d s g off n full => match szOf P e with
    | some size => wpBounds n lo hi mx fun l r m => wpLive h d s g fun
      | .row k _ _ _ => k = size ∧ K (.msl d s g (off + l) (r - l) (match m with | some m => m == r | none => full && r == n))
      | _ => bad
    | none => bad
  | some (.array n e), .mptr d s g i off => match szOf P e with
    | some size => wpBounds n lo hi mx fun l r m => wpLive h d s g fun
      | .box v _ => (i = 0 ∧ size = 1 ∧ off + n ≤ v.cells.length) ∧ K (.msl d s g (off + l) (r - l) (m.getD n == r))
      | _ => bad
    | none => bad
  | _, _ => bad
theorem wpSlice_ok {P : Program} {t : TypeId} {h : Heap} {x : AV} {lo hi mx : Option AV} {K : AV → Prop} {bad : Prop} (hbad : ¬ bad) (hk : wpSlice P t h x lo hi mx K bad) : ∃ v, aslice P t h x lo hi mx = some v ∧ K v := by
  unfold wpSlice at hk
  unfold aslice
  split at hk
  · rename_i s hP
    obtain ⟨l, r, m, hb, hk⟩ := wpBounds_ok hk
    cases m with
    | none => exact ⟨_, by simp [hP, hb], hk⟩
    | some m => exact (hbad hk).elim
  · rename_i e k nl full xs hP
    split at hk
    · rename_i size hs
      obtain ⟨l, r, m, hb, h1, hk⟩ := wpBounds_ok hk
      exact ⟨_, by cases m <;> simp [hP, hb, hs, h1], hk⟩
    · exact (hbad hk).elim
  · rename_i e d s g off n full hP
    split at hk
    · rename_i size hs
      obtain ⟨l, r, m, hb, hk⟩ := wpBounds_ok hk
      obtain ⟨_, h2, hk⟩ := wpLive_ok hk
      split at hk
      · rename_i k _ _ _ hr
        exact ⟨_, by cases m <;> simp [hP, hb, hs, h2, hr, hk.1], hk.2⟩
      · exact (hbad hk).elim
    · exact (hbad hk).elim
  · rename_i n e d s g i off hP
    split at hk
    · rename_i size hs
      obtain ⟨l, r, m, hb, hk⟩ := wpBounds_ok hk
      obtain ⟨_, h2, hk⟩ := wpLive_ok hk
      split at hk
      · rename_i v _ hr
        exact ⟨_, by simp [hP, hb, hs, h2, hr, hk.1], hk.2⟩
      · exact (hbad hk).elim
    · exact (hbad hk).elim
  · exact (hbad hk).elim
def wpIndexAddr (P : Program) (t : TypeId) (h : Heap) (x ix : AV) (scr : Scr) (K : Scr → AV → Heap → Prop) (bad : Prop) : Prop := match intOf? ix with
  | none => bad
  | some i => match P.underlying t, x with
    | some (.slice e), .pv (.sl k nl _ xs) => match szOf P e with
      | some size => (0 ≤ i ∧ nl = false ∧ k = size) ∧ wpVal scr xs[i.toNat]? fun y scr => K scr (.pv (.ptr y 0)) h
      | none => bad
    | some (.slice e), .msl d s g off n _ => match szOf P e with
      | some size => wpLive h d s g fun
        | .row k _ _ _ => (0 ≤ i ∧ i < n ∧ k = size) ∧ K scr (.mptr d s g (off + i.toNat) 0) h
        | _ => bad
      | none => bad
    | some (.array n e), .mptr d s g j o => match szOf P e with
      | some size => (0 ≤ i ∧ i < n) ∧ K scr (.mptr d s g j (o + i.toNat * size)) h
      | none => bad
    | some (.array n e), .pv (.ptr r o) => match szOf P e with
      | some size => (0 ≤ i ∧ i < n) ∧ K scr (.pv (.ptr r (o + i.toNat * size))) h
      | none => bad
    | _, _ => bad
def wpIndex (P : Program) (t : TypeId) (h : Heap) (x ix : AV) (other : Option (AV × Heap)) (scr : Scr) (K : Scr → AV → Heap → Prop) (bad : Prop) : Prop := match P.underlying t, x, ix with
  | some .string, .pv (.lit (.string s)), .pv (.lit (.int _ i)) => (0 ≤ i ∧ i.toNat < s.size) ∧ K scr (litA (.int .u8 (byteAt s i.toNat))) h
  | _, _, _ => wpRun other scr K bad
def wpMakeSlice (P : Program) (t : TypeId) (d gen : Nat) (dst : Option Tmp) (h : Heap) (l c : AV) (scr : Scr) (K : Scr → AV → Heap → Prop) (bad : Prop) : Prop := match P.underlying t with
  | some (.slice e) => match szOf P e, byOf P e, zeroOf P e, dst, intOf? l, intOf? c with
    | some size, some bytes, some z, some s, some l, some c =>
      if size ≠ 0 ∧ (ofVal z).cells.length = size ∧ (ofVal z).ok = true then (0 ≤ l ∧ l ≤ c ∧ fitsRow c.toNat bytes = true) ∧ K scr (.msl d s gen 0 l.toNat (decide (l = c))) (hput h d s ⟨gen, .row size e (List.replicate l.toNat (ofVal z)) false⟩)
      else bad
    | _, _, _, _, _, _ => bad
  | _ => bad
def wpBuildSlice (P : Program) (t : TypeId) (d gen : Nat) (dst : Option Tmp) (h : Heap) (len : Nat) (parts : List (Nat × AV)) (scr : Scr) (K : Scr → AV → Heap → Prop) (bad : Prop) : Prop := match P.underlying t with
  | some (.slice e) => match szOf P e, zeroOf P e with
    | some size, some z =>
      if len = 0 ∧ parts.length = 0 then K scr (.pv (.sl size false true [])) h else match dst with
        | some s =>
          if len * size ≤ 16777216 ∧ len * size ≠ 0 ∧ (ofVal z).cells.length = size ∧ (ofVal z).ok = true then
            wpFrzs scr (parts.map (·.2)) h fun ps h1 scr =>
              if (ps.all fun p => p.cells.length == size && p.ok) && (parts.all fun q => decide (q.1 < len)) then
                K scr (.msl d s gen 0 len true) (hput h1 d s ⟨gen, .row size e (((parts.map (·.1)).zip ps).foldl (fun l q => l.set q.1 q.2) (List.replicate len (ofVal z))) false⟩)
              else bad
          else bad
        | none => bad
    | _, _ => bad
  | _ => bad
def wpAdd (a b : AV) (h : Heap) (other : Option (AV × Heap)) (scr : Scr) (K : Scr → AV → Heap → Prop) (bad : Prop) : Prop := match a, b with
  | .pv (.lit (.string a)), .pv (.lit (.string b)) => a.size + b.size ≤ 9223372036854775807 ∧ K scr (litA (.string (a ++ b))) h
  | _, _ => wpRun other scr K bad
theorem add_strings (P : Program) (t : TypeId) (x y : Operand) (a b : ByteArray) (h : a.size + b.size ≤ 9223372036854775807) : pureRun P (do eqGuard .add t x y (.string a) (.string b); binOp .add t (.string a) (.string b)) = some (.string (a ++ b)) := by
  have h2 : ¬ (((a.size + b.size : Nat) : Int) > IntKind.i64.max) := by
    have : IntKind.i64.max = 9223372036854775807 := by decide
    omega
  have h1 : Op.stringOp .add a b = pure (.string (a ++ b)) := by unfold Op.stringOp; simp only [h2, if_false]
  show pureRun P (Op.stringOp .add a b) = _
  rw [h1]
  rfl
def wpClear (P : Program) (t : TypeId) (h : Heap) (x : AV) (other : Option (AV × Heap)) (scr : Scr) (K : Scr → AV → Heap → Prop) (bad : Prop) : Prop := match P.underlying t, x with
  | some (.slice e), .msl d s g off n _ => match zeroOf P e with
    | some z => wpLive h d s g fun
      | .row k e' xs false => wpBr scr (n == 0) fun b scr => if b then K scr undefA h else
          ((ofVal z).ok = true ∧ (ofVal z).cells.length = k ∧ k ≠ 0 ∧ off + n ≤ xs.length) ∧ K scr undefA (hput h d s ⟨g, .row k e' (splice xs off (List.replicate n (ofVal z))) false⟩)
      | .box .. => wpRun other scr K bad
      | _ => bad
    | none => bad
  | _, _ => wpRun other scr K bad
def wpAop (P : Program) (o : Oper) (ρ : Operand → AV) (d gen : Nat) (h : Heap) (scr : Scr) (K : Scr → AV → Heap → Prop) (bad : Prop) : Prop := match o.op with
  | .pick c a b => match ρ c with
    | .pv (.lit (.bool t)) => wpBr scr t fun b' scr => K scr (if b' then ρ a else ρ b) h
    | _ => bad
  | .load t a => match szOf P t, aggT P t with
    | some m, some ag => wpLoad ag m (ρ a) h scr K bad
    | _, _ => bad
  | .store t a x => match szOf P t with
    | some m => wpStore m (ρ a) (ρ x) h scr K bad
    | none => bad
  | .slice t x lo hi mx => wpSlice P t h (ρ x) (lo.map ρ) (hi.map ρ) (mx.map ρ) (fun v => K scr v h) bad
  | .indexAddr t x ix => wpIndexAddr P t h (ρ x) (ρ ix) scr K bad
  | .binOp .add t x y _ => wpAdd (ρ x) (ρ y) h (aop P o ρ d gen h) scr K bad
  | .index t x ix => wpIndex P t h (ρ x) (ρ ix) (aop P o ρ d gen h) scr K bad
  | .makeSlice t l c => wpMakeSlice P t d gen o.dst h (ρ l) (ρ c) scr K bad
  | .buildSlice t len parts => wpBuildSlice P t d gen o.dst h len (parts.toList.map fun q => (q.1, ρ q.2)) scr K bad
  | .makeInterface t x => match P.underlying t with
    | some (.interface _) | none => bad
    | some d => if isPP P d then K scr (.ifc t (ρ x)) h else wpFrzs scr [ρ x] h fun ps h1 scr => match ps with
      | [p] => K scr (.pv (.iface t p)) h1
      | _ => bad
  | .call { callee := .builtin .append, args, argTypes } => match args.toList, argTypes.toList with
    | [x, y], [t0, t1] => match P.underlying t0, appendable P t1 with
      | some (.slice e), true => match szOf P e, byOf P e, zeroOf P e with
        | some size, some bytes, some z => if size = 0 ∨ z.cells.size ≠ size then bad else
          wpElems size h (ρ y) fun ys => wpAppend e size bytes d (o.dst.getD 0) gen h scr (ρ x) ys K bad
        | _, _, _ => bad
      | some (.slice e), false => wpZeros P e t1 d (o.dst.getD 0) gen h scr (ρ x) (ρ y) K bad
      | _, _ => bad
    | _, _ => bad
  | .call { callee := .builtin .clear, args, argTypes } => match args.toList, argTypes.toList with
    | [x], [t] => wpClear P t h (ρ x) (aop P o ρ d gen h) scr K bad
    | _, _ => bad
  | _ => wpRun (aop P o ρ d gen h) scr K bad
theorem frzs_one {v : AV} {h h1 : Heap} {p : PV} (hz : frzs frzDepth [v] h = some ([p], h1)) : frz frzDepth v h = some (p, h1) := by
  unfold frzs at hz
  unfold frz
  simp only [pks, Option.bind_some, Option.map_some, Option.map_eq_some_iff, Option.bind_eq_some_iff, Prod.mk.injEq] at hz
  obtain ⟨⟨qs, ks⟩, ⟨⟨q, k1⟩, hq, hqs, rfl⟩, h1, h2⟩ := hz
  simp only [List.cons.injEq, and_true] at h1
  subst h1
  simp only [hq, Option.map_some, Option.some.injEq, Prod.mk.injEq, true_and]
  simpa using h2
theorem wpLoad_ok {ag : Bool} {m : Nat} {a : AV} {h : Heap} {scr : Scr} {K : Scr → AV → Heap → Prop} {bad : Prop} (hbad : ¬ bad) (hk : wpLoad ag m a h scr K bad) :
    ∃ k v h1, (match a with
    | .mptr d s g i off => match live h d s g with
      | .box v _ => if i = 0 then (subA ag m off v).map (·, h) else none
      | .row _ _ xs _ => (xs[i]?).bind fun x => (subP ag m off x).map fun p => (AV.pv p, h)
      | _ => none
    | .pv (.ptr root off) => (subP ag m off root).map fun p => (AV.pv p, h)
    | _ => none) = some (v, h1) ∧ K k v h1 := by
  unfold wpLoad at hk
  split at hk
  · obtain ⟨_, h2, hk⟩ := wpLive_ok hk
    simp only [h2]
    split at hk
    · rename_i hb
      try rw [hb]
      exact wpRun_ok hbad hk
    · rename_i hb
      try rw [hb]
      obtain ⟨x, scr, hx, hk⟩ := wpVal_ok hk
      simp only [hx, Option.bind_some]
      exact wpRun_ok hbad hk
    · exact (hbad hk).elim
  · split at hk
    · rename_i hb
      simp only [Bool.and_eq_true, Bool.not_eq_true'] at hb
      obtain ⟨x, scr, hx, hk⟩ := wpVal_ok hk
      refine ⟨_, _, _, ?_, hk⟩
      simp [subP, hb.2, hx]
    · exact wpRun_ok hbad hk
  · exact (hbad hk).elim
theorem wpStore_ok {m : Nat} {a x : AV} {h : Heap} {scr : Scr} {K : Scr → AV → Heap → Prop} {bad : Prop} (hbad : ¬ bad) (hk : wpStore m a x h scr K bad) :
    ∃ k v h1, (if x.cells.length = m ∧ m ≠ 0 ∧ x.ok = true then
      match a with
      | .mptr d s g i off => match live h d s g with
        | .box v false => if i = 0 then (setA v off x.cells).map fun v' => (undefA, hput h d s ⟨g, .box v' false⟩) else none
        | .row _ _ _ false => (frz frzDepth x h).bind fun (p, h1) => match live h1 d s g with
          | .row k e xs false => (xs[i]?).bind fun y => if off + p.cells.length ≤ y.cells.length then (setP y off p.cells).map fun y' => (undefA, hput h1 d s ⟨g, .row k e (xs.set i y') false⟩) else none
          | _ => none
        | _ => none
      | _ => none
    else none) = some (v, h1) ∧ K k v h1 := by
  unfold wpStore at hk
  split at hk
  · rename_i hc
    rw [if_pos hc]
    split at hk
    · obtain ⟨_, h2, hk⟩ := wpLive_ok hk
      simp only [h2]
      split at hk
      · rename_i hb
        try rw [hb]
        exact wpRun_ok hbad hk
      · rename_i hb
        try rw [hb]
        obtain ⟨ps, h3, scr, hz, hk⟩ := wpFrzs_ok hk
        split at hk
        · rename_i p
          obtain ⟨_, h4, hk⟩ := wpLive_ok hk
          simp only [frzs_one hz, Option.bind_some, h4]
          split at hk
          · rename_i hb2
            try rw [hb2]
            obtain ⟨y, scr, hy, hk⟩ := wpVal_ok hk
            simp only [hy, Option.bind_some]
            exact wpRun_ok hbad hk
          · exact (hbad hk).elim
        · exact (hbad hk).elim
      · exact (hbad hk).elim
    · exact (hbad hk).elim
  · exact (hbad hk).elim
theorem wpIndexAddr_ok {P : Program} {t : TypeId} {h : Heap} {x ix : AV} {scr : Scr} {K : Scr → AV → Heap → Prop} {bad : Prop} (hbad : ¬ bad) (hk : wpIndexAddr P t h x ix scr K bad) :
    ∃ k v h1, ((intOf? ix).bind fun i => match P.underlying t, x with
    | some (.slice e), .pv (.sl k nl _ xs) => (szOf P e).bind fun size => if 0 ≤ i ∧ nl = false ∧ k = size then (xs[i.toNat]?).map fun y => (AV.pv (.ptr y 0), h) else none
    | some (.slice e), .msl d s g off n _ => (szOf P e).bind fun size => match live h d s g with
      | .row k _ _ _ => if 0 ≤ i ∧ i < n ∧ k = size then some (.mptr d s g (off + i.toNat) 0, h) else none
      | _ => none
    | some (.array n e), .mptr d s g j o => (szOf P e).bind fun size => if 0 ≤ i ∧ i < n then some (.mptr d s g j (o + i.toNat * size), h) else none
    | some (.array n e), .pv (.ptr r o) => (szOf P e).bind fun size => if 0 ≤ i ∧ i < n then some (.pv (.ptr r (o + i.toNat * size)), h) else none
    | _, _ => none) = some (v, h1) ∧ K k v h1 := by
  unfold wpIndexAddr at hk
  split at hk
  · exact (hbad hk).elim
  · rename_i i hi
    simp only [hi, Option.bind_some]
    split at hk
    · rename_i hP
      split at hk
      · rename_i size hs
        obtain ⟨h1, hk⟩ := hk
        obtain ⟨y, scr, hy, hk⟩ := wpVal_ok hk
        exact ⟨_, _, _, by simp only [hP, hs, Option.bind_some]; rw [if_pos h1, hy]; rfl, hk⟩
      · exact (hbad hk).elim
    · rename_i hP
      split at hk
      · rename_i size hs
        obtain ⟨_, h2, hk⟩ := wpLive_ok hk
        split at hk
        · rename_i hb
          exact ⟨_, _, _, by simp only [hP, hs, Option.bind_some, h2, hb]; rw [if_pos hk.1], hk.2⟩
        · exact (hbad hk).elim
      · exact (hbad hk).elim
    · rename_i hP
      split at hk
      · rename_i size hs
        exact ⟨_, _, _, by simp only [hP, hs, Option.bind_some]; rw [if_pos hk.1], hk.2⟩
      · exact (hbad hk).elim
    · rename_i hP
      split at hk
      · rename_i size hs
        exact ⟨_, _, _, by simp only [hP, hs, Option.bind_some]; rw [if_pos hk.1], hk.2⟩
      · exact (hbad hk).elim
    · exact (hbad hk).elim
theorem byteAt_get (s : ByteArray) (i : Nat) (hi : i < s.size) : byteAt s i = ((s[i]'hi).toNat : Int) := by
  unfold byteAt
  have : s.data.toList.getD i 0 = s[i]'hi := by
    rw [List.getD_eq_getElem?_getD, Array.getElem?_toList]
    have hi' : i < s.data.size := hi
    rw [Array.getElem?_eq_getElem hi']
    rfl
  rw [this]
theorem wpAop_ok {P : Program} {o : Oper} {ρ : Operand → AV} {d gen : Nat} {h : Heap} {scr : Scr} {K : Scr → AV → Heap → Prop} {bad : Prop} (hbad : ¬ bad) (hk : wpAop P o ρ d gen h scr K bad) :
    ∃ k v h1, aop P o ρ d gen h = some (v, h1) ∧ K k v h1 := by
  unfold wpAop at hk
  split at hk
  · rename_i c a b ho
    unfold aop
    simp only [ho]
    split at hk
    · rename_i t hc
      obtain ⟨scr, hk⟩ := wpBr_ok hk
      exact ⟨_, _, _, by simp only [hc], hk⟩
    · exact (hbad hk).elim
  · rename_i t a ho
    unfold aop
    simp only [ho]
    split at hk
    · rename_i m ag hm ha
      simp only [hm, ha, Option.bind_eq_bind, Option.bind_some]
      exact wpLoad_ok hbad hk
    · exact (hbad hk).elim
  · rename_i t a x ho
    unfold aop
    simp only [ho]
    split at hk
    · rename_i m hm
      simp only [hm, Option.bind_eq_bind, Option.bind_some]
      exact wpStore_ok hbad hk
    · exact (hbad hk).elim
  · rename_i t x lo hi mx ho
    obtain ⟨v, hv, hk⟩ := wpSlice_ok hbad hk
    exact ⟨_, _, _, by unfold aop; simp only [ho, hv, Option.map_some], hk⟩
  · rename_i t x ix ho
    unfold aop
    simp only [ho]
    exact wpIndexAddr_ok hbad hk
  · rename_i t x y _ ho
    unfold wpAdd at hk
    split at hk
    · rename_i a b hx hy
      refine ⟨_, _, _, ?_, hk.2⟩
      unfold aop
      simp only [ho, abin, hx, hy, valA, toVal, toVal1]
      rw [add_strings _ _ _ _ _ _ hk.1]
      rfl
    · exact wpRun_ok hbad hk
  · rename_i t x ix ho
    unfold wpIndex at hk
    split at hk
    · rename_i s k i hP hx hix
      obtain ⟨h12, hk⟩ := hk
      refine ⟨_, _, _, ?_, hk⟩
      unfold aop
      simp only [ho, hP, hx, hix]
      rw [dif_pos h12, byteAt_get s i.toNat h12.2]
    · exact wpRun_ok hbad hk
  · rename_i t l c ho
    unfold wpMakeSlice at hk
    unfold aop
    simp only [ho]
    split at hk
    · rename_i e hP
      split at hk
      · rename_i size bytes z s l' c' h1 h2 h3 h4 h5 h6
        split at hk
        · rename_i hc
          exact ⟨_, _, _, by simp only [hP, h1, h2, h3, h4, h5, h6, Option.bind_eq_bind, Option.bind_some]; rw [if_pos ⟨hk.1.1, hk.1.2.1, hk.1.2.2, hc⟩], hk.2⟩
        · exact (hbad hk).elim
      · exact (hbad hk).elim
    · exact (hbad hk).elim
  · rename_i t len parts ho
    unfold wpBuildSlice at hk
    unfold aop
    simp only [ho]
    split at hk
    · rename_i e hP
      split at hk
      · rename_i size z h1 h2
        simp only [hP, h1, h2, Option.bind_eq_bind, Option.bind_some]
        split at hk
        · rename_i hc
          rw [if_pos (by simpa using hc)]
          exact ⟨_, _, _, rfl, hk⟩
        · rename_i hc
          rw [if_neg (by simpa using hc)]
          split at hk
          · rename_i s hs
            simp only [hs, Option.bind_some]
            split at hk
            · rename_i hc2
              rw [if_pos hc2]
              obtain ⟨ps, h3, scr, hz, hk⟩ := wpFrzs_ok hk
              simp only [List.map_map] at hz
              have hz' : frzs frzDepth (parts.toList.map fun q => ρ q.2) h = some (ps, h3) := hz
              simp only [hz', Option.bind_some]
              split at hk
              · rename_i hc3
                simp only [List.all_map, List.map_map] at hc3 hk
                have hc4 : ((ps.all fun p => p.cells.length == size && p.ok) && (parts.toList.all fun q => decide (q.1 < len))) = true := hc3
                exact ⟨_, _, _, by rw [if_pos hc4]; rfl, hk⟩
              · exact (hbad hk).elim
            · exact (hbad hk).elim
          · exact (hbad hk).elim
      · exact (hbad hk).elim
    · exact (hbad hk).elim
  · rename_i t x ho
    unfold aop
    simp only [ho]
    split at hk
    · exact (hbad hk).elim
    · exact (hbad hk).elim
    · rename_i d' hd1 hP
      have key : ∀ r, (if isPP P d' then some (AV.ifc t (ρ x), h) else (frz frzDepth (ρ x) h).map fun (p, h1) => (.pv (.iface t p), h1)) = r →
          (match P.underlying t with
            | some (.interface _) | none => none
            | some d => if isPP P d then some (AV.ifc t (ρ x), h) else (frz frzDepth (ρ x) h).map fun (p, h1) => (.pv (.iface t p), h1)) = r := by
        intro r hr
        rw [hP]
        split
        · rename_i hc; simp at hc; exact (hd1 _ hc).elim
        · rename_i hc; cases hc
        · rename_i hc; injection hc with hc; subst hc; exact hr
      split at hk
      · rename_i hpp
        exact ⟨_, _, _, key _ (by rw [if_pos hpp]), hk⟩
      rename_i hpp
      obtain ⟨ps, h3, scr, hz, hk⟩ := wpFrzs_ok hk
      split at hk
      · rename_i p
        exact ⟨_, _, _, key _ (by rw [if_neg hpp, frzs_one hz]; rfl), hk⟩
      · exact (hbad hk).elim
  · rename_i args argTypes ho
    unfold aop
    simp only [ho]
    split at hk
    · rename_i x y t0 t1 hx ht
      unfold abuiltin
      simp only [hx, ht, List.map_cons, List.map_nil]
      split at hk
      · rename_i e hP ha
        simp only [hP, ha]
        split at hk
        · rename_i size bytes z h1 h2 h3
          split at hk
          · exact (hbad hk).elim
          · rename_i hc
            obtain ⟨ys, hy, hk⟩ := wpElems_ok hk
            obtain ⟨k, v, h4, ha, hk⟩ := wpAppend_ok hbad hk
            exact ⟨k, v, h4, by simp only [h1, h2, h3, hy, Option.bind_eq_bind, Option.bind_some]; rw [if_neg hc]; exact ha, hk⟩
        · exact (hbad hk).elim
      · rename_i e hP ha
        simp only [hP, ha]
        exact wpZeros_ok hbad hk
      · exact (hbad hk).elim
    · exact (hbad hk).elim
  · rename_i args argTypes ho
    split at hk
    · rename_i x t hx ht
      unfold wpClear at hk
      split at hk
      · rename_i e d1 s g off n full hP hv
        split at hk
        · rename_i z hz
          obtain ⟨_, h2, hk⟩ := wpLive_ok hk
          split at hk
          · rename_i k e' xs hb
            obtain ⟨scr, hk⟩ := wpBr_ok hk
            have hlive : live h d1 s g = .row k e' xs false := by rw [h2, hb]
            have h0 : argTypes[0]? = some t := by rw [← Array.getElem?_toList, ht]; rfl
            by_cases hn : n = 0
            · subst hn
              simp only [beq_self_eq_true, if_true] at hk
              refine ⟨_, _, _, ?_, hk⟩
              unfold aop abuiltin
              simp only [ho, hx, List.map_cons, List.map_nil, h0, Option.bind_some, hP, hv, hz, hlive, if_true]
            · have hnb : (n == 0) = false := by simpa using hn
              simp only [hnb, Bool.false_eq_true, if_false] at hk
              refine ⟨_, _, _, ?_, hk.2⟩
              unfold aop abuiltin
              simp only [ho, hx, List.map_cons, List.map_nil, h0, Option.bind_some, hP, hv, hz, hlive]
              rw [if_neg hn, if_pos hk.1]
          · exact wpRun_ok hbad hk
          · exact (hbad hk).elim
        · exact (hbad hk).elim
      · exact wpRun_ok hbad hk
    · exact (hbad hk).elim
  · exact wpRun_ok hbad hk
end Go.Proofs.YtcoeigibikbfdaaGreatDoor.Abs

namespace Go.Proofs.YtcoeigibikbfdaaGreatDoor.Abs
open Go
section
variable (E : Env) (ys : Fam) (d : Nat)
def gensP (h : Heap) (K : Prop) : List (K2 × Nat) → Prop
  | [] => K
  | q :: l => q.2 = (hget h q.1.1 q.1.2).g ∧ gensP h K l
theorem gensP_ok {h : Heap} {K : Prop} : ∀ {l : List (K2 × Nat)}, gensP h K l → gensOk h l = true ∧ K
  | [], hk => ⟨rfl, hk⟩
  | q :: l, hk => by
    obtain ⟨h1, h2⟩ := gensP_ok hk.2
    refine ⟨?_, h2⟩
    unfold gensOk at h1 ⊢
    simp only [List.all_cons, h1, Bool.and_true, beq_iff_eq]
    exact hk.1
def canRefs (h : Heap) (ks : List K2) (args : List AV) : List (K2 × Nat) := args.flatMap (refs frzDepth) ++ ks.flatMap fun k => refsB (hget h k.1 k.2).b
theorem canGens_of {h : Heap} {ks : List K2} {args : List AV} (hg : gensOk h (canRefs h ks args) = true) : canGens h ks args = true := by
  unfold gensOk canRefs at hg
  simp only [List.all_append, Bool.and_eq_true, List.all_flatMap] at hg
  simp only [canGens, gensOk, Bool.and_eq_true, List.all_flatMap]
  exact hg
def wpCan (slot gen : Nat) (fid : FuncId) (l : List AV) (h : Heap) (scr : Scr) (K : Scr → AV → Heap → Prop) (bad : Prop) : Prop := match canIn h l with
  | none => bad
  | some (ks, cargs, rows) => gensP h (match scr with
    | .resC v rs k => DenC E fid cargs rows v rs ∧ (match canBack d slot gen ks h v rs with
      | some (v', h') => K k v' h'
      | none => bad)
    | scr => NeedResC scr.id fid cargs rows) (canRefs h ks l)
def wpAs (fid : FuncId) (l : List AV) (h : Heap) (scr : Scr) (K : Scr → AV → Heap → Prop) (bad : Prop) : Prop := match l with
  | [.pv e, .ifc t2 (.mptr d s g 0 0)] => match E.asf fid t2, E.intr fid, E.P.funcs[fid]? with
    | some t1, none, some _ => match e with
      | .lit .nilIface => K scr (litA (.bool false)) h
      | .iface t (.ptr r o) => wpLive h d s g fun
        | .box (.pv old) false => if t = t1 ∧ old.ok = true ∧ old.isAgg = false then K scr (litA (.bool true)) (hput h d s ⟨g, .box (.pv (.ptr r o)) false⟩) else bad
        | _ => bad
      | _ => bad
    | _, _, _ => bad
  | _ => bad
def wpCk (fid : FuncId) (l : List AV) (h : Heap) (scr : Scr) (K : Scr → AV → Heap → Prop) (bad : Prop) : Prop := match l with
  | [.mptr d s g 0 0] => match E.ckf fid, E.intr fid, E.P.funcs[fid]? with
    | some T, none, some _ => wpLive h d s g fun
      | .box (.agg (c :: l)) false => match c with
        | .btag t => if t = T ∧ l.length = 1 then K scr (.pv (.tup [])) (hput h d s ⟨g, .box (.agg (.mptr d s g 0 0 :: l)) false⟩) else bad
        | .mptr d' s' g' 0 0 => (d' = d ∧ s' = s ∧ g' = g) ∧ K scr (.pv (.tup [])) h
        | _ => bad
      | _ => bad
    | _, _, _ => bad
  | _ => bad
def wpCall (st : Bool) (gen : Nat) (o : Oper) (fid : FuncId) (l : List AV) (s : St) (scr : Scr) (K : Scr → AV → Heap → Nat → Prop) : Prop :=
  if E.ok fid then
    if E.can fid && ((E.intr fid).isNone && (E.inl fid || (!E.rd fid && l.any (hasMut frzDepth)))) then
      if st && (clsOp E o == .fz) then Bad o s else wpCan E d (o.dst.getD 0) gen fid l s.h scr (fun k v h => K k v h s.g) (Bad o s)
    else if E.inl fid then match allPV l, s.h with
      | some ps, [f0] => match scr with
        | .resI v fr dg k => DenI E fid ps v fr dg ∧ K k (v s.g) [f0, fr s.g] (s.g + dg)
        | scr => NeedResI scr.id fid ps
      | _, _ => Bad o s
    else if l.any (hasMut frzDepth) && (!E.rd fid || (st && (clsOp E o == .fz))) then Bad o s else
    wpFrzs scr l s.h fun ps h1 scr => match scr with
      | .res r scr => Den E fid ps r ∧ K scr (.pv r) (if E.rd fid then s.h else h1) s.g
      | .resO kk e xs off m full scr => DenO E fid ps kk e xs off m full ∧ K scr (.msl d (o.dst.getD 0) gen off m full) (hput h1 d (o.dst.getD 0) ⟨gen, .row kk e xs false⟩) s.g
      | .resB e a b => Den E fid ps (.lit (.bool e)) ∧ wpBr (.fork a b) e fun e scr => K scr (litA (.bool e)) (if E.rd fid then s.h else h1) s.g
      | scr => NeedRes scr.id fid ps
  else if st && (clsOp E o == .fz) then Bad o s else if (E.ckf fid).isSome then wpCk E fid l s.h scr (fun k v h => K k v h s.g) (Bad o s) else wpAs E fid l s.h scr (fun k v h => K k v h s.g) (Bad o s)
def wpStep (st : Bool) (gen : Nat) (o : Oper) (s : St) (scr : Scr) (K : Scr → AV → Heap → Nat → Prop) : Prop := match o.op with
  | .call { callee := .value f, args, .. } => match evalA s.t f with
    | .yld _ _ gl => match s.h with
      | [] => Bad o s
      | f0 :: up => ∃ (b : Bool) (f0' : List Row) (g' : Nat), YTo ys gl (args.toList.map (evalA s.t)) (f0 :: up) s.g b (f0' :: up) g' ∧ K scr (litA (.bool b)) (f0' :: up) g'
    | fv => match calleeOf fv with
      | none => Bad o s
      | some (fid, a, b) => wpCall E d st gen o fid (a ++ args.toList.map (evalA s.t) ++ b) s scr K
  | .call { callee := .invoke r m, args, .. } => match methodA E.P (evalA s.t r) m with
    | none => Bad o s
    | some (fid, rv) => wpCall E d st gen o fid ([rv] ++ args.toList.map (evalA s.t)) s scr K
  | _ => if st && (clsOp E o == .al) && !deadK s.h d o.dst then Bad o s else wpAop E.P o (evalA s.t) d gen s.h scr (fun k v h => K k v h s.g) (Bad o s)
def isGuard (all : Array Oper) (i : Nat) : Bool := all.any fun o => match o.guard with
  | some (j, _) => j == i
  | none => false
def wpPut (all : Array Oper) (i : Nat) (o : Oper) (s : St) (K : Scr → St → Prop) (scr : Scr) (v : AV) (h : Heap) (g : Nat) : Prop :=
  if isGuard all i then match boolA v with
    | some e => wpBr scr e fun b scr => K scr { t := putD s.t o.dst (litA (.bool b)), h := h, g := g }
    | none => K scr { t := putD s.t o.dst v, h := h, g := g }
  else K scr { t := putD s.t o.dst v, h := h, g := g }
def wpOp (st : Bool) (gb : Nat) (all : Array Oper) (i : Nat) (o : Oper) (s : St) (scr : Scr) (K : Scr → St → Prop) : Prop := match o.guard with
  | none => wpStep E ys d st (gb + i) o s scr (wpPut all i o s K)
  | some (j, want) => match ((all[j]?).bind (·.dst)).bind fun i => boolA (getT s.t i) with
    | none => K scr { t := putD s.t o.dst undefA, h := s.h, g := s.g }
    | some e => wpBr scr e fun b scr => if b == want then wpStep E ys d st (gb + i) o s scr (wpPut all i o s K)
        else K scr { t := putD s.t o.dst undefA, h := s.h, g := s.g }
inductive Task where
  | code (c : Code) (fr : List Frame) (s : St)
  | ops (all : Array Oper) (draw : Bool) (gb : Nat) (os : List Oper) (i : Nat) (fr : List Frame) (s : St)
  | exit (x : AExit) (fr : List Frame) (s : St)
def KQ : List Frame → (AExit → St → Prop) → AExit → St → Prop
  | [], Q => Q
  | .seqK b :: fr, Q => thenQ E ys d b (KQ fr Q)
  | .blockK id :: fr, Q => blockQ id (KQ fr Q)
  | .loopK c :: fr, Q => roundQ E ys d c (KQ fr Q)
inductive AtL (E : Env) (ys : Fam) (d : Nat) (c : Code) (Q : AExit → St → Prop) (s : St) : Prop
  | mk (h : WpL E ys d c Q s)
theorem AtL.h {E : Env} {ys : Fam} {d : Nat} {c : Code} {Q : AExit → St → Prop} {s : St} : AtL E ys d c Q s → WpL E ys d c Q s
  | ⟨h⟩ => h
def maskT (js : List Nat) (j : Nat → AV) (t : List AV) : List AV := js.foldl (fun t i => t.set i (j i)) t
def maskH (d : Nat) (hs : List Nat) (jr : Nat → Row) (h : Heap) : Heap := h.set d (hs.foldl (fun l i => l.set i (jr i)) (h.getD d []))
theorem maskT_id (t : List AV) : ∀ js, maskT js (getT t) t = t
  | [] => rfl
  | i :: js => by
    have : t.set i (getT t i) = t := by
      unfold getT
      by_cases hi : i < t.length
      · simp [List.getD_eq_getElem?_getD, hi]
      · exact List.set_eq_of_length_le (by omega)
    show maskT js (getT t) (t.set i (getT t i)) = t
    rw [this]
    exact maskT_id t js
theorem maskH_id (d : Nat) (h : Heap) (hs : List Nat) : maskH d hs (fun i => (h.getD d []).getD i row0) h = h := by
  have key : ∀ (l : List Row) (hs : List Nat), hs.foldl (fun l' i => l'.set i (l.getD i row0)) l = l := by
    intro l hs
    induction hs with
    | nil => rfl
    | cons i hs ih =>
      have : l.set i (l.getD i row0) = l := by
        by_cases hi : i < l.length
        · simp [List.getD_eq_getElem?_getD, hi]
        · exact List.set_eq_of_length_le (by omega)
      rw [List.foldl_cons, this]
      exact ih
  unfold maskH
  rw [key]
  by_cases hd : d < h.length
  · simp [List.getD_eq_getElem?_getD, hd]
  · exact List.set_eq_of_length_le (by omega)
def AtM (E : Env) (ys : Fam) (d : Nat) (js hs : List Nat) (c : Code) (Q : AExit → St → Prop) (s : St) : Prop := ∀ (j : Nat → AV) (jr : Nat → Row) (g : Nat), AtL E ys d c Q { t := maskT js j s.t, h := maskH d hs jr s.h, g := g }
theorem AtM.h {E : Env} {ys : Fam} {d : Nat} {js hs : List Nat} {c : Code} {Q : AExit → St → Prop} {s : St} (h : AtM E ys d js hs c Q s) : WpL E ys d c Q s := by
  have := (h (getT s.t) (fun i => (s.h.getD d []).getD i row0) s.g).h
  rw [maskT_id, maskH_id] at this
  exact this
inductive RangeAt (E : Env) (ys : Fam) (d : Nat) (f : Operand) (ps : Array Tmp) (assign body : Code) (Q : AExit → St → Prop) (s : St) : Prop
  | mk (h : Wp E ys d (.rangeFunc f ps assign body) Q s)
theorem RangeAt.h {E : Env} {ys : Fam} {d : Nat} {f : Operand} {ps : Array Tmp} {assign body : Code} {Q : AExit → St → Prop} {s : St} : RangeAt E ys d f ps assign body Q s → Wp E ys d (.rangeFunc f ps assign body) Q s
  | ⟨h⟩ => h
def goStep (Q : AExit → St → Prop) (go : Scr → Task → Prop) : Scr → Task → Prop
  | scr, .code c fr s => match c with
    | .skip | .label _ => go scr (.exit .normal fr s)
    | .ret => go scr (.exit .ret fr s)
    | .exit id => go scr (.exit (.exit id) fr s)
    | .goto l => go scr (.exit (.goto l) fr s)
    | .region id ops draw => if draw && E.bad ops then BadC (.region id ops draw) s else go scr (.ops ops draw s.g ops.toList 0 fr { s with h := if draw then killKeys E d ops.toList s.h else s.h, g := s.g + ops.size })
    | .seq a b => go scr (.code a (.seqK b :: fr) s)
    | .cond c a b => match boolA (evalA s.t c) with
      | some e => wpBr scr e fun b' scr => go scr (.code (if b' then a else b) fr s)
      | none => BadC (.cond c a b) s
    | .block id c => go scr (.code c (.blockK id :: fr) s)
    | .loop c => match scr with
      | .go scr => go scr (.code c (.loopK c :: fr) s)
      | .mask js hs => AtM E ys d js hs c (KQ E ys d fr Q) s
      | scr => NeedMask scr.id c s
    | .rangeFunc f ps assign body => RangeAt E ys d f ps assign body (KQ E ys d fr Q) s
    | c => BadC c s
  | scr, .ops all draw gb os i fr s => match os with
    | [] => go scr (.exit .normal fr s)
    | o :: os => wpOp E ys d draw gb all i o s scr fun scr s1 => go scr (.ops all draw gb os (i + 1) fr s1)
  | scr, .exit x fr s => match fr with
    | [] => Q x s
    | .seqK b :: fr => match x with
      | .normal => go scr (.code b fr s)
      | x => go scr (.exit x fr s)
    | .blockK id :: fr => match x with
      | .exit id' => if id' = id then go scr (.exit .normal fr s) else go scr (.exit (.exit id') fr s)
      | x => go scr (.exit x fr s)
    | .loopK c :: fr => match x with
      | .normal => match scr with
        | .go scr => go scr (.code c (.loopK c :: fr) s)
        | .mask js hs => AtM E ys d js hs c (KQ E ys d fr Q) s
        | scr => NeedMask scr.id c s
      | x => go scr (.exit x fr s)
def wpGo (Q : AExit → St → Prop) : Nat → Scr → Task → Prop
  | 0, _, _ => Tired
  | n + 1, scr, t => goStep E ys d Q (wpGo Q n) scr t
def TaskWp (Q : AExit → St → Prop) : Task → Prop
  | .code c fr s => Wp E ys d c (KQ E ys d fr Q) s
  | .ops all draw gb os i fr s => WpOps E ys draw d gb all os i (fun s => KQ E ys d fr Q .normal s) s
  | .exit x fr s => KQ E ys d fr Q x s
variable {E ys d}
theorem wpAs_ok {fid : FuncId} {l : List AV} {h : Heap} {scr : Scr} {K : Scr → AV → Heap → Prop} {bad : Prop} (hbad : ¬ bad) (hk : wpAs E fid l h scr K bad) :
    ∃ k v h1 fn, asF E fid l h = some (v, h1) ∧ E.intr fid = none ∧ E.P.funcs[fid]? = some fn ∧ K k v h1 := by
  unfold wpAs at hk
  split at hk
  · rename_i e t2 d s g
    split at hk
    · rename_i t1 fn h1 h2 h3
      split at hk
      · refine ⟨_, _, _, fn, ?_, h2, h3, hk⟩
        simp only [asF, h1, Option.bind_some]
      · rename_i t r o
        obtain ⟨_, hl, hk⟩ := wpLive_ok hk
        split at hk
        · rename_i old hb
          split at hk
          · rename_i hc
            refine ⟨_, _, _, fn, ?_, h2, h3, hk⟩
            simp only [asF, h1, Option.bind_some, hl, hb]
            rw [if_pos hc]
          · exact (hbad hk).elim
        · exact (hbad hk).elim
      · exact (hbad hk).elim
    · exact (hbad hk).elim
  · exact (hbad hk).elim
theorem wpCk_ok {fid : FuncId} {l : List AV} {h : Heap} {scr : Scr} {K : Scr → AV → Heap → Prop} {bad : Prop} (hbad : ¬ bad) (hk : wpCk E fid l h scr K bad) :
    ∃ k v h1 fn, ckF E fid l h = some (v, h1) ∧ E.intr fid = none ∧ E.P.funcs[fid]? = some fn ∧ K k v h1 := by
  unfold wpCk at hk
  split at hk
  · rename_i d s g
    split at hk
    · rename_i T fn h1 h2 h3
      obtain ⟨_, hl, hk⟩ := wpLive_ok hk
      split at hk
      · rename_i c l hb
        split at hk
        · split at hk
          · rename_i hc
            refine ⟨_, _, _, fn, ?_, h2, h3, hk⟩
            simp only [ckF, h1, Option.bind_some, hl, hb]
            rw [if_pos hc]
          · exact (hbad hk).elim
        · obtain ⟨hc, hk⟩ := hk
          refine ⟨_, _, _, fn, ?_, h2, h3, hk⟩
          simp only [ckF, h1, Option.bind_some, hl, hb]
          rw [if_pos hc]
        · exact (hbad hk).elim
      · exact (hbad hk).elim
    · exact (hbad hk).elim
  · exact (hbad hk).elim
theorem wpCall_ok {st : Bool} {gb i : Nat} {all : Array Oper} {o : Oper} {fid : FuncId} {l : List AV} {s : St} {scr : Scr} {K : Scr → AV → Heap → Nat → Prop} (hw : wantedA all s.t o = true) (hc : CallTo E o (evalA s.t) fid l)
    (hk : wpCall E d st (gb + i) o fid l s scr K) : ∃ k v h1 g1, OpTo E ys st d gb all i o s { t := putD s.t o.dst v, h := h1, g := g1 } ∧ K k v h1 g1 := by
  unfold wpCall at hk
  split at hk
  · rename_i hok
    split at hk
    · rename_i hcc
      simp only [Bool.and_eq_true, Option.isNone_iff_eq_none] at hcc
      obtain ⟨hcan, hi, hm⟩ := hcc
      split at hk
      · exact nomatch hk
      rename_i hst
      unfold wpCan at hk
      split at hk
      · exact nomatch hk
      rename_i ks cargs rows hin
      obtain ⟨hgen, hk⟩ := gensP_ok hk
      split at hk
      · obtain ⟨hd, hk⟩ := hk
        split at hk
        · rename_i v' h' hb
          exact ⟨_, _, _, _, op_can hw hc (by simpa using hst) hi hok hcan hm hin (canGens_of hgen) hd hb, hk⟩
        · exact nomatch hk
      · exact nomatch hk
    split at hk
    · split at hk
      · rename_i ps f0 hps hh
        split at hk
        · exact ⟨_, _, _, _, op_inl hw hc (allPV_map hps) hh hk.1, hk.2⟩
        · exact nomatch hk
      · exact nomatch hk
    split at hk
    · exact nomatch hk
    · rename_i hm0
      have hm : (!E.rd fid && l.any (hasMut frzDepth)) = false ∧ (st && (clsOp E o == .fz) && l.any (hasMut frzDepth)) = false := by
        generalize l.any (hasMut frzDepth) = m at hm0
        cases m <;> simp_all
      obtain ⟨ps, h1, scr, hz, hk⟩ := wpFrzs_ok hk
      split at hk
      · exact ⟨_, _, _, _, op_call hw hc hz hm.1 hm.2 hk.1, hk.2⟩
      · exact ⟨_, _, _, _, op_own hw hc hz hm.1 hm.2 hk.1, hk.2⟩
      · obtain ⟨hd, hk⟩ := hk
        obtain ⟨scr, hk⟩ := wpBr_ok hk
        exact ⟨_, _, _, _, op_call hw hc hz hm.1 hm.2 hd, hk⟩
      · exact nomatch hk
  · rename_i hok
    split at hk
    · exact nomatch hk
    · rename_i hst
      have hst : (st && (clsOp E o == .fz)) = false := by simpa using hst
      split at hk
      · rename_i hck
        obtain ⟨k, v, h1, fn, ha, hi, hf, hk⟩ := wpCk_ok (fun h => nomatch h) hk
        exact ⟨k, v, h1, _, op_as hw hc (by rw [hst]; rfl) hi hf (by simpa using hok) (by unfold specF; rw [if_pos hck]; exact ha), hk⟩
      · rename_i hck
        obtain ⟨k, v, h1, fn, ha, hi, hf, hk⟩ := wpAs_ok (fun h => nomatch h) hk
        exact ⟨k, v, h1, _, op_as hw hc (by rw [hst]; rfl) hi hf (by simpa using hok) (by unfold specF; rw [if_neg hck]; exact ha), hk⟩
theorem wpStep_ok {st : Bool} {gb i : Nat} {all : Array Oper} {o : Oper} {s : St} {scr : Scr} {K : Scr → AV → Heap → Nat → Prop} (hw : wantedA all s.t o = true) (hk : wpStep E ys d st (gb + i) o s scr K) :
    ∃ k v h1 g1, OpTo E ys st d gb all i o s { t := putD s.t o.dst v, h := h1, g := g1 } ∧ K k v h1 g1 := by
  unfold wpStep at hk
  split at hk
  · rename_i f args ats ho
    split at hk
    · rename_i d1 s1 gl hev
      split at hk
      · exact nomatch hk
      · rename_i f0 up hh
        obtain ⟨b, f0', g', hy, hk⟩ := hk
        rw [← hh] at hy
        exact ⟨_, _, _, _, op_yld hw ho hev hy, hk⟩
    · split at hk
      · exact nomatch hk
      · rename_i fid a b hc
        exact wpCall_ok hw (.inl ⟨f, args, ats, a, b, ho, hc, rfl⟩) hk
  · rename_i r m args ats ho
    split at hk
    · exact nomatch hk
    · rename_i fid rv hc
      exact wpCall_ok hw (.inr ⟨r, m, args, ats, rv, ho, hc, rfl⟩) hk
  · rename_i hno hno2
    split at hk
    · exact nomatch hk
    · rename_i hst
      obtain ⟨k, v, h1, ha, hk⟩ := wpAop_ok (fun h => nomatch h) hk
      refine ⟨k, v, h1, _, op_do ?_, hk⟩
      unfold ostep opV
      rw [hw]
      simp only [if_true]
      unfold stepV
      split
      · rename_i f args ats ho
        exact (hno _ _ _ ho).elim
      · rename_i r m args ats ho
        exact (hno2 _ _ _ _ ho).elim
      · rw [if_neg hst, ha]
        rfl
theorem boolA_lit {v : AV} {e : Bool} (h : boolA v = some e) : v = litA (.bool e) := by
  unfold boolA at h
  split at h
  · simp only [Option.some.injEq] at h; subst h; rfl
  · cases h
theorem wpPut_ok {all : Array Oper} {i : Nat} {o : Oper} {s : St} {K : Scr → St → Prop} {scr : Scr} {v : AV} {h : Heap} {g : Nat} (hk : wpPut all i o s K scr v h g) : ∃ k, K k { t := putD s.t o.dst v, h := h, g := g } := by
  unfold wpPut at hk
  split at hk
  · split at hk
    · rename_i e he
      obtain ⟨k, hk⟩ := wpBr_ok hk
      rw [boolA_lit he]
      exact ⟨k, hk⟩
    · exact ⟨_, hk⟩
  · exact ⟨_, hk⟩
theorem wpOp_ok {st : Bool} {gb i : Nat} {all : Array Oper} {o : Oper} {s : St} {scr : Scr} {K : Scr → St → Prop} (hk : wpOp E ys d st gb all i o s scr K) : ∃ k s1, OpTo E ys st d gb all i o s s1 ∧ K k s1 := by
  unfold wpOp at hk
  have off : wantedA all s.t o = false → OpTo E ys st d gb all i o s { t := putD s.t o.dst undefA, h := s.h, g := s.g } := fun hw => ⟨0, fun a _ n _ => by unfold ostep opV; rw [hw]; rfl⟩
  split at hk
  · rename_i hg
    obtain ⟨k, v, h1, g1, ho, hk⟩ := wpStep_ok (ys := ys) (all := all) (by simp [wantedA, hg]) hk
    obtain ⟨k, hk⟩ := wpPut_ok hk
    exact ⟨k, _, ho, hk⟩
  · rename_i j want hg
    split at hk
    · rename_i hb
      exact ⟨_, _, off (by simp only [wantedA, hg]; rw [hb]; rfl), hk⟩
    · rename_i e hb
      obtain ⟨scr, hk⟩ := wpBr_ok hk
      split at hk
      · rename_i he
        obtain ⟨k, v, h1, g1, ho, hk⟩ := wpStep_ok (ys := ys) (all := all) (by simp only [wantedA, hg]; rw [hb]; simpa using he) hk
        obtain ⟨k, hk⟩ := wpPut_ok hk
        exact ⟨k, _, ho, hk⟩
      · rename_i he
        exact ⟨_, _, off (by simp only [wantedA, hg]; rw [hb]; simpa using he), hk⟩
theorem wpGo_ok {Q : AExit → St → Prop} : ∀ (n : Nat) (scr : Scr) (t : Task), wpGo E ys d Q n scr t → TaskWp E ys d Q t := by
  intro n
  induction n with
  | zero => intro scr t h; cases t <;> exact nomatch h
  | succ n ih =>
    intro scr t h
    cases t with
    | code c fr s =>
      cases c with
      | skip => exact ev_skip (ih _ _ h)
      | label l => exact ev_label (ih _ _ h)
      | ret => exact ev_ret (ih _ _ h)
      | exit id => exact ev_exit (ih _ _ h)
      | goto l => exact ev_goto (ih _ _ h)
      | region id ops draw =>
        have h : (if (draw && E.bad ops) = true then BadC (.region id ops draw) s else wpGo E ys d Q n scr (.ops ops draw s.g ops.toList 0 fr { s with h := if draw then killKeys E d ops.toList s.h else s.h, g := s.g + ops.size })) := h
        split at h
        · cases h
        · rename_i hb; exact ev_region (by simpa using hb) (ih _ _ h)
      | seq a b => exact ev_seq (ih _ _ h)
      | cond c a b =>
        have h : (match boolA (evalA s.t c) with
          | some e => wpBr scr e fun b' scr => wpGo E ys d Q n scr (.code (if b' then a else b) fr s)
          | none => BadC (.cond c a b) s) := h
        split at h
        · rename_i e he
          obtain ⟨scr, h⟩ := wpBr_ok h
          exact ev_cond he (ih _ _ h)
        · exact nomatch h
      | block id c => exact ev_block (ih _ _ h)
      | loop c =>
        have h : (match (generalizing := false) scr with
          | .go scr => wpGo E ys d Q n scr (.code c (.loopK c :: fr) s)
          | .mask js hs => AtM E ys d js hs c (KQ E ys d fr Q) s
          | scr => NeedMask scr.id c s) := h
        split at h
        · exact ev_loop (ev_round (ih _ _ h))
        · exact ev_loop h.h
        · exact nomatch h
      | rangeFunc f ps assign body => exact RangeAt.h h
      | _ => exact nomatch h
    | ops all draw gb os i fr s =>
      cases os with
      | nil => exact ops_nil (ih _ _ h)
      | cons o os =>
        have h : wpOp E ys d draw gb all i o s scr fun scr s1 => wpGo E ys d Q n scr (.ops all draw gb os (i + 1) fr s1) := h
        obtain ⟨k, s1, h1, h⟩ := wpOp_ok (ys := ys) h
        exact ops_cons h1 (ih _ _ h)
    | exit x fr s =>
      cases fr with
      | nil => exact h
      | cons f fr =>
        cases f with
        | seqK b => cases x with
          | normal => exact ih scr (.code b fr s) h
          | _ => exact ih scr (.exit _ fr s) h
        | blockK id =>
          cases x with
          | exit id' =>
            have h : (if id' = id then wpGo E ys d Q n scr (.exit .normal fr s) else wpGo E ys d Q n scr (.exit (.exit id') fr s)) := h
            show blockQ id (KQ E ys d fr Q) (.exit id') s
            simp only [blockQ]
            split at h
            · rename_i he; rw [if_pos he]; exact ih scr (.exit .normal fr s) h
            · rename_i he; rw [if_neg he]; exact ih scr (.exit _ fr s) h
          | _ => exact ih scr (.exit _ fr s) h
        | loopK c =>
          cases x with
          | normal =>
            have h : (match (generalizing := false) scr with
              | .go scr => wpGo E ys d Q n scr (.code c (.loopK c :: fr) s)
              | .mask js hs => AtM E ys d js hs c (KQ E ys d fr Q) s
              | scr => NeedMask scr.id c s) := h
            show WpL E ys d c (KQ E ys d fr Q) s
            split at h
            · exact ev_round (ih _ _ h)
            · exact h.h
            · exact nomatch h
          | _ => exact ih scr (.exit _ fr s) h
end
def bodyOf (fn : Func) : Code := match fn.body with
  | some c => c
  | none => .skip
def finQ (P : Program) (fn : Func) (r : PV) (x : AExit) (s : St) : Prop := match x with
  | .normal | .ret => match resultsF P fn s.h s.t with
    | some (.pv p) => p = r
    | some v => ∃ hp, frz frzDepth v s.h = some (r, hp)
    | none => False
  | _ => False
theorem finQ_ok {P : Program} {fn : Func} {r : PV} {x : AExit} {s : St} (h : finQ P fn r x s) : endQ P fn r x s := by
  unfold finQ at h
  have key : (match resultsF P fn s.h s.t with
    | some (.pv p) => p = r
    | some v => ∃ hp, frz frzDepth v s.h = some (r, hp)
    | none => False) → ∃ v hp, resultsF P fn s.h s.t = some v ∧ frz frzDepth v s.h = some (r, hp) := by
    intro h
    split at h
    · rename_i p hp
      subst h
      exact ⟨_, s.h, hp, rfl⟩
    · rename_i v _ hv
      obtain ⟨hp, h⟩ := h
      exact ⟨_, hp, hv, h⟩
    · exact h.elim
  cases x with
  | normal => exact ⟨.inl rfl, key h⟩
  | ret => exact ⟨.inr rfl, key h⟩
  | _ => exact h.elim
theorem wp_mono {E : Env} {ys : Fam} {d : Nat} {c : Code} {Q R : AExit → St → Prop} {s : St} (hQ : ∀ x s, Q x s → R x s) (h : Wp E ys d c Q s) : Wp E ys d c R s :=
  let ⟨x, s', h1, h2⟩ := h; ⟨x, s', h1, hQ x s' h2⟩
def startOf (fn : Func) (ps : List PV) : Task := .code (bodyOf fn) [] { t := padT fn.ntmps (ps.map .pv), h := [List.replicate fn.ntmps row0], g := 0 }
def FnGo (E : Env) (fn : Func) (ps : List PV) (r : PV) (n : Nat) (scr : Scr) : Prop := wpGo E noY 0 (finQ E.P fn r) n scr (startOf fn ps)
theorem den_go {E : Env} {f : FuncId} {fn : Func} {ps : List PV} {r : PV} (n : Nat) (scr : Scr) (hi : E.intr f = none) (hf : E.P.funcs[f]? = some fn) (hb : fn.body.isSome = true) (hok : E.ok f = true) (hinl : E.inl f = false) (hown : E.own f = false)
    (h : FnGo E fn ps r n scr) (hlit : E.rd f = false ∨ ∃ x, r = .lit x := by first | exact .inl rfl | exact .inr ⟨_, rfl⟩) : Den E f ps r := by
  obtain ⟨c, hc⟩ := Option.isSome_iff_exists.1 hb
  refine den_body hi hf hc hok hinl hown hlit (wp_mono (fun x s h => finQ_ok h) ?_)
  have h1 := wpGo_ok _ _ _ h
  simp only [startOf, TaskWp, KQ, bodyOf, hc] at h1
  exact h1
def loopsOf : Code → List Frame → List (Code × List Frame)
  | .seq a b, fr => loopsOf a (.seqK b :: fr) ++ loopsOf b fr
  | .cond _ a b, fr => loopsOf a fr ++ loopsOf b fr
  | .block id c, fr => loopsOf c (.blockK id :: fr)
  | .loop c, fr => (c, fr) :: loopsOf c (.loopK c :: fr)
  | _, _ => []
def LoopAt (E : Env) (fn : Func) (r : PV) (k : Nat) (s : St) : Prop := match (loopsOf (bodyOf fn) [])[k]? with
  | some (c, fr) => AtL E noY 0 c (KQ E noY 0 fr (finQ E.P fn r)) s
  | none => False
def LoopGo (E : Env) (fn : Func) (r : PV) (k : Nat) (n : Nat) (scr : Scr) (s : St) : Prop := match (loopsOf (bodyOf fn) [])[k]? with
  | some (c, fr) => wpGo E noY 0 (finQ E.P fn r) n scr (.code c (.loopK c :: fr) s)
  | none => False
theorem loop_go {E : Env} {fn : Func} {r : PV} {k : Nat} {s : St} (n : Nat) (scr : Scr) (h : LoopGo E fn r k n scr s) : LoopAt E fn r k s := by
  unfold LoopGo at h
  unfold LoopAt
  split at h
  · exact ⟨ev_round (wpGo_ok _ _ _ h)⟩
  · exact h.elim
end Go.Proofs.YtcoeigibikbfdaaGreatDoor.Abs

namespace Go.Proofs.YtcoeigibikbfdaaGreatDoor.Abs
open Go Go.RowKit
def IntrAt (E : Env) (f : FuncId) (F : List PV → Option PV) : Prop := ∀ (ps : List PV) (r : PV), F ps = some r → ∀ (I : Blk) (w : World) (us : List Value), Gl E I w → us.length = ps.length →
  (∀ (j : Nat) (p : PV) (u : Value), ps[j]? = some p → us[j]? = some u → PRep I w p u) → (∀ b, I b → Solid w b) → PureDoes E.P f us.toArray w I r
section
variable {E : Env} {I : Blk} {w : World} {P : Program}
theorem pure_of_calls {f : FuncId} {us : Array Value} {r : PV} (hent : ∀ args w, (callFunc f args).run P w = .ok (.enter f args) w) {u : Value} {Q : World → Prop} (hc : Calls P f us w fun e w' => e = .returned u ∧ Q w')
    (hQ : ∀ w', Q w' → ∃ I' : Blk, PRep I' w' r u ∧ (∀ b, I b → I' b) ∧ (∀ b, I' b → I b ∨ w.heap.size ≤ b) ∧ Below w.heap.size w w' ∧ ∀ b, I' b → Solid w' b) : PureDoes P f us w I r :=
  .inr (.inl ⟨hent _ _, hc.mono fun e w' ⟨he, hq⟩ => by subst he; exact hQ w' hq⟩)
theorem post_below {w' : World} {r : PV} {u : Value} (hB : Below w.heap.size w w') (hin : ∀ b, I b → Solid w b) (hr : PRep I w' r u) :
    ∃ I' : Blk, PRep I' w' r u ∧ (∀ b, I b → I' b) ∧ (∀ b, I' b → I b ∨ w.heap.size ≤ b) ∧ Below w.heap.size w w' ∧ ∀ b, I' b → Solid w' b :=
  ⟨I, hr, fun _ h => h, fun _ h => .inl h, hB, fun b hb => (hin b hb).keep (hB.block b (hin b hb).lt)⟩
theorem two_lits {us : List Value} {a b : Value} (hl : us.length = 2) (hr : ∀ (j : Nat) (p : PV) (u : Value), [PV.lit a, PV.lit b][j]? = some p → us[j]? = some u → PRep I w p u) : us = [a, b] := by
  match us, hl with
  | [x, y], _ =>
    have h0 := prep_lit (hr 0 _ x rfl rfl)
    have h1 := prep_lit (hr 1 _ y rfl rfl)
    rw [h0, h1]
theorem three_lits {us : List Value} {a b c : Value} (hl : us.length = 3) (hr : ∀ (j : Nat) (p : PV) (u : Value), [PV.lit a, PV.lit b, PV.lit c][j]? = some p → us[j]? = some u → PRep I w p u) : us = [a, b, c] := by
  match us, hl with
  | [x, y, z], _ =>
    have h0 := prep_lit (hr 0 _ x rfl rfl)
    have h1 := prep_lit (hr 1 _ y rfl rfl)
    have h2 := prep_lit (hr 2 _ z rfl rfl)
    rw [h0, h1, h2]
theorem tup_lits (vs : List Value) : PRep I w (.tup (vs.map .lit)) (.tuple vs.toArray) := by
  refine .tup _ _ (by simp) fun j p v hp hv => ?_
  simp only [List.getElem?_map, Option.map_eq_some_iff] at hp
  obtain ⟨x, hx, rfl⟩ := hp
  rw [hv] at hx
  injection hx with hx
  subst hx
  exact .lit _
theorem gv_cell {g : Nat} {v : Value} (hg : PRep I w (.ptr (.lit v) 0) (.pointer (some ⟨g, 0, none⟩))) : w.cell? ⟨g, 0, none⟩ = some v := by
  obtain ⟨b, o, vs, hu, hI, hv⟩ := prep_ptr hg
  simp only [Value.pointer.injEq, Option.some.injEq, Addr.mk.injEq] at hu
  obtain ⟨rfl, ho, _⟩ := hu
  have ho' : o = 0 := by omega
  subst ho'
  obtain ⟨h1, h2, h3⟩ := hv 0 (.lit v) rfl
  rw [prep_lit h3] at h1
  simpa using h1
def strP (l : List UInt8) : PV := .lit (.string ⟨l.toArray⟩)
def cutP : List PV → Option PV
  | [.lit (.string s), .lit (.string sep)] => if s.size < 4294967281 then
      some (.tup [strP (Lib.cut s.data.toList sep.data.toList).1, strP (Lib.cut s.data.toList sep.data.toList).2.1, .lit (.bool (Lib.cut s.data.toList sep.data.toList).2.2)]) else none
  | _ => none
theorem cut_intr {f g : Nat} (hent : ∀ args w, (callFunc f args).run E.P w = .ok (.enter f args) w) (hg : ∀ I w, Gl E I w → ∃ m, w.cell? ⟨g, 0, none⟩ = some (.int .i64 m))
    (hc : ∀ (s sep : ByteArray) (m : Int) (w : World), s.size < 4294967281 → w.cell? ⟨g, 0, none⟩ = some (.int .i64 m) → Calls E.P f #[.string s, .string sep] w fun e w' =>
      e = .returned (.tuple #[.string ⟨(Lib.cut s.data.toList sep.data.toList).1.toArray⟩, .string ⟨(Lib.cut s.data.toList sep.data.toList).2.1.toArray⟩, .bool (Lib.cut s.data.toList sep.data.toList).2.2]) ∧ ∃ n, w' = w.drewN n) : IntrAt E f cutP := by
  intro ps r hF I w us hgl hl hr hin
  unfold cutP at hF
  split at hF
  · rename_i s sep
    split at hF
    · rename_i hs
      injection hF with hF
      subst hF
      rw [two_lits (by simpa using hl) hr]
      obtain ⟨m, hm⟩ := hg I w hgl
      refine pure_of_calls hent (hc s sep m w hs hm) ?_
      rintro w' ⟨n, rfl⟩
      exact post_below ⟨rfl, rfl, rfl, Nat.le_refl _, fun _ _ => rfl⟩ hin (tup_lits [_, _, _])
    · cases hF
  · cases hF
def repeatP : List PV → Option PV
  | [.lit (.string s), .lit (.int .i64 c)] => if 0 ≤ c ∧ c ≤ 9223372036854775807 ∧ s.size * c.toNat ≤ 140737488355328 then some (strP (Lib.repeatL s.data.toList c.toNat)) else none
  | _ => none
theorem repeat_intr {f : Nat} (hent : ∀ args w, (callFunc f args).run E.P w = .ok (.enter f args) w)
    (hc : ∀ (s : ByteArray) (c : Nat) (w : World), c ≤ 9223372036854775807 → s.size * c ≤ 140737488355328 → Calls E.P f #[.string s, .int .i64 c] w fun e w' =>
      e = .returned (.string ⟨(Lib.repeatL s.data.toList c).toArray⟩) ∧ Below w.heap.size w w') : IntrAt E f repeatP := by
  intro ps r hF I w us hgl hl hr hin
  unfold repeatP at hF
  split at hF
  · rename_i s c
    split at hF
    · rename_i hs
      injection hF with hF
      subst hF
      rw [two_lits (by simpa using hl) hr]
      have := hc s c.toNat w (by omega) hs.2.2
      rw [Int.toNat_of_nonneg hs.1] at this
      exact pure_of_calls hent this fun w' hB => post_below hB hin (.lit _)
    · cases hF
  · cases hF
def parseP : List PV → Option PV
  | [.lit (.string s), .lit (.int .i64 b), .lit (.int .i64 z)] => if b = 10 ∧ z = 64 ∧ s.size ≤ 9223372036854775806 then match Lib.parseUintB 64 s.data.toList with
    | .ok u => some (.tup [.lit (.int .u64 u), .lit .nilIface])
    | _ => none
    else none
  | _ => none
theorem parse_intr {f t : Nat} (hent : ∀ args w, (callFunc f args).run E.P w = .ok (.enter f args) w)
    (hc : ∀ (s : ByteArray), s.size ≤ 9223372036854775806 → ∀ (u : Nat), Lib.parseUintB 64 s.data.toList = .ok u → ∀ (w : World), Calls E.P f #[.string s, .int .i64 10, .int .i64 64] w fun e w' =>
      e = .returned (.tuple #[.int .u64 u, .nilIface]) ∧ (w' = w ∨ w' = Lib.bytesWorld w t s)) : IntrAt E f parseP := by
  intro ps r hF I w us hgl hl hr hin
  unfold parseP at hF
  split at hF
  · rename_i s b z
    split at hF
    · rename_i hs
      obtain ⟨rfl, rfl, hs⟩ := hs
      split at hF
      · rename_i u hu
        injection hF with hF
        subst hF
        rw [three_lits (by simpa using hl) hr]
        refine pure_of_calls hent (hc s hs u hu w) ?_
        rintro w' (rfl | rfl)
        · exact post_below (Below.refl _ _) hin (tup_lits [_, _])
        · exact post_below ⟨rfl, rfl, rfl, by rw [Lib.bytesWorld_size]; omega, fun k hk => Lib.bytesWorld_at_old w t s k hk⟩ hin (tup_lits [_, _])
      · cases hF
    · cases hF
  · cases hF
theorem post_strs (t : TypeId) (xs : List ByteArray) (hin : ∀ b, I b → Solid w b) :
    ∃ I' : Blk, PRep I' (w.alloc (.cells (xs.map Value.string).toArray t)) (.sl 1 false true (xs.map fun x => .lit (.string x))) (.slice (some ⟨w.heap.size, 0, none⟩) xs.length xs.length) ∧ (∀ b, I b → I' b) ∧ (∀ b, I' b → I b ∨ w.heap.size ≤ b) ∧
      Below w.heap.size w (w.alloc (.cells (xs.map Value.string).toArray t)) ∧ ∀ b, I' b → Solid (w.alloc (.cells (xs.map Value.string).toArray t)) b := by
  have hG : Grows w (w.alloc (.cells (xs.map Value.string).toArray t)) (.cells (xs.map Value.string).toArray t) := ⟨rfl, rfl, rfl, rfl⟩
  refine ⟨fun b => I b ∨ b = w.heap.size, ?_, fun _ h => .inl h, fun b hb => hb.imp id (fun e => by omega), (hG.below (Old.bnd w)).below, fun b hb => ?_⟩
  · have := PRep.sl (I := fun b => I b ∨ b = w.heap.size) (w := w.alloc (.cells (xs.map Value.string).toArray t)) 1 true (xs.map fun x => PV.lit (.string x)) w.heap.size 0 xs.length (fun i j => (.string (xs.getD i .empty)))
      (by simp) (by simp) (.inr rfl) (fun x hx => by obtain ⟨y, _, rfl⟩ := List.mem_map.1 hx; exact ⟨rfl, rfl⟩) (fun i x hx j p hp => ?_) (fun i x hx j p hp => ?_)
    · simpa using this
    · simp only [List.getElem?_map, Option.map_eq_some_iff] at hx
      obtain ⟨y, hy, rfl⟩ := hx
      cases j with
      | zero =>
        refine ⟨?_, rfl⟩
        rw [hG.cell]
        simp [hy, List.getD_eq_getElem?_getD]
      | succ j => simp [PV.cells] at hp
    · simp only [List.getElem?_map, Option.map_eq_some_iff] at hx
      obtain ⟨y, hy, rfl⟩ := hx
      cases j with
      | zero =>
        simp [PV.cells] at hp
        subst hp
        simp only [List.getD_eq_getElem?_getD, hy, Option.getD_some]
        exact .lit _
      | succ j => simp [PV.cells] at hp
  · rcases hb with hb | rfl
    · exact (hin b hb).keep (hG.old (hin b hb).lt)
    · exact .of_shape hG.shape
def splitP : List PV → Option PV
  | [.lit (.string s), .lit (.string sep)] => if s.size < 4294967281 ∧ 1 ≤ sep.size then some (.sl 1 false true ((Lib.splitB sep 0 (Lib.countB s sep) s).map fun x => .lit (.string x))) else none
  | _ => none
theorem split_intr {f g t : Nat} (hent : ∀ args w, (callFunc f args).run E.P w = .ok (.enter f args) w) (hg : ∀ I w, Gl E I w → ∃ m, w.cell? ⟨g, 0, none⟩ = some (.int .i64 m))
    (hlen : ∀ s sep : ByteArray, 1 ≤ sep.size → (Lib.splitB sep 0 (Lib.countB s sep) s).length = Lib.countB s sep + 1)
    (hc : ∀ (s sep : ByteArray) (m : Int) (w : World), s.size < 4294967281 → w.cell? ⟨g, 0, none⟩ = some (.int .i64 m) → 1 ≤ sep.size → Calls E.P f #[.string s, .string sep] w fun e w' =>
      e = .returned (.slice (some ⟨w.heap.size, 0, none⟩) (Lib.countB s sep + 1) (Lib.countB s sep + 1)) ∧ w' = w.alloc (.cells ((Lib.splitB sep 0 (Lib.countB s sep) s).map Value.string).toArray t)) : IntrAt E f splitP := by
  intro ps r hF I w us hgl hl hr hin
  unfold splitP at hF
  split at hF
  · rename_i s sep
    split at hF
    · rename_i hs
      injection hF with hF
      subst hF
      rw [two_lits (by simpa using hl) hr]
      obtain ⟨m, hm⟩ := hg I w hgl
      refine pure_of_calls hent (hc s sep m w hs.1 hm hs.2) ?_
      rintro w' rfl
      have := post_strs (I := I) (w := w) t (Lib.splitB sep 0 (Lib.countB s sep) s) hin
      rw [hlen s sep hs.2] at this
      exact this
    · cases hF
  · cases hF
def strsP : List PV → Option (List ByteArray)
  | [] => some []
  | .lit (.string s) :: l => (strsP l).map (s :: ·)
  | _ :: _ => none
theorem strsP_map : ∀ {l : List PV} {xs : List ByteArray}, strsP l = some xs → l = xs.map fun x => .lit (.string x)
  | [], xs, h => by simp [strsP] at h; subst h; rfl
  | p :: l, xs, h => by
    cases p with
    | lit v =>
      cases v <;> simp only [strsP, Option.map_eq_some_iff] at h <;> try (cases h; done)
      obtain ⟨ys, hy, rfl⟩ := h
      rw [strsP_map hy]; rfl
    | _ => simp [strsP] at h
def joinP : List PV → Option PV
  | [.sl k nl full l, .lit (.string sep)] => match strsP l with
    | some xs => if xs.length ≤ 140737488355328 ∧ (Lib.join (xs.map fun x => x.data.toList) sep.data.toList).length ≤ 140737488355328 then some (strP (Lib.join (xs.map fun x => x.data.toList) sep.data.toList)) else none
    | none => none
  | _ => none
theorem join_intr {f : Nat} (hent : ∀ args w, (callFunc f args).run E.P w = .ok (.enter f args) w)
    (h0 : ∀ (a : Option Addr) (c : Nat) (sep : ByteArray) (w : World), Calls E.P f #[.slice a 0 c, .string sep] w fun e w' => e = .returned (.string ⟨#[]⟩) ∧ w' = w)
    (hc : ∀ (bk o c : Nat) (xs : List ByteArray) (sep : ByteArray) (w : World), (∀ (j : Nat) (x : ByteArray), xs[j]? = some x → w.cell? ⟨bk, o + j, none⟩ = some (.string x)) → bk < w.heap.size → xs.length ≤ 140737488355328 → xs.length ≤ c →
      (Lib.join (xs.map fun x => x.data.toList) sep.data.toList).length ≤ 140737488355328 → Calls E.P f #[.slice (some ⟨bk, o, none⟩) xs.length c, .string sep] w fun e w' =>
        e = .returned (.string ⟨(Lib.join (xs.map fun x => x.data.toList) sep.data.toList).toArray⟩) ∧ Below w.heap.size w w') : IntrAt E f joinP := by
  intro ps r hF I w us hgl hl hr hin
  unfold joinP at hF
  split at hF
  · rename_i k nl full l sep
    split at hF
    · rename_i xs hxs
      split at hF
      · rename_i hs
        injection hF with hF
        subst hF
        have hl' := strsP_map hxs
        obtain ⟨x, hx⟩ : ∃ x, us = [x, .string sep] := by
          match us, hl with
          | [x, y], _ => exact ⟨x, by rw [prep_lit (hr 1 _ y rfl rfl)]⟩
        subst hx
        have hx := hr 0 _ x rfl rfl
        have nil : ∀ (a : Option Addr) (c : Nat), xs = [] → x = .slice a 0 c → PureDoes E.P f [x, .string sep].toArray w I (strP (Lib.join (xs.map fun x => x.data.toList) sep.data.toList)) := by
          rintro a c rfl rfl
          exact pure_of_calls hent (h0 a c sep w) fun w' hw => by subst hw; exact post_below (Below.refl _ _) hin (.lit _)
        cases hx with
        | nil => exact nil none 0 (by simpa using hl'.symm) rfl
        | emp _ _ a cap => exact nil (some a) cap (by simpa using hl'.symm) rfl
        | sl _ _ _ b o cap vs hcap hfull hI hk hcc hrr =>
          subst hl'
          by_cases hne : xs = []
          · subst hne; exact nil _ cap rfl rfl
          · have hk1 : k = 1 := by
              obtain ⟨y, ys, rfl⟩ := List.exists_cons_of_ne_nil hne
              have := (hk (.lit (.string y)) (by simp)).1
              simpa [PV.cells] using this.symm
            subst hk1
            have hcells : ∀ (j : Nat) (x : ByteArray), xs[j]? = some x → w.cell? ⟨b, o + j, none⟩ = some (.string x) := by
              intro j y hj
              have h1 := (hcc j (.lit (.string y)) (by simp [hj]) 0 (.lit (.string y)) rfl).1
              have h2 := hrr j (.lit (.string y)) (by simp [hj]) 0 (.lit (.string y)) rfl
              rw [prep_lit h2] at h1
              simpa using h1
            have := hc b o cap xs sep w hcells (hin b hI).lt hs.1 (by simpa using hcap) hs.2
            simp only [List.length_map]
            exact pure_of_calls hent this fun w' hB => post_below hB hin (.lit _)
      · cases hF
    · cases hF
  · cases hF
end
end Go.Proofs.YtcoeigibikbfdaaGreatDoor.Abs

namespace Go.Proofs.YtcoeigibikbfdaaGreatDoor.Abs
open Go Go.Proofs
def fmtP : List PV → Option PV
  | [.lit (.int .u64 n), .lit (.int .i64 b)] => if b = 10 ∧ 0 ≤ n ∧ n < 18446744073709551616 then some (strP (Lib.decDigits n.toNat)) else none
  | _ => none
def typeOfP : List PV → Option PV
  | [.iface 32 (.lit (.int .i64 _))] => some (.iface 162 (.agg [.lit (.pointer (some ⟨14, 32, none⟩))]))
  | _ => none
def compP : List PV → Option PV
  | [.agg [.lit (.pointer (some ⟨14, 32, none⟩))]] => some (.lit (.bool true))
  | _ => none
def libF0 (f : FuncId) : Option (List PV → Option PV) := match f with
  | 147 => some cutP
  | 75 => some splitP
  | 47 => some joinP
  | 244 => some repeatP
  | 113 => some parseP
  | 92 => some fmtP
  | 73 => some typeOfP
  | 311 => some compP
  | _ => none
def aliveP : List PV → Option PV
  | [] => some (.lit (.bool true))
  | _ => none
def libF (f : FuncId) : Option (List PV → Option PV) := match f with
  | 12 => some aliveP
  | f => libF0 f
abbrev bs (l : List UInt8) : ByteArray := ⟨l.toArray⟩
abbrev verP (a b c : Int) (p : PV) : PV := .agg [.lit (.int .u32 a), .lit (.int .u32 b), .lit (.int .u32 c), p]
abbrev bndP (a b c : Int) (p : PV) (o : Bool) : PV := .agg [.lit (.int .u32 a), .lit (.int .u32 b), .lit (.int .u32 c), p, .lit (.bool o)]
abbrev edgP (a b c : Int) (p : PV) (o e : Bool) : PV := .agg [.lit (.int .u32 a), .lit (.int .u32 b), .lit (.int .u32 c), p, .lit (.bool o), .lit (.bool e)]
abbrev itvP (a b c : Int) (p : PV) (o : Bool) (a1 b1 c1 : Int) (p1 : PV) (o1 e : Bool) : PV :=
  .agg [.lit (.int .u32 a), .lit (.int .u32 b), .lit (.int .u32 c), p, .lit (.bool o), .lit (.int .u32 a1), .lit (.int .u32 b1), .lit (.int .u32 c1), p1, .lit (.bool o1), .lit (.bool e)]
abbrev intA (x : Int) : AV := .pv (.lit (.int .i64 x))
abbrev strA (x : ByteArray) : AV := .pv (.lit (.string x))
abbrev bolP (x : Bool) : PV := .lit (.bool x)
def glE (I : Nat → Prop) (w : World) : Prop := (∃ m, PRep I w (.ptr (.lit (.int .i64 m)) 0) (.pointer (some ⟨1, 0, none⟩))) ∧ Lib.TabIs Tryz.prog w "internal/strconv.uint64pow10" .u64 Lib.pow10Tab ∧ I 2 ∧
  w.cell? ⟨0, 0, none⟩ = some (.iface 162 (.agg #[.pointer (some ⟨14, 42, none⟩)])) ∧ I 0
theorem glE_mono (I I' : Nat → Prop) (w w' : World) (h : glE I w) (hI : ∀ b, I b → I' b) (hk : ∀ b, I b → w'.heap[b]? = w.heap[b]?) : glE I' w' := by
  obtain ⟨⟨m, h1⟩, h2, h3, h4, h5⟩ := h
  refine ⟨⟨m, h1.mono hI hk⟩, ?_, hI _ h3, ?_, hI _ h5⟩
  rotate_left
  · unfold World.cell? at h4 ⊢
    rw [hk _ h5]
    exact h4
  have hg : Tryz.prog.globalNamed "internal/strconv.uint64pow10" = some 2 := by kernel_rfl
  unfold Lib.TabIs World.var? at *
  rw [hg] at h2 ⊢
  simp only [Option.bind_some] at h2 ⊢
  rw [hk _ h3]
  exact h2
noncomputable def E0 : Env := {
  P := Tryz.prog
  intr := libF0
  inl := fun f => [207, 224, 209, 233, 239, 255, 263, 264, 271, 278].contains f
  own := fun f => [58, 234].contains f
  can := fun f => [178, 95, 96, 177, 233, 239, 255, 263, 264, 271, 278].contains f
  rd := fun f => [261, 254].contains f
  asf := fun f t => if f = 26 ∧ t = 53 then some 51 else none
  ckf := fun f => if f = 127 then some 142 else none
  bad := fun ops => ops.size == 11 && ((ops[0]?).any fun o => o.pos == "event.go:226")
  ok := fun f => !([26, 127, 24, 29, 30, 321].contains f)
  gl := glE
  glm := glE_mono }
noncomputable def E1 : Env := { E0 with intr := libF }
end Go.Proofs.YtcoeigibikbfdaaGreatDoor.Abs

namespace Go.Proofs.YtcoeigibikbfdaaGreatDoor.Abs
open Go Go.Proofs
theorem toList_bs (l : List UInt8) : ByteArray.toList (bs l) = l := by
  rw [ByteArray.toList_eq]
theorem wrap_i64 (x : Int) (h1 : -9223372036854775808 ≤ x) (h2 : x < 9223372036854775808) : IntKind.wrap IntKind.i64 x = x := by
  simp only [IntKind.wrap, IntKind.bits, IntKind.signed]
  simp
  omega
end Go.Proofs.YtcoeigibikbfdaaGreatDoor.Abs

namespace Go.Proofs.YtcoeigibikbfdaaGreatDoor.Abs
open Go Go.Proofs
abbrev preP (k : Nat) (nl full : Bool) (l : List (List UInt8)) : PV := .sl k nl full (l.map strP)
structure V where
  a : Int
  b : Int
  c : Int
  k : Nat
  nl : Bool
  full : Bool
  pre : List (List UInt8)
  deriving Inhabited
abbrev V.p (v : V) : PV := verP v.a v.b v.c (preP v.k v.nl v.full v.pre)
structure I where
  lo : V
  lopen : Bool
  hi : V
  hopen : Bool
  less : Bool
  deriving Inhabited
abbrev I.p (x : I) : PV := itvP x.lo.a x.lo.b x.lo.c (preP x.lo.k x.lo.nl x.lo.full x.lo.pre) x.lopen x.hi.a x.hi.b x.hi.c (preP x.hi.k x.hi.nl x.hi.full x.hi.pre) x.hopen x.less
structure Ed where
  v : V
  behind : Bool
  less : Bool
  deriving Inhabited
abbrev Ed.p (x : Ed) : PV := edgP x.v.a x.v.b x.v.c (preP x.v.k x.v.nl x.v.full x.v.pre) x.behind x.less
structure Bd where
  v : V
  op : Bool
  deriving Inhabited
abbrev Bd.p (x : Bd) : PV := bndP x.v.a x.v.b x.v.c (preP x.v.k x.v.nl x.v.full x.v.pre) x.op
abbrev V.q (v : V) : PV := preP v.k v.nl v.full v.pre
abbrev gI {α : Type} [Inhabited α] (l : List α) (i : Int) : α := List.getD l (Int.toNat i) default
theorem gI_nat {α : Type} [Inhabited α] (l : List α) (i : Nat) : gI l (i : Int) = l.getD i default := rfl
theorem gI_zero {α : Type} [Inhabited α] (l : List α) : gI l 0 = l.getD 0 default := rfl
def Scr.lts : Nat → Scr → Scr
  | 0, k => k
  | n + 1, k => .lit (Scr.lts n k)
def iv : List (Nat × Nat) → List Nat
  | [] => []
  | (a, b) :: l => List.range' a (b + 1 - a) ++ iv l
abbrev jj (j : Nat → AV) (a n : Nat) : List AV := (List.range' a n).map j
abbrev AtAll (fn : Func) (r : PV) (k : Nat) (S : (Nat → AV) → (Nat → Row) → Nat → St) : Prop := ∀ (j : Nat → AV) (jr : Nat → Row) (g : Nat), LoopAt E1 fn r k (S j jr g)
def small (n : Nat) : Prop := n < 4611686018427387904
def u32 (n : Int) : Prop := 0 ≤ n ∧ n < 4294967296
def slOk (sz k : Nat) (nl : Bool) (n : Nat) : Prop := (nl = true → n = 0) ∧ (nl = false → k = sz)
theorem sl_at {sz k : Nat} {nl : Bool} {n i : Nat} (h : slOk sz k nl n) (hi : i < n) : nl = false ∧ k = sz := by
  cases nl with
  | false => exact ⟨rfl, h.2 rfl⟩
  | true => have := h.1 rfl; omega
structure V.ok (v : V) : Prop where
  a : u32 v.a
  b : u32 v.b
  c : u32 v.c
  sl : slOk 1 v.k v.nl v.pre.length
  len : small v.pre.length
  str : ∀ s ∈ v.pre, small s.length
structure I.ok (x : I) : Prop where
  lo : x.lo.ok
  hi : x.hi.ok
end Go.Proofs.YtcoeigibikbfdaaGreatDoor.Abs

namespace Go.Proofs.YtcoeigibikbfdaaGreatDoor.Abs
open Go Go.Proofs
inductive F2 (I : Blk) (w : World) : List PV → List Value → Prop
  | nil : F2 I w [] []
  | cons {p : PV} {v : Value} {ps : List PV} {vs : List Value} (h : PRep I w p v) (h1 : v.oneCell' = true) (r : F2 I w ps vs) : F2 I w (p :: ps) (v :: vs)
theorem F2.length {I : Blk} {w : World} {ps : List PV} {vs : List Value} (h : F2 I w ps vs) : ps.length = vs.length := by
  induction h with
  | nil => rfl
  | cons _ _ _ ih => simp [ih]
theorem F2.get {I : Blk} {w : World} {ps : List PV} {vs : List Value} (h : F2 I w ps vs) : ∀ {j : Nat} {p : PV} {v : Value}, ps[j]? = some p → vs[j]? = some v → PRep I w p v ∧ v.oneCell' = true := by
  induction h with
  | nil => intro j p v hp; simp at hp
  | cons a b r ih =>
    intro j p v hp hv
    cases j with
    | zero => simp only [List.getElem?_cons_zero, Option.some.injEq] at hp hv; subst hp; subst hv; exact ⟨a, b⟩
    | succ j => simp only [List.getElem?_cons_succ] at hp hv; exact ih hp hv
theorem F2.append {I : Blk} {w : World} {ps qs : List PV} {vs us : List Value} (h : F2 I w ps vs) (k : F2 I w qs us) : F2 I w (ps ++ qs) (vs ++ us) := by
  induction h with
  | nil => exact k
  | cons a b r ih => exact .cons a b ih
def isSt (P : Program) (t : TypeId) : Bool := match P.underlying t with
  | some (.struct _) => true
  | _ => false
def mkE (st : Bool) (cs : List PV) : PV := if st then .agg cs else cs.headD default
def wellF (W : TypeId → List PV → Prop) : List Field → List PV → Prop
  | [], r => r = []
  | f :: fs, r => ∃ a b, r = a ++ b ∧ W f.type a ∧ wellF W fs b
def wellP (P : Program) : Nat → TypeId → List PV → Prop
  | 0, _, _ => False
  | n + 1, t, cs => match P.underlying t with
    | some .bool => ∃ b, cs = [.lit (.bool b)]
    | some (.int k) => ∃ x, cs = [.lit (.int k x)] ∧ (Lit.int k x).wf = true
    | some .string => ∃ s : ByteArray, cs = [.lit (.string s)] ∧ s.size ≤ reachBytes
    | some (.slice e) => ∃ (k : Nat) (nl : Bool) (rs : List (List PV)), cs = [.sl k nl false (rs.map (mkE (isSt P e)))] ∧ slOk (P.cellsOf e) k nl rs.length ∧ rs.length * P.bytesOf e ≤ reachBytes ∧ ∀ r ∈ rs, wellP P n e r
    | some (.struct fs) => wellF (wellP P n) fs.toList cs
    | _ => False
def contigB (P : Program) : List Field → Nat → Nat → Bool
  | [], o, n => o == n
  | f :: fs, o, n => (f.offset == o) && contigB P fs (o + P.cellsOf f.type) n
def plainT (P : Program) : Nat → TypeId → Bool
  | 0, _ => false
  | m + 1, t => match P.underlying t with
    | some .bool | some (.int _) | some .string => P.cellsOf t == 1
    | some (.slice e) => P.cellsOf t == 1 && plainT P m e && decide (0 < P.cellsOf e)
    | some (.struct fs) => contigB P fs.toList 0 (P.cellsOf t) && fs.toList.all (fun f => plainT P m f.type)
    | _ => false
theorem wa_mem {H : Type} {P : Program} {e : TypeId} : ∀ {l : List (DataW H)} {d : DataW H} {n : Nat}, d ∈ l → n ∈ d.weights P e → n ∈ DataW.weightsAll P e l
  | x :: l, d, n, hd, hn => by
    simp only [DataW.weightsAll, List.mem_append]
    cases List.mem_cons.1 hd with
    | inl h => subst h; exact .inl hn
    | inr h => exact .inr (wa_mem h hn)
theorem well_one {P : Program} {n : Nat} {t : TypeId} {r : List PV} (hs : isSt P t = false) (h : wellP P n t r) : ∃ p, r = [p] ∧ p.cells = [p] ∧ p.ok = true := by
  cases n with
  | zero => exact h.elim
  | succ n =>
    unfold wellP at h
    unfold isSt at hs
    split at h
    · obtain ⟨b, rfl⟩ := h; exact ⟨_, rfl, rfl, rfl⟩
    · obtain ⟨b, rfl, _⟩ := h; exact ⟨_, rfl, rfl, rfl⟩
    · obtain ⟨b, rfl, _⟩ := h; exact ⟨_, rfl, rfl, rfl⟩
    · obtain ⟨k, nl, rs, rfl, _⟩ := h; exact ⟨_, rfl, rfl, rfl⟩
    · rename_i he; rw [he] at hs; cases hs
    · exact h.elim
theorem mkE_cells {P : Program} {n : Nat} {t : TypeId} {r : List PV} (h : wellP P n t r) : (mkE (isSt P t) r).cells = r ∧ (mkE (isSt P t) r).ok = true := by
  unfold mkE
  cases hs : isSt P t with
  | true => exact ⟨rfl, rfl⟩
  | false =>
    obtain ⟨p, rfl, h1, h2⟩ := well_one hs h
    exact ⟨h1, h2⟩
theorem list_of {α : Type} {q : Nat → α → Prop} : ∀ n, (∀ i, i < n → ∃ x, q i x) → ∃ l : List α, l.length = n ∧ ∀ i (h : i < l.length), q i l[i]
  | 0, _ => ⟨[], rfl, fun i h => absurd h (Nat.not_lt_zero _)⟩
  | n + 1, h => by
    obtain ⟨l, hl, hq⟩ := list_of n (fun i hi => h i (Nat.lt_succ_of_lt hi))
    obtain ⟨x, hx⟩ := h n (Nat.lt_succ_self n)
    refine ⟨l ++ [x], by simp [hl], fun i hi => ?_⟩
    by_cases hc : i < l.length
    · rw [List.getElem_append_left hc]; exact hq i hc
    · have : i = n := by simp at hi; omega
      subst this
      rw [List.getElem_append_right (by omega)]
      simpa [hl] using hx
theorem add_add (a : Addr) (i j : Nat) : (a.add i).add j = a.add (i + j) := by
  unfold Addr.add
  by_cases hi : i = 0 <;> by_cases hj : j = 0 <;> simp [hi, hj, Nat.add_assoc]
theorem cell_spot {w : World} {a : Addr} {v : Value} (h : w.cell? a = some v) : a.spot = none ∧ ∃ e n, w.shape? a.block = some (e, n) := by
  unfold World.cell? at h
  split at h
  · rename_i c t f hb
    split at h
    · cases h
    · rename_i hs
      refine ⟨by simpa using hs, t, c.size, ?_⟩
      unfold World.shape?
      rw [hb]
  · cases h
section
variable {H : Type} {enc : TypeId × Value → H} {P : Program} {w : World} {I : Blk} {held : Bool}
theorem fields_of {total : Nat} {cs : List Value} (hcs : cs.length = total) {W : TypeId → List PV → Prop} : ∀ (fs : List Field) (o : Nat), contigB P fs o total = true → o ≤ total →
    (∀ f ∈ fs, ∃ ps, W f.type ps ∧ F2 I w ps ((cs.drop f.offset).take (P.cellsOf f.type))) → ∃ ps, wellF W fs ps ∧ F2 I w ps (cs.drop o)
  | [], o, hc, _, _ => by
    simp only [contigB, beq_iff_eq] at hc
    rw [List.drop_of_length_le (by omega)]
    exact ⟨[], rfl, .nil⟩
  | f :: fs, o, hc, ho, h => by
    simp only [contigB, Bool.and_eq_true, beq_iff_eq] at hc
    obtain ⟨h1, h2⟩ := hc
    obtain ⟨a, ha, hfa⟩ := h f (by simp)
    rw [h1] at hfa
    have hle : o + P.cellsOf f.type ≤ total := by
      have : ∀ (fs : List Field) (o : Nat), contigB P fs o total = true → o ≤ total := by
        intro fs
        induction fs with
        | nil => intro o h; simp only [contigB, beq_iff_eq] at h; omega
        | cons g gs ih => intro o h; simp only [contigB, Bool.and_eq_true, beq_iff_eq] at h; have := ih _ h.2; omega
      exact this _ _ h2
    obtain ⟨b, hb, hfb⟩ := fields_of hcs fs (o + P.cellsOf f.type) h2 hle (fun g hg => h g (by simp [hg]))
    refine ⟨a ++ b, ⟨a, b, rfl, ha, hb⟩, ?_⟩
    have e : cs.drop o = (cs.drop o).take (P.cellsOf f.type) ++ cs.drop (o + P.cellsOf f.type) := by
      rw [← List.drop_drop, List.take_append_drop]
    rw [e]
    exact hfa.append hfb
theorem of_trod (hI : ∀ b e n, w.shape? b = some (e, n) → I b) : ∀ (fuel : Nat) (t : TypeId) (cs : List Value) (x : DataW H × List MemPlace) (m : Nat), DataW.trod enc P w 0 (fun _ => true) held fuel t cs = some x → plainT P m t = true →
    (∀ n ∈ x.1.weights P t, n ≤ reachBytes) → ∃ ps, wellP P fuel t ps ∧ F2 I w ps cs := by
  intro fuel
  induction fuel with
  | zero => intro t cs x m h; simp [DataW.trod] at h
  | succ fuel ih =>
    intro t cs x m h hp hw
    cases m with
    | zero => simp [plainT] at hp
    | succ m =>
      unfold plainT at hp
      unfold wellP
      split at hp
      · rename_i ht
        obtain ⟨b, rfl, rfl⟩ := DataW.trod_bool ht h
        exact ⟨_, ⟨b, rfl⟩, .cons (.lit _) rfl .nil⟩
      · rename_i k ht
        obtain ⟨b, rfl, rfl, hb⟩ := DataW.trod_int ht h
        exact ⟨_, ⟨b, rfl, hb⟩, .cons (.lit _) rfl .nil⟩
      · rename_i ht
        obtain ⟨s, rfl, rfl, _⟩ := DataW.trod_string ht h
        exact ⟨_, ⟨s, rfl, by
          have h1 := hw s.data.toList.length (by simp only [DataW.weights, List.mem_singleton])
          rw [Array.length_toList] at h1
          exact h1⟩, .cons (.lit _) rfl .nil⟩
      · rename_i e ht
        simp only [Bool.and_eq_true, beq_iff_eq, decide_eq_true_eq] at hp
        obtain ⟨⟨_, hp2⟩, hp3⟩ := hp
        rcases DataW.trod_slice ht h with ⟨rfl, rfl⟩ | ⟨a, len, cap, elems, rest, n, hn, rfl, rfl, _, hlen, hmax, hel, hx, _, _⟩
        · exact ⟨_, ⟨0, true, [], rfl, ⟨fun _ => rfl, fun e => Bool.noConfusion e⟩, by simp, fun r hr => absurd hr (List.not_mem_nil)⟩, .cons (.nil 0 false) rfl .nil⟩
        · obtain rfl : fuel = n := by omega
          have hwt := hw
          simp only [DataW.weights, ht, List.mem_cons, List.length_map] at hwt
          have hsz := hwt _ (.inl rfl)
          obtain ⟨rs, hrs, hq⟩ := list_of (q := fun i r => wellP P fuel e r ∧ ∃ cs', w.cells? 0 (a.add (i * P.cellsOf e)) (P.cellsOf e) = some cs' ∧ F2 I w r cs') len (fun i hi => by
            have h12 := hx i (by omega)
            rw [List.getElem?_eq_getElem (by omega)] at h12
            obtain ⟨cs', h1, h2⟩ := Option.bind_eq_some_iff.1 h12
            obtain ⟨ps, hps, hf⟩ := ih e cs' _ m h2 hp2 (fun k hk => hwt k (.inr (List.mem_append_left _ (wa_mem (List.mem_map.2 ⟨_, List.getElem_mem _, rfl⟩) hk))))
            exact ⟨ps, hps, cs', h1, hf⟩)
          have hlen2 : rs.length * P.bytesOf e ≤ reachBytes := by
            refine Nat.le_trans (Nat.mul_le_mul_right _ ?_) hsz
            omega
          have hwell : ∀ r ∈ rs, wellP P fuel e r := fun r hr => by
            obtain ⟨i, hi, rfl⟩ := List.getElem_of_mem hr
            exact (hq i hi).1
          refine ⟨_, ⟨P.cellsOf e, false, rs, rfl, ⟨fun e => Bool.noConfusion e, fun _ => rfl⟩, hlen2, hwell⟩, .cons ?_ rfl .nil⟩
          by_cases h0 : len = 0
          · have : rs = [] := List.length_eq_zero_iff.1 (by omega)
            subst this; subst h0
            exact .emp _ _ _ _ (fun e => Bool.noConfusion e)
          · have hget : ∀ (i : Nat) (x : PV), (rs.map (mkE (isSt P e)))[i]? = some x → ∃ hi : i < rs.length, x.cells = rs[i] := fun i x hx => by
              rw [List.getElem?_map] at hx
              obtain ⟨r, hr, rfl⟩ := Option.map_eq_some_iff.1 hx
              obtain ⟨hi, rfl⟩ := List.getElem?_eq_some_iff.1 hr
              exact ⟨hi, (mkE_cells (hq i hi).1).1⟩
            have hcell : ∀ (i j : Nat) (p : PV) (hi : i < rs.length), rs[i][j]? = some p → ∃ v, w.cell? (a.add (i * P.cellsOf e + j)) = some v ∧ v.oneCell' = true ∧ PRep I w p v := fun i j p hi hp => by
              obtain ⟨_, cs', h1, hf⟩ := hq i hi
              obtain ⟨_, hl, hc⟩ := World.cells?_some h1
              have hj : j < cs'.length := by rw [← hf.length]; exact (List.getElem?_eq_some_iff.1 hp).1
              have hv : cs'[j]? = some cs'[j] := List.getElem?_eq_getElem hj
              obtain ⟨h3, h4⟩ := hf.get hp hv
              have := hc j (by omega)
              rw [add_add, hv] at this
              exact ⟨_, this, h4, h3⟩
            have hk : a.spot = none ∧ I a.block := by
              obtain ⟨_, cs', h1, hf⟩ := hq 0 (by omega)
              obtain ⟨_, hl, hc⟩ := World.cells?_some h1
              have := hc 0 hp3
              rw [List.getElem?_eq_getElem (by omega)] at this
              obtain ⟨h5, e', n', h6⟩ := cell_spot this
              have ea : ((a.add (0 * P.cellsOf e)).add 0) = a := by unfold Addr.add; simp
              rw [ea] at h5 h6
              exact ⟨h5, hI _ _ _ h6⟩
            obtain ⟨b, o, sp⟩ := a
            obtain ⟨rfl, hIb⟩ := hk
            have hadd : ∀ n, (⟨b, o, none⟩ : Addr).add n = ⟨b, o + n, none⟩ := fun n => by
              unfold Addr.add
              by_cases hn : n = 0
              · subst hn; simp
              · simp [hn]
            have hc2 : ∀ (i : Nat) (x : PV), (rs.map (mkE (isSt P e)))[i]? = some x → ∀ (j : Nat) (p : PV), x.cells[j]? = some p →
                ∃ v, w.cell? ⟨b, o + i * P.cellsOf e + j, none⟩ = some v ∧ v.oneCell' = true ∧ PRep I w p v := fun i x hx j p hp => by
              obtain ⟨hi, e1⟩ := hget i x hx
              rw [e1] at hp
              obtain ⟨v, h1, h2, h3⟩ := hcell i j p hi hp
              rw [hadd, ← Nat.add_assoc] at h1
              exact ⟨v, h1, h2, h3⟩
            have hlm : (rs.map (mkE (isSt P e))).length = len := by simp [hrs]
            rw [← hlm]
            refine .sl _ _ _ b o cap (fun i j => (w.cell? ⟨b, o + i * P.cellsOf e + j, none⟩).getD default) (by omega) (fun e => Bool.noConfusion e) hIb (fun x hx => ?_) (fun i x hx j p hp => ?_) (fun i x hx j p hp => ?_)
            · obtain ⟨r, hr, rfl⟩ := List.mem_map.1 hx
              obtain ⟨i, hi, rfl⟩ := List.getElem_of_mem hr
              obtain ⟨h3, cs', h1, hf⟩ := hq i hi
              obtain ⟨_, hl, _⟩ := World.cells?_some h1
              refine ⟨?_, (mkE_cells h3).2⟩
              rw [(mkE_cells h3).1, hf.length, hl]
            · obtain ⟨v, h1, h2, h3⟩ := hc2 i x hx j p hp
              simp only [h1, Option.getD_some]
              exact ⟨trivial, h2⟩
            · obtain ⟨v, h1, h2, h3⟩ := hc2 i x hx j p hp
              simp only [h1, Option.getD_some]
              exact h3
      · rename_i fs ht
        simp only [Bool.and_eq_true, List.all_eq_true] at hp
        obtain ⟨xs, n, hn, rfl, hl, hxl, hf⟩ := DataW.trod_struct ht h
        obtain rfl : fuel = n := by omega
        have hwf : ∀ (fl : List Field) (l : List (DataW H)) (i : Nat) (f : Field) (d : DataW H) (k : Nat), fl[i]? = some f → l[i]? = some d → k ∈ d.weights P f.type → k ∈ DataW.weightsEach P (fl.map (·.type)) l := by
          intro fl l i f d k h1 h2 h3
          exact DataW.weights_mem_each (j := i) (t := f.type) (by simp [h1]) h2 k h3
        obtain ⟨ps, h1, h2⟩ := fields_of (I := I) (w := w) hl fs.toList 0 hp.1 (by omega) (W := wellP P fuel) (fun f hfm => by
          obtain ⟨i, hi, rfl⟩ := List.getElem_of_mem hfm
          have hfi : fs[i]? = some fs.toList[i] := by simp at hi ⊢
          have hx := hf i _ hfi
          have hi' : i < xs.length := by rw [hxl]; simpa using hi
          rw [List.getElem?_eq_getElem hi'] at hx
          obtain ⟨ps, hps, hf2⟩ := ih _ _ _ m hx (hp.2 _ hfm) (fun k hk => hw k (by
            simp only [DataW.weights, ht]
            exact hwf fs.toList (xs.map (·.1)) i _ _ k (List.getElem?_eq_getElem hi) (by simp [hi']) hk))
          exact ⟨ps, hps, hf2⟩)
        exact ⟨ps, h1, by simpa using h2⟩
      · cases hp
end
theorem well_int0 {P : Program} {n : Nat} {t : TypeId} {k : IntKind} {cs : List PV} (ht : P.underlying t = some (.int k)) (h : wellP P n t cs) : ∃ x, cs = [.lit (.int k x)] ∧ (Lit.int k x).wf = true := by
  cases n with
  | zero => exact h.elim
  | succ n => unfold wellP at h; rw [ht] at h; exact h
theorem well_str0 {P : Program} {n : Nat} {t : TypeId} {cs : List PV} (ht : P.underlying t = some .string) (h : wellP P n t cs) : ∃ s : ByteArray, cs = [.lit (.string s)] ∧ s.size ≤ reachBytes := by
  cases n with
  | zero => exact h.elim
  | succ n => unfold wellP at h; rw [ht] at h; exact h
theorem well_sl0 {P : Program} {n : Nat} {t e : TypeId} {cs : List PV} (ht : P.underlying t = some (.slice e)) (h : wellP P n t cs) :
    ∃ (m k : Nat) (nl : Bool) (rs : List (List PV)), cs = [.sl k nl false (rs.map (mkE (isSt P e)))] ∧ slOk (P.cellsOf e) k nl rs.length ∧ rs.length * P.bytesOf e ≤ reachBytes ∧ ∀ r ∈ rs, wellP P m e r := by
  cases n with
  | zero => exact h.elim
  | succ n => unfold wellP at h; rw [ht] at h; exact ⟨n, h⟩
theorem well_st0 {P : Program} {n : Nat} {t : TypeId} {fs : Array Field} {cs : List PV} (ht : P.underlying t = some (.struct fs)) (h : wellP P n t cs) : ∃ m, wellF (wellP P m) fs.toList cs := by
  cases n with
  | zero => exact h.elim
  | succ n => unfold wellP at h; rw [ht] at h; exact ⟨n, h⟩
theorem isSt_of {P : Program} {t : TypeId} {fs : Array Field} (ht : P.underlying t = some (.struct fs)) : isSt P t = true := by unfold isSt; rw [ht]
end Go.Proofs.YtcoeigibikbfdaaGreatDoor.Abs

namespace Go.Proofs
open Go.Shelf
def Tryz.lays156_ren : Go.Shelf.Ren := ⟨fun | 156 => 47 | 165 => 94 | 166 => 95 | 169 => 96 | 240 => 127 | 241 => 128 | 276 => 159 | 277 => 160 | n => n, fun | 31 => 73 | 9 => 9 | 3 => 3 | 4 => 4 | 0 => 0 | 20 => 20 | 72 => 142 | 76 => 144 | 70 => 140 | 37 => 70 | 75 => 42 | 127 => 189 | 164 => 100 | 5 => 5 | 80 => 86 | n => n, fun | n => n⟩
theorem Tryz.lays156 : Go.Proofs.Lays.n156 Tryz.prog Tryz.lays156_ren := {
  mixed := by kernel_rfl
  f156 := Tryz.func47.trans (congrArg some (by kernel_rfl))
  f165 := Tryz.func94.trans (congrArg some (by kernel_rfl))
  f166 := Tryz.func95.trans (congrArg some (by kernel_rfl))
  f169 := Tryz.func96.trans (congrArg some (by kernel_rfl))
  f240 := Tryz.func127.trans (congrArg some (by kernel_rfl))
  f241 := Tryz.func128.trans (congrArg some (by kernel_rfl))
  f276 := Tryz.func159.trans (congrArg some (by kernel_rfl))
  f277 := Tryz.func160.trans (congrArg some (by kernel_rfl))
  t0 := Tryz.underlying0
  a0 := Tryz.isAgg0
  z0 := Tryz.sizeOf0
  v0 := Tryz.zeroValue0
  t3 := Tryz.underlying3
  a3 := Tryz.isAgg3
  z3 := Tryz.sizeOf3
  v3 := Tryz.zeroValue3
  t4 := Tryz.underlying4
  a4 := Tryz.isAgg4
  z4 := Tryz.sizeOf4
  v4 := Tryz.zeroValue4
  t9 := Tryz.underlying9
  a9 := Tryz.isAgg9
  z9 := Tryz.sizeOf9
  v9 := Tryz.zeroValue9
  t20 := Tryz.underlying20
  a20 := Tryz.isAgg20
  z20 := Tryz.sizeOf20
  v20 := Tryz.zeroValue20
  t31 := Tryz.underlying73
  a31 := Tryz.isAgg73
  z31 := Tryz.sizeOf73
  v31 := Tryz.zeroValue73
  t37 := Tryz.underlying70
  a37 := Tryz.isAgg70
  z37 := Tryz.sizeOf70
  v37 := Tryz.zeroValue70
  t70 := Tryz.underlying140
  a70 := Tryz.isAgg140
  z70 := Tryz.sizeOf140
  v70 := Tryz.zeroValue140
  t72 := Tryz.underlying142
  a72 := Tryz.isAgg142
  z72 := Tryz.sizeOf142
  v72 := Tryz.zeroValue142
  t75 := Tryz.underlying42
  a75 := Tryz.isAgg42
  z75 := Tryz.sizeOf42
  v75 := Tryz.zeroValue42
  t76 := Tryz.underlying144
  a76 := Tryz.isAgg144
  z76 := Tryz.sizeOf144
  v76 := Tryz.zeroValue144
  t127 := Tryz.underlying189
  a127 := Tryz.isAgg189
  z127 := Tryz.sizeOf189
  v127 := Tryz.zeroValue189
  t164 := Tryz.underlying100
  a164 := Tryz.isAgg100
  z164 := Tryz.sizeOf100
  v164 := Tryz.zeroValue100 }
theorem Tryz.Builder_Extra_156 : Builder.Extra Tryz.prog Tryz.lays156_ren := {
  sizeBuilder := by kernel_rfl
  liesBuilder := by kernel_rfl
  t5 := Tryz.underlying5
  a5 := Tryz.isAgg5
  z5 := Tryz.sizeOf5
  v5 := Tryz.zeroValue5
  infoByte := by kernel_rfl
  cellsByte := by kernel_rfl
  sizeByte := by kernel_rfl
  neB5 := by decide }
open Go.RowKit in
theorem Tryz.strings_Join_none (a : Option Addr) (c : Nat) (sep : ByteArray) (w : World) :
    Calls Tryz.prog 47 #[.slice a 0 c, .string sep] w fun e w' => e = .returned (.string ⟨#[]⟩) ∧ w' = w := Any.strings_Join_none Tryz.lays156 Tryz.Builder_Extra_156 a c sep w
open Go.RowKit in
theorem Tryz.strings_Join (bk o c : Nat) (xs : List ByteArray) (sep : ByteArray) (w : World) (hcells : ∀ (j : Nat) x, xs[j]? = some x → w.cell? ⟨bk, o + j, none⟩ = some (.string x)) (hbk : bk < w.heap.size) (hN : xs.length ≤ 140737488355328) (hcap : xs.length ≤ c) (hlen : (Lib.join (xs.map (·.data.toList)) sep.data.toList).length ≤ 140737488355328) :
    Calls Tryz.prog 47 #[.slice (some ⟨bk, o, none⟩) xs.length c, .string sep] w fun e w' => e = .returned (.string ⟨(Lib.join (xs.map (·.data.toList)) sep.data.toList).toArray⟩) ∧ Below w.heap.size w w' := Any.strings_Join Tryz.lays156 Tryz.Builder_Extra_156 bk o c xs sep w hcells hbk hN hcap hlen
def Tryz.lays283_ren : Go.Shelf.Ren := ⟨fun | 283 => 152 | n => n, fun | 3 => 3 | 9 => 9 | 4 => 4 | n => n, fun | n => n⟩
theorem Tryz.lays283 : Go.Proofs.Lays.n283 Tryz.prog Tryz.lays283_ren := {
  mixed := by kernel_rfl
  f283 := Tryz.func152.trans (congrArg some (by kernel_rfl))
  t3 := Tryz.underlying3
  a3 := Tryz.isAgg3
  z3 := Tryz.sizeOf3
  v3 := Tryz.zeroValue3
  t4 := Tryz.underlying4
  a4 := Tryz.isAgg4
  z4 := Tryz.sizeOf4
  v4 := Tryz.zeroValue4
  t9 := Tryz.underlying9
  a9 := Tryz.isAgg9
  z9 := Tryz.sizeOf9
  v9 := Tryz.zeroValue9 }
open Go.Lib in
theorem Tryz.internal_strconv_small (i : Nat) (h : i < 100) (w : World) :
    Calls Tryz.prog 152 #[.int .i64 i] w fun e w' => e = .returned (.string ⟨(Lib.decDigits i).toArray⟩) ∧ w' = w := Any.internal_strconv_small Tryz.lays283 i h w
def Tryz.laysM284_ren : Go.Shelf.Ren := ⟨fun | 284 => 153 | 129 => 188 | 317 => 187 | 318 => 189 | n => n, fun | 53 => 24 | 3 => 3 | 212 => 241 | 0 => 0 | 4 => 4 | 46 => 136 | 5 => 5 | 9 => 9 | n => n, fun | 17 => 2 | n => n⟩
theorem Tryz.laysM284 : Go.Proofs.LaysM.n284 Tryz.prog Tryz.laysM284_ren := {
  mixed := by kernel_rfl
  f129 := Tryz.func188.trans (congrArg some (by kernel_rfl))
  f284 := Tryz.func153.trans (congrArg some (by kernel_rfl))
  f317 := Tryz.func187.trans (congrArg some (by kernel_rfl))
  f318 := Tryz.func189.trans (congrArg some (by kernel_rfl))
  t0 := Tryz.underlying0
  a0 := Tryz.isAgg0
  z0 := Tryz.sizeOf0
  v0 := Tryz.zeroValue0
  t3 := Tryz.underlying3
  a3 := Tryz.isAgg3
  z3 := Tryz.sizeOf3
  v3 := Tryz.zeroValue3
  t4 := Tryz.underlying4
  a4 := Tryz.isAgg4
  z4 := Tryz.sizeOf4
  v4 := Tryz.zeroValue4
  t5 := Tryz.underlying5
  a5 := Tryz.isAgg5
  z5 := Tryz.sizeOf5
  v5 := Tryz.zeroValue5
  t9 := Tryz.underlying9
  a9 := Tryz.isAgg9
  z9 := Tryz.sizeOf9
  v9 := Tryz.zeroValue9
  t46 := Tryz.underlying136
  a46 := Tryz.isAgg136
  z46 := Tryz.sizeOf136
  v46 := Tryz.zeroValue136
  t53 := Tryz.underlying24
  a53 := Tryz.isAgg24
  z53 := Tryz.sizeOf24
  v53 := Tryz.zeroValue24
  t212 := Tryz.underlying241
  a212 := Tryz.isAgg241
  z212 := Tryz.sizeOf241
  v212 := Tryz.zeroValue241
  g17 := by kernel_rfl
  i0 := by kernel_rfl
  i3 := by kernel_rfl
  i4 := by kernel_rfl
  i5 := by kernel_rfl
  i9 := by kernel_rfl
  i46 := by kernel_rfl
  i53 := by kernel_rfl
  i212 := by kernel_rfl
  m17 := by kernel_rfl }
open Go.Lib in
theorem Tryz.internal_strconv_numDigits (u : Nat) (h1 : 1 ≤ u) (h2 : u < 18446744073709551616) (w : World) (htab : Lib.TabIs Tryz.prog w "internal/strconv.uint64pow10" .u64 Lib.pow10Tab) :
    Calls Tryz.prog 153 #[.int .u64 u] w fun e w' => e = .returned (.int .i64 (Lib.nDigits u)) ∧ w' = w := Any.internal_strconv_numDigits Tryz.laysM284 u h1 h2 w htab
def Tryz.lays285_ren : Go.Shelf.Ren := ⟨fun | 285 => 154 | n => n, fun | 37 => 70 | 53 => 24 | 3 => 3 | 4 => 4 | 51 => 25 | 9 => 9 | 5 => 5 | 0 => 0 | n => n, fun | n => n⟩
theorem Tryz.lays285 : Go.Proofs.Lays.n285 Tryz.prog Tryz.lays285_ren := {
  mixed := by kernel_rfl
  f285 := Tryz.func154.trans (congrArg some (by kernel_rfl))
  t0 := Tryz.underlying0
  a0 := Tryz.isAgg0
  z0 := Tryz.sizeOf0
  v0 := Tryz.zeroValue0
  t3 := Tryz.underlying3
  a3 := Tryz.isAgg3
  z3 := Tryz.sizeOf3
  v3 := Tryz.zeroValue3
  t4 := Tryz.underlying4
  a4 := Tryz.isAgg4
  z4 := Tryz.sizeOf4
  v4 := Tryz.zeroValue4
  t5 := Tryz.underlying5
  a5 := Tryz.isAgg5
  z5 := Tryz.sizeOf5
  v5 := Tryz.zeroValue5
  t9 := Tryz.underlying9
  a9 := Tryz.isAgg9
  z9 := Tryz.sizeOf9
  v9 := Tryz.zeroValue9
  t37 := Tryz.underlying70
  a37 := Tryz.isAgg70
  z37 := Tryz.sizeOf70
  v37 := Tryz.zeroValue70
  t51 := Tryz.underlying25
  a51 := Tryz.isAgg25
  z51 := Tryz.sizeOf25
  v51 := Tryz.zeroValue25
  t53 := Tryz.underlying24
  a53 := Tryz.isAgg24
  z53 := Tryz.sizeOf24
  v53 := Tryz.zeroValue24 }
open Go.RowKit Go.Sort Go.Lib in
theorem Tryz.internal_strconv_formatBase10 (blk off cap : Nat) (u : Nat) (d : Array UInt8) (w : World) (hH : Holds (fun (b : UInt8) => Value.int .u8 (b.toNat : Int)) w blk off d) (hu : u < 10 ^ d.size) (hu64 : u < 18446744073709551616) (hsz : d.size < 4611686018427387904) :
    Calls Tryz.prog 154 #[.slice (some ⟨blk, off, none⟩) d.size cap, .int .u64 u] w fun e w' =>
      e = .returned (.tuple #[]) ∧ ∃ (n v' : Nat) (dk : Array UInt8), w' = (putRow (fun (b : UInt8) => Value.int .u8 (b.toNat : Int)) w blk off dk).drewN n ∧ FmtInv d.size u 0 v' dk := Any.internal_strconv_formatBase10 Tryz.lays285 blk off cap u d w hH hu hu64 hsz
def Tryz.laysPu14_ren : Go.Shelf.Ren := ⟨fun | 14 => 113 | 16 => 139 | 17 => 140 | 19 => 165 | 20 => 166 | 21 => 167 | 22 => 168 | 23 => 169 | 24 => 170 | 25 => 193 | 27 => 195 | 26 => 194 | 28 => 217 | 29 => 246 | 30 => 152 | 31 => 153 | 32 => 154 | 33 => 155 | 35 => 188 | 34 => 187 | 36 => 189 | 37 => 190 | 38 => 191 | 39 => 215 | 40 => 216 | n => n, fun | 9 => 9 | 3 => 3 | 22 => 24 | 24 => 42 | 25 => 153 | 4 => 4 | 34 => 218 | 5 => 5 | 36 => 136 | 37 => 70 | 0 => 0 | 39 => 220 | 21 => 21 | 44 => 252 | 47 => 189 | 50 => 273 | 48 => 271 | 2 => 2 | 52 => 209 | 55 => 212 | 59 => 241 | 60 => 25 | 20 => 20 | 61 => 242 | 65 => 288 | 66 => 289 | 67 => 86 | n => n, fun | 0 => 5 | 1 => 6 | 2 => 2 | 3 => 7 | 4 => 8 | n => n⟩
theorem Tryz.laysPu14 : Go.Proofs.LaysPu.n14 Tryz.prog Tryz.laysPu14_ren := {
  mixed := by kernel_rfl
  f14 := Tryz.func113.trans (congrArg some (by kernel_rfl))
  f16 := Tryz.func139.trans (congrArg some (by kernel_rfl))
  f17 := Tryz.func140.trans (congrArg some (by kernel_rfl))
  f19 := Tryz.func165.trans (congrArg some (by kernel_rfl))
  f20 := Tryz.func166.trans (congrArg some (by kernel_rfl))
  f21 := Tryz.func167.trans (congrArg some (by kernel_rfl))
  f22 := Tryz.func168.trans (congrArg some (by kernel_rfl))
  f23 := Tryz.func169.trans (congrArg some (by kernel_rfl))
  f24 := Tryz.func170.trans (congrArg some (by kernel_rfl))
  f25 := Tryz.func193.trans (congrArg some (by kernel_rfl))
  f26 := Tryz.func194.trans (congrArg some (by kernel_rfl))
  f27 := Tryz.func195.trans (congrArg some (by kernel_rfl))
  f28 := Tryz.func217.trans (congrArg some (by kernel_rfl))
  f29 := Tryz.func246.trans (congrArg some (by kernel_rfl))
  f30 := Tryz.func152.trans (congrArg some (by kernel_rfl))
  f31 := Tryz.func153.trans (congrArg some (by kernel_rfl))
  f32 := Tryz.func154.trans (congrArg some (by kernel_rfl))
  f33 := Tryz.func155.trans (congrArg some (by kernel_rfl))
  f34 := Tryz.func187.trans (congrArg some (by kernel_rfl))
  f35 := Tryz.func188.trans (congrArg some (by kernel_rfl))
  f36 := Tryz.func189.trans (congrArg some (by kernel_rfl))
  f37 := Tryz.func190.trans (congrArg some (by kernel_rfl))
  f38 := Tryz.func191.trans (congrArg some (by kernel_rfl))
  f39 := Tryz.func215.trans (congrArg some (by kernel_rfl))
  f40 := Tryz.func216.trans (congrArg some (by kernel_rfl))
  t0 := Tryz.underlying0
  a0 := Tryz.isAgg0
  z0 := Tryz.sizeOf0
  v0 := Tryz.zeroValue0
  i0 := by kernel_rfl
  t2 := Tryz.underlying2
  a2 := Tryz.isAgg2
  z2 := Tryz.sizeOf2
  v2 := Tryz.zeroValue2
  i2 := by kernel_rfl
  t3 := Tryz.underlying3
  a3 := Tryz.isAgg3
  z3 := Tryz.sizeOf3
  v3 := Tryz.zeroValue3
  i3 := by kernel_rfl
  t4 := Tryz.underlying4
  a4 := Tryz.isAgg4
  z4 := Tryz.sizeOf4
  v4 := Tryz.zeroValue4
  i4 := by kernel_rfl
  t5 := Tryz.underlying5
  a5 := Tryz.isAgg5
  z5 := Tryz.sizeOf5
  v5 := Tryz.zeroValue5
  i5 := by kernel_rfl
  t9 := Tryz.underlying9
  a9 := Tryz.isAgg9
  z9 := Tryz.sizeOf9
  v9 := Tryz.zeroValue9
  i9 := by kernel_rfl
  t20 := Tryz.underlying20
  a20 := Tryz.isAgg20
  z20 := Tryz.sizeOf20
  v20 := Tryz.zeroValue20
  i20 := by kernel_rfl
  t21 := Tryz.underlying21
  a21 := Tryz.isAgg21
  z21 := Tryz.sizeOf21
  v21 := Tryz.zeroValue21
  i21 := by kernel_rfl
  t22 := Tryz.underlying24
  a22 := Tryz.isAgg24
  z22 := Tryz.sizeOf24
  v22 := Tryz.zeroValue24
  i22 := by kernel_rfl
  t24 := Tryz.underlying42
  a24 := Tryz.isAgg42
  z24 := Tryz.sizeOf42
  v24 := Tryz.zeroValue42
  i24 := by kernel_rfl
  t25 := Tryz.underlying153
  a25 := Tryz.isAgg153
  z25 := Tryz.sizeOf153
  v25 := Tryz.zeroValue153
  i25 := by kernel_rfl
  t34 := Tryz.underlying218
  a34 := Tryz.isAgg218
  z34 := Tryz.sizeOf218
  v34 := Tryz.zeroValue218
  i34 := by kernel_rfl
  c34 := by kernel_rfl
  t36 := Tryz.underlying136
  a36 := Tryz.isAgg136
  z36 := Tryz.sizeOf136
  v36 := Tryz.zeroValue136
  i36 := by kernel_rfl
  t37 := Tryz.underlying70
  a37 := Tryz.isAgg70
  z37 := Tryz.sizeOf70
  v37 := Tryz.zeroValue70
  i37 := by kernel_rfl
  t39 := Tryz.underlying220
  a39 := Tryz.isAgg220
  z39 := Tryz.sizeOf220
  v39 := Tryz.zeroValue220
  i39 := by kernel_rfl
  t44 := Tryz.underlying252
  a44 := Tryz.isAgg252
  z44 := Tryz.sizeOf252
  v44 := Tryz.zeroValue252
  i44 := by kernel_rfl
  t47 := Tryz.underlying189
  a47 := Tryz.isAgg189
  z47 := Tryz.sizeOf189
  v47 := Tryz.zeroValue189
  i47 := by kernel_rfl
  t48 := Tryz.underlying271
  a48 := Tryz.isAgg271
  z48 := Tryz.sizeOf271
  v48 := Tryz.zeroValue271
  i48 := by kernel_rfl
  t50 := Tryz.underlying273
  a50 := Tryz.isAgg273
  z50 := Tryz.sizeOf273
  v50 := Tryz.zeroValue273
  i50 := by kernel_rfl
  t52 := Tryz.underlying209
  a52 := Tryz.isAgg209
  z52 := Tryz.sizeOf209
  v52 := Tryz.zeroValue209
  i52 := by kernel_rfl
  t55 := Tryz.underlying212
  a55 := Tryz.isAgg212
  z55 := Tryz.sizeOf212
  v55 := Tryz.zeroValue212
  i55 := by kernel_rfl
  t59 := Tryz.underlying241
  a59 := Tryz.isAgg241
  z59 := Tryz.sizeOf241
  v59 := Tryz.zeroValue241
  i59 := by kernel_rfl
  t60 := Tryz.underlying25
  a60 := Tryz.isAgg25
  z60 := Tryz.sizeOf25
  v60 := Tryz.zeroValue25
  i60 := by kernel_rfl
  t61 := Tryz.underlying242
  a61 := Tryz.isAgg242
  z61 := Tryz.sizeOf242
  t65 := Tryz.underlying288
  a65 := Tryz.isAgg288
  z65 := Tryz.sizeOf288
  v65 := Tryz.zeroValue288
  i65 := by kernel_rfl
  t66 := Tryz.underlying289
  a66 := Tryz.isAgg289
  z66 := Tryz.sizeOf289
  v66 := Tryz.zeroValue289
  i66 := by kernel_rfl
  t67 := Tryz.underlying86
  a67 := Tryz.isAgg86
  z67 := Tryz.sizeOf86
  v67 := Tryz.zeroValue86
  i67 := by kernel_rfl
  g0 := by kernel_rfl
  m0 := by kernel_rfl
  g1 := by kernel_rfl
  m1 := by kernel_rfl
  g2 := by kernel_rfl
  m2 := by kernel_rfl
  g3 := by kernel_rfl
  m3 := by kernel_rfl
  g4 := by kernel_rfl
  m4 := by kernel_rfl }
open Go.RowKit in
theorem Tryz.strconv_ParseUint_10_at64_ok (s : ByteArray) (hmax : s.size ≤ 9223372036854775806) (u : Nat) (h : Lib.parseUintB 64 s.data.toList = .ok u) (w : World) :
    Calls Tryz.prog 113 #[.string s, .int .i64 10, .int .i64 64] w fun e w' => e = .returned (.tuple #[.int .u64 u, .nilIface]) ∧ (w' = w ∨ w' = Lib.bytesWorld w 5 s) := Any.strconv_ParseUint_10_at64_ok Tryz.laysPu14 s hmax u h w
def Tryz.lays145_ren : Go.Shelf.Ren := ⟨fun | 145 => 147 | 220 => 179 | 219 => 129 | 217 => 138 | 225 => 161 | 224 => 162 | 267 => 163 | 266 => 164 | 314 => 192 | n => n, fun | 9 => 9 | 4 => 4 | 59 => 202 | 3 => 3 | 5 => 5 | 46 => 136 | 146 => 249 | 51 => 25 | n => n, fun | 1 => 1 | n => n⟩
theorem Tryz.lays145 : Go.Proofs.Lays.n145 Tryz.prog Tryz.lays145_ren := {
  mixed := by kernel_rfl
  f145 := Tryz.func147.trans (congrArg some (by kernel_rfl))
  f217 := Tryz.func138.trans (congrArg some (by kernel_rfl))
  f219 := Tryz.func129.trans (congrArg some (by kernel_rfl))
  f220 := Tryz.func179.trans (congrArg some (by kernel_rfl))
  f224 := Tryz.func162.trans (congrArg some (by kernel_rfl))
  f225 := Tryz.func161.trans (congrArg some (by kernel_rfl))
  f266 := Tryz.func164.trans (congrArg some (by kernel_rfl))
  f267 := Tryz.func163.trans (congrArg some (by kernel_rfl))
  f314 := Tryz.func192.trans (congrArg some (by kernel_rfl))
  t3 := Tryz.underlying3
  a3 := Tryz.isAgg3
  z3 := Tryz.sizeOf3
  v3 := Tryz.zeroValue3
  t4 := Tryz.underlying4
  a4 := Tryz.isAgg4
  z4 := Tryz.sizeOf4
  v4 := Tryz.zeroValue4
  t5 := Tryz.underlying5
  a5 := Tryz.isAgg5
  z5 := Tryz.sizeOf5
  v5 := Tryz.zeroValue5
  t9 := Tryz.underlying9
  a9 := Tryz.isAgg9
  z9 := Tryz.sizeOf9
  v9 := Tryz.zeroValue9
  t46 := Tryz.underlying136
  a46 := Tryz.isAgg136
  z46 := Tryz.sizeOf136
  v46 := Tryz.zeroValue136
  t51 := Tryz.underlying25
  a51 := Tryz.isAgg25
  z51 := Tryz.sizeOf25
  v51 := Tryz.zeroValue25
  t59 := Tryz.underlying202
  a59 := Tryz.isAgg202
  z59 := Tryz.sizeOf202
  v59 := Tryz.zeroValue202
  t146 := Tryz.underlying249
  a146 := Tryz.isAgg249
  z146 := Tryz.sizeOf249
  v146 := Tryz.zeroValue249
  g1 := by kernel_rfl }
open Go.RowKit Go.Lib in
theorem Tryz.strings_Cut (s sep : ByteArray) (m : Int) (w : World) (hs : s.size < 4294967281) (hm : w.cell? ⟨1, 0, none⟩ = some (.int .i64 m)) :
    Calls Tryz.prog 147 #[.string s, .string sep] w fun e w' => e = .returned (.tuple #[.string ⟨(Lib.cut s.data.toList sep.data.toList).1.toArray⟩, .string ⟨(Lib.cut s.data.toList sep.data.toList).2.1.toArray⟩, .bool (Lib.cut s.data.toList sep.data.toList).2.2]) ∧ ∃ n, w' = w.drewN n := Any.strings_Cut Tryz.lays145 s sep m w hs hm
def Tryz.lays146_ren : Go.Shelf.Ren := ⟨fun | 146 => 75 | 221 => 111 | 268 => 137 | 138 => 125 | 143 => 97 | 195 => 156 | 197 => 126 | 218 => 157 | 219 => 129 | 260 => 158 | 217 => 138 | 225 => 161 | 224 => 162 | 267 => 163 | 266 => 164 | 314 => 192 | n => n, fun | 9 => 9 | 31 => 73 | 3 => 3 | 4 => 4 | 0 => 0 | 105 => 187 | 21 => 21 | 5 => 5 | 46 => 136 | 119 => 245 | 139 => 248 | 138 => 247 | 146 => 249 | 51 => 25 | n => n, fun | 1 => 1 | 3 => 3 | 4 => 4 | n => n⟩
theorem Tryz.lays146 : Go.Proofs.Lays.n146 Tryz.prog Tryz.lays146_ren := {
  mixed := by kernel_rfl
  f138 := Tryz.func125.trans (congrArg some (by kernel_rfl))
  f143 := Tryz.func97.trans (congrArg some (by kernel_rfl))
  f146 := Tryz.func75.trans (congrArg some (by kernel_rfl))
  f195 := Tryz.func156.trans (congrArg some (by kernel_rfl))
  f197 := Tryz.func126.trans (congrArg some (by kernel_rfl))
  f217 := Tryz.func138.trans (congrArg some (by kernel_rfl))
  f218 := Tryz.func157.trans (congrArg some (by kernel_rfl))
  f219 := Tryz.func129.trans (congrArg some (by kernel_rfl))
  f221 := Tryz.func111.trans (congrArg some (by kernel_rfl))
  f224 := Tryz.func162.trans (congrArg some (by kernel_rfl))
  f225 := Tryz.func161.trans (congrArg some (by kernel_rfl))
  f260 := Tryz.func158.trans (congrArg some (by kernel_rfl))
  f266 := Tryz.func164.trans (congrArg some (by kernel_rfl))
  f267 := Tryz.func163.trans (congrArg some (by kernel_rfl))
  f268 := Tryz.func137.trans (congrArg some (by kernel_rfl))
  f314 := Tryz.func192.trans (congrArg some (by kernel_rfl))
  t0 := Tryz.underlying0
  a0 := Tryz.isAgg0
  z0 := Tryz.sizeOf0
  v0 := Tryz.zeroValue0
  t3 := Tryz.underlying3
  a3 := Tryz.isAgg3
  z3 := Tryz.sizeOf3
  v3 := Tryz.zeroValue3
  t4 := Tryz.underlying4
  a4 := Tryz.isAgg4
  z4 := Tryz.sizeOf4
  v4 := Tryz.zeroValue4
  t5 := Tryz.underlying5
  a5 := Tryz.isAgg5
  z5 := Tryz.sizeOf5
  v5 := Tryz.zeroValue5
  t9 := Tryz.underlying9
  a9 := Tryz.isAgg9
  z9 := Tryz.sizeOf9
  v9 := Tryz.zeroValue9
  t21 := Tryz.underlying21
  a21 := Tryz.isAgg21
  z21 := Tryz.sizeOf21
  v21 := Tryz.zeroValue21
  t31 := Tryz.underlying73
  a31 := Tryz.isAgg73
  z31 := Tryz.sizeOf73
  v31 := Tryz.zeroValue73
  t46 := Tryz.underlying136
  a46 := Tryz.isAgg136
  z46 := Tryz.sizeOf136
  v46 := Tryz.zeroValue136
  t51 := Tryz.underlying25
  a51 := Tryz.isAgg25
  z51 := Tryz.sizeOf25
  v51 := Tryz.zeroValue25
  t105 := Tryz.underlying187
  a105 := Tryz.isAgg187
  z105 := Tryz.sizeOf187
  v105 := Tryz.zeroValue187
  t119 := Tryz.underlying245
  a119 := Tryz.isAgg245
  z119 := Tryz.sizeOf245
  t138 := Tryz.underlying247
  a138 := Tryz.isAgg247
  z138 := Tryz.sizeOf247
  v138 := Tryz.zeroValue247
  t139 := Tryz.underlying248
  a139 := Tryz.isAgg248
  z139 := Tryz.sizeOf248
  v139 := Tryz.zeroValue248
  t146 := Tryz.underlying249
  a146 := Tryz.isAgg249
  z146 := Tryz.sizeOf249
  v146 := Tryz.zeroValue249
  g1 := by kernel_rfl
  g3 := by kernel_rfl
  g4 := by kernel_rfl }
open Go.RowKit Go.Lib in
theorem Tryz.strings_Split (s sep : ByteArray) (m : Int) (w : World) (hs : s.size < 4294967281) (hm : w.cell? ⟨1, 0, none⟩ = some (.int .i64 m)) (h1 : 1 ≤ sep.size) :
    Calls Tryz.prog 75 #[.string s, .string sep] w fun e w' =>
      e = .returned (.slice (some ⟨w.heap.size, 0, none⟩) (Lib.countB s sep + 1) (Lib.countB s sep + 1)) ∧ w' = w.alloc (.cells ((Lib.splitB sep 0 (Lib.countB s sep) s).map Value.string).toArray 9) := Any.strings_Split Tryz.lays146 (by kernel_rfl) s sep m w hs hm h1
def Tryz.lays105_ren : Go.Shelf.Ren := ⟨fun | 105 => 244 | 212 => 256 | 99 => 257 | 165 => 94 | 166 => 95 | 170 => 177 | 169 => 96 | 263 => 265 | 264 => 266 | 206 => 267 | 240 => 127 | 241 => 128 | 276 => 159 | 277 => 160 | n => n, fun | 9 => 9 | 3 => 3 | 4 => 4 | 20 => 20 | 0 => 0 | 46 => 136 | 109 => 298 | 5 => 5 | 72 => 142 | 76 => 144 | 51 => 25 | 146 => 249 | 53 => 24 | 148 => 313 | 70 => 140 | 37 => 70 | 75 => 42 | 127 => 189 | 164 => 100 | 80 => 86 | n => n, fun | n => n⟩
theorem Tryz.lays105 : Go.Proofs.Lays.n105 Tryz.prog Tryz.lays105_ren := {
  mixed := by kernel_rfl
  f99 := Tryz.func257.trans (congrArg some (by kernel_rfl))
  f105 := Tryz.func244.trans (congrArg some (by kernel_rfl))
  f165 := Tryz.func94.trans (congrArg some (by kernel_rfl))
  f166 := Tryz.func95.trans (congrArg some (by kernel_rfl))
  f169 := Tryz.func96.trans (congrArg some (by kernel_rfl))
  f170 := Tryz.func177.trans (congrArg some (by kernel_rfl))
  f206 := Tryz.func267.trans (congrArg some (by kernel_rfl))
  f212 := Tryz.func256.trans (congrArg some (by kernel_rfl))
  f240 := Tryz.func127.trans (congrArg some (by kernel_rfl))
  f241 := Tryz.func128.trans (congrArg some (by kernel_rfl))
  f263 := Tryz.func265.trans (congrArg some (by kernel_rfl))
  f264 := Tryz.func266.trans (congrArg some (by kernel_rfl))
  f276 := Tryz.func159.trans (congrArg some (by kernel_rfl))
  f277 := Tryz.func160.trans (congrArg some (by kernel_rfl))
  t0 := Tryz.underlying0
  a0 := Tryz.isAgg0
  z0 := Tryz.sizeOf0
  v0 := Tryz.zeroValue0
  t3 := Tryz.underlying3
  a3 := Tryz.isAgg3
  z3 := Tryz.sizeOf3
  v3 := Tryz.zeroValue3
  t4 := Tryz.underlying4
  a4 := Tryz.isAgg4
  z4 := Tryz.sizeOf4
  v4 := Tryz.zeroValue4
  t5 := Tryz.underlying5
  a5 := Tryz.isAgg5
  z5 := Tryz.sizeOf5
  v5 := Tryz.zeroValue5
  t9 := Tryz.underlying9
  a9 := Tryz.isAgg9
  z9 := Tryz.sizeOf9
  v9 := Tryz.zeroValue9
  t20 := Tryz.underlying20
  a20 := Tryz.isAgg20
  z20 := Tryz.sizeOf20
  v20 := Tryz.zeroValue20
  t37 := Tryz.underlying70
  a37 := Tryz.isAgg70
  z37 := Tryz.sizeOf70
  v37 := Tryz.zeroValue70
  t46 := Tryz.underlying136
  a46 := Tryz.isAgg136
  z46 := Tryz.sizeOf136
  v46 := Tryz.zeroValue136
  t51 := Tryz.underlying25
  a51 := Tryz.isAgg25
  z51 := Tryz.sizeOf25
  v51 := Tryz.zeroValue25
  t53 := Tryz.underlying24
  a53 := Tryz.isAgg24
  z53 := Tryz.sizeOf24
  v53 := Tryz.zeroValue24
  t70 := Tryz.underlying140
  a70 := Tryz.isAgg140
  z70 := Tryz.sizeOf140
  v70 := Tryz.zeroValue140
  t72 := Tryz.underlying142
  a72 := Tryz.isAgg142
  z72 := Tryz.sizeOf142
  v72 := Tryz.zeroValue142
  t75 := Tryz.underlying42
  a75 := Tryz.isAgg42
  z75 := Tryz.sizeOf42
  v75 := Tryz.zeroValue42
  t76 := Tryz.underlying144
  a76 := Tryz.isAgg144
  z76 := Tryz.sizeOf144
  v76 := Tryz.zeroValue144
  t109 := Tryz.underlying298
  a109 := Tryz.isAgg298
  z109 := Tryz.sizeOf298
  v109 := Tryz.zeroValue298
  t127 := Tryz.underlying189
  a127 := Tryz.isAgg189
  z127 := Tryz.sizeOf189
  v127 := Tryz.zeroValue189
  t146 := Tryz.underlying249
  a146 := Tryz.isAgg249
  z146 := Tryz.sizeOf249
  v146 := Tryz.zeroValue249
  t148 := Tryz.underlying313
  a148 := Tryz.isAgg313
  z148 := Tryz.sizeOf313
  v148 := Tryz.zeroValue313
  t164 := Tryz.underlying100
  a164 := Tryz.isAgg100
  z164 := Tryz.sizeOf100
  v164 := Tryz.zeroValue100 }
theorem Tryz.Builder_Extra_105 : Builder.Extra Tryz.prog Tryz.lays105_ren := {
  sizeBuilder := by kernel_rfl
  liesBuilder := by kernel_rfl
  t5 := Tryz.underlying5
  a5 := Tryz.isAgg5
  z5 := Tryz.sizeOf5
  v5 := Tryz.zeroValue5
  infoByte := by kernel_rfl
  cellsByte := by kernel_rfl
  sizeByte := by kernel_rfl
  neB5 := by decide }
open Go.RowKit Go.Lib in
theorem Tryz.strings_Repeat (s : ByteArray) (c : Nat) (w : World) (hc : c ≤ 9223372036854775807) (hlen : s.size * c ≤ 140737488355328) :
    Calls Tryz.prog 244 #[.string s, .int .i64 c] w fun e w' => e = .returned (.string ⟨(Lib.repeatL s.data.toList c).toArray⟩) ∧ Below w.heap.size w w' := Any.strings_Repeat Tryz.lays105 Tryz.Builder_Extra_105 s c w hc hlen
end Go.Proofs

namespace Go.Proofs.YtcoeigibikbfdaaGreatDoor.Abs
open Go.Proofs
open Go.Shelf Go.RowKit Go.Sort Go.Lib
theorem fu_holds_zero (w : World) (T : TypeId) (nd : Nat) (hs : nd ≤ 24) : Holds (fun (b : UInt8) => Value.int .u8 (b.toNat : Int)) (w.alloc (.cells zeros24 T)) w.heap.size 0 (Array.replicate nd (0 : UInt8)) := fun j hj => by
  have hj' : j < nd := by simpa using hj
  refine ⟨?_, World.frozen?_alloc_new _ _ _ _⟩
  rw [World.cell?_alloc_new, zeros24_at _ (by omega), getElem!_pos _ j hj]
  simp
theorem fu_fin (w : World) (o : Obj) (dk : Array UInt8) (k : Nat) : ∃ os, (putRow (fun (b : UInt8) => Value.int .u8 (b.toNat : Int)) (w.alloc o) w.heap.size 0 dk).drewN k = grow (w.drewN k) os := by
  rw [alloc_eq_grow]
  obtain ⟨os', _, e⟩ := putRow_grow_new (fun (b : UInt8) => Value.int .u8 (b.toNat : Int)) w #[o] w.heap.size 0 dk (Nat.le_refl _)
  exact ⟨os', by rw [e]; rfl⟩
set_option maxHeartbeats 6400000 in
set_option maxRecDepth 100000 in
theorem fu_internal (u : Nat) (hu64 : u < 18446744073709551616) (w : World) (htab : Lib.TabIs Tryz.prog w "internal/strconv.uint64pow10" .u64 Lib.pow10Tab) :
    Calls Tryz.prog 124 #[.int .u64 u, .int .i64 10] w fun e w' => e = .returned (.string ⟨(Lib.decDigits u).toArray⟩) ∧ ∃ k os, w' = grow (w.drewN k) os := by
  have mixed : Tryz.prog.follows .mixedOrders = true := by kernel_rfl
  have e171 : ∀ args w, (callFunc 152 args).run Tryz.prog w = .ok (.enter 152 args) w := enters_of (fn := Tryz.f152) (by kernel_rfl) (by kernel_rfl) rfl
  have e172 : ∀ args w, (callFunc 153 args).run Tryz.prog w = .ok (.enter 153 args) w := enters_of (fn := Tryz.f153) (by kernel_rfl) (by kernel_rfl) rfl
  have e173 : ∀ args w, (callFunc 154 args).run Tryz.prog w = .ok (.enter 154 args) w := enters_of (fn := Tryz.f154) (by kernel_rfl) (by kernel_rfl) rfl
  have hf : Tryz.prog.funcs[124]? = some Tryz.f124 := by kernel_rfl
  have hn : Tryz.f124.ntmps = 32 := rfl
  by_cases hs : u < 100
  · go_enter hf, hn
    go_wp2_with (go_at_fn 152; refine (Tryz.internal_strconv_small u hs _).mono ?_; rintro e w' ⟨rfl, rfl⟩)
    go_ret
    exact ⟨rfl, 0, #[], by simp [World.drewN_zero]⟩
  · have hu1 : 1 ≤ u := by omega
    have hnd20 : Lib.nDigits u ≤ 20 := by have := Lib.numDigits_eq u hu1 hu64; split at this <;> omega
    have hb3 : Lib.nDigits u ≤ 24 := by omega
    have hal : Tryz.prog.arrayLen 209 = 24 := by simp [Program.arrayLen, Tryz.underlying209]
    have hsl1 : ∀ W, (Instr.sliceAt 209 (.pointer (some ⟨w.heap.size, 0, none⟩)) none (some (.int .i64 (Lib.nDigits u : Int))) none).run Tryz.prog W = .ok (.slice (some ⟨w.heap.size, 0, none⟩) (Lib.nDigits u) 24) W := fun W => by
      rw [run_sliceAt_array_h W 209 ⟨w.heap.size, 0, none⟩ (by simp [Program.arrayLen, Program.elem, Tryz.underlying209]) .i64 (Lib.nDigits u : Int) (by omega) (by rw [hal]; omega)]
      go_simp
    have hH0 := fu_holds_zero w 209 (Lib.nDigits u) (by omega)
    have hfmt := Tryz.internal_strconv_formatBase10 w.heap.size 0 24 u (Array.replicate (Lib.nDigits u) 0) (w.alloc (.cells Lib.zeros24 209)) hH0 (by rw [Array.size_replicate]; exact Lib.lt_pow_nDigits u) hu64 (by rw [Array.size_replicate]; omega)
    rw [Array.size_replicate] at hfmt
    have HH0 := Lib.hid hH0
    clear hH0 hal
    go_enter hf, hn
    go_wp2_with (first
      | (go_at_fn 153; refine (Tryz.internal_strconv_numDigits u hu1 hu64 _ (Lib.tabIs_alloc htab _)).mono ?_; rintro e w' ⟨rfl, rfl⟩))
    go_at_fn 154
    refine hfmt.mono ?_
    rintro e w' ⟨rfl, k, v', dk, rfl, hF⟩
    have hcv : (convert 70 9 (.slice (some ⟨w.heap.size, 0, none⟩) (Lib.nDigits u) 24)).run Tryz.prog ((putRow (fun (b : UInt8) => Value.int .u8 (b.toNat : Int)) (w.alloc (.cells Lib.zeros24 209)) w.heap.size 0 dk).drewN k) = .ok (.string ⟨(Lib.decDigits u).toArray⟩) ((putRow (fun (b : UInt8) => Value.int .u8 (b.toNat : Int)) (w.alloc (.cells Lib.zeros24 209)) w.heap.size 0 dk).drewN k) := by
      have h := run_convert_bytes_back (P := Tryz.prog) ((putRow (fun (b : UInt8) => Value.int .u8 (b.toNat : Int)) (w.alloc (.cells Lib.zeros24 209)) w.heap.size 0 dk).drewN k) 70 9 5 ⟨w.heap.size, 0, none⟩ 24 (Lib.decDigits u) Tryz.underlying70 Tryz.underlying5 Tryz.underlying9 (fun j hj => by
        rw [Lib.row_is_numeral hF j hj, Lib.add_plain, World.cell?_drewN]
        exact cell?_putRow (fun (b : UInt8) => Value.int .u8 (b.toNat : Int)) _ w.heap.size 0 _ dk HH0.out (by rw [hF.size, Array.size_replicate]) j (by rw [hF.size]; rw [Lib.decDigits_length] at hj; exact hj))
      rw [Lib.decDigits_length] at h
      exact h
    go_wp2
    go_ret
    obtain ⟨os, eo⟩ := fu_fin w (.cells Lib.zeros24 209) dk k
    exact ⟨rfl, k, os, eo⟩
set_option maxRecDepth 100000 in
theorem fu_public (u : Nat) (hu64 : u < 18446744073709551616) (w : World) (htab : Lib.TabIs Tryz.prog w "internal/strconv.uint64pow10" .u64 Lib.pow10Tab) :
    Calls Tryz.prog 92 #[.int .u64 u, .int .i64 10] w fun e w' => e = .returned (.string ⟨(Lib.decDigits u).toArray⟩) ∧ ∃ k os, w' = grow (w.drewN k) os := by
  have mixed : Tryz.prog.follows .mixedOrders = true := by kernel_rfl
  have e141 : ∀ args w, (callFunc 124 args).run Tryz.prog w = .ok (.enter 124 args) w := enters_of (fn := Tryz.f124) (by kernel_rfl) (by kernel_rfl) rfl
  have hf : Tryz.prog.funcs[92]? = some Tryz.f92 := by kernel_rfl
  have hn : Tryz.f92.ntmps = 8 := rfl
  go_enter hf, hn
  go_wp2_with (go_at_fn 124; refine (fu_internal u hu64 _ htab).mono ?_; rintro e w' ⟨rfl, k, os, rfl⟩)
  go_ret
  exact ⟨rfl, k, os, rfl⟩
end Go.Proofs.YtcoeigibikbfdaaGreatDoor.Abs

namespace Go.Proofs.YtcoeigibikbfdaaGreatDoor.Abs
open Go Go.Proofs Go.RowKit Go.Extern.Stop Go.Stop Go.Extern
theorem as_nil (t : Value) (w : World) :
    Calls Tryz.prog 26 #[.nilIface, t] w fun e w' => e = .returned (.bool false) ∧ w' = w := by
  go_enter Tryz.func26, Tryz.ntmps26
  go_wp2
  go_ret
  exact ⟨rfl, rfl⟩
theorem as_valueOf27 (t : Addr) (w : World) : (ReflectliteValue.unpack (.iface 53 (.pointer (some t)))).run Tryz.prog w
    = .ok (.agg #[.pointer (some ⟨14, 53, none⟩), .pointer (some ⟨w.heap.size, 0, none⟩), .int .u64 150]) (w.alloc (.cells #[.pointer (some t)] 53)) := by kernel_rfl
theorem as_type27 (a : Addr) (w : World) : (ReflectliteValue.methodAny (ReflectliteValue.valueError "reflectlite.Value.Type" 0) (fun t _ _ _ => ReflectliteType.toType t) #[.agg #[.pointer (some ⟨14, 53, none⟩), .pointer (some a), .int .u64 150]]).run Tryz.prog w
    = .ok (.iface 162 (.agg #[.pointer (some ⟨14, 53, none⟩)])) w := by kernel_rfl
theorem as_methodKind (h : Value) (w : World) : (Go.method 458 162 (.agg #[h]) "Kind").run Tryz.prog w = .ok (298, h) w := by kernel_rfl
theorem as_kind27 (w : World) : ((ReflectliteType.abiMethod fun t => (fun a : Nat => Value.int IntKind.u8 (a : Int)) <$> Rtype.kind t) #[.pointer (some ⟨14, 53, none⟩)]).run Tryz.prog w = .ok (.int .u8 22) w := by kernel_rfl
theorem as_kind25 (w : World) : ((ReflectliteType.abiMethod fun t => (fun a : Nat => Value.int IntKind.u8 (a : Int)) <$> Rtype.kind t) #[.pointer (some ⟨14, 51, none⟩)]).run Tryz.prog w = .ok (.int .u8 22) w := by kernel_rfl
theorem rlm (z : Sem Value) (f : TypeId → Addr → Nat → Nat → Sem Value) (v : Value) :
    ReflectliteValue.method z f #[v] = (do match ← ReflectliteValue.parts v with | none => z | some (t, a, fl) => f t a fl (fl % 32)) := rfl
theorem as_parts27 (a : Addr) (w : World) : (ReflectliteValue.parts (.agg #[.pointer (some ⟨14, 53, none⟩), .pointer (some a), .int .u64 150])).run Tryz.prog w = .ok (some (53, a, 150)) w := by kernel_rfl
theorem as_isNil27 (a p : Addr) (W : World) (ha : W.cell? a = some (.pointer (some p))) :
    (ReflectliteValue.method (ReflectliteValue.valueError "reflectlite.Value.IsNil" 0) ReflectliteValue.isNil #[.agg #[.pointer (some ⟨14, 53, none⟩), .pointer (some a), .int .u64 150]]).run Tryz.prog W = .ok (.bool false) W := by
  rw [rlm]
  simp only [Sem.run_bind, as_parts27, Result.andThen]
  simp [ReflectliteValue.isNil, loadVar, isAgg, underlying, Tryz.underlying53, ha, Result.andThen]
theorem as_methodElem (h : Value) (w : World) : (Go.method 458 162 (.agg #[h]) "Elem").run Tryz.prog w = .ok (312, .agg #[h]) w := by kernel_rfl
theorem as_methodImplements (h : Value) (w : World) : (Go.method 458 162 (.agg #[h]) "Implements").run Tryz.prog w = .ok (313, .agg #[h]) w := by kernel_rfl
theorem as_methodAssignableTo (h : Value) (w : World) : (Go.method 458 162 (.agg #[h]) "AssignableTo").run Tryz.prog w = .ok (310, .agg #[h]) w := by kernel_rfl
theorem as_elem27 (w : World) : (ReflectliteType.method ReflectliteType.elem #[.agg #[.pointer (some ⟨14, 53, none⟩)]]).run Tryz.prog w = .ok (.iface 162 (.agg #[.pointer (some ⟨14, 51, none⟩)])) w := by kernel_rfl
theorem as_implements25 (w : World) : (ReflectliteType.relation "Implements" ReflectliteType.implements_ #[.agg #[.pointer (some ⟨14, 51, none⟩)], .iface 162 (.agg #[.pointer (some ⟨14, 42, none⟩)])]).run Tryz.prog w = .ok (.bool true) w := by kernel_rfl
theorem as_typeOf25 (v : Value) (w : World) : (ReflectliteType.typeOf #[.iface 51 v]).run Tryz.prog w = .ok (.iface 162 (.agg #[.pointer (some ⟨14, 51, none⟩)])) w := by kernel_rfl
theorem as_assignable25 (w : World) : (ReflectliteType.relation "AssignableTo" ReflectliteType.assignableTo #[.agg #[.pointer (some ⟨14, 51, none⟩)], .iface 162 (.agg #[.pointer (some ⟨14, 51, none⟩)])]).run Tryz.prog w = .ok (.bool true) w := by kernel_rfl
theorem as_valueOf25 (e : Addr) (w : World) : (ReflectliteValue.unpack (.iface 51 (.pointer (some e)))).run Tryz.prog w
    = .ok (.agg #[.pointer (some ⟨14, 51, none⟩), .pointer (some ⟨w.heap.size, 0, none⟩), .int .u64 150]) (w.alloc (.cells #[.pointer (some e)] 51)) := by kernel_rfl
theorem as_elemOf27 (w : World) : (Rtype.elem? 53).run Tryz.prog w = .ok (some 51) w := by kernel_rfl
theorem as_mk25 (p : Addr) (w : World) : (ReflectliteValue.mk 51 p ReflectliteValue.flagAddr).run Tryz.prog w = .ok (.agg #[.pointer (some ⟨14, 51, none⟩), .pointer (some p), .int .u64 406]) w := by kernel_rfl
theorem as_elemV27 (a p : Addr) (W : World) (ha : W.cell? a = some (.pointer (some p))) :
    (ReflectliteValue.method (ReflectliteValue.valueError "reflectlite.Value.Elem" 0) ReflectliteValue.elem #[.agg #[.pointer (some ⟨14, 53, none⟩), .pointer (some a), .int .u64 150]]).run Tryz.prog W
      = .ok (.agg #[.pointer (some ⟨14, 51, none⟩), .pointer (some p), .int .u64 406]) W := by
  rw [rlm]
  simp only [Sem.run_bind, as_parts27, Result.andThen]
  simp [ReflectliteValue.elem, loadVar, isAgg, underlying, Tryz.underlying53, ha, Result.andThen, as_elemOf27, as_mk25]
theorem rls (v x : Value) : ReflectliteValue.set #[v, x] = (do
    let (some (dst, a, fl), some (src, b, _)) := (← ReflectliteValue.parts v, ← ReflectliteValue.parts x)
      | unsupported (.noEntry "extern/(internal/reflectlite.Value).Set.zeroValue")
    if fl / ReflectliteValue.flagAddr % 2 == 0 then unsupported (.noEntry "extern/(internal/reflectlite.Value).Set.unaddressable")
    let val ← loadVar src b
    if ← Rtype.directlyAssignable dst src then storeVar dst a val
    else if ← Rtype.implements dst src then
      if (← Rtype.kind src) == 20 then
        match val with
        | .nilIface => unsupported (.noEntry "extern/reflectlite: a nil value of one interface type handed on as a value of another")
        | _ => storeVar dst a val
      else storeVar dst a (.iface src val)
    else panicString ("reflectlite.Set: value of type " ++ (← Rtype.spelt src) ++ " is not assignable to type " ++ (← Rtype.spelt dst))
    pure (.tuple #[])) := rfl
theorem as_parts25a (a : Addr) (w : World) : (ReflectliteValue.parts (.agg #[.pointer (some ⟨14, 51, none⟩), .pointer (some a), .int .u64 406])).run Tryz.prog w = .ok (some (51, a, 406)) w := by kernel_rfl
theorem as_parts25 (a : Addr) (w : World) : (ReflectliteValue.parts (.agg #[.pointer (some ⟨14, 51, none⟩), .pointer (some a), .int .u64 150])).run Tryz.prog w = .ok (some (51, a, 150)) w := by kernel_rfl
theorem as_direct25 (w : World) : (Rtype.directlyAssignable 51 51).run Tryz.prog w = .ok true w := by kernel_rfl
theorem as_set25 (ta b e : Addr) (old : Value) (W : World) (hb : W.cell? b = some (.pointer (some e))) (ht : W.cell? ta = some old) (hf : W.frozen? ta = false) :
    (ReflectliteValue.set #[.agg #[.pointer (some ⟨14, 51, none⟩), .pointer (some ta), .int .u64 406], .agg #[.pointer (some ⟨14, 51, none⟩), .pointer (some b), .int .u64 150]]).run Tryz.prog W
      = .ok (.tuple #[]) (W.setCell ta (.pointer (some e))) := by
  rw [rls]
  simp only [Sem.run_bind, as_parts25a, as_parts25, Result.andThen]
  simp [ReflectliteValue.flagAddr, loadVar, isAgg, underlying, Tryz.underlying51, hb, Result.andThen, as_direct25, storeVar, Value.cells, storeCells, Addr.add]
  rw [run_store Tryz.prog W ta _ _ (by rfl)]
  simp [ht, hf]
set_option maxHeartbeats 4000000 in
theorem as_hit (e t : Addr) (old : Value) (w : World) (hg : w.cell? ⟨0, 0, none⟩ = some (.iface 162 (.agg #[.pointer (some ⟨14, 42, none⟩)]))) (ht0 : w.cell? t = some old) (hf0 : w.frozen? t = false) :
    Calls Tryz.prog 26 #[.iface 51 (.pointer (some e)), .iface 53 (.pointer (some t))] w fun ev w' => ev = .returned (.bool true) ∧ w' = ((((w.alloc (.cells #[.pointer (some t)] 53)).alloc (.cells #[.pointer (some ⟨14, 53, none⟩), .pointer (some ⟨w.heap.size, 0, none⟩), .int .u64 150] 103)).alloc (.cells #[.pointer (some ⟨14, 53, none⟩), .pointer (some ⟨w.heap.size, 0, none⟩), .int .u64 150] 103)).alloc (.cells #[.pointer (some e)] 51)).setCell t (.pointer (some e)) := by
  have h6 := @run_callFunc_extern Tryz.prog 69 _ (fun args => ReflectliteValue.unpack (args.getD 0 (.tuple #[]))) Tryz.func69 (by kernel_rfl) (by kernel_rfl) (by kernel_rfl) (by kernel_rfl)
  have h7 := @run_callFunc_extern Tryz.prog 70 _ (ReflectliteValue.methodAny (ReflectliteValue.valueError "reflectlite.Value.Type" 0) (fun t _ _ _ => ReflectliteType.toType t)) Tryz.func70 (by kernel_rfl) (by kernel_rfl) (by kernel_rfl) (by kernel_rfl)
  have h8 := @run_callFunc_extern Tryz.prog 71 _ (ReflectliteValue.method (ReflectliteValue.valueError "reflectlite.Value.IsNil" 0) ReflectliteValue.isNil) Tryz.func71 (by kernel_rfl) (by kernel_rfl) (by kernel_rfl) (by kernel_rfl)
  have h27 := @run_callFunc_extern Tryz.prog 298 _ (ReflectliteType.abiMethod fun t => do pure (.int .u8 (← Rtype.kind t))) Tryz.func298 (by kernel_rfl) (by kernel_rfl) (by kernel_rfl) (by kernel_rfl)
  have h37 := @run_callFunc_extern Tryz.prog 312 _ (ReflectliteType.method ReflectliteType.elem) Tryz.func312 (by kernel_rfl) (by kernel_rfl) (by kernel_rfl) (by kernel_rfl)
  have h38 := @run_callFunc_extern Tryz.prog 313 _ (ReflectliteType.relation "Implements" ReflectliteType.implements_) Tryz.func313 (by kernel_rfl) (by kernel_rfl) (by kernel_rfl) (by kernel_rfl)
  have h10 := @run_callFunc_extern Tryz.prog 73 _ ReflectliteType.typeOf Tryz.func73 (by kernel_rfl) (by kernel_rfl) (by kernel_rfl) (by kernel_rfl)
  have h35 := @run_callFunc_extern Tryz.prog 310 _ (ReflectliteType.relation "AssignableTo" ReflectliteType.assignableTo) Tryz.func310 (by kernel_rfl) (by kernel_rfl) (by kernel_rfl) (by kernel_rfl)
  have h11 := @run_callFunc_extern Tryz.prog 109 _ (ReflectliteValue.method (ReflectliteValue.valueError "reflectlite.Value.Elem" 0) ReflectliteValue.elem) Tryz.func109 (by kernel_rfl) (by kernel_rfl) (by kernel_rfl) (by kernel_rfl)
  have h12 := @run_callFunc_extern Tryz.prog 110 _ ReflectliteValue.set Tryz.func110 (by kernel_rfl) (by kernel_rfl) (by kernel_rfl) (by kernel_rfl)
  have tO := as_typeOf25
  have mA := as_methodAssignableTo
  have a25 := as_assignable25
  have v25 := as_valueOf25
  have f6 := as_valueOf27
  have f7 := as_type27
  have mK := as_methodKind
  have mE := as_methodElem
  have mI := as_methodImplements
  have k27 := as_kind27
  have k25 := as_kind25
  have e27 := as_elem27
  have i25 := as_implements25
  have n8 := as_isNil27 ⟨w.heap.size, 0, none⟩ t ((w.alloc (.cells #[.pointer (some t)] 53)).alloc (.cells #[.pointer (some ⟨14, 53, none⟩), .pointer (some ⟨w.heap.size, 0, none⟩), .int .u64 150] 103)) (by simp)
  have hlt : 0 < w.heap.size := by
    rcases Nat.eq_zero_or_pos w.heap.size with h0 | h
    · simp [World.cell?, h0] at hg
    · exact h
  have hg2 : ((w.alloc (.cells #[.pointer (some t)] 53)).alloc (.cells #[.pointer (some ⟨14, 53, none⟩), .pointer (some ⟨w.heap.size, 0, none⟩), .int .u64 150] 103)).cell? ⟨0, 0, none⟩ = some (.iface 162 (.agg #[.pointer (some ⟨14, 42, none⟩)])) := by
    rw [World.cell?_alloc_lt _ _ ⟨0, 0, none⟩ (by simp), World.cell?_alloc_lt _ _ ⟨0, 0, none⟩ hlt]; exact hg
  have htl : t.block < w.heap.size := by
    rcases Nat.lt_or_ge t.block w.heap.size with h | h
    · exact h
    · simp [World.cell?, Array.getElem?_eq_none h] at ht0
  have el := as_elemV27 ⟨w.heap.size, 0, none⟩ t (((w.alloc (.cells #[.pointer (some t)] 53)).alloc (.cells #[.pointer (some ⟨14, 53, none⟩), .pointer (some ⟨w.heap.size, 0, none⟩), .int .u64 150] 103)).alloc (.cells #[.pointer (some ⟨14, 53, none⟩), .pointer (some ⟨w.heap.size, 0, none⟩), .int .u64 150] 103)) (by rw [World.cell?_alloc_lt _ _ ⟨w.heap.size, 0, none⟩ (by simp; omega)]; simp)
  have st := as_set25 t ⟨w.heap.size + 1 + 1 + 1, 0, none⟩ e old ((((w.alloc (.cells #[.pointer (some t)] 53)).alloc (.cells #[.pointer (some ⟨14, 53, none⟩), .pointer (some ⟨w.heap.size, 0, none⟩), .int .u64 150] 103)).alloc (.cells #[.pointer (some ⟨14, 53, none⟩), .pointer (some ⟨w.heap.size, 0, none⟩), .int .u64 150] 103)).alloc (.cells #[.pointer (some e)] 51))
    (by rw [World.cell?_alloc_at _ _ _ _ (by simp)]; rfl)
    (by rw [World.cell?_alloc_lt _ _ t (by simp; omega), World.cell?_alloc_lt _ _ t (by simp; omega), World.cell?_alloc_lt _ _ t (by simp; omega), World.cell?_alloc_lt _ _ t htl]; exact ht0)
    (by rw [World.frozen?_alloc_old _ _ t (by simp; omega), World.frozen?_alloc_old _ _ t (by simp; omega), World.frozen?_alloc_old _ _ t (by simp; omega), World.frozen?_alloc_old _ _ t (Nat.ne_of_lt htl)]; exact hf0)
  go_enter Tryz.func26, Tryz.ntmps26
  go_wp2
  refine wp_loop_rounds 1 ?_
  rw [rounds_succ]
  go_wp2
  go_ret
  exact ⟨rfl, rfl⟩
end Go.Proofs.YtcoeigibikbfdaaGreatDoor.Abs

namespace Go.Proofs.YtcoeigibikbfdaaGreatDoor.Abs
open Go Go.Proofs Go.RowKit
theorem builder_size : (Tryz.prog.info? 142).map (·.size) = some 2 := by kernel_rfl
set_option maxHeartbeats 1000000 in
set_option maxRecDepth 100000 in
theorem copyCheck_used (b : Nat) (w : World) (h0 : w.cell? ⟨b, 0, none⟩ = some (.pointer (some ⟨b, 0, none⟩))) :
    Calls Tryz.prog 127 #[.pointer (some ⟨b, 0, none⟩)] w fun e w' => e = .returned (.tuple #[]) ∧ w' = w := by
  obtain ⟨j, hj, _⟩ := Option.map_eq_some_iff.1 builder_size
  go_enter Tryz.func127, Tryz.ntmps127
  go_wp2
  rw [Lib.run_neq_ptr_same w _ Tryz.underlying140 hj]
  go_wp2
  go_end0
  exact ⟨rfl, rfl⟩
set_option maxHeartbeats 1000000 in
set_option maxRecDepth 100000 in
theorem copyCheck_fresh (b : Nat) (w : World) (h0 : w.cell? ⟨b, 0, none⟩ = some (.pointer none)) (hsh : w.shape? b = some (142, 2)) (hfz : w.frozen? ⟨b, 0, none⟩ = false) :
    Calls Tryz.prog 127 #[.pointer (some ⟨b, 0, none⟩)] w fun e w' => e = .returned (.tuple #[]) ∧ w' = w.setCell ⟨b, 0, none⟩ (.pointer (some ⟨b, 0, none⟩)) := by
  obtain ⟨j, hj, hjs⟩ := Option.map_eq_some_iff.1 builder_size
  go_enter Tryz.func127, Tryz.ntmps127
  go_wp2
  rw [Lib.run_to_unsafe w ⟨b, 0, none⟩ Tryz.underlying140 Tryz.underlying100 hj (by rw [hjs]; decide) hsh (Nat.zero_lt_succ 1)]
  simp only [Result.andThen]
  rw [Oper.upon_value]
  go_wp2
  rw [run_callFunc_extern Tryz.func159 (by kernel_rfl) (by kernel_rfl) (by kernel_rfl) (e := Extern.AbiNoEscape.same) (by kernel_rfl)]
  rw [Lib.run_noEscape]
  simp only [Result.andThen]
  rw [Oper.upon_value]
  go_wp2
  rw [Lib.run_from_unsafe w ⟨b, 0, none⟩ Tryz.underlying100 Tryz.underlying140 hj hsh (by kernel_rfl)]
  simp only [Result.andThen]
  rw [Oper.upon_value]
  go_wp2
  go_end0
  exact ⟨rfl, rfl⟩
end Go.Proofs.YtcoeigibikbfdaaGreatDoor.Abs

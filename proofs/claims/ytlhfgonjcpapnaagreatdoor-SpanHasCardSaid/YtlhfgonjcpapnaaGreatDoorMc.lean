/-
  Regions, code, calls of the abstract machine stand for the model's; contracts of library functions and rules of walking. Conditions: an environment that keeps its promises (EnvOk).
-/
import Derived.Test.YtlhfgonjcpapnaaGreatDoorMa
import Derived.Test.YtlhfgonjcpapnaaGreatDoorMb
import Derived.CallsIn
import Derived.OrdersIn
import Derived.RangeFuncIn
import Derived.RangeFuncRecord
import Derived.RangeFuncNested
import Derived.RangeFuncLeaves
import Derived.Lib.IndexMore
import Derived.Lib.Split
import Derived.Lib.Repeat
import Derived.Lib.JoinFns
import Derived.Lib.ParseIntB
import Derived.Lib.ConvBytes
import Derived.Lib.SplitLaws
import Derived.Lib.Join

set_option linter.all false
set_option linter.unnecessarySimpa false

/- A region, in the text's order or in a drawn one, does what the abstract machine says. -/
set_option linter.unusedVariables false
set_option linter.unusedSimpArgs false
namespace Go.Proofs.YtlhfgonjcpapnaaGreatDoor.Abs
open Go Go.RowKit

/-! ### calls -/
/-- what calling a function comes to, when it returns -/
def Does (P : Program) (f : FuncId) (args : Array Value) (w : World) (R : Value → World → Prop) : Prop :=
  (∃ v w', (callFunc f args).run P w = .ok (.value v) w' ∧ R v w') ∨
  ((callFunc f args).run P w = .ok (.enter f args) w ∧ Calls P f args w fun | .returned v, w' => R v w' | _, _ => False) ∨
  (∃ row as w1, (callFunc f args).run P w = .ok (.row row as) w1 ∧ Rows P row as w1 R)
theorem Does.mono {P : Program} {f : FuncId} {args : Array Value} {w : World} {R R' : Value → World → Prop} (h : Does P f args w R) (hr : ∀ v w', R v w' → R' v w') : Does P f args w R' := by
  rcases h with ⟨v, w', h1, h2⟩ | ⟨h1, h2⟩ | ⟨row, as, w1, h1, h2⟩
  · exact .inl ⟨v, w', h1, hr _ _ h2⟩
  · exact .inr (.inl ⟨h1, h2.mono fun e w' he => by cases e <;> first | exact hr _ _ he | exact he⟩)
  · exact .inr (.inr ⟨row, as, w1, h1, h2.mono hr⟩)

/-- what is known behind code that ran in a heap: of the generations below g nothing has turned -/
structure RPost (σ : Sig) (I : Blk) (base : Blk) (w : World) (g : Nat) (h' : Heap) (g' : Nat) (w' : World) (σ' : Sig) (I' : Blk) : Prop where
  heap : HRep σ' I' base w' h'
  ext : Ext base σ I w σ' I' w'
  low : ∀ k, k < g → σ' k = σ k
  high : ∀ k, g' ≤ k → σ' k = none
  grow : g ≤ g'
structure CallPost (σ : Sig) (I : Blk) (base : Blk) (w : World) (gen g : Nat) (v : AV) (h' : Heap) (g' : Nat) (u : Value) (w' : World) (σ' : Sig) (I' : Blk) : Prop where
  rep : Rep σ' I' w' v u
  heap : HRep σ' I' base w' h'
  ext : Ext base σ I w σ' I' w'
  low : ∀ k, k < g → k ≠ gen → σ' k = σ k
  high : ∀ k, g' ≤ k → σ' k = none
  grow : g ≤ g'

/-! ### rounds of a range over a function -/
def WF (r : Option Nat) : Fence := { Fence.wide with round := r }
structure Later (σ : Sig) (I : Blk) (w : World) (σ' : Sig) (I' : Blk) (w' : World) : Prop where
  sig : ∀ g x, σ g = some x → σ' g = some x
  blk : ∀ b, I b → I' b
  kp : Keep I w w'
theorem Later.refl (σ : Sig) (I : Blk) (w : World) : Later σ I w σ I w := ⟨fun _ _ h => h, fun _ h => h, Keep.refl I w⟩
theorem Later.trans {σ σ' σ'' : Sig} {I I' I'' : Blk} {w w' w'' : World} (h : Later σ I w σ' I' w') (k : Later σ' I' w' σ'' I'' w'') : Later σ I w σ'' I'' w'' :=
  ⟨fun g x hx => k.sig g x (h.sig g x hx), fun b hb => k.blk b (h.blk b hb), h.kp.trans h.blk k.kp⟩
theorem Ext.later {base : Blk} {σ σ' : Sig} {I I' : Blk} {w w' : World} (h : Ext base σ I w σ' I' w') : Later σ I w σ' I' w' := ⟨h.sig, h.blk, h.kp⟩
/-- what a handler of rounds does when yield is called -/
def YOk (P : Program) (gl : Nat) (hd : Handler) (σ : Sig) (I : Blk) (w : World) : Prop :=
  ∃ l o k, σ gl = some (l, o, k) ∧ ∀ (σ1 : Sig) (I1 : Blk) (w1 : World), Later σ I w σ1 I1 w1 → ∀ (base : Blk) (h : Heap) (args : List AV) (us : List Value) (g : Nat) (b : Bool) (h' : Heap) (g' : Nat),
    hd args h g = some (b, h', g') → HRep σ1 I1 base w1 h → Bnd base w1.heap.size → us.length = args.length → (∀ (j : Nat) (p : AV) (u : Value), args[j]? = some p → us[j]? = some u → Rep σ1 I1 w1 p u) →
    (∀ k, g ≤ k → σ1 k = none) →
    ∃ fn tmps assign body, (Instr.yield l us.toArray).run P w1 = .ok (.round l fn tmps assign body) w1 ∧
      RoundIn (WF none) 0 P l fn tmps assign body w1 fun e w2 => e = .returned (.bool b) ∧ ∃ σ2 I2, RPost σ1 I1 base w1 g h' g' w2 σ2 I2
theorem YOk.later {P : Program} {gl : Nat} {hd : Handler} {σ σ' : Sig} {I I' : Blk} {w w' : World} (h : YOk P gl hd σ I w) (k : Later σ I w σ' I' w') : YOk P gl hd σ' I' w' := by
  obtain ⟨l, o, n, hl, hh⟩ := h
  exact ⟨l, o, n, k.sig _ _ hl, fun σ1 I1 w1 h1 => hh σ1 I1 w1 (k.trans h1)⟩
/-- what package-level variables hold -/
def Gl (E : Env) (I : Blk) (w : World) : Prop := E.gl I w
theorem Gl.mono {E : Env} {I I' : Blk} {w w' : World} (h : Gl E I w) (hI : ∀ b, I b → I' b) (hk : ∀ b, I b → w'.heap[b]? = w.heap[b]?) : Gl E I' w' := E.glm I I' w w' h hI hk
def YsOk (E : Env) (ys : Ys) (σ : Sig) (I : Blk) (w : World) : Prop := (∀ gl hd, ys.get? gl = some hd → YOk E.P gl hd σ I w) ∧ Gl E I w
theorem YsOk.later {E : Env} {ys : Ys} {σ σ' : Sig} {I I' : Blk} {w w' : World} (h : YsOk E ys σ I w) (k : Later σ I w σ' I' w') : YsOk E ys σ' I' w' := ⟨fun gl hd hg => (h.1 gl hd hg).later k, h.2.mono k.blk k.kp.keep⟩
theorem YsOk.nil {E : Env} {σ : Sig} {I : Blk} {w : World} (h : Gl E I w) : YsOk E [] σ I w := ⟨fun gl hd hg => by simp [Ys.get?] at hg, h⟩

def CallOk (E : Env) (call : CallFn) : Prop := ∀ (ys : Ys) (σ : Sig) (I : Blk) (base : Blk) (w : World) (h : Heap) (f : FuncId) (args : List AV) (d slot gen g : Nat) (v : AV) (h' : Heap) (g' : Nat) (us : List Value),
  call ys f args d slot gen h g = some (v, h', g') → YsOk E ys σ I w → HRep σ I base w h → Bnd base w.heap.size → us.length = args.length → (∀ (j : Nat) (p : AV) (u : Value), args[j]? = some p → us[j]? = some u → Rep σ I w p u) →
  σ gen = none → gen < g → (∀ k, g ≤ k → σ k = none) →
  Does E.P f us.toArray w fun u w' => ∃ σ' I', CallPost σ I base w gen g v h' g' u w' σ' I'

/-! ### one operation -/
structure Cx where
  n : Nat
  base : Blk
  lo : Nat
  r : Option Nat
structure SRel (C : Cx) (σ : Sig) (I : Blk) (w : World) (s : St) (a : Act) : Prop where
  tmp : ∀ i, Rep σ I w (getT s.t i) (a.tmps.getD i undef)
  heap : HRep σ I C.base w s.h
  fresh : ∀ k, s.g ≤ k → σ k = none
  hb : Bnd C.base w.heap.size
  hn : C.n ≤ a.tmps.size
  marks : ∀ x ∈ a.defers, ∃ D, C.lo ≤ D ∧ x = { target := .collected D, args := #[] } ∧ w.heap[D]? = some (Obj.deferred (some []))
  nodup : a.defers.Nodup
  around : ∀ l, C.r = some l → ∃ x, w.heap[l]? = some (Obj.loop x)
  lob : Bnd C.base C.lo
  losz : C.lo ≤ w.heap.size

section
variable {E : Env} {call : CallFn} {ys : Ys} {st : Bool} {d gb : Nat} {C : Cx} {all : Array Oper} {σ : Sig} {I : Blk} {w : World} {s s' : St} {a : Act}

theorem boolA_rep {x : AV} {u : Value} (hr : Rep σ I w x u) (b : Bool) : boolA x = some b ↔ u = .bool b := by
  cases hr with
  | pv p v h =>
    cases h with
    | lit => cases u <;> simp [boolA]
    | _ => simp [boolA]
  | _ => simp [boolA]
theorem getD_get (a : Array Value) (i : Nat) : a.getD i undef = (a[i]?).getD undef := by
  simp [Array.getD_eq_getD_getElem?]
theorem wanted_rep (H : SRel C σ I w s a) (o : Oper) : Region.wanted o (yielded all a.tmps) = wantedA all s.t o := by
  unfold Region.wanted wantedA
  cases hg : o.guard with
  | none => rfl
  | some gw =>
    obtain ⟨j, want⟩ := gw
    simp only []
    have key : yielded all a.tmps j = (((all[j]?).bind (·.dst)).bind fun i => boolA (getT s.t i)) := by
      unfold yielded
      cases hd : (all[j]?).bind (·.dst) with
      | none => rfl
      | some i =>
        simp only [Option.bind_some]
        have hr := H.tmp i
        rw [getD_get] at hr
        cases ht : a.tmps[i]? with
        | none =>
          rw [ht] at hr
          cases hb : boolA (getT s.t i) with
          | none => rfl
          | some b => have := (boolA_rep hr b).1 hb; simp [undef] at this
        | some v =>
          rw [ht] at hr
          simp only [Option.getD_some] at hr
          cases hb : boolA (getT s.t i) with
          | some b => have := (boolA_rep hr b).1 hb; subst this; rfl
          | none =>
            cases v <;> try rfl
            rename_i b
            have := (boolA_rep hr b).2 rfl
            rw [hb] at this
            cases this
    rw [key]

theorem getD_setIf (a : Array Value) (dd : Nat) (v : Value) (hdd : dd < a.size) (i : Nat) : (a.setIfInBounds dd v).getD i undef = if dd = i then v else a.getD i undef := by
  rw [getD_get, getD_get, Array.getElem?_setIfInBounds]
  by_cases e : dd = i
  · subst e; simp [hdd]
  · simp [e]
/-- the state behind an operation -/
theorem SRel.put {σ' : Sig} {I' : Blk} {w' : World} {h' : Heap} {g' : Nat} {v : AV} {u : Value} (H : SRel C σ I w s a) {dst : Option Tmp} (hdst : ∀ dd, dst = some dd → dd < C.n)
    (hx : Ext C.base σ I w σ' I' w') (hv : Rep σ' I' w' v u) (hh : HRep σ' I' C.base w' h') (hf : ∀ k, g' ≤ k → σ' k = none) : SRel C σ' I' w' { t := putD s.t dst v, h := h', g := g' } (a.put dst u) := by
  have hdef : (a.put dst u).defers = a.defers := by cases dst <;> rfl
  refine ⟨fun i => ?_, hh, hf, H.hb.mono hx.below.size, ?_, ?_, ?_, ?_, H.lob, Nat.le_trans H.losz hx.below.size⟩
  · cases dst with
    | none => exact hx.rep (H.tmp i)
    | some dd =>
      simp only [putD, Act.put]
      rw [getT_putT, getD_setIf _ _ _ (Nat.lt_of_lt_of_le (hdst dd rfl) H.hn)]
      by_cases e : dd = i
      · rw [if_pos e, if_pos e]; exact hv
      · rw [if_neg e, if_neg e]; exact hx.rep (H.tmp i)
  · cases dst with
    | none => exact H.hn
    | some dd => simp only [Act.put, Array.size_setIfInBounds]; exact H.hn
  · rw [hdef]
    intro x hx'
    obtain ⟨D, h1, h2, h3⟩ := H.marks x hx'
    exact ⟨D, h1, h2, hx.kp.dfr D h3⟩
  · rw [hdef]; exact H.nodup
  · intro l hl
    obtain ⟨x, hx'⟩ := H.around l hl
    obtain ⟨x', h1, _⟩ := hx.kp.loop l x hx'
    exact ⟨x', h1⟩

/-- what is known behind a step -/
structure Step (C : Cx) (i : Nat) (σ : Sig) (I : Blk) (w : World) (s : St) (σ' : Sig) (I' : Blk) (w' : World) (s' : St) (a' : Act) : Prop where
  rel : SRel C σ' I' w' s' a'
  ext : Ext C.base σ I w σ' I' w'
  low : ∀ k, k < s.g → k ≠ i → σ' k = σ k
  grow : s.g ≤ s'.g

theorem upon_does {r : Option Nat} {o : Oper} {f : FuncId} {args : Array Value} {next : Act → World → Prop} {Q : Exit → Act → World → Prop} (hd : Does E.P f args w fun u w' => next (a.put o.dst u) w') :
    o.uponIn (WF r) 0 E.P a next Q ((callFunc f args).run E.P w) := by
  rcases hd with ⟨v, w', h1, h2⟩ | ⟨h1, h2⟩ | ⟨row, as, w1, h1, h2⟩
  · rw [h1]; exact h2
  · rw [h1]
    refine ⟨fun h => by simp [WF, Fence.wide] at h, ?_⟩
    exact callsIn_wide.2 (h2.mono fun e w' he => by cases e <;> first | exact he | exact he.elim)
  · rw [h1]
    refine ⟨fun h => by simp [WF, Fence.wide] at h, fun c cs _ => ?_⟩
    obtain ⟨v, w', hR, hs⟩ := h2 c cs
    exact ⟨v, w', hR, stepsIn_wide.2 hs⟩

theorem callee_rep {x : AV} {u : Value} (hr : Rep σ I w x u) {f : FuncId} {b c : List AV} (hc : calleeOf x = some (f, b, c)) :
    ∃ vb vc : List Value, u = .func (.func f) vb.toArray vc.toArray ∧ vb.length = b.length ∧ vc.length = c.length ∧
      (∀ (j : Nat) (p : AV) (v : Value), b[j]? = some p → vb[j]? = some v → Rep σ I w p v) ∧ (∀ (j : Nat) (p : AV) (v : Value), c[j]? = some p → vc[j]? = some v → Rep σ I w p v) := by
  cases hr with
  | pv p v h =>
    cases h with
    | clo fn a b' va vb hla hlb hra hrb =>
      cases fn <;> simp [calleeOf] at hc
      obtain ⟨rfl, rfl, rfl⟩ := hc
      refine ⟨va, vb, rfl, by simpa using hla, by simpa using hlb, fun j p v hp hv => ?_, fun j p v hp hv => ?_⟩
      · simp only [List.getElem?_map, Option.map_eq_some_iff] at hp
        obtain ⟨q, hq, rfl⟩ := hp
        exact .pv _ _ (hra j q v hq hv)
      · simp only [List.getElem?_map, Option.map_eq_some_iff] at hp
        obtain ⟨q, hq, rfl⟩ := hp
        exact .pv _ _ (hrb j q v hq hv)
    | _ => simp [calleeOf] at hc
  | clo fn a b' va vb hla hlb hra hrb =>
    cases fn <;> simp [calleeOf] at hc
    obtain ⟨rfl, rfl, rfl⟩ := hc
    exact ⟨va, vb, rfl, hla, hlb, hra, hrb⟩
  | _ => simp [calleeOf] at hc

theorem reps_append {b c : List AV} {vb vc : List Value} (hl : vb.length = b.length) (hb : ∀ (j : Nat) (p : AV) (v : Value), b[j]? = some p → vb[j]? = some v → Rep σ I w p v)
    (hc : ∀ (j : Nat) (p : AV) (v : Value), c[j]? = some p → vc[j]? = some v → Rep σ I w p v) : ∀ (j : Nat) (p : AV) (v : Value), (b ++ c)[j]? = some p → (vb ++ vc)[j]? = some v → Rep σ I w p v := by
  intro j p v hp hv
  rw [List.getElem?_append] at hp hv
  rw [hl] at hv
  split at hp
  · rename_i hj; rw [if_pos hj] at hv; exact hb j p v hp hv
  · rename_i hj; rw [if_neg hj] at hv; exact hc _ p v hp hv

theorem aop_no_defer {P : Program} {o : Oper} {ρ : Operand → AV} {d gen : Nat} {h : Heap} {r : AV × Heap} (hop : aop P o ρ d gen h = some r) : ∀ c, o.op ≠ .defer c := by
  intro c ho
  simp [aop, ho] at hop

theorem ostep_sound (hcall : CallOk E call) {i : Nat} {o : Oper} (hi : all[i]? = some o) (hdst : dstOk C.n o = true) (hs : ostep E call ys st d gb all i o s = some s') (H : SRel C σ I w s a) (hys : YsOk E ys σ I w)
    (hgen : σ (gb + i) = none) (hlt : gb + i < s.g) {Q : Exit → Act → World → Prop} {K : Act → World → Prop}
    (hK : ∀ σ' I' w' a', Step C (gb + i) σ I w s σ' I' w' s' a' → K a' w') : wpOpIn (WF C.r) 0 E.P all Q i K a w := by
  have hdst' : ∀ dd, o.dst = some dd → dd < C.n := fun dd hd => by simpa [dstOk, hd] using hdst
  unfold ostep at hs
  simp only [Option.map_eq_some_iff] at hs
  obtain ⟨⟨v, h', g'⟩, hop, rfl⟩ := hs
  unfold opV at hop
  unfold wpOpIn
  rw [hi]
  simp only []
  rw [wanted_rep H o]
  cases hw : wantedA all s.t o with
  | false =>
    rw [hw] at hop
    simp only [Bool.false_eq_true, if_false, Option.some.injEq, Prod.mk.injEq] at hop ⊢
    obtain ⟨rfl, rfl, rfl⟩ := hop
    exact ⟨fun _ _ => trivial, hK σ I w _ ⟨H.put hdst' (Ext.refl _ _ _ _) (.pv _ _ (.lit _)) H.heap H.fresh, Ext.refl _ _ _ _, fun _ _ _ => rfl, Nat.le_refl _⟩⟩
  | true =>
    rw [hw] at hop
    simp only [if_true] at hop ⊢
    refine ⟨fun _ _ => trivial, ?_⟩
    have hρ := fun x => eval_rep H.tmp x
    unfold stepV at hop
    split at hop
    · rename_i f args ats ho
      rw [Oper.semAt_eq _ _ _ (fun c e => by rw [ho] at e; cases e)]
      have hargs : ∀ (j : Nat) (p : AV) (v : Value), (args.toList.map (evalA s.t))[j]? = some p → (args.toList.map a.eval)[j]? = some v → Rep σ I w p v := by
        intro j p v hp hv
        simp only [List.getElem?_map, Option.map_eq_some_iff] at hp hv
        obtain ⟨x, hx, rfl⟩ := hp
        obtain ⟨y, hy, rfl⟩ := hv
        rw [hx] at hy
        injection hy with hy
        subst hy
        exact hρ x
      split at hop
      · rename_i d' s' gl hyl
        simp only [Option.bind_eq_some_iff, Option.map_eq_some_iff, Prod.mk.injEq] at hop
        obtain ⟨hd, hget, ⟨b, h1, g1⟩, hhd, rfl, rfl, rfl⟩ := hop
        have hu := hρ f
        rw [hyl] at hu
        obtain ⟨l, ho', k', hl, hy⟩ := hys.1 gl hd hget
        cases hva : a.eval f <;> rw [hva] at hu <;> cases hu
        rename_i b' o' k'' hσ
        rw [hl] at hσ
        simp only [Option.some.injEq, Prod.mk.injEq] at hσ
        obtain ⟨rfl, rfl, rfl⟩ := hσ
        obtain ⟨fn, tmps, assign, body, hrun, hround⟩ := hy σ I w (Later.refl _ _ _) C.base s.h _ (args.toList.map a.eval) s.g b h1 g1 hhd H.heap H.hb (by simp) hargs H.fresh
        have hexec : (execOp a.eval o).run E.P w = .ok (.round l fn tmps assign body) w := by
          have harr : args.map a.eval = (args.toList.map a.eval).toArray := by apply Array.ext'; simp
          rw [← hrun, ← harr]
          simp [execOp, ho, resolve, hva, Deferred.ofValue, invoke]
        rw [hexec]
        refine ⟨fun h => by simp [WF, Fence.wide] at h, RoundIn.mono hround ?_⟩
        rintro e w2 ⟨rfl, σ2, I2, hp⟩
        exact hK σ2 I2 w2 _ ⟨H.put hdst' hp.ext (.pv _ _ (.lit _)) hp.heap hp.high, hp.ext, fun k hk _ => hp.low k hk, hp.grow⟩
      · simp only [Option.bind_eq_some_iff] at hop
        obtain ⟨⟨fid, b, c⟩, hcal, hop⟩ := hop
        split at hop
        · cases hop
        · obtain ⟨vb, vc, hu, hlb, hlc, hrb, hrc⟩ := callee_rep (hρ f) hcal
          have hexec : (execOp a.eval o).run E.P w = (callFunc fid (vb ++ args.toList.map a.eval ++ vc).toArray).run E.P w := by
            have harr : vb.toArray ++ args.map a.eval ++ vc.toArray = (vb ++ args.toList.map a.eval ++ vc).toArray := by
              apply Array.ext'
              simp
            rw [← harr]
            simp [execOp, ho, resolve, hu, Deferred.ofValue, invoke]
          rw [hexec]
          refine upon_does (Does.mono (hcall ys σ I C.base w s.h fid _ d _ (gb + i) s.g v h' g' (vb ++ args.toList.map a.eval ++ vc) hop hys H.heap H.hb (by simp [hlb, hlc]) ?_ hgen hlt H.fresh) ?_)
          · exact reps_append (by simp [hlb]) (reps_append hlb hrb hargs) hrc
          · rintro u w' ⟨σ', I', hp⟩
            exact hK σ' I' w' _ ⟨H.put hdst' hp.ext hp.rep hp.heap hp.high, hp.ext, hp.low, hp.grow⟩
    · split at hop
      · cases hop
      · simp only [Option.map_eq_some_iff, Prod.mk.injEq] at hop
        obtain ⟨⟨v1, h1⟩, hop, rfl, rfl, rfl⟩ := hop
        rw [Oper.semAt_eq _ _ _ (aop_no_defer hop)]
        obtain ⟨nx, w', u, σ', I', g1, g2, g3, g4, g5, g6⟩ := aop_sound hop hρ H.heap hgen H.hb
        rw [g1]
        have hfr : ∀ k, s.g ≤ k → σ' k = none := fun k hk => by rw [g6 k (by omega)]; exact H.fresh k hk
        have : Step C (gb + i) σ I w s σ' I' w' { t := putD s.t o.dst v1, h := h1, g := s.g } (a.put o.dst u) := ⟨H.put hdst' g5 g3 g4 hfr, g5, fun k _ hk => g6 k hk, Nat.le_refl _⟩
        rcases g2 with rfl | ⟨rfl, rfl⟩
        · exact hK σ' I' w' _ this
        · exact hK σ' I' w' _ this
end
end Go.Proofs.YtlhfgonjcpapnaaGreatDoor.Abs

/- Regions whole. -/
set_option linter.unusedVariables false
set_option linter.unusedSimpArgs false
namespace Go.Proofs.YtlhfgonjcpapnaaGreatDoor.Abs
open Go Go.RowKit

/-! ### what the check of a drawn region says -/
inductive Dep (ops : Array Oper) : Nat → Nat → Prop
  | one {i : Nat} {o : Oper} {e : Edge} (ho : ops[i]? = some o) (he : e ∈ o.after) (hb : Region.binds .any e = true) : Dep ops i e.on
  | more {i j : Nat} {o : Oper} {e : Edge} (ho : ops[i]? = some o) (he : e ∈ o.after) (hb : Region.binds .any e = true) (h : Dep ops e.on j) : Dep ops i j

theorem one_spec (look : Nat → Nat) (k : Nat) : ∀ (l : List Edge) (s : Nat), (l.foldl (fun s e => if Region.binds .any e then s ||| 2 ^ e.on ||| look e.on else s) s).testBit k = true →
    s.testBit k = true ∨ ∃ e ∈ l, Region.binds .any e = true ∧ (e.on = k ∨ (look e.on).testBit k = true)
  | [], s, h => .inl h
  | e :: l, s, h => by
    rw [List.foldl_cons] at h
    rcases one_spec look k l _ h with h | ⟨e', he', h⟩
    · by_cases hb : Region.binds .any e = true
      · rw [if_pos hb, Nat.testBit_or, Nat.testBit_or] at h
        simp only [Bool.or_eq_true] at h
        rcases h with (h | h) | h
        · exact .inl h
        · rw [Nat.testBit_two_pow] at h
          exact .inr ⟨e, by simp, hb, .inl (by simpa using h)⟩
        · exact .inr ⟨e, by simp, hb, .inr h⟩
      · rw [if_neg hb] at h; exact .inl h
    · exact .inr ⟨e', by simp [he'], h⟩

theorem pairsOk_spec {E : Env} {ops : Array Oper} {o : Oper} {v : Nat} : ∀ (xs : List Oper) (j : Nat), pairsOk E ops o v xs j = true → ∀ (m : Nat) (x : Oper), xs[m]? = some x → v.testBit (j + m) = true ∨ swapOk E ops x o = true
  | [], _, _, m, x, hx => by simp at hx
  | y :: ys, j, h, m, x, hx => by
    simp only [pairsOk, Bool.and_eq_true, Bool.or_eq_true] at h
    cases m with
    | zero => simp at hx; subst hx; exact h.1
    | succ m =>
      have := pairsOk_spec ys (j + 1) h.2 m x (by simpa using hx)
      rwa [show j + 1 + m = j + (m + 1) by omega] at this

theorem lookB_cons (i j v : Nat) (acc : List Nat) : lookB (i + 1) (v :: acc) j = if j = i then v else lookB i acc j := by
  unfold lookB
  by_cases h : j = i
  · subst h; simp
  · rw [if_neg h]
    by_cases h2 : j < i
    · rw [if_pos h2, if_pos (by omega), show i + 1 - 1 - j = (i - 1 - j) + 1 by omega]; simp
    · rw [if_neg h2, if_neg (by omega)]
theorem drawGo_spec {E : Env} {ops : Array Oper} : ∀ (rest : List Oper) (i : Nat) (acc : List Nat), drawGo E ops ops.toList rest i acc = true → (∀ m, rest[m]? = ops[i + m]?) →
    (∀ j k, (lookB i acc j).testBit k = true → Dep ops j k) → ∀ (m : Nat) (o : Oper), i ≤ m → ops[m]? = some o → backOk m o = true ∧ ∀ j, j < m → Dep ops m j ∨ SwapAt E ops j m
  | [], i, acc, _, hr, _, m, o, hm, ho => by
    have := hr (m - i)
    rw [show i + (m - i) = m by omega, ho] at this
    simp at this
  | x :: rest, i, acc, h, hr, hacc, m, o, hm, ho => by
    have hx : ops[i]? = some x := by simpa using (hr 0).symm
    rw [drawGo, CheckFast.force_eq] at h
    simp only [Bool.and_eq_true] at h
    obtain ⟨⟨h1, h2⟩, h3⟩ := h
    have hmask : ∀ k, (CheckFast.one (lookB i acc) x).testBit k = true → Dep ops i k := by
      intro k hk
      unfold CheckFast.one at hk
      rw [← Array.foldl_toList] at hk
      rcases one_spec _ k _ _ hk with h0 | ⟨e, he, hb, h0⟩
      · simp at h0
      · have he' : e ∈ x.after := by simpa using he
        rcases h0 with rfl | h0
        · exact .one hx he' hb
        · exact .more hx he' hb (hacc _ _ h0)
    rcases Nat.eq_or_lt_of_le hm with rfl | hlt
    · rw [hx] at ho
      injection ho with ho
      subst ho
      refine ⟨h1, fun j hj => ?_⟩
      have hjs : j < ops.toList.length := by
        have : i < ops.size := by
          rcases Nat.lt_or_ge i ops.size with h | h
          · exact h
          · rw [Array.getElem?_eq_none h] at hx; cases hx
        simpa using Nat.lt_trans hj this
      have hy : (ops.toList.take i)[j]? = some ops.toList[j] := by
        rw [List.getElem?_take, if_pos hj, List.getElem?_eq_getElem hjs]
      rcases pairsOk_spec _ 0 h2 j _ hy with hb | hb
      · rw [Nat.zero_add] at hb; exact .inl (hmask j hb)
      · exact .inr ⟨_, _, by simp, hx, hb⟩
    · refine drawGo_spec rest (i + 1) _ h3 (fun m => ?_) ?_ m o hlt ho
      · have := hr (m + 1)
        rw [show i + (m + 1) = i + 1 + m by omega] at this
        simpa using this
      · intro j k hjk
        rw [lookB_cons] at hjk
        split at hjk
        · rename_i hji
          rw [hji]
          exact hmask k hjk
        · exact hacc _ _ hjk

theorem drawOk_spec {E : Env} {ops : Array Oper} (h : drawOk E ops = true) (m : Nat) (o : Oper) (ho : ops[m]? = some o) : backOk m o = true ∧ ∀ j, j < m → Dep ops m j ∨ SwapAt E ops j m :=
  drawGo_spec ops.toList 0 [] h (fun m => by simp) (fun j k hk => by simp [lookB] at hk) m o (Nat.zero_le _) ho

def Closed (ops : Array Oper) (listed : Array Bool) : Prop := ∀ (i : Nat) (o : Oper) (e : Edge), listed.getD i false = true → ops[i]? = some o → e ∈ o.after → Region.binds .any e = true → listed.getD e.on false = true
theorem Dep.listed {ops : Array Oper} {listed : Array Bool} (hc : Closed ops listed) {i j : Nat} (hd : Dep ops i j) : listed.getD i false = true → listed.getD j false = true := by
  induction hd with
  | one ho he hb => exact fun hi => hc _ _ _ hi ho he hb
  | more ho he hb _ ih => exact fun hi => ih (hc _ _ _ hi ho he hb)
theorem Dep.ready {ops : Array Oper} {listed : Array Bool} (hc : Closed ops listed) {i j : Nat} (hr : ∀ (o : Oper) (e : Edge), ops[i]? = some o → e ∈ o.after → Region.binds .any e = true → listed.getD e.on false = true)
    (hd : Dep ops i j) : listed.getD j false = true := by
  cases hd with
  | one ho he hb => exact hr _ _ ho he hb
  | more ho he hb h => exact h.listed hc (hr _ _ ho he hb)

section
variable {E : Env} {call : CallFn} {ys : Ys} {st : Bool} {d gb : Nat} {C : Cx} {all : Array Oper} {σ : Sig} {I : Blk} {w : World} {s s' : St} {a : Act}

structure Done (C : Cx) (gb : Nat) (σ : Sig) (I : Blk) (w : World) (s' : St) (σ' : Sig) (I' : Blk) (w' : World) (a' : Act) : Prop where
  rel : SRel C σ' I' w' s' a'
  ext : Ext C.base σ I w σ' I' w'
  low : ∀ k, k < gb → σ' k = σ k
  grow : gb ≤ s'.g

theorem opL_sound (hcall : CallOk E call) (hwf : ∀ o ∈ all, dstOk C.n o = true) {i : Nat} (hs : opL E call ys st d gb all i s = some s') (H : SRel C σ I w s a) (hys : YsOk E ys σ I w)
    (hgen : σ (gb + i) = none) (hlt : gb + i < s.g) {Q : Exit → Act → World → Prop} {K : Act → World → Prop}
    (hK : ∀ σ' I' w' a', Step C (gb + i) σ I w s σ' I' w' s' a' → K a' w') : wpOpIn (WF C.r) 0 E.P all Q i K a w := by
  unfold opL at hs
  cases hi : all[i]? with
  | none =>
    rw [hi] at hs
    injection hs with hs
    subst hs
    unfold wpOpIn
    rw [hi]
    exact hK σ I w a ⟨H, Ext.refl _ _ _ _, fun _ _ _ => rfl, Nat.le_refl _⟩
  | some o =>
    rw [hi] at hs
    exact ostep_sound hcall hi (hwf o (Array.mem_of_getElem? hi)) hs H hys hgen hlt hK

theorem seq_wp (hcall : CallOk E call) (hwf : ∀ o ∈ all, dstOk C.n o = true) {Q : Exit → Act → World → Prop} : ∀ (L : List Nat) (σ : Sig) (I : Blk) (w : World) (s : St) (a : Act), L.Nodup → (∀ i ∈ L, σ (gb + i) = none ∧ gb + i < s.g) →
    opsL E call ys st d gb all L s = some s' → SRel C σ I w s a → YsOk E ys σ I w → gb ≤ s.g → (∀ σ' I' w' a', Done C gb σ I w s' σ' I' w' a' → Q .normal a' w') → wpOpsIn (WF C.r) 0 E.P all Q L a w
  | [], σ, I, w, s, a, _, _, h, H, _, hgb, hQ => by
    simp only [opsL, Option.some.injEq] at h
    subst h
    exact hQ σ I w a ⟨H, Ext.refl _ _ _ _, fun _ _ => rfl, hgb⟩
  | i :: L, σ, I, w, s, a, hnd, hg, h, H, hys, hgb, hQ => by
    simp only [opsL, Option.bind_eq_some_iff] at h
    obtain ⟨s1, h1, h2⟩ := h
    rw [wpOpsIn_cons]
    refine opL_sound hcall hwf h1 H hys (hg i (by simp)).1 (hg i (by simp)).2 fun σ1 I1 w1 a1 hs1 => ?_
    have hnd' := List.nodup_cons.1 hnd
    refine seq_wp hcall hwf L σ1 I1 w1 s1 a1 hnd'.2 (fun j hj => ?_) h2 hs1.rel (hys.later hs1.ext.later) (Nat.le_trans hgb hs1.grow) fun σ' I' w' a' hd => hQ σ' I' w' a' ⟨hd.rel, hs1.ext.trans hd.ext, fun k hk => ?_, hd.grow⟩
    · have hji : j ≠ i := fun e => hnd'.1 (e ▸ hj)
      have := hg j (by simp [hj])
      exact ⟨by rw [hs1.low _ this.2 (by omega)]; exact this.1, Nat.lt_of_lt_of_le this.2 hs1.grow⟩
    · rw [hd.low k hk, hs1.low k (by omega) (by omega)]

theorem any_wp (hcall : CallOk E call) (hfz : FzCall E call) (hdr : drawOk E all = true) (hwf : ∀ o ∈ all, dstOk C.n o = true) {Q : Exit → Act → World → Prop} :
    ∀ (fuel : Nat) (R : List Nat) (listed : Array Bool) (σ : Sig) (I : Blk) (w : World) (s : St) (a : Act), R.length ≤ fuel → R.Pairwise (· < ·) → (∀ i, i ∈ R ↔ i < all.size ∧ listed.getD i true = false) → listed.size = all.size → Closed all listed →
    (∀ i ∈ R, σ (gb + i) = none ∧ gb + i < s.g) → opsL E call ys true d gb all R s = some s' → SRel C σ I w s a → YsOk E ys σ I w → gb ≤ s.g →
    (∀ σ' I' w' a', Done C gb σ I w s' σ' I' w' a' → Q .normal a' w') → wpAnyIn (WF C.r) 0 E.P .any all Q fuel listed a w := by
  intro fuel
  induction fuel with
  | zero =>
    intro R listed σ I w s a hf hp hR hls hcl hg h H hys hgb hQ
    have : R = [] := by cases R <;> simp at hf ⊢
    subst this
    simp only [opsL, Option.some.injEq] at h
    subst h
    refine ⟨?_, hQ σ I w a ⟨H, Ext.refl _ _ _ _, fun _ _ => rfl, hgb⟩⟩
    rw [List.eq_nil_iff_forall_not_mem]
    intro i hi
    rw [mem_ready] at hi
    obtain ⟨h0, o, ho, _⟩ := hi
    have := (hR i).2 ⟨(Array.getElem?_eq_some_iff.1 ho).1, h0⟩
    simp at this
  | succ fuel ih =>
    intro R listed σ I w s a hf hp hR hls hcl hg h H hys hgb hQ
    have hlist : ∀ i, i < all.size → i ∉ R → listed.getD i false = true := by
      intro i hi hn
      have : ¬ (listed.getD i true = false) := fun e => hn ((hR i).2 ⟨hi, e⟩)
      have hi' : i < listed.size := by omega
      simp [hi'] at this ⊢
      exact this
    refine ⟨fun hnone => ?_, fun i hi => ?_⟩
    · cases R with
      | nil =>
        simp only [opsL, Option.some.injEq] at h
        subst h
        exact hQ σ I w a ⟨H, Ext.refl _ _ _ _, fun _ _ => rfl, hgb⟩
      | cons i R =>
        exfalso
        have hiR := (hR i).1 (by simp)
        have hio : all[i]? = some all[i] := by simp [hiR.1]
        have hb := (drawOk_spec hdr i _ hio).1
        have : i ∈ Region.ready .any all listed := by
          rw [mem_ready]
          refine ⟨hiR.2, _, hio, fun e he hbd => ?_⟩
          have hlt : e.on < i := by
            unfold backOk at hb
            rw [Array.all_eq_true_iff_forall_mem] at hb
            have := hb e he
            rw [hbd] at this
            simpa using this
          refine hlist e.on (by omega) fun hm => ?_
          simp only [List.mem_cons] at hm
          rcases hm with hm | hm
          · omega
          · have := (List.pairwise_cons.1 hp).1 _ hm
            omega
        rw [hnone] at this
        simp at this
    · rw [mem_ready] at hi
      obtain ⟨h0, o, ho, hpre⟩ := hi
      have hisz : i < all.size := (Array.getElem?_eq_some_iff.1 ho).1
      have hiR : i ∈ R := (hR i).2 ⟨hisz, h0⟩
      obtain ⟨R1, R2, rfl⟩ := List.append_of_mem hiR
      have hpw := List.pairwise_append.1 hp
      have hsw : ∀ r ∈ R1, SwapAt E all r i := by
        intro r hr
        have hri : r < i := hpw.2.2 r hr i (by simp)
        rcases (drawOk_spec hdr i o ho).2 r hri with hd | hd
        · exfalso
          have := hd.ready hcl fun o' e ho' he hb => by
            rw [ho] at ho'
            injection ho' with ho'
            subst ho'
            exact hpre e he hb
          have hr2 := ((hR r).1 (by simp [hr])).2
          have hr1 : r < listed.size := by omega
          simp [hr1] at this hr2
          rw [this] at hr2
          cases hr2
        · exact hd
      have h2 := bubble hfz R1 R2 s s' hsw h
      simp only [opsL, Option.bind_eq_some_iff] at h2
      obtain ⟨s1, h3, h4⟩ := h2
      have hgi := hg i hiR
      refine opL_sound hcall hwf h3 H hys hgi.1 hgi.2 fun σ1 I1 w1 a1 hs1 => ?_
      have hne : ∀ j, j ∈ R1 ++ R2 → j ≠ i := by
        intro j hj
        rw [List.mem_append] at hj
        rcases hj with hj | hj
        · have := hpw.2.2 j hj i (by simp); omega
        · have := (List.pairwise_cons.1 hpw.2.1).1 j hj; omega
      refine ih (R1 ++ R2) (listed.setIfInBounds i true) σ1 I1 w1 s1 a1 ?_ ?_ ?_ ?_ ?_ ?_ h4 hs1.rel (hys.later hs1.ext.later) (Nat.le_trans hgb hs1.grow) fun σ' I' w' a' hd => hQ σ' I' w' a' ⟨hd.rel, hs1.ext.trans hd.ext, fun k hk => ?_, hd.grow⟩
      · simp at hf ⊢; omega
      · exact List.pairwise_append.2 ⟨hpw.1, (List.pairwise_cons.1 hpw.2.1).2, fun x hx y hy => hpw.2.2 x hx y (by simp [hy])⟩
      · intro j
        by_cases hji : j = i
        · subst hji
          have : j < listed.size := by omega
          simp only [Array.getD_eq_getD_getElem?, Array.getElem?_setIfInBounds_self_of_lt this, Option.getD_some]
          constructor
          · intro hj; exact absurd rfl (hne j hj)
          · simp
        · rw [getD_set_ne true (Ne.symm hji), ← hR j]
          simp [hji]
      · simpa using hls
      · intro j o' e hj ho' he hb
        by_cases hji : j = i
        · subst hji
          rw [ho] at ho'
          injection ho' with ho'
          subst ho'
          exact getD_set_true (hpre e he hb)
        · rw [getD_set_ne false (Ne.symm hji)] at hj
          exact getD_set_true (hcl j o' e hj ho' he hb)
      · intro j hj
        have := hg j (by rw [List.mem_append] at hj ⊢; rcases hj with hj | hj <;> simp [hj])
        exact ⟨by rw [hs1.low _ this.2 (by have := hne j hj; omega)]; exact this.1, Nat.lt_of_lt_of_le this.2 hs1.grow⟩
      · rw [hd.low k hk, hs1.low k (by omega) (by omega)]

theorem kill_rep {base : Blk} {h : Heap} (H : HRep σ I base w h) : ∀ (os : List Oper) (h : Heap), HRep σ I base w h → HRep σ I base w (killKeys E d os h)
  | [], _, H => H
  | o :: os, h, H => by
    unfold killKeys
    refine kill_rep H os _ ?_
    split
    · exact H.kill _ _
    · exact H

theorem region_sound (hcall : CallOk E call) (hfz : FzCall E call) {id : Nat} {ops : Array Oper} {draw : Bool} (hmix : draw = true → E.P.follows .mixedOrders = true) (hwf : codeWf E C.n (.region id ops draw) = true) {fuel : Nat} {x : AExit}
    (h : codeF E call ys d fuel (.region id ops draw) s = some (x, s')) (H : SRel C σ I w s a) (hys : YsOk E ys σ I w) {Q : Exit → Act → World → Prop}
    (hQ : ∀ σ' I' w' a', Done C s.g σ I w s' σ' I' w' a' → Q .normal a' w') : (Code.region id ops draw).wpIn (WF C.r) 0 E.P Q a w := by
  simp only [codeWf, Bool.and_eq_true, Bool.or_eq_true, Bool.not_eq_true'] at hwf
  have hdst : ∀ o ∈ ops, dstOk C.n o = true := by
    have := hwf.1
    rw [Array.all_eq_true_iff_forall_mem] at this
    exact this
  simp only [codeF, Option.map_eq_some_iff, Prod.mk.injEq] at h
  obtain ⟨s1, h, rfl, rfl⟩ := h
  rw [opsF_text] at h
  cases draw with
  | false =>
    simp only [Bool.false_eq_true, if_false] at h
    refine wpIn_region (seq_wp hcall hdst _ σ I w _ a List.nodup_range (fun i hi => ?_) h ⟨H.tmp, H.heap, fun k hk => H.fresh k (by simp at hk; omega), H.hb, H.hn, H.marks, H.nodup, H.around, H.lob, H.losz⟩ hys (by simp) fun σ' I' w' a' hd => hQ σ' I' w' a' hd)
    rw [List.mem_range] at hi
    exact ⟨H.fresh _ (by omega), by simp; omega⟩
  | true =>
    simp only [if_true] at h
    have hdr : drawOk E ops = true := hwf.2.resolve_left (by simp)
    have hx : Ext C.base σ I w σ I { w with drawn := w.drawn + 1 } := ⟨fun _ _ h => h, fun _ h => h, fun _ h => .inl h, ⟨fun _ _ => rfl, fun _ _ _ h => h, fun _ r h => ⟨r, h, SameLoop.refl r⟩, fun _ h => h⟩, ⟨rfl, rfl, rfl, Nat.le_refl _, fun _ _ => rfl⟩⟩
    have H1 : HRep σ I C.base { w with drawn := w.drawn + 1 } (killKeys E d ops.toList s.h) := by
      have := H.heap.keep (σ' := σ) (I' := I) (w' := { w with drawn := w.drawn + 1 }) (fun _ _ h => h) (fun _ h => h) hx.kp H.heap.inW (fun d s b hb => ⟨rfl, (blkOf_facts (H.heap.rows d s) hb).2.1⟩)
      exact kill_rep this _ _ this
    refine wpIn_region_any (hmix rfl) (any_wp hcall hfz hdr hdst ops.size (List.range ops.size) _ σ I _ _ a (by simp) List.pairwise_lt_range (fun i => ?_) (by simp) ?_ (fun i hi => ?_) h
      ⟨fun i => hx.rep (H.tmp i), H1, fun k hk => H.fresh k (by simp at hk; omega), H.hb, H.hn, H.marks, H.nodup, H.around, H.lob, H.losz⟩ (hys.later hx.later) (by simp) fun σ' I' w' a' hd => hQ σ' I' w' a' ⟨hd.rel, hx.trans hd.ext, hd.low, hd.grow⟩)
    · rw [List.mem_range]
      constructor
      · intro hi; exact ⟨hi, by simp [hi]⟩
      · exact fun h => h.1
    · intro i o e hi
      exfalso
      revert hi
      simp only [Array.getD_eq_getD_getElem?, Array.getElem?_replicate]
      split <;> simp
    · rw [List.mem_range] at hi
      exact ⟨H.fresh _ (by omega), by simp; omega⟩
end
end Go.Proofs.YtlhfgonjcpapnaaGreatDoor.Abs

/- Code does what the abstract machine says. -/
set_option linter.unusedVariables false
set_option linter.unusedSimpArgs false
namespace Go.Proofs.YtlhfgonjcpapnaaGreatDoor.Abs
open Go Go.RowKit

section
variable {E : Env} {call : CallFn} {ys : Ys} {d : Nat} {base : Blk} {C : Cx} {σ : Sig} {I : Blk} {w : World} {h : Heap} {s s' : St} {a : Act}

def toExit : AExit → Exit
  | .normal => .normal
  | .exit id => .exit id
  | .goto l => .goto l
  | .ret => .ret

theorem Done.refl (H : SRel C σ I w s a) : Done C s.g σ I w s σ I w a := ⟨H, Ext.refl _ _ _ _, fun _ _ => rfl, Nat.le_refl _⟩
theorem Done.trans {σ1 σ2 : Sig} {I1 I2 : Blk} {w1 w2 : World} {s1 s2 : St} {a1 a2 : Act} {gb : Nat} (h : Done C gb σ I w s1 σ1 I1 w1 a1) (k : Done C s1.g σ1 I1 w1 s2 σ2 I2 w2 a2) : Done C gb σ I w s2 σ2 I2 w2 a2 :=
  ⟨k.rel, h.ext.trans k.ext, fun x hx => by rw [k.low x (Nat.lt_of_lt_of_le hx h.grow), h.low x hx], Nat.le_trans h.grow k.grow⟩

/-- what code does at a state -/
def Sound (E : Env) (C : Cx) (ys : Ys) (c : Code) (s : St) (x : AExit) (s' : St) : Prop := ∀ (σ : Sig) (I : Blk) (w : World) (a : Act) (Q : Exit → Act → World → Prop), SRel C σ I w s a → YsOk E ys σ I w →
  (∀ σ' I' w' a', Done C s.g σ I w s' σ' I' w' a' → Q (toExit x) a' w') → c.wpIn (WF C.r) 0 E.P Q a w

/-! ### loops -/
theorem least_ex {p : Nat → Prop} (h : ∃ n, p n) : ∃ n, p n ∧ ∀ m, p m → n ≤ m := by
  obtain ⟨n, hn⟩ := h
  induction n using Nat.strongRecOn with
  | _ n ih =>
    by_cases hs : ∃ m, m < n ∧ p m
    · obtain ⟨m, hm, hp⟩ := hs
      exact ih m hm hp
    · exact ⟨n, hn, fun m hm => Nat.le_of_not_lt fun hlt => hs ⟨m, hlt, hm⟩⟩
theorem loop_sound {c : Code} {body : St → Option (AExit × St)} (hbody : ∀ s x s', body s = some (x, s') → Sound E C ys c s x s') {m : Nat} {x : AExit} (hm : loopF body m s = some (x, s')) : Sound E C ys (.loop c) s x s' := by
  intro σ I w a Q H hys hQ
  let J : Nat → Act → World → Prop := fun k a1 w1 => ∃ σ1 I1 s1, loopF body k s1 = some (x, s') ∧ Done C s.g σ I w s1 σ1 I1 w1 a1
  classical
  let μ : Act → World → Nat := fun a1 w1 => if h : ∃ k, J k a1 w1 then Classical.choose (least_ex h) else 0
  refine wpIn_loop (fun a1 w1 => ∃ k, J k a1 w1) μ ⟨m, σ, I, s, hm, Done.refl H⟩ fun a1 w1 hex => ?_
  have hμ : μ a1 w1 = Classical.choose (least_ex hex) := dif_pos hex
  obtain ⟨⟨σ1, I1, s1, hk, hd⟩, _⟩ := Classical.choose_spec (least_ex hex)
  rw [← hμ] at hk
  cases hmu : μ a1 w1 with
  | zero => rw [hmu] at hk; simp [loopF] at hk
  | succ k =>
    rw [hmu] at hk
    simp only [loopF] at hk
    cases hb : body s1 with
    | none => simp [hb] at hk
    | some r =>
      obtain ⟨y, s2⟩ := r
      rw [hb] at hk
      refine hbody s1 y s2 hb σ1 I1 w1 a1 _ hd.rel (hys.later hd.ext.later) fun σ2 I2 w2 a2 hd2 => ?_
      cases y with
      | normal =>
        have hJ : J k a2 w2 := ⟨σ2, I2, s2, hk, hd.trans hd2⟩
        refine ⟨⟨k, hJ⟩, ?_⟩
        have hex2 : ∃ k, J k a2 w2 := ⟨k, hJ⟩
        have : μ a2 w2 = Classical.choose (least_ex hex2) := dif_pos hex2
        rw [this]
        have := (Classical.choose_spec (least_ex hex2)).2 k hJ
        omega
      | _ =>
        simp only [Option.some.injEq, Prod.mk.injEq] at hk
        obtain ⟨rfl, rfl⟩ := hk
        exact hQ σ2 I2 w2 a2 (hd.trans hd2)

/-! ### ranges over functions -/
theorem putObj_keep {b : Nat} {r r' : Loop} (hh : w.heap[b]? = some (Obj.loop r)) (hs : SameLoop r r') (hI : ¬ I b) (hb : ¬ base b) : Ext base σ I w σ I (w.putObj b (.loop r')) := by
  have hlt := lt_of_heap hh
  have hoth : ∀ x, x ≠ b → (w.putObj b (.loop r')).heap[x]? = w.heap[x]? := fun x hx => World.putObj_heap_other hx
  refine ⟨fun _ _ h => h, fun _ h => h, fun _ h => .inl h, ⟨fun x hx => hoth x fun e => hI (e ▸ hx), fun x e n hx => ?_, fun x r0 hx => ?_, fun x hx => ?_⟩, ⟨rfl, rfl, rfl, by simp [World.putObj], fun x hx => hoth x (fun e => hb (e ▸ hx))⟩⟩
  · have : x ≠ b := fun e' => by subst e'; unfold World.shape? at hx; rw [hh] at hx; cases hx
    rw [shape_of_heap (hoth x this)]; exact hx
  · by_cases e : x = b
    · subst e
      rw [hh] at hx
      injection hx with hx
      injection hx with hx
      subst hx
      exact ⟨r', World.putObj_heap_same hlt, hs⟩
    · exact ⟨r0, by rw [hoth x e]; exact hx, SameLoop.refl r0⟩
  · have : x ≠ b := fun e' => by subst e'; rw [hh] at hx; cases hx
    rw [hoth x this]; exact hx
theorem HRep.loopPut (H : HRep σ I base w h) {d s g b o k : Nat} {st : LpSt} (hl : Abs.live h d s g = .lp st) (hs : σ g = some (b, o, k)) {r' : Loop} (row : Row) (hrow : row = row0 ∨ ∃ st', row = ⟨g, .lp st'⟩ ∧ LpOk st' r') :
    ∃ r, w.heap[b]? = some (Obj.loop r) ∧ LpOk st r ∧ (SameLoop r r' → HRep σ I base (w.putObj b (.loop r')) (hput h d s row) ∧ Ext base σ I w σ I (w.putObj b (.loop r'))) := by
  obtain ⟨b', k', hs', ⟨r, hh, hr⟩, hI, hb⟩ := H.live hl (by simp)
  rw [hs] at hs'
  simp only [Option.some.injEq, Prod.mk.injEq] at hs'
  obtain ⟨rfl, rfl, rfl⟩ := hs'
  refine ⟨r, hh, hr, fun hsame => ?_⟩
  have hx : Ext base σ I w σ I (w.putObj b (.loop r')) := putObj_keep hh hsame hI hb
  have hlr := live_row hl (by simp)
  have hbk : blkOf σ (hget h d s) = some b := by rw [hlr]; simp [blkOf, hs]
  refine ⟨H.put (fun _ _ h => h) (fun _ h => h) hx.kp (hx.kp.inW H.inW) d s row ?_ ?_, hx⟩
  · rcases hrow with rfl | ⟨st', rfl, hst'⟩
    · trivial
    · exact ⟨b, k, hs, ⟨r', World.putObj_heap_same (lt_of_heap hh), hst'⟩, hI, hb⟩
  · intro d' s' b' hne hb'
    have hf := blkOf_facts (H.rows d' s') hb'
    have hneb : b' ≠ b := fun e => by
      subst e
      exact hne (H.apart d s d' s' _ hbk hb')
    refine ⟨World.putObj_heap_other hneb, hf.2.1, fun e => ?_⟩
    rcases hrow with rfl | ⟨st', rfl, hst'⟩
    · simp [blkOf, row0] at e
    · simp [blkOf, hs] at e
      exact hneb e.symm

theorem setTs_rep : ∀ (ps : List Tmp) (args : List AV) (us : List Value) (t : List AV) (tm : Array Value), us.length = args.length → (∀ p ∈ ps, p < tm.size) →
    (∀ (j : Nat) (p : AV) (u : Value), args[j]? = some p → us[j]? = some u → Rep σ I w p u) → (∀ i, Rep σ I w (getT t i) (tm.getD i undef)) →
    (∀ i, Rep σ I w (getT (setTs ps args t) i) (((ps.zip us).foldl (fun x (p, v) => x.setIfInBounds p v) tm).getD i undef)) ∧ ((ps.zip us).foldl (fun x (p, v) => x.setIfInBounds p v) tm).size = tm.size
  | [], args, us, t, tm, _, _, _, ht => by simpa [setTs] using ht
  | p :: ps, [], us, t, tm, hl, _, _, ht => by
    have : us = [] := by simpa using hl
    subst this
    simpa [setTs] using ht
  | p :: ps, v :: args, [], t, tm, hl, _, _, _ => by simp at hl
  | p :: ps, v :: args, u :: us, t, tm, hl, hp, hr, ht => by
    simp only [setTs, List.zip_cons_cons, List.foldl_cons]
    have := setTs_rep ps args us (putT t p v) (tm.setIfInBounds p u) (by simpa using hl) (fun q hq => by simp; exact hp q (by simp [hq])) (fun j x y hx hy => hr (j + 1) x y (by simpa using hx) (by simpa using hy)) ?_
    · exact ⟨this.1, by rw [this.2]; simp⟩
    · intro i
      rw [getT_putT, getD_setIf _ _ _ (hp p (by simp))]
      by_cases e : p = i
      · rw [if_pos e, if_pos e]; exact hr 0 v u (by simp) (by simp)
      · rw [if_neg e, if_neg e]; exact ht i

/-- the statement is entered -/
theorem enter_sound (H : SRel C σ I w s a) {ps : Array Tmp} {assign body : Code} (fn : FuncId) (slot : Nat) : ∃ l mark w1 rec, (Instr.enterLoop fn a.tmps ps assign body C.r).run E.P w = .ok (l, mark) w1 ∧
    HRep (upd σ s.g (l, 0, 0)) I C.base w1 (hput s.h d slot ⟨s.g, .lp .ready⟩) ∧ Ext C.base σ I w (upd σ s.g (l, 0, 0)) I w1 ∧ w1.heap[l]? = some (Obj.loop rec) ∧
    rec.tmps = a.tmps ∧ rec.params = ps ∧ rec.assign = assign ∧ rec.body = body ∧
    (∀ x ∈ mark ++ a.defers, ∃ D, C.lo ≤ D ∧ x = { target := .collected D, args := #[] } ∧ w1.heap[D]? = some (Obj.deferred (some []))) ∧ (mark ++ a.defers).Nodup := by
  have hg := H.fresh s.g (Nat.le_refl _)
  cases hr : C.r with
  | some l0 =>
    obtain ⟨x, hx⟩ := H.around l0 hr
    have hG : Grows w (w.alloc (.loop { state := .ready, pending := none, fn, tmps := a.tmps, params := ps, assign, body, defers := x.defers })) _ := ⟨rfl, rfl, rfl, rfl⟩
    have hext := Ext.push (x := (w.heap.size, 0, 0)) H.heap H.hb hg hG
    refine ⟨_, _, _, _, run_enterLoop_inner hx fn a.tmps ps assign body, H.heap.push hg hG d slot ?_, hext, hG.new, rfl, rfl, rfl, rfl, ?_, by simpa using H.nodup⟩
    · exact ⟨w.heap.size, 0, upd_same, ⟨_, hG.new, rfl, rfl⟩, fun hb => absurd (H.heap.lt _ hb) (by omega), H.hb.up⟩
    · intro x hx
      obtain ⟨D, h1, h2, h3⟩ := H.marks x (by simpa using hx)
      exact ⟨D, h1, h2, hext.kp.dfr D h3⟩
  | none =>
    have hG1 : Grows w (w.alloc (.deferred (some []))) _ := ⟨rfl, rfl, rfl, rfl⟩
    have hx1 : Ext C.base σ I w σ I (w.alloc (.deferred (some []))) := ⟨fun _ _ h => h, fun _ h => h, fun _ h => .inl h, hG1.keep H.heap.lt, hG1.below H.hb⟩
    have H1 : HRep σ I C.base (w.alloc (.deferred (some []))) s.h := H.heap.keep (fun _ _ h => h) (fun _ h => h) hx1.kp (hx1.kp.inW H.heap.inW) fun d s b hb => ⟨hG1.old (blkOf_facts (H.heap.rows d s) hb).1, (blkOf_facts (H.heap.rows d s) hb).2.1⟩
    have hG : Grows (w.alloc (.deferred (some []))) ((w.alloc (.deferred (some []))).alloc (.loop { state := .ready, pending := none, fn, tmps := a.tmps, params := ps, assign, body, defers := w.heap.size })) _ := ⟨rfl, rfl, rfl, rfl⟩
    have hsz : (w.alloc (.deferred (some []))).heap.size = w.heap.size + 1 := hG1.size
    have hB1 : Bnd C.base (w.alloc (.deferred (some []))).heap.size := H.hb.mono (by omega)
    have hext := Ext.push (x := (w.heap.size + 1, 0, 0)) H1 hB1 hg hG
    have hl : ((w.alloc (.deferred (some []))).alloc (.loop { state := .ready, pending := none, fn, tmps := a.tmps, params := ps, assign, body, defers := w.heap.size })).heap[w.heap.size + 1]? = some (Obj.loop { state := .ready, pending := none, fn, tmps := a.tmps, params := ps, assign, body, defers := w.heap.size }) := by
      rw [← hsz]; exact hG.new
    have hpush := H1.push (k := 0) (off := 0) hg hG d slot (b := .lp .ready) ⟨(w.alloc (.deferred (some []))).heap.size, 0, upd_same, ⟨_, hG.new, rfl, rfl⟩, fun hb => absurd (H1.lt _ hb) (by omega), hB1.up⟩
    rw [hsz] at hpush
    refine ⟨_, _, _, _, run_enterLoop_outer fn a.tmps ps assign body, hpush, hx1.trans hext, hl, rfl, rfl, rfl, rfl, ?_, ?_⟩
    · intro x hx
      simp only [List.cons_append, List.nil_append, List.mem_cons] at hx
      rcases hx with rfl | hx
      · exact ⟨w.heap.size, H.losz, rfl, by rw [hG.old (by omega)]; exact hG1.new⟩
      · obtain ⟨D, h1, h2, h3⟩ := H.marks x hx
        exact ⟨D, h1, h2, (hx1.trans hext).kp.dfr D h3⟩
    · simp only [List.cons_append, List.nil_append]
      refine List.nodup_cons.2 ⟨fun hx => ?_, H.nodup⟩
      obtain ⟨D, h1, h2, h3⟩ := H.marks _ hx
      have := lt_of_heap h3
      simp at h2
      omega
end
end Go.Proofs.YtlhfgonjcpapnaaGreatDoor.Abs

/- Code does what the abstract machine says, II: rounds; all code. -/
set_option linter.unusedVariables false
set_option linter.unusedSimpArgs false
namespace Go.Proofs.YtlhfgonjcpapnaaGreatDoor.Abs
open Go Go.RowKit

section
variable {E : Env} {call : CallFn} {ys : Ys} {d : Nat} {base : Blk} {C : Cx} {σ : Sig} {I : Blk} {w : World} {h : Heap} {s s' : St} {a : Act}

theorem zip_fold (ps : Array Tmp) (us : List Value) (tm : Array Value) : (ps.zip us.toArray).foldl (fun x (q : Tmp × Value) => x.setIfInBounds q.1 q.2) tm = (ps.toList.zip us).foldl (fun x (q : Tmp × Value) => x.setIfInBounds q.1 q.2) tm := by
  rw [← Array.foldl_toList]
  congr 1
  simp

theorem SRel.later {σ' : Sig} {I' : Blk} {w' : World} {h' : Heap} (H : SRel C σ I w s a) (hx : Ext C.base σ I w σ' I' w') (hh : HRep σ' I' C.base w' h') (hf : ∀ k, s.g ≤ k → σ' k = none) : SRel C σ' I' w' { s with h := h' } a :=
  ⟨fun i => hx.rep (H.tmp i), hh, hf, H.hb.mono hx.below.size, H.hn, fun x hx' => let ⟨D, h1, h2, h3⟩ := H.marks x hx'; ⟨D, h1, h2, hx.kp.dfr D h3⟩, H.nodup,
   fun l hl => let ⟨x, hx'⟩ := H.around l hl; let ⟨x', h1, _⟩ := hx.kp.loop l x hx'; ⟨x', h1⟩, H.lob, Nat.le_trans H.losz hx.below.size⟩

/-- ONE ROUND. -/
theorem round_sound {assign body : Code} {fa fb : St → Option (AExit × St)} {n : Nat} (ha : ∀ C s x s', C.n = n → fa s = some (x, s') → Sound E C ys assign s x s') (hb : ∀ C s x s', C.n = n → fb s = some (x, s') → Sound E C ys body s x s')
    {ps : Array Tmp} (hps : ∀ p ∈ ps.toList, p < n) {tm : Array Value} (hn : n ≤ tm.size) {t : List AV} {slot gen l : Nat} {rec : Loop} (hys : YsOk E ys σ I w) (hσ : σ gen = some (l, 0, 0)) (hl : w.heap[l]? = some (Obj.loop rec))
    (ht : ∀ i, Rep σ I w (getT t i) (tm.getD i undef)) (h1 : rec.tmps = tm) (h2 : rec.params = ps) (h3 : rec.assign = assign) (h4 : rec.body = body) : YOk E.P gen (roundF fa fb ps t d slot gen) σ I w := by
  refine ⟨l, 0, 0, hσ, fun σ1 I1 w1 hL base h args us g b h' g' he H hB hlen hr hfr => ?_⟩
  unfold roundF at he
  split at he
  · rename_i hsz
    split at he
    · rename_i hlive
      have hσ1 := hL.sig _ _ hσ
      obtain ⟨rr, hh, hok, _⟩ := H.loopPut (r' := rec) hlive hσ1 row0 (.inl rfl)
      obtain ⟨rr', hh', hsame⟩ := hL.kp.loop l rec hl
      rw [hh] at hh'
      injection hh' with hh'
      injection hh' with hh'
      subst hh'
      have hpar : rr.params = ps := hsame.2.2.1.trans h2
      have htm : rr.tmps = tm := hsame.2.1.trans h1
      have has : rr.assign = assign := hsame.2.2.2.1.trans h3
      have hbo : rr.body = body := hsame.2.2.2.2.1.trans h4
      have hy := run_yield (P := E.P) (args := us.toArray) hh (by rw [hpar]; simp; omega)
      rw [hpar, htm, has, hbo, zip_fold] at hy
      refine ⟨_, _, _, _, hy, ?_⟩
      have hset := setTs_rep ps.toList args us t tm hlen (fun p hp => Nat.lt_of_lt_of_le (hps p hp) hn) hr (fun i => (ht i).mono hL.sig hL.blk hL.kp)
      split at he
      · rename_i s1 hs1
        split at he
        · rename_i hlive1
          split at he
          · rename_i x s2 hs2
            have H0 : SRel ⟨n, base, w1.heap.size, some l⟩ σ1 I1 w1 { t := setTs ps.toList args t, h := h, g := g } { tmps := (ps.toList.zip us).foldl (fun x (q : Tmp × Value) => x.setIfInBounds q.1 q.2) tm, defers := [] } :=
              ⟨hset.1, H, hfr, hB, Nat.le_trans hn (Nat.le_of_eq hset.2.symm), fun x hx => by simp at hx, List.nodup_nil, fun l' hl' => by cases hl'; exact ⟨rr, hh⟩, hB, Nat.le_refl _⟩
            refine roundIn_of_wpIn (F := WF none) trivial ?_
            refine ha ⟨n, base, w1.heap.size, some l⟩ _ .normal s1 rfl hs1 σ1 I1 w1 _ _ H0 (hys.later hL) fun σ2 I2 w2 a2 hd => ?_
            have hσ2 := hd.ext.sig _ _ hσ1
            obtain ⟨r2, hh2, hok2, hput2⟩ := hd.rel.heap.loopPut (r' := rec) hlive1 hσ2 row0 (.inl rfl)
            obtain ⟨r2, hh2, hok2, hput2⟩ := hd.rel.heap.loopPut (r' := { r2 with state := .busy }) hlive1 hσ2 ⟨gen, .lp .busy⟩ (.inr ⟨_, rfl, rfl⟩)
            have hh2' := hh2
            rename_i r20 hh20 hok20 hput20
            rw [hh20] at hh2'
            injection hh2' with hh2'
            injection hh2' with hh2'
            subst hh2'
            obtain ⟨H3, hx3⟩ := hput2 ⟨rfl, rfl, rfl, rfl, rfl, rfl⟩
            refine ⟨_, run_beginRound hh2 hok2.1, ?_⟩
            have hS3 := hd.rel.later hx3 H3 hd.rel.fresh
            refine hb ⟨n, base, w1.heap.size, some l⟩ _ x s2 rfl hs2 σ2 I2 _ a2 _ hS3 ((hys.later hL).later (hd.ext.trans hx3).later) fun σ4 I4 w4 a4 hd4 => ?_
            have hσ4 := hd4.ext.sig _ _ hσ2
            split at he
            · rename_i hlive4
              by_cases hxn : x = .normal
              · subst hxn
                simp only [if_true, Option.some.injEq, Prod.mk.injEq] at he
                obtain ⟨rfl, rfl, rfl⟩ := he
                obtain ⟨r5, hh5, hok5, _⟩ := hd4.rel.heap.loopPut (r' := rec) hlive4 hσ4 row0 (.inl rfl)
                obtain ⟨r5', hh5', hok5', hput5⟩ := hd4.rel.heap.loopPut (r' := { r5 with state := .ready, pending := none }) hlive4 hσ4 ⟨gen, .lp .ready⟩ (.inr ⟨_, rfl, rfl, rfl⟩)
                rw [hh5] at hh5'
                injection hh5' with hh5'
                injection hh5' with hh5'
                subst hh5'
                obtain ⟨H6, hx6⟩ := hput5 ⟨rfl, rfl, rfl, rfl, rfl, rfl⟩
                refine ⟨_, _, run_endRound none hh5, rfl, σ4, I4, H6, ((hd.ext.trans hx3).trans hd4.ext).trans hx6, fun k hk => ?_, hd4.rel.fresh, Nat.le_trans hd.grow hd4.grow⟩
                rw [hd4.low k (Nat.lt_of_lt_of_le hk hd.grow), hd.low k hk]
              · rw [if_neg hxn] at he
                simp only [Option.some.injEq, Prod.mk.injEq] at he
                obtain ⟨rfl, rfl, rfl⟩ := he
                obtain ⟨r5, hh5, hok5, _⟩ := hd4.rel.heap.loopPut (r' := rec) hlive4 hσ4 row0 (.inl rfl)
                obtain ⟨r5', hh5', hok5', hput5⟩ := hd4.rel.heap.loopPut (r' := { r5 with state := .done, pending := some x.code }) hlive4 hσ4 ⟨gen, .lp (.done x)⟩ (.inr ⟨_, rfl, rfl, rfl⟩)
                rw [hh5] at hh5'
                injection hh5' with hh5'
                injection hh5' with hh5'
                subst hh5'
                obtain ⟨H6, hx6⟩ := hput5 ⟨rfl, rfl, rfl, rfl, rfl, rfl⟩
                have post : RPost σ1 I1 base w1 g (hput s2.h d slot ⟨gen, .lp (.done x)⟩) s2.g (w4.putObj l (.loop { r5 with state := .done, pending := some x.code })) σ4 I4 :=
                  ⟨H6, ((hd.ext.trans hx3).trans hd4.ext).trans hx6, fun k hk => by rw [hd4.low k (Nat.lt_of_lt_of_le hk hd.grow), hd.low k hk], hd4.rel.fresh, Nat.le_trans hd.grow hd4.grow⟩
                cases x with
                | normal => exact absurd rfl hxn
                | ret => exact ⟨_, _, run_endRound (some .ret) hh5, rfl, σ4, I4, post⟩
                | exit id => exact ⟨_, _, run_endRound (some (.exit id)) hh5, rfl, σ4, I4, post⟩
                | goto t => exact ⟨_, _, run_endRound (some (.goto t)) hh5, rfl, σ4, I4, post⟩
            · cases he
          · cases he
        · cases he
      · cases he
    · cases he
  · cases he

/-- THE CODE. -/
theorem code_sound (hcall : CallOk E call) (hfz : FzCall E call) (hmix : E.P.follows .mixedOrders = true) (hent : ∀ f, enters E f = true → ∀ args w, (callFunc f args).run E.P w = .ok (.enter f args) w) {fuel : Nat} :
    ∀ (c : Code) (C : Cx), codeWf E C.n c = true → ∀ (s : St) (x : AExit) (s' : St), codeF E call ys d fuel c s = some (x, s') → Sound E C ys c s x s'
  | .skip, C, _, s, x, s', h, σ, I, w, a, Q, H, hys, hQ => by
    simp only [codeF, Option.some.injEq, Prod.mk.injEq] at h
    obtain ⟨rfl, rfl⟩ := h
    exact wpIn_skip (hQ σ I w a (Done.refl H))
  | .label l, C, _, s, x, s', h, σ, I, w, a, Q, H, hys, hQ => by
    simp only [codeF, Option.some.injEq, Prod.mk.injEq] at h
    obtain ⟨rfl, rfl⟩ := h
    exact wpIn_label (hQ σ I w a (Done.refl H))
  | .ret, C, _, s, x, s', h, σ, I, w, a, Q, H, hys, hQ => by
    simp only [codeF, Option.some.injEq, Prod.mk.injEq] at h
    obtain ⟨rfl, rfl⟩ := h
    exact wpIn_ret (hQ σ I w a (Done.refl H))
  | .exit id, C, _, s, x, s', h, σ, I, w, a, Q, H, hys, hQ => by
    simp only [codeF, Option.some.injEq, Prod.mk.injEq] at h
    obtain ⟨rfl, rfl⟩ := h
    exact wpIn_exit (hQ σ I w a (Done.refl H))
  | .goto l, C, _, s, x, s', h, σ, I, w, a, Q, H, hys, hQ => by
    simp only [codeF, Option.some.injEq, Prod.mk.injEq] at h
    obtain ⟨rfl, rfl⟩ := h
    exact wpIn_goto (hQ σ I w a (Done.refl H))
  | .region id ops draw, C, hwf, s, x, s', h, σ, I, w, a, Q, H, hys, hQ => by
    have hx : x = .normal := by
      simp only [codeF, Option.map_eq_some_iff, Prod.mk.injEq] at h
      obtain ⟨_, _, rfl, _⟩ := h
      rfl
    subst hx
    exact region_sound hcall hfz (fun _ => hmix) hwf h H hys hQ
  | .seq y z, C, hwf, s, x, s', h, σ, I, w, a, Q, H, hys, hQ => by
    simp only [codeWf, Bool.and_eq_true] at hwf
    simp only [codeF] at h
    cases hy : codeF E call ys d fuel y s with
    | none => simp [hy] at h
    | some r =>
      obtain ⟨x1, s1⟩ := r
      rw [hy] at h
      refine wpIn_seq (code_sound hcall hfz hmix hent y C hwf.1 s x1 s1 hy σ I w a _ H hys fun σ1 I1 w1 a1 hd => ?_)
      cases x1 with
      | normal => exact code_sound hcall hfz hmix hent z C hwf.2 s1 x s' h σ1 I1 w1 a1 Q hd.rel (hys.later hd.ext.later) fun σ' I' w' a' hd' => hQ σ' I' w' a' (hd.trans hd')
      | _ =>
        simp only [Option.some.injEq, Prod.mk.injEq] at h
        obtain ⟨rfl, rfl⟩ := h
        exact hQ σ1 I1 w1 a1 hd
  | .cond c y z, C, hwf, s, x, s', h, σ, I, w, a, Q, H, hys, hQ => by
    simp only [codeWf, Bool.and_eq_true] at hwf
    simp only [codeF] at h
    cases hb : boolA (evalA s.t c) with
    | none => simp [hb] at h
    | some t =>
      have hev := (boolA_rep (eval_rep H.tmp c) t).1 hb
      cases t with
      | true => exact wpIn_cond_true hev (code_sound hcall hfz hmix hent y C hwf.1 s x s' (by simpa [hb] using h) σ I w a Q H hys hQ)
      | false => exact wpIn_cond_false hev (code_sound hcall hfz hmix hent z C hwf.2 s x s' (by simpa [hb] using h) σ I w a Q H hys hQ)
  | .block id c, C, hwf, s, x, s', h, σ, I, w, a, Q, H, hys, hQ => by
    simp only [codeWf] at hwf
    simp only [codeF] at h
    cases hc : codeF E call ys d fuel c s with
    | none => simp [hc] at h
    | some r =>
      obtain ⟨x1, s1⟩ := r
      rw [hc] at h
      refine wpIn_block (code_sound hcall hfz hmix hent c C hwf s x1 s1 hc σ I w a _ H hys fun σ1 I1 w1 a1 hd => ?_)
      cases x1 with
      | exit id' =>
        simp only [Option.some.injEq, Prod.mk.injEq] at h
        obtain ⟨rfl, rfl⟩ := h
        have := hQ σ1 I1 w1 a1 hd
        simp only [toExit, Exit.inBlock]
        by_cases e : id' = id
        · simp only [e, if_true] at this ⊢; exact this
        · simp only [e, if_false] at this ⊢; exact this
      | _ =>
        simp only [Option.some.injEq, Prod.mk.injEq] at h
        obtain ⟨rfl, rfl⟩ := h
        exact hQ σ1 I1 w1 a1 hd
  | .loop c, C, hwf, s, x, s', h, σ, I, w, a, Q, H, hys, hQ => by
    simp only [codeWf] at hwf
    simp only [codeF] at h
    exact loop_sound (fun s x s' hb => code_sound hcall hfz hmix hent c C hwf s x s' hb) h σ I w a Q H hys hQ
  | .rangeFunc f ps assign body, C, hwf, s, x, s', h, σ, I, w, a, Q, H, hys, hQ => by
    simp only [codeWf, Bool.and_eq_true] at hwf
    obtain ⟨⟨hps, hwa⟩, hwb⟩ := hwf
    have hps' : ∀ p ∈ ps.toList, p < C.n := by
      rw [Array.all_eq_true_iff_forall_mem] at hps
      intro p hp
      simpa using hps p (by simpa using hp)
    simp only [codeF, Option.bind_eq_some_iff] at h
    obtain ⟨⟨fid, b, c⟩, hcal, h⟩ := h
    simp only [] at h
    split at h
    · rename_i hen
      simp only [Option.bind_eq_some_iff] at h
      obtain ⟨⟨v, h3, g3⟩, hcl, h⟩ := h
      simp only [] at h
      obtain ⟨vb, vc, hu, hlb, hlc, hrb, hrc⟩ := callee_rep (eval_rep H.tmp f) hcal
      refine wpIn_rangeFunc fun fn _ => ?_
      obtain ⟨l, mark, w1, rec, hrun, H1, hx1, hrec, e1, e2, e3, e4, hmarks, hnd⟩ := enter_sound (E := E) (d := d) (assign := assign) (body := body) (ps := ps) H fn (ps.getD 0 0)
      have hgen : upd σ s.g (l, 0, 0) s.g = some (l, 0, 0) := upd_same
      have hargs : vb.toArray ++ #[Value.func (.yield l) #[] #[]] ++ vc.toArray = (vb ++ [Value.func (.yield l) #[] #[]] ++ vc).toArray := by apply Array.ext'; simp
      refine ⟨l, mark, w1, { target := .fn (.func fid) vc.toArray, args := vb.toArray ++ #[.func (.yield l) #[] #[]] }, w1, fid, (vb ++ [Value.func (.yield l) #[] #[]] ++ vc).toArray, w1, hrun, ?_, fun _ _ => trivial, ?_, fun h => by simp [WF, Fence.wide] at h, ?_⟩
      · simp only [resolve]
        rw [hu]
        simp [Deferred.ofValue, Act.eval]
      · rw [← hargs]
        simp [invoke, hent fid hen]
      · have hyok : YsOk E ((s.g, roundF (codeF E call ys d fuel assign) (codeF E call ys d fuel body) ps s.t d (ps.getD 0 0) s.g) :: ys) (upd σ s.g (l, 0, 0)) I w1 := by
          refine ⟨?_, (hys.later hx1.later).2⟩
          intro gl hd hget
          simp only [Ys.get?] at hget
          split at hget
          · rename_i e
            subst e
            injection hget with hget
            subst hget
            exact round_sound (n := C.n) (fun C' s x s' hC hb => code_sound hcall hfz hmix hent assign C' (by rw [hC]; exact hwa) s x s' hb) (fun C' s x s' hC hb => code_sound hcall hfz hmix hent body C' (by rw [hC]; exact hwb) s x s' hb)
              hps' H.hn (hys.later hx1.later) hgen hrec (fun i => hx1.rep (H.tmp i)) e1 e2 e3 e4
          · exact (hys.1 gl hd hget).later hx1.later
        have hdo := hcall _ (upd σ s.g (l, 0, 0)) I C.base w1 _ fid _ d _ (s.g + 1) (s.g + 2) v h3 g3 (vb ++ [Value.func (.yield l) #[] #[]] ++ vc) hcl hyok H1 (H.hb.mono hx1.below.size) (by simp [hlb, hlc])
          (reps_append (by simp [hlb]) (reps_append hlb (fun j p u hp hu => hx1.rep (hrb j p u hp hu)) (fun j p u hp hu => by
            cases j with
            | zero =>
              have hp1 : some (AV.yld d (ps.getD 0 0) s.g) = some p := hp
              have hu1 : some (Value.func (.yield l) #[] #[]) = some u := hu
              injection hp1 with hp1
              injection hu1 with hu1
              subst hp1
              subst hu1
              exact .yld d (ps.getD 0 0) s.g l 0 0 hgen
            | succ j => simp at hp)) (fun j p u hp hu => hx1.rep (hrc j p u hp hu)))
          (by rw [upd_other (by omega)]; exact H.fresh _ (by omega)) (by omega) (fun k hk => by rw [upd_other (by omega)]; exact H.fresh _ (by omega))
        rcases hdo with ⟨_, _, hv, _⟩ | ⟨_, hcalls⟩ | ⟨_, _, _, hv, _⟩
        · rw [hent fid hen] at hv; cases hv
        · refine CallsIn.mono (F := WF C.r) (callsIn_wide.2 hcalls) ?_
          intro e w3 he
          cases e with
          | panicked ch => exact he.elim
          | outgrown => exact he.elim
          | returned u =>
            obtain ⟨σ3, I3, hp⟩ := he
            have hσ3 : σ3 s.g = some (l, 0, 0) := by rw [hp.low _ (by omega) (by omega)]; exact hgen
            have fin : ∀ (st : LpSt), live h3 d (ps.getD 0 0) s.g = .lp st → ∃ r w4, w3.heap[l]? = some (Obj.loop r) ∧ LpOk st r ∧ (r.state ≠ .busy → (Instr.endLoop l).run E.P w3 = .ok r.pending w4) ∧
                Done C s.g σ I w { t := s.t, h := hput h3 d (ps.getD 0 0) row0, g := g3 } σ3 I3 w4 { a with defers := mark ++ a.defers } := by
              intro st hlv
              obtain ⟨r, hh, hok, _⟩ := hp.heap.loopPut (r' := rec) hlv hσ3 row0 (.inl rfl)
              obtain ⟨r', hh', hok', hput⟩ := hp.heap.loopPut (r' := { r with state := .exhausted }) hlv hσ3 row0 (.inl rfl)
              rw [hh] at hh'
              injection hh' with hh'
              injection hh' with hh'
              subst hh'
              obtain ⟨H4, hx4⟩ := hput ⟨rfl, rfl, rfl, rfl, rfl, rfl⟩
              have hx := (hx1.trans hp.ext).trans hx4
              refine ⟨r, _, hh, hok, fun hnb => run_endLoop hh hnb, ⟨⟨fun i => hx.rep (H.tmp i), H4, hp.high, H.hb.mono hx.below.size, H.hn, ?_, hnd, ?_, H.lob, Nat.le_trans H.losz hx.below.size⟩, hx, fun k hk => ?_, by have := hp.grow; simp only []; omega⟩⟩
              · intro x hx'
                obtain ⟨D, d1, d2, d3⟩ := hmarks x hx'
                exact ⟨D, d1, d2, (hp.ext.trans hx4).kp.dfr D d3⟩
              · intro l' hl'
                obtain ⟨x, hx'⟩ := H.around l' hl'
                obtain ⟨x', h1, _⟩ := hx.kp.loop l' x hx'
                exact ⟨x', h1⟩
              · rw [hp.low k (by omega) (by omega), upd_other (by omega)]
            split at h
            · rename_i hlv
              simp only [Option.some.injEq, Prod.mk.injEq] at h
              obtain ⟨rfl, rfl⟩ := h
              obtain ⟨r, w4, hh, hok, hend, hdone⟩ := fin _ hlv
              exact ⟨_, w4, hend (by rw [hok.1]; simp), by rw [hok.2]; exact hQ σ3 I3 w4 _ hdone⟩
            · rename_i y hlv
              split at h
              · cases h
              · rename_i hxn
                simp only [Option.some.injEq, Prod.mk.injEq] at h
                obtain ⟨rfl, rfl⟩ := h
                obtain ⟨r, w4, hh, hok, hend, hdone⟩ := fin _ hlv
                refine ⟨_, w4, hend (by rw [hok.1]; simp), ?_⟩
                rw [hok.2]
                have hq := hQ σ3 I3 w4 _ hdone
                cases y with
                | normal => exact absurd rfl hxn
                | ret => exact wpIn_ret hq
                | exit id => exact wpIn_exit hq
                | goto t => exact wpIn_goto hq
            · cases h
        · rw [hent fid hen] at hv; cases hv
    · cases h
end
end Go.Proofs.YtlhfgonjcpapnaaGreatDoor.Abs

/- Rows and boxes handed over under names of their own: what they stand for, there and back. -/
set_option linter.unusedVariables false
set_option linter.unusedSimpArgs false
namespace Go.Proofs.YtlhfgonjcpapnaaGreatDoor.Abs
open Go Go.RowKit

section
variable {σ τ : Sig} {I I' : Blk} {base base' : Blk} {w w' : World} {h h' h1 : Heap} {ρ : K2 → Option (K2 × Nat)}

/-- names are turned into names of the same rows -/
def Named (ρ : K2 → Option (K2 × Nat)) (σ τ : Sig) (l : List (K2 × Nat)) : Prop := ∀ q ∈ l, ∀ k, ρ q.1 = some k → ∀ x, σ q.2 = some x → τ k.2 = some x
theorem Named.sub {l l' : List (K2 × Nat)} (h : Named ρ σ τ l) (hs : ∀ q ∈ l', q ∈ l) : Named ρ σ τ l' := fun q hq => h q (hs q hq)

theorem renL_len {f : AV → Option AV} : ∀ {l l' : List AV}, renL f l = some l' → l'.length = l.length
  | [], l', h => by simp [renL] at h; subst h; rfl
  | v :: l, l', h => by
    simp only [renL, Option.bind_eq_some_iff, Option.map_eq_some_iff] at h
    obtain ⟨w, _, l2, h2, rfl⟩ := h
    simp [renL_len h2]
theorem renL_get {f : AV → Option AV} : ∀ {l l' : List AV}, renL f l = some l' → ∀ (j : Nat) (p : AV), l'[j]? = some p → ∃ v, l[j]? = some v ∧ f v = some p
  | [], l', h, j, p, hp => by simp [renL] at h; subst h; simp at hp
  | v :: l, l', h, j, p, hp => by
    simp only [renL, Option.bind_eq_some_iff, Option.map_eq_some_iff] at h
    obtain ⟨w, hw, l2, h2, rfl⟩ := h
    cases j with
    | zero => simp at hp; subst hp; exact ⟨v, rfl, hw⟩
    | succ j => exact renL_get h2 j p (by simpa using hp)

theorem refs_mem {n j : Nat} {l : List AV} {v : AV} (hv : l[j]? = some v) {q : K2 × Nat} (hq : q ∈ refs n v) : q ∈ l.flatMap (refs n) :=
  List.mem_flatMap.2 ⟨v, List.mem_of_getElem? hv, hq⟩
theorem ren_rep : ∀ (n : Nat) {v v' : AV} {u : Value}, ren ρ n v = some v' → Named ρ σ τ (refs n v) → Rep σ I w v u → Rep τ I w v' u := by
  intro n
  induction n with
  | zero => intro v v' u h; simp [ren] at h
  | succ n ih =>
    intro v v' u h hN hr
    cases hr with
    | pv p u hp => simp only [ren, Option.some.injEq] at h; subst h; exact .pv _ _ hp
    | mptr d s g i off b o k hs =>
      simp only [ren, Option.map_eq_some_iff] at h
      obtain ⟨q, hq, rfl⟩ := h
      exact .mptr _ _ _ _ _ _ _ _ (hN ((d, s), g) (by simp [refs]) q hq _ hs)
    | msl d s g off m full b o k cap ad had hs hn hfull hroom =>
      simp only [ren, Option.map_eq_some_iff] at h
      obtain ⟨q, hq, rfl⟩ := h
      exact .msl _ _ _ _ _ _ _ _ _ _ _ had (hN ((d, s), g) (by simp [refs]) q hq _ hs) hn hfull hroom
    | agg cs vs hl h1 hr =>
      simp only [ren, Option.map_eq_some_iff] at h
      obtain ⟨l', hl', rfl⟩ := h
      refine .agg _ _ (by rw [renL_len hl']; exact hl) h1 fun j p v hp hv => ?_
      obtain ⟨x, hx, hfx⟩ := renL_get hl' j p hp
      exact ih hfx (hN.sub fun q hq => by simp only [refs]; exact refs_mem hx hq) (hr j x v hx hv)
    | tup cs vs hl hr =>
      simp only [ren, Option.map_eq_some_iff] at h
      obtain ⟨l', hl', rfl⟩ := h
      refine .tup _ _ (by rw [renL_len hl']; exact hl) fun j p v hp hv => ?_
      obtain ⟨x, hx, hfx⟩ := renL_get hl' j p hp
      exact ih hfx (hN.sub fun q hq => by simp only [refs]; exact refs_mem hx hq) (hr j x v hx hv)
    | clo f a b va vb hla hlb hra hrb =>
      simp only [ren, Option.bind_eq_some_iff, Option.map_eq_some_iff] at h
      obtain ⟨a', ha', b', hb', rfl⟩ := h
      refine .clo _ _ _ _ _ (by rw [renL_len ha']; exact hla) (by rw [renL_len hb']; exact hlb) (fun j p v hp hv => ?_) fun j p v hp hv => ?_
      · obtain ⟨x, hx, hfx⟩ := renL_get ha' j p hp
        exact ih hfx (hN.sub fun q hq => by simp only [refs]; exact List.mem_append_left _ (refs_mem hx hq)) (hra j x v hx hv)
      · obtain ⟨x, hx, hfx⟩ := renL_get hb' j p hp
        exact ih hfx (hN.sub fun q hq => by simp only [refs]; exact List.mem_append_right _ (refs_mem hx hq)) (hrb j x v hx hv)
    | yld d s g b o k hs => simp [ren] at h

theorem ren_cells : ∀ {n : Nat} {v v' : AV}, ren ρ (n + 1) v = some v' → v'.cells.length = v.cells.length ∧ v'.ok = v.ok ∧ ∀ (j : Nat) (p : AV), v'.cells[j]? = some p → ∃ q, v.cells[j]? = some q ∧ ∀ (I : Blk) (w : World) (u : Value), Named ρ σ τ (refs (n + 1) v) → Rep σ I w q u → Rep τ I w p u := by
  intro n v v' h
  have one : ∀ {x x' : AV}, ren ρ (n + 1) x = some x' → ∀ (j : Nat) (p : AV), [x'][j]? = some p → ∃ q, [x][j]? = some q ∧ ∀ (I : Blk) (w : World) (u : Value), Named ρ σ τ (refs (n + 1) x) → Rep σ I w q u → Rep τ I w p u := by
    intro x x' hx j p hp
    cases j with
    | zero => simp at hp; subst hp; exact ⟨x, rfl, fun I w u hN hr => ren_rep (n + 1) hx hN hr⟩
    | succ j => simp at hp
  cases v with
  | pv p =>
    simp only [ren, Option.some.injEq] at h
    subst h
    refine ⟨rfl, rfl, fun j q hq => ⟨q, hq, fun I w u _ hr => ?_⟩⟩
    simp only [AV.cells, List.getElem?_map, Option.map_eq_some_iff] at hq
    obtain ⟨x, _, rfl⟩ := hq
    exact .pv _ _ (rep_pv hr)
  | mptr d s g i off =>
    have h0 := h
    simp only [ren, Option.map_eq_some_iff] at h
    obtain ⟨q, hq, rfl⟩ := h
    exact ⟨rfl, rfl, one h0⟩
  | msl d s g off m full =>
    have h0 := h
    simp only [ren, Option.map_eq_some_iff] at h
    obtain ⟨q, hq, rfl⟩ := h
    exact ⟨rfl, rfl, one h0⟩
  | agg l =>
    simp only [ren, Option.map_eq_some_iff] at h
    obtain ⟨l', hl', rfl⟩ := h
    refine ⟨renL_len hl', rfl, fun j p hp => ?_⟩
    obtain ⟨x, hx, hfx⟩ := renL_get hl' j p hp
    exact ⟨x, hx, fun I w u hN hr => ren_rep n hfx (hN.sub fun q hq => by simp only [refs]; exact refs_mem hx hq) hr⟩
  | tup l =>
    have h0 := h
    simp only [ren, Option.map_eq_some_iff] at h
    obtain ⟨l', hl', rfl⟩ := h
    exact ⟨rfl, rfl, one h0⟩
  | clo f a b =>
    have h0 := h
    simp only [ren, Option.bind_eq_some_iff, Option.map_eq_some_iff] at h
    obtain ⟨a', ha', b', hb', rfl⟩ := h
    exact ⟨rfl, rfl, one h0⟩
  | yld d s g => simp [ren] at h

/-- a row under another name -/
theorem row_ren {r : Row} {g' : Nat} {b' : Body} (hr : RowRep σ I base w r) (hb : renB ρ r.b = some b') (hg : ∀ x, σ r.g = some x → τ g' = some x) (hN : Named ρ σ τ (refsB r.b)) (hB : ∀ b, blkOf σ r = some b → ¬ base' b) :
    RowRep τ I base' w ⟨g', b'⟩ ∧ blkOf τ ⟨g', b'⟩ = blkOf σ r := by
  obtain ⟨g, bd⟩ := r
  cases bd with
  | dead => simp [renB] at hb
  | lp st => simp [renB] at hb
  | box v fz =>
    simp only [renB, Option.map_eq_some_iff] at hb
    obtain ⟨v', hv', rfl⟩ := hb
    obtain ⟨b, e, hs, hsh, hok, hc, hz⟩ := hr
    obtain ⟨hlen, hok', hcell⟩ := ren_cells (σ := σ) (τ := τ) (n := 7) hv'
    refine ⟨⟨b, e, hg _ hs, by rw [hlen]; exact hsh, hok'.trans hok, fun j p hp => ?_, ?_⟩, ?_⟩
    · obtain ⟨q, hq, hx⟩ := hcell j p hp
      obtain ⟨u, h1, h2, h3⟩ := hc j q hq
      exact ⟨u, h1, h2, hx I w u hN h3⟩
    · rw [hlen]
      cases fz with
      | true => exact hz
      | false => exact ⟨hz.1, hB b (by simp [blkOf, hs]), hz.2.2⟩
    · cases fz <;> simp [blkOf, hs, hg _ hs]
  | row k e xs fz =>
    simp only [renB, Option.some.injEq] at hb
    subst hb
    obtain ⟨b, o, n, hs, hsh, hn, hx, hc, hz⟩ := hr
    refine ⟨⟨b, o, n, hg _ hs, hsh, hn, hx, hc, ?_⟩, ?_⟩
    · cases fz with
      | true => exact hz
      | false => exact ⟨hz.1, hB b (by simp [blkOf, hs]), hz.2.2⟩
    · cases fz <;> simp [blkOf, hs, hg _ hs]
  | iter s pos =>
    simp only [renB, Option.some.injEq] at hb
    subst hb
    obtain ⟨b, k, hs, hh, h1, h2⟩ := hr
    exact ⟨⟨b, k, hg _ hs, hh, h1, hB b (by simp [blkOf, hs])⟩, by simp [blkOf, hs, hg _ hs]⟩

/-! ### keys -/
theorem kidx_some : ∀ {ks : List K2} {x : K2} {i : Nat}, kidx ks x = some i → ks[i]? = some x
  | [], x, i, h => by simp [kidx] at h
  | k :: ks, x, i, h => by
    unfold kidx at h
    split at h
    · rename_i hk
      simp only [Bool.and_eq_true, beq_iff_eq] at hk
      simp only [Option.some.injEq] at h
      subst h
      simp [Prod.ext_iff, hk.1, hk.2]
    · simp only [Option.map_eq_some_iff] at h
      obtain ⟨j, hj, rfl⟩ := h
      simpa using kidx_some hj
theorem kidx_none : ∀ {ks : List K2} {x : K2}, kidx ks x = none → x ∉ ks
  | [], x, _ => by simp
  | k :: ks, x, h => by
    unfold kidx at h
    split at h
    · cases h
    · rename_i hk
      simp only [Option.map_eq_none_iff] at h
      have := kidx_none h
      simp only [List.mem_cons, not_or]
      refine ⟨fun e => hk (by subst e; simp), this⟩
theorem nodupK_ok : ∀ {ks : List K2}, nodupK ks = true → ks.Nodup
  | [], _ => List.nodup_nil
  | k :: ks, h => by
    simp only [nodupK, Bool.and_eq_true, Option.isNone_iff_eq_none] at h
    exact List.nodup_cons.2 ⟨kidx_none h.1, nodupK_ok h.2⟩
theorem gens_mem {l : List (K2 × Nat)} (h : gensOk h1 l = true) {q : K2 × Nat} (hq : q ∈ l) : q.2 = (hget h1 q.1.1 q.1.2).g := by
  have := List.all_eq_true.1 h q hq
  simpa using this

theorem canRows_get : ∀ {ks : List K2} {i : Nat} {rows : List Row}, canRows ρ h i ks = some rows → rows.length = ks.length ∧ ∀ (j : Nat) (r : Row), rows[j]? = some r → ∃ k b, ks[j]? = some k ∧ renB ρ (hget h k.1 k.2).b = some b ∧ r = ⟨i + j, b⟩
  | [], i, rows, h => by simp [canRows] at h; subst h; exact ⟨rfl, fun j r hr => by simp at hr⟩
  | k :: ks, i, rows, h => by
    simp only [canRows, Option.bind_eq_some_iff, Option.map_eq_some_iff] at h
    obtain ⟨b, hb, rs, hrs, rfl⟩ := h
    obtain ⟨h1, h2⟩ := canRows_get hrs
    refine ⟨by simp [h1], fun j r hr => ?_⟩
    cases j with
    | zero => simp at hr; subst hr; exact ⟨k, b, rfl, hb, rfl⟩
    | succ j =>
      obtain ⟨k', b', h3, h4, h5⟩ := h2 j r (by simpa using hr)
      exact ⟨k', b', by simpa using h3, h4, by rw [h5]; simp only [Row.mk.injEq, and_true]; omega⟩
theorem outRows_get : ∀ {n i : Nat} {rows : List Row} {m : Nat}, outRows m h i n = some rows → rows.length = n ∧ ∀ (j : Nat) (r : Row), rows[j]? = some r → ∃ b, renB (nameOut m) (hget h 0 (i + j)).b = some b ∧ r = ⟨i + j, b⟩
  | 0, i, rows, m, h => by simp [outRows] at h; subst h; exact ⟨rfl, fun j r hr => by simp at hr⟩
  | n + 1, i, rows, m, h => by
    simp only [outRows, Option.bind_eq_some_iff, Option.map_eq_some_iff] at h
    obtain ⟨b, hb, rs, hrs, rfl⟩ := h
    obtain ⟨h1, h2⟩ := outRows_get hrs
    refine ⟨by simp [h1], fun j r hr => ?_⟩
    cases j with
    | zero => simp at hr; subst hr; exact ⟨b, hb, rfl⟩
    | succ j =>
      obtain ⟨b', h4, h5⟩ := h2 j r (by simpa using hr)
      have e : i + 1 + j = i + (j + 1) := by omega
      rw [e] at h4 h5
      exact ⟨b', h4, h5⟩
theorem rowsOk_get : ∀ {n i : Nat}, rowsOk h i n = true → ∀ j, j < n → (hget h 0 (i + j)).g = i + j ∧ gensOk h (refsB (hget h 0 (i + j)).b) = true
  | 0, i, h, j, hj => by omega
  | n + 1, i, h, j, hj => by
    simp only [rowsOk, Bool.and_eq_true, beq_iff_eq] at h
    cases j with
    | zero => exact ⟨h.1, h.2.1⟩
    | succ j =>
      have := rowsOk_get h.2.2 j (by omega)
      have e : i + 1 + j = i + (j + 1) := by omega
      rwa [e] at this

theorem hget_one (rows : List Row) (d s : Nat) : hget [rows] d s = if d = 0 then rows.getD s row0 else row0 := by
  unfold hget
  cases d with
  | zero => rfl
  | succ d => simp
/-- rows by their places -/
theorem HRep.of_rows {rows : List Row} (hin : ∀ b, I b → Solid w b) (hr : ∀ (j : Nat) (r : Row), rows[j]? = some r → RowRep σ I base w r)
    (ha : ∀ (i j : Nat) (r r' : Row) (b : Nat), rows[i]? = some r → rows[j]? = some r' → blkOf σ r = some b → blkOf σ r' = some b → i = j) : HRep σ I base w [rows] where
  inW := hin
  rows d s := by
    rw [hget_one]
    split
    · rw [List.getD_eq_getElem?_getD]
      cases hs : rows[s]? with
      | none => trivial
      | some r => exact hr s r hs
    · trivial
  apart d s d' s' b h1 h2 := by
    rw [hget_one] at h1 h2
    split at h1
    · rename_i e1
      split at h2
      · rename_i e2
        subst e1 e2
        rw [List.getD_eq_getElem?_getD] at h1 h2
        cases hs : rows[s]? with
        | none => rw [hs] at h1; simp [blkOf, row0] at h1
        | some r =>
          cases hs' : rows[s']? with
          | none => rw [hs'] at h2; simp [blkOf, row0] at h2
          | some r' =>
            rw [hs] at h1
            rw [hs'] at h2
            exact ⟨rfl, ha s s' r r' b hs hs' h1 h2⟩
      · simp [blkOf, row0] at h2
    · simp [blkOf, row0] at h1

/-! ### there -/
/-- where the rows that are handed over lie -/
def sigIn (σ : Sig) (h : Heap) (ks : List K2) : Sig := fun i => (ks[i]?).bind fun k => σ (hget h k.1 k.2).g
/-- blocks that the callee knows nothing of -/
def others (σ : Sig) (h : Heap) (ks : List K2) (base : Blk) : Blk := fun b => base b ∨ ∃ d s, (d, s) ∉ ks ∧ blkOf σ (hget h d s) = some b
theorem named_in {ks : List K2} {l : List (K2 × Nat)} (hg : gensOk h l = true) : Named (nameIn ks) σ (sigIn σ h ks) l := by
  intro q hq k hk x hx
  simp only [nameIn, Option.map_eq_some_iff] at hk
  obtain ⟨i, hi, rfl⟩ := hk
  have := kidx_some hi
  simp only [sigIn, this, Option.bind_some]
  rw [← gens_mem hg hq]
  exact hx
theorem canIn_sound {ks : List K2} {args cargs : List AV} {rows : List Row} {us : List Value} (H : HRep σ I base w h) (hB : Bnd base w.heap.size) (hi : canIn h args = some (ks, cargs, rows)) (hg : canGens h ks args = true) (hl : us.length = args.length)
    (hr : ∀ (j : Nat) (p : AV) (u : Value), args[j]? = some p → us[j]? = some u → Rep σ I w p u) :
    HRep (sigIn σ h ks) I (others σ h ks base) w [rows] ∧ Bnd (others σ h ks base) w.heap.size ∧ us.length = cargs.length ∧ (∀ (j : Nat) (p : AV) (u : Value), cargs[j]? = some p → us[j]? = some u → Rep (sigIn σ h ks) I w p u) ∧ rows.length = ks.length ∧ ks.Nodup := by
  unfold canIn at hi
  split at hi
  rotate_left
  · cases hi
  rename_i hnd
  simp only [Option.bind_eq_some_iff, Option.map_eq_some_iff, Prod.mk.injEq] at hi
  obtain ⟨ca, hca, rs, hrs, rfl, rfl, rfl⟩ := hi
  simp only [canGens, Bool.and_eq_true, List.all_eq_true] at hg
  obtain ⟨hlen, hget'⟩ := canRows_get hrs
  have hnd := nodupK_ok hnd
  have hrow : ∀ (j : Nat) (r : Row), rs[j]? = some r → ∃ k, (canKeys h args)[j]? = some k ∧ RowRep (sigIn σ h (canKeys h args)) I (others σ h (canKeys h args) base) w r ∧ blkOf (sigIn σ h (canKeys h args)) r = blkOf σ (hget h k.1 k.2) := by
    intro j r hj
    obtain ⟨k, b, hk, hb, rfl⟩ := hget' j r hj
    have hkm := List.mem_of_getElem? hk
    refine ⟨k, hk, row_ren (H.rows k.1 k.2) hb (fun x hx => ?_) (named_in (hg.2 k hkm)) fun b0 hb0 => ?_⟩
    · simp only [sigIn, Nat.zero_add, hk, Option.bind_some]; exact hx
    · rintro (h1 | ⟨d, s, hds, h2⟩)
      · exact (blkOf_facts (H.rows k.1 k.2) hb0).2.2 h1
      · obtain ⟨rfl, rfl⟩ := H.apart _ _ _ _ _ hb0 h2
        exact hds hkm
  refine ⟨HRep.of_rows H.inW (fun j r hj => let ⟨_, _, h1, _⟩ := hrow j r hj; h1) fun i j r r' b hi hj h1 h2 => ?_, fun b hb => ?_, by rw [renL_len hca]; exact hl, fun j p u hp hu => ?_, hlen, hnd⟩
  · obtain ⟨k, hk, _, e1⟩ := hrow i r hi
    obtain ⟨k', hk', _, e2⟩ := hrow j r' hj
    rw [e1] at h1
    rw [e2] at h2
    obtain ⟨a1, a2⟩ := H.apart _ _ _ _ _ h1 h2
    have hkk : k = k' := Prod.ext a1 a2
    subst hkk
    have l1 : i < (canKeys h args).length := (List.getElem?_eq_some_iff.1 hk).1
    exact (List.getElem?_inj l1 hnd).1 (hk.trans hk'.symm)
  · rcases hb with hb | ⟨d, s, _, hb⟩
    · exact hB b hb
    · exact (blkOf_facts (H.rows d s) hb).1
  · obtain ⟨v, hv, hfv⟩ := renL_get hca j p hp
    refine ren_rep frzDepth hfv (named_in (List.all_eq_true.2 fun q hq => ?_)) (hr j v u hv hu)
    exact List.all_eq_true.1 hg.1 q (refs_mem hv hq)

/-! ### out -/
theorem named_out {m : Nat} {l : List (K2 × Nat)} (hg : gensOk h l = true) (hok : rowsOk h 0 m = true) : Named (nameOut m) σ σ l := by
  intro q hq k hk x hx
  unfold nameOut at hk
  split at hk
  · rename_i hc
    simp only [Bool.and_eq_true, beq_iff_eq, decide_eq_true_eq] at hc
    simp only [Option.some.injEq] at hk
    subst hk
    have h1 := gens_mem hg hq
    have h2 := (rowsOk_get hok q.1.2 hc.2).1
    rw [Nat.zero_add] at h2
    rw [hc.1, h2] at h1
    rw [h1] at hx
    exact hx
  · cases hk
theorem ren_refs : ∀ (n : Nat) {v v' : AV}, ren ρ n v = some v' → ∀ q ∈ refs n v', ∃ k, ρ k = some q := by
  intro n
  induction n with
  | zero => intro v v' h q hq; simp [refs] at hq
  | succ n ih =>
    intro v v' h q hq
    have lst : ∀ {l l' : List AV}, renL (ren ρ n) l = some l' → q ∈ l'.flatMap (refs n) → ∃ k, ρ k = some q := by
      intro l l' hl hm
      obtain ⟨x, hx, hqx⟩ := List.mem_flatMap.1 hm
      obtain ⟨j, hj⟩ := List.mem_iff_getElem?.1 hx
      obtain ⟨y, _, hy⟩ := renL_get hl j x hj
      exact ih hy q hqx
    cases v with
    | pv p => simp only [ren, Option.some.injEq] at h; subst h; simp [refs] at hq
    | mptr d s g i off =>
      simp only [ren, Option.map_eq_some_iff] at h
      obtain ⟨k, hk, rfl⟩ := h
      simp only [refs, List.mem_singleton] at hq
      subst hq
      exact ⟨_, hk⟩
    | msl d s g off m full =>
      simp only [ren, Option.map_eq_some_iff] at h
      obtain ⟨k, hk, rfl⟩ := h
      simp only [refs, List.mem_singleton] at hq
      subst hq
      exact ⟨_, hk⟩
    | agg l =>
      simp only [ren, Option.map_eq_some_iff] at h
      obtain ⟨l', hl', rfl⟩ := h
      exact lst hl' (by simpa only [refs] using hq)
    | tup l =>
      simp only [ren, Option.map_eq_some_iff] at h
      obtain ⟨l', hl', rfl⟩ := h
      exact lst hl' (by simpa only [refs] using hq)
    | clo f a b =>
      simp only [ren, Option.bind_eq_some_iff, Option.map_eq_some_iff] at h
      obtain ⟨a', ha', b', hb', rfl⟩ := h
      simp only [refs, List.mem_append] at hq
      exact hq.elim (lst ha') (lst hb')
    | yld d s g => simp [ren] at h
theorem renB_refs {b b' : Body} (h : renB ρ b = some b') : ∀ q ∈ refsB b', ∃ k, ρ k = some q := by
  intro q hq
  cases b with
  | dead => simp [renB] at h
  | lp st => simp [renB] at h
  | box v fz =>
    simp only [renB, Option.map_eq_some_iff] at h
    obtain ⟨v', hv', rfl⟩ := h
    exact ren_refs frzDepth hv' q hq
  | row k e xs fz => simp only [renB, Option.some.injEq] at h; subst h; simp [refsB] at hq
  | iter s pos => simp only [renB, Option.some.injEq] at h; subst h; simp [refsB] at hq
/-- names as they are handed back -/
def Own (m : Nat) (l : List (K2 × Nat)) : Prop := ∀ q ∈ l, q.2 = q.1.2 ∧ q.1.2 < m
theorem nameOut_own {m : Nat} {l : List (K2 × Nat)} (h : ∀ q ∈ l, ∃ k, nameOut m k = some q) : Own m l := by
  intro q hq
  obtain ⟨k, hk⟩ := h q hq
  unfold nameOut at hk
  split at hk
  · rename_i hc
    simp only [Bool.and_eq_true, beq_iff_eq, decide_eq_true_eq] at hc
    simp only [Option.some.injEq] at hk
    subst hk
    exact ⟨rfl, hc.2⟩
  · cases hk
theorem outRows_sound {m : Nat} {rows : List Row} (H : HRep σ I base w h1) (hok : rowsOk h1 0 m = true) (ho : outRows m h1 0 m = some rows) :
    HRep σ I base w [rows] ∧ rows.length = m ∧ ∀ (j : Nat) (r : Row), rows[j]? = some r → r.g = j ∧ Own m (refsB r.b) := by
  obtain ⟨hlen, hg⟩ := outRows_get ho
  have hrow : ∀ (j : Nat) (r : Row), rows[j]? = some r → RowRep σ I base w r ∧ blkOf σ r = blkOf σ (hget h1 0 j) := by
    intro j r hj
    obtain ⟨b, hb, rfl⟩ := hg j r hj
    have hjm : j < m := by rw [← hlen]; exact (List.getElem?_eq_some_iff.1 hj).1
    obtain ⟨k1, k2⟩ := rowsOk_get hok j hjm
    simp only [Nat.zero_add] at k1 k2 hb ⊢
    exact row_ren (H.rows 0 j) hb (fun x hx => by rw [k1] at hx; exact hx) (named_out k2 hok) fun b0 hb0 => (blkOf_facts (H.rows 0 j) hb0).2.2
  refine ⟨HRep.of_rows H.inW (fun j r hj => (hrow j r hj).1) fun i j r r' b hi hj e1 e2 => ?_, hlen, fun j r hj => ?_⟩
  · rw [(hrow i r hi).2] at e1
    rw [(hrow j r' hj).2] at e2
    exact (H.apart _ _ _ _ _ e1 e2).2
  · obtain ⟨b, hb, rfl⟩ := hg j r hj
    exact ⟨by simp, nameOut_own (renB_refs hb)⟩
theorem canOut_sound {m : Nat} {v v' : AV} {rows : List Row} {u : Value} (H : HRep σ I base w h1) (hr : Rep σ I w v u) (ho : canOut m v h1 = some (v', rows)) :
    ∃ I', HRep σ I' base w [rows] ∧ Rep σ I' w v' u ∧ More I I' base ∧ rows.length = m ∧ Own m (refs frzDepth v') ∧ ∀ (j : Nat) (r : Row), rows[j]? = some r → r.g = j ∧ Own m (refsB r.b) := by
  unfold canOut at ho
  split at ho
  · rename_i v1 hv1
    split at ho
    · rename_i hc
      simp only [Bool.and_eq_true] at hc
      simp only [Option.map_eq_some_iff, Prod.mk.injEq] at ho
      obtain ⟨rs, hrs, rfl, rfl⟩ := ho
      obtain ⟨k1, k2, k3⟩ := outRows_sound H hc.2 hrs
      exact ⟨I, k1, ren_rep frzDepth hv1 (named_out hc.1 hc.2) hr, More.refl, k2, nameOut_own (ren_refs frzDepth hv1), k3⟩
    · cases ho
  · simp only [Option.bind_eq_some_iff] at ho
    obtain ⟨⟨p, h2⟩, hz, ho⟩ := ho
    simp only [] at ho
    split at ho
    · rename_i hc
      simp only [Option.map_eq_some_iff, Prod.mk.injEq] at ho
      obtain ⟨rs, hrs, rfl, rfl⟩ := ho
      obtain ⟨I2, hp, H2, m2⟩ := frz_sound frzDepth v h1 p h2 u I hz hr H
      obtain ⟨k1, k2, k3⟩ := outRows_sound H2 hc hrs
      exact ⟨I2, k1, .pv _ _ hp, m2, k2, fun q hq => by simp [refs, frzDepth] at hq, k3⟩
    · cases ho

/-! ### back -/
theorem backRows_get {β : K2 → Option (K2 × Nat)} {h0 : Heap} : ∀ {rows : List Row} {ks : List K2} {h h' : Heap}, backRows β h0 rows ks h = some h' → ks.Nodup → rows.length = ks.length ∧
    (∀ d s, (d, s) ∉ ks → hget h' d s = hget h d s) ∧ ∀ (j : Nat) (k : K2), ks[j]? = some k → ∃ r b, rows[j]? = some r ∧ renB β r.b = some b ∧ hget h' k.1 k.2 = ⟨(hget h0 k.1 k.2).g, b⟩
  | [], [], h, h', e, _ => by simp [backRows] at e; subst e; exact ⟨rfl, fun _ _ _ => rfl, fun j k hk => by simp at hk⟩
  | [], _ :: _, h, h', e, _ => by simp [backRows] at e
  | _ :: _, [], h, h', e, _ => by simp [backRows] at e
  | r :: rs, k :: ks, h, h', e, hnd => by
    simp only [backRows, Option.bind_eq_some_iff] at e
    obtain ⟨b, hb, e⟩ := e
    obtain ⟨hk, hnd⟩ := List.nodup_cons.1 hnd
    obtain ⟨h1, h2, h3⟩ := backRows_get e hnd
    refine ⟨by simp [h1], fun d s hds => ?_, fun j q hq => ?_⟩
    · simp only [List.mem_cons, not_or] at hds
      rw [h2 d s hds.2, hget_hput, if_neg (fun e => hds.1 (Prod.ext e.1.symm e.2.symm))]
    · cases j with
      | zero =>
        simp at hq
        subst hq
        refine ⟨r, b, rfl, hb, ?_⟩
        rw [h2 k.1 k.2 hk, hget_hput, if_pos ⟨rfl, rfl⟩]
      | succ j =>
        obtain ⟨r', b', g1, g2, g3⟩ := h3 j q (by simpa using hq)
        exact ⟨r', b', by simpa using g1, g2, g3⟩
theorem named_back {ks : List K2} {l : List (K2 × Nat)} {m : Nat} (hm : m = ks.length) (ho : Own m l) {τ : Sig} (hτ : ∀ i, i < m → τ i = sigIn σ h ks i) : Named (nameBack ks h) τ σ l := by
  intro q hq k hk x hx
  simp only [nameBack, Option.map_eq_some_iff] at hk
  obtain ⟨y, hy, rfl⟩ := hk
  obtain ⟨h1, h2⟩ := ho q hq
  rw [h1, hτ _ h2] at hx
  simp only [sigIn, hy, Option.bind_some] at hx
  exact hx
theorem canBack_sound {ks : List K2} {rows : List Row} {v v' : AV} {u : Value} {τ : Sig} (H : HRep σ I base w h) (hnd : ks.Nodup) (hτ : ∀ i, i < ks.length → τ i = sigIn σ h ks i)
    (hI : ∀ b, I b → I' b) (hN : ∀ b, I' b → I b ∨ ¬ others σ h ks base b) (hk : Keep0 I w w') (hw : Blw (others σ h ks base) w w') (Hc : HRep τ I' (others σ h ks base) w' [rows]) (hr : Rep τ I' w' v u)
    (hov : Own ks.length (refs frzDepth v)) (hor : ∀ (j : Nat) (r : Row), rows[j]? = some r → r.g = j ∧ Own ks.length (refsB r.b)) (he : canBack ks h v rows = some (v', h')) : HRep σ I' base w' h' ∧ Rep σ I' w' v' u := by
  simp only [canBack, Option.bind_eq_some_iff, Option.map_eq_some_iff, Prod.mk.injEq] at he
  obtain ⟨v1, hv1, h1, hh1, rfl, rfl⟩ := he
  obtain ⟨hlen, hout, hkey⟩ := backRows_get hh1 hnd
  have hrow : ∀ (j : Nat) (k : K2), ks[j]? = some k → RowRep σ I' base w' (hget h1 k.1 k.2) ∧ ∃ r, rows[j]? = some r ∧ blkOf σ (hget h1 k.1 k.2) = blkOf τ r := by
    intro j k hj
    obtain ⟨r, b, hr, hb, e⟩ := hkey j k hj
    have hjm : j < ks.length := (List.getElem?_eq_some_iff.1 hj).1
    have hrr := Hc.rows 0 j
    rw [hget_one, if_pos rfl, List.getD_eq_getElem?_getD, hr, Option.getD_some] at hrr
    have := row_ren (τ := σ) (base' := base) (g' := (hget h k.1 k.2).g) hrr hb (fun x hx => by rw [(hor j r hr).1, hτ j hjm] at hx; simpa [sigIn, hj] using hx) (named_back rfl (hor j r hr).2 hτ) fun b0 hb0 h0 => (blkOf_facts hrr hb0).2.2 (.inl h0)
    rw [e]
    exact ⟨this.1, r, hr, this.2⟩
  have hoth : ∀ d s b, (d, s) ∉ ks → blkOf σ (hget h d s) = some b → w'.heap[b]? = w.heap[b]? ∧ ¬ I' b := by
    intro d s b hds hb
    have ho : others σ h ks base b := .inr ⟨d, s, hds, hb⟩
    exact ⟨hw.block b ho, fun hi => (hN b hi).elim (blkOf_facts (H.rows d s) hb).2.1 fun h2 => h2 ho⟩
  have hcb : ∀ (j : Nat) (r : Row) (b : Nat), rows[j]? = some r → blkOf τ r = some b → ¬ others σ h ks base b := by
    intro j r b hj hb
    have hrr := Hc.rows 0 j
    rw [hget_one, if_pos rfl, List.getD_eq_getElem?_getD, hj, Option.getD_some] at hrr
    exact (blkOf_facts hrr hb).2.2
  refine ⟨⟨fun d s => ?_, fun d s d' s' b e1 e2 => ?_, Hc.inW⟩, ren_rep frzDepth hv1 (named_back rfl hov hτ) hr⟩
  · by_cases hds : (d, s) ∈ ks
    · obtain ⟨j, hj⟩ := List.mem_iff_getElem?.1 hds
      exact (hrow j (d, s) hj).1
    · rw [hout d s hds]
      exact (H.rows d s).mono (fun _ _ h => h) hI hk fun b hb => hoth d s b hds hb
  · by_cases hds : (d, s) ∈ ks
    · obtain ⟨j, hj⟩ := List.mem_iff_getElem?.1 hds
      obtain ⟨_, r, hr, e⟩ := hrow j (d, s) hj
      rw [e] at e1
      by_cases hds' : (d', s') ∈ ks
      · obtain ⟨j', hj'⟩ := List.mem_iff_getElem?.1 hds'
        obtain ⟨_, r', hr', e'⟩ := hrow j' (d', s') hj'
        rw [e'] at e2
        have hjj : j = j' := by
          refine (Hc.apart 0 j 0 j' b ?_ ?_).2
          · rw [hget_one, if_pos rfl, List.getD_eq_getElem?_getD, hr, Option.getD_some]; exact e1
          · rw [hget_one, if_pos rfl, List.getD_eq_getElem?_getD, hr', Option.getD_some]; exact e2
        subst hjj
        rw [hj] at hj'
        simpa using hj'
      · rw [hout d' s' hds'] at e2
        exact absurd (.inr ⟨d', s', hds', e2⟩) (hcb j r b hr e1)
    · rw [hout d s hds] at e1
      by_cases hds' : (d', s') ∈ ks
      · obtain ⟨j', hj'⟩ := List.mem_iff_getElem?.1 hds'
        obtain ⟨_, r', hr', e'⟩ := hrow j' (d', s') hj'
        rw [e'] at e2
        exact absurd (.inr ⟨d, s, hds, e1⟩) (hcb j' r' b hr' e2)
      · rw [hout d' s' hds'] at e2
        exact H.apart d s d' s' b e1 e2
end
end Go.Proofs.YtlhfgonjcpapnaaGreatDoor.Abs

/- Calls do what the abstract machine says. -/
set_option linter.unusedVariables false
set_option linter.unusedSimpArgs false
namespace Go.Proofs.YtlhfgonjcpapnaaGreatDoor.Abs
open Go Go.RowKit

section
variable {E : Env} {call : CallFn} {ys : Ys} {d : Nat} {base : Blk} {C : Cx} {σ : Sig} {I : Blk} {w : World} {h : Heap} {s s' : St} {a : Act} {P : Program}

/-! ### results -/
theorem cell_sound {t : TypeId} {m : Nat} {ag : Bool} {d s g i off : Nat} {v v0 : AV} {fz : Bool} {u0 : Value} (H : HRep σ I base w h) (hm : szOf P t = some m) (hag : aggT P t = some ag) (hra : Rep σ I w (.mptr d s g i off) u0)
    (hl : Abs.live h d s g = .box v0 fz) (hi : i = 0) (hv : subA ag m off v0 = some v) : ∃ ad u, u0 = .pointer (some ad) ∧ (loadVar t ad).run P w = .ok u w ∧ Rep σ I w v u := by
  obtain ⟨b, ob, k, hs, hu⟩ := rep_mptr hra
  subst hi
  obtain ⟨b0, k0, e0, u0', hs0, hsh, hok, hru, hz, hf, h1c, hsz, hcell⟩ := box_val (H.live hl (by simp))
  rw [hs] at hs0
  simp only [Option.some.injEq, Prod.mk.injEq] at hs0
  obtain ⟨rfl, rfl, rfl⟩ := hs0
  have hsub := subA_sound (σ := σ) (I := I) (w := w) hv (us := u0'.cells.toList) (by simpa using hsz) h1c fun j c x hc hx => (hru.cells hok).2.2 j c x hc (by simpa using hx)
  have hload := run_loadVar_cells (P := P) (w := w) (b := b) (o := 0) (us := u0'.cells.toList) hm hag off fun j x hx => by simpa using hcell j x (by simpa using hx)
  simp only [Nat.zero_mul, Nat.add_zero, Nat.zero_add] at hu hload
  cases ag with
  | true => exact ⟨_, _, hu, hload.1 rfl (hsub.1 rfl).1, (hsub.1 rfl).2⟩
  | false =>
    obtain ⟨x, hx, hp⟩ := hsub.2 rfl
    exact ⟨_, _, hu, hload.2 rfl x hx, hp⟩

def resultRun (tmps : Array Value) : ResultVar → Sem Value
  | .tmp t => pure (tmps.getD t undef)
  | .cell a t => do loadVar t (← asAddr (tmps.getD a undef))
theorem result_sound (H : SRel C σ I w s a) {r : ResultVar} {v : AV} (hv : resultF P s.h s.t r = some v) : ∃ u, (resultRun a.tmps r).run P w = .ok u w ∧ Rep σ I w v u := by
  cases r with
  | tmp i =>
    simp only [resultF, Option.some.injEq] at hv
    subst hv
    exact ⟨_, rfl, H.tmp i⟩
  | cell i ty =>
    simp only [resultF, bind, Option.bind_eq_some_iff] at hv
    obtain ⟨m, hm, ag, hag, hv⟩ := hv
    have hr := H.tmp i
    split at hv
    · rename_i d s' g k off ht
      rw [ht] at hr
      split at hv
      · rename_i v0 fz hl
        split at hv
        · rename_i hi
          obtain ⟨ad, u, hu, hrun, hrep⟩ := cell_sound H.heap hm hag hr hl hi hv
          exact ⟨u, by simp [resultRun, hu, asAddr, hrun], hrep⟩
        · cases hv
      · cases hv
    · cases hv
theorem results_list (H : SRel C σ I w s a) : ∀ (rs : List ResultVar) (vs : List AV), rs.mapM (resultF P s.h s.t) = some vs → ∃ us : List Value, (rs.mapM (resultRun a.tmps)).run P w = .ok us w ∧ us.length = vs.length ∧ vs.length = rs.length ∧
    ∀ (j : Nat) (p : AV) (u : Value), vs[j]? = some p → us[j]? = some u → Rep σ I w p u
  | [], vs, h => by
    simp at h
    subst h
    exact ⟨[], rfl, rfl, rfl, fun j p u hp => by simp at hp⟩
  | r :: rs, vs, h => by
    simp only [List.mapM_cons, bind, Option.bind_eq_some_iff, pure, Option.some.injEq] at h
    obtain ⟨v, hv, vs', hvs, rfl⟩ := h
    obtain ⟨u, hu, hr⟩ := result_sound H hv
    obtain ⟨us, hus, hl, hl2, hrs⟩ := results_list H rs vs' hvs
    refine ⟨u :: us, by simp [List.mapM_cons, hu, hus], by simp [hl], by simp [hl2], fun j p x hp hx => ?_⟩
    cases j with
    | zero => simp at hp hx; subst hp hx; exact hr
    | succ j => exact hrs j p x (by simpa using hp) (by simpa using hx)
theorem mkTup_rep {cs : List AV} {vs : List Value} (hl : vs.length = cs.length)
    (hr : ∀ (j : Nat) (p : AV) (v : Value), cs[j]? = some p → vs[j]? = some v → Rep σ I w p v) : Rep σ I w (mkTup cs) (.tuple vs.toArray) := by
  unfold mkTup
  cases ha : allPV cs with
  | none => exact .tup cs vs hl hr
  | some ps =>
    have hcs := allPV_map ha
    subst hcs
    refine .pv _ _ (.tup ps vs (by simpa using hl) fun j p v hp hv => ?_)
    exact rep_pv (hr j (.pv p) v (by simp [hp]) hv)
theorem results_sound (H : SRel C σ I w s a) {fn : Func} {v : AV} (hv : resultsF P fn s.h s.t = some v) : ∃ u, (results fn a.tmps).run P w = .ok u w ∧ Rep σ I w v u := by
  have hres : results fn a.tmps = (do let vs ← fn.results.mapM (resultRun a.tmps); pure (if h : vs.size = 1 then vs[0] else .tuple vs)) := by
    unfold results
    congr 1
  have hrun : ∀ us : List Value, (fn.results.toList.mapM (resultRun a.tmps)).run P w = .ok us w → (fn.results.mapM (resultRun a.tmps)).run P w = .ok us.toArray w := by
    intro us hus
    rw [Array.mapM_eq_mapM_toList]
    simp [hus]
  unfold resultsF at hv
  split at hv
  · rename_i r hrs
    obtain ⟨u, hu, hr⟩ := result_sound H hv
    have := hrun [u] (by rw [hrs]; simp [hu])
    exact ⟨u, by rw [hres]; simp [this], hr⟩
  · rename_i hne
    simp only [Option.map_eq_some_iff] at hv
    obtain ⟨vs, hvs, rfl⟩ := hv
    obtain ⟨us, hus, hl, hl2, hr⟩ := results_list H _ vs hvs
    have h1 : us.toArray.size ≠ 1 := by
      intro e
      have e2 : fn.results.toList.length = 1 := by rw [← hl2, ← hl]; simpa using e
      obtain ⟨r, hr⟩ := List.length_eq_one_iff.1 e2
      exact hne r hr
    refine ⟨.tuple us.toArray, ?_, mkTup_rep hl hr⟩
    rw [hres]
    have := hrun us hus
    simp only [Sem.run_bind, this, Result.andThen_ok]
    rw [dif_neg h1]
    rfl

/-! ### heaps cut and widened -/
theorem hget_append (h : Heap) (d s : Nat) : hget (h ++ [[]]) d s = hget h d s := by
  unfold hget
  congr 1
  simp only [List.getD_eq_getElem?_getD]
  rw [List.getElem?_append]
  split
  · rfl
  · rename_i hd
    rw [List.getElem?_eq_none (by omega : h.length ≤ d)]
    cases hx : d - h.length <;> simp
theorem hget_take (h : Heap) (k d s : Nat) : hget (h.take k) d s = if d < k then hget h d s else row0 := by
  unfold hget
  simp only [List.getD_eq_getElem?_getD]
  rw [List.getElem?_take]
  split
  · rfl
  · simp
theorem HRep.sub {h' : Heap} (H : HRep σ I base w h) (hh : ∀ d s, hget h' d s = hget h d s ∨ hget h' d s = row0) : HRep σ I base w h' where
  inW := H.inW
  rows d s := by rcases hh d s with e | e <;> rw [e]; exact H.rows d s; trivial
  apart d s d' s' b h1 h2 := by
    rcases hh d s with e | e <;> rw [e] at h1
    · rcases hh d' s' with e' | e' <;> rw [e'] at h2
      · exact H.apart d s d' s' b h1 h2
      · simp [blkOf, row0] at h2
    · simp [blkOf, row0] at h1
theorem HRep.append (H : HRep σ I base w h) : HRep σ I base w (h ++ [[]]) := H.sub fun d s => .inl (hget_append h d s)
theorem HRep.take (H : HRep σ I base w h) (k : Nat) : HRep σ I base w (h.take k) := H.sub fun d s => by
  rw [hget_take]; split
  · exact .inl rfl
  · exact .inr rfl
theorem hget_nil (d s : Nat) : hget [[]] d s = row0 := by
  have := hget_append [] d s
  simp only [List.nil_append] at this
  rw [this]
  simp [hget]

theorem adopt_sound {σc : Sig} {base' : Blk} {h2 h3 hc : Heap} {dc slot gen : Nat} {v v' : AV} {u : Value} (H2 : HRep σ I base w h2) (Hc : HRep σc I base' w hc) (hbase : ∀ b, ¬ base' b → ¬ base b) (hr : Rep σc I w v u)
    (he : adopt dc hc v d slot gen h2 = some (v', h3)) (hg : σ gen = none) (hap : ∀ d s s' b, blkOf σ (hget h2 d s) = some b → blkOf σc (hget hc dc s') ≠ some b) :
    ∃ x, Rep (upd σ gen x) I w v' u ∧ HRep (upd σ gen x) I base w h3 := by
  unfold adopt at he
  split at he
  · rename_i d' s' g' off n full
    split at he
    · rename_i hd
      subst hd
      split at he
      · rename_i k e xs fz hl
        simp only [Option.some.injEq, Prod.mk.injEq] at he
        obtain ⟨rfl, rfl⟩ := he
        have hrow := Hc.live hl (by simp)
        have hlr := live_row hl (by simp)
        obtain ⟨b, o, m, hs, hsh, hm, hx, hcc, hz⟩ := hrow
        cases hr with
        | msl _ _ _ _ _ _ b' o' k' cap ad had hs' hn hfull hroom =>
          rw [hs] at hs'
          simp only [Option.some.injEq, Prod.mk.injEq] at hs'
          obtain ⟨rfl, rfl, rfl⟩ := hs'
          refine ⟨(b, o, k), .msl _ _ _ _ _ _ b o k cap ad had (upd_same ..) hn hfull hroom, ?_⟩
          refine H2.put (upd_sub hg) (fun _ h => h) (Keep.refl I w) H2.inW d slot _ ?_ ?_
          · refine ⟨b, o, m, upd_same .., hsh, hm, hx, hcc, ?_⟩
            cases fz with
            | true => exact hz
            | false => exact ⟨hz.1, hbase _ hz.2.1, hz.2.2⟩
          · intro d2 s2 b2 _ hb2
            refine ⟨rfl, (blkOf_facts (H2.rows d2 s2) hb2).2.1, fun hq => ?_⟩
            refine hap d2 s2 s' b2 hb2 ?_
            rw [hlr]
            cases fz with
            | true => simp [blkOf] at hq
            | false =>
              simp only [blkOf, upd_same, Option.map_some, Option.some.injEq] at hq
              simp [blkOf, hs, hq]
      · cases he
    · cases he
  · cases he

/-! ### a body -/
structure BodyPost (σ : Sig) (I : Blk) (base : Blk) (w : World) (g : Nat) (v : AV) (h' : Heap) (g' : Nat) (u : Value) (w' : World) (σ' : Sig) (I' : Blk) : Prop where
  rep : Rep σ' I' w' v u
  heap : HRep σ' I' base w' h'
  ext : Ext base σ I w σ' I' w'
  low : ∀ k, k < g → σ' k = σ k
  high : ∀ k, g' ≤ k → σ' k = none
  grow : g ≤ g'

/-- the marks of ranges over functions are taken when a function is left -/
theorem leave_sound {P : Program} {fn : Func} {tmps : Array Value} {R : Ending → World → Prop} {lo : Nat} (I : Blk) (w0 : World) : ∀ (ds : List Deferred) (w : World), (∀ x ∈ ds, ∃ D, lo ≤ D ∧ x = { target := .collected D, args := #[] } ∧ w.heap[D]? = some (Obj.deferred (some []))) → ds.Nodup →
    (∀ w' : World, (∀ b : Nat, (∀ x : Obj, w.heap[b]? = some x → x ≠ Obj.deferred (some [])) → w'.heap[b]? = w.heap[b]?) → (∀ b : Nat, b < lo → w'.heap[b]? = w.heap[b]?) → w'.heap.size = w.heap.size → w'.os = w.os ∧ w'.tape = w.tape ∧ w'.output = w.output →
      ∃ v, (results fn tmps).run P w' = .ok v w' ∧ R (.returned v) w') → LeavesInM (WF none) 0 P fn tmps R ds .returning w
  | [], w, _, _, h => h w (fun _ _ => rfl) (fun _ _ => rfl) rfl ⟨rfl, rfl, rfl⟩
  | d :: ds, w, hm, hnd, h => by
    obtain ⟨D, hD, rfl, hh⟩ := hm d (by simp)
    have hlt := lt_of_heap hh
    have hoth : ∀ b, b ≠ D → (w.putObj D (.deferred none)).heap[b]? = w.heap[b]? := fun b hb => World.putObj_heap_other hb
    refine ⟨by simp, .inl ⟨D, _, rfl, run_takeDeferred hh, ?_⟩⟩
    refine leave_sound (lo := lo) I w0 ds _ (fun x hx => ?_) (List.nodup_cons.1 hnd).2 fun w' h1 h2 h3 h4 => h w' (fun b hb => ?_) (fun b hb => ?_) ?_ h4
    · obtain ⟨D', d1, rfl, d3⟩ := hm x (by simp [hx])
      have hne : D' ≠ D := fun e => by subst e; exact (List.nodup_cons.1 hnd).1 hx
      exact ⟨D', d1, rfl, by rw [hoth D' hne]; exact d3⟩
    · have hne : b ≠ D := fun e => by subst e; exact hb _ hh rfl
      rw [h1 b (fun x hx => by rw [hoth b hne] at hx; exact hb x hx), hoth b hne]
    · rw [h2 b hb, hoth b (by omega)]
    · rw [h3]; simp [World.putObj]

theorem getT_padT (n : Nat) (l : List AV) (i : Nat) : getT (padT n l) i = getT l i := by
  unfold getT padT
  by_cases hi : i < l.length
  · simp [List.getD_eq_getElem?_getD, List.getElem?_append_left hi]
  · have h0 : l[i]? = none := List.getElem?_eq_none (by omega)
    simp only [List.getD_eq_getElem?_getD, h0, Option.getD_none, List.getElem?_append_right (by omega : l.length ≤ i), List.getElem?_replicate]
    split <;> rfl
theorem hget_padH (n d : Nat) (h : Heap) (d' s : Nat) : hget (padH n d h) d' s = hget h d' s := by
  unfold hget padH
  rw [getD_putL]
  by_cases hd : d = d'
  · subst hd
    simp only [if_true]
    by_cases hi : s < (h.getD d []).length
    · simp only [List.getD_eq_getElem?_getD (l := _ ++ _), List.getElem?_append_left hi]
      simp only [List.getD_eq_getElem?_getD]
    · have h0 : (h.getD d [])[s]? = none := List.getElem?_eq_none (by omega)
      rw [List.getD_eq_getElem?_getD (l := _ ++ _), List.getElem?_append_right (by omega), List.getElem?_replicate, List.getD_eq_getElem?_getD (l := h.getD d []), h0]
      split <;> rfl
  · simp [hd]
theorem body_sound (hcall : CallOk E call) (hfz : FzCall E call) (hmix : E.P.follows .mixedOrders = true) (hent : ∀ f, enters E f = true → ∀ args w, (callFunc f args).run E.P w = .ok (.enter f args) w) {f : FuncId} {fn : Func} (hf : E.P.funcs[f]? = some fn) (hwf : fnWf E fn = true) {fuel g g' : Nat} {args : List AV} {v : AV} {h' : Heap} {us : List Value}
    (hb : bodyF E call ys fuel fn d args h g = some (v, h', g')) (hys : YsOk E ys σ I w) (H : HRep σ I base w h) (hB : Bnd base w.heap.size) (hl : us.length = args.length)
    (hr : ∀ (j : Nat) (p : AV) (u : Value), args[j]? = some p → us[j]? = some u → Rep σ I w p u) (hfr : ∀ k, g ≤ k → σ k = none) :
    Does E.P f us.toArray w fun u w' => ∃ σ' I', BodyPost σ I base w g v h' g' u w' σ' I' := by
  unfold bodyF at hb
  simp only [Option.bind_eq_some_iff] at hb
  obtain ⟨c, hc, hb⟩ := hb
  simp only [fnWf, hc, Bool.and_eq_true, Bool.not_eq_true'] at hwf
  have hname := hwf.1
  have hrun : (callFunc f us.toArray).run E.P w = .ok (.enter f us.toArray) w := by
    simp only [beq_eq_false_iff_ne, ne_eq] at hname
    simp [callFunc, hf, hc, hname]
  refine .inr (.inl ⟨hrun, ?_⟩)
  refine (callsIn_wide (n := 0)).1 (callsIn_of_wp_marks (F := WF none) hf hc trivial ?_)
  have H0 : SRel ⟨fn.ntmps, base, w.heap.size, none⟩ σ I w { t := padT fn.ntmps args, h := padH fn.ntmps d h, g := g } { tmps := us.toArray ++ Array.replicate (fn.ntmps - us.toArray.size) undef, defers := [] } := by
    refine ⟨fun i => ?_, H.sub fun d' s' => .inl (hget_padH _ _ _ _ _), hfr, hB, by simp; omega, fun x hx => by simp at hx, List.nodup_nil, fun l hl => (by cases hl), hB, Nat.le_refl _⟩
    rw [getD_get]
    simp only [getT_padT]
    simp only [getT]
    by_cases hi : i < args.length
    · have h1 : args.getD i undefA = args[i] := by simp [hi]
      have h2 : (us.toArray ++ Array.replicate (fn.ntmps - us.toArray.size) undef)[i]? = some us[i] := by
        rw [Array.getElem?_append_left (by simp; omega)]
        simp
      rw [h1, h2]
      exact hr i _ _ (by simp [hi]) (by simp)
    · have h1 : args.getD i undefA = undefA := by simp [List.getElem?_eq_none (by omega : args.length ≤ i)]
      have h2 : ((us.toArray ++ Array.replicate (fn.ntmps - us.toArray.size) undef)[i]?).getD undef = undef := by
        rw [Array.getElem?_append_right (by simp; omega), Array.getElem?_replicate]
        split <;> rfl
      rw [h1, h2]
      exact .pv _ _ (.lit _)
  have key : ∀ (x : AExit) (s : St), codeF E call ys d fuel c { t := padT fn.ntmps args, h := padH fn.ntmps d h, g := g } = some (x, s) → (x = .normal ∨ x = .ret) → (resultsF E.P fn s.h s.t).map (fun v => (v, s.h, s.g)) = some (v, h', g') →
      c.wpIn (WF none) 0 E.P (bodyPostM (WF none) 0 E.P fn fun | .returned u, w' => ∃ σ' I', BodyPost σ I base w g v h' g' u w' σ' I' | _, _ => False) { tmps := us.toArray ++ Array.replicate (fn.ntmps - us.toArray.size) undef, defers := [] } w := by
    intro x s hs hx hres
    simp only [Option.map_eq_some_iff, Prod.mk.injEq] at hres
    obtain ⟨v', hres, rfl, rfl, rfl⟩ := hres
    refine code_sound hcall hfz hmix hent c ⟨fn.ntmps, base, w.heap.size, none⟩ hwf.2 _ x s hs σ I w _ _ H0 hys fun σ' I' w' a' hd => ?_
    have hleave : LeavesInM (WF none) 0 E.P fn a'.tmps (fun | .returned u, w' => ∃ σ' I', BodyPost σ I base w g v' s.h s.g u w' σ' I' | _, _ => False) a'.defers .returning w' := by
      refine leave_sound (lo := w.heap.size) I w a'.defers w' hd.rel.marks hd.rel.nodup fun w2 h1 h2 h3 h4 => ?_
      have hsh : ∀ b e n, w'.shape? b = some (e, n) → w2.heap[b]? = w'.heap[b]? := fun b e n hb => h1 b fun x hx e' => by
        subst e'
        unfold World.shape? at hb
        rw [hx] at hb
        cases hb
      have hkI : ∀ b, I' b → w2.heap[b]? = w'.heap[b]? := fun b hb => let ⟨o, h, hn⟩ := hd.rel.heap.inW b hb; h1 b fun x hx e' => by rw [h] at hx; injection hx with hx; subst hx; exact hn e'
      have hrow : ∀ d s' b, blkOf σ' (hget s.h d s') = some b → w2.heap[b]? = w'.heap[b]? := by
        intro d s' b hb
        have hR := hd.rel.heap.rows d s'
        generalize hget s.h d s' = r at hR hb
        obtain ⟨gr, bd⟩ := r
        cases bd with
        | dead => simp [blkOf] at hb
        | box v0 fz =>
          obtain ⟨b', e, hs', hsh', _⟩ := hR
          cases fz with
          | true => simp [blkOf] at hb
          | false => simp [blkOf, hs'] at hb; subst hb; exact hsh _ _ _ hsh'
        | row k e xs fz =>
          obtain ⟨b', o, n, hs', hsh', _⟩ := hR
          cases fz with
          | true => simp [blkOf] at hb
          | false => simp [blkOf, hs'] at hb; subst hb; exact hsh _ _ _ hsh'
        | iter st pos =>
          obtain ⟨b', k, hs', hh, _⟩ := hR
          simp [blkOf, hs'] at hb
          subst hb
          exact h1 _ fun x hx e' => by rw [hh] at hx; injection hx with hx; subst hx; cases e'
        | lp st =>
          obtain ⟨b', k, hs', ⟨r, hh, _⟩, _⟩ := hR
          simp [blkOf, hs'] at hb
          subst hb
          exact h1 _ fun x hx e' => by rw [hh] at hx; injection hx with hx; subst hx; cases e'
      have hk0 : Keep0 I' w' w2 := ⟨hkI, fun b e n hb => by rw [shape_of_heap (hsh b e n hb)]; exact hb⟩
      have hH2 : HRep σ' I' base w2 s.h := hd.rel.heap.keep (fun _ _ h => h) (fun _ h => h) hk0 (fun b hb => (hd.rel.heap.inW b hb).keep (hkI b hb)) fun d s' b hb => ⟨hrow d s' b hb, (blkOf_facts (hd.rel.heap.rows d s') hb).2.1⟩
      have hS2 : SRel ⟨fn.ntmps, base, w2.heap.size, none⟩ σ' I' w2 s { a' with defers := [] } :=
        ⟨fun i => (hd.rel.tmp i).mono (fun _ _ h => h) (fun _ h => h) hk0, hH2, hd.rel.fresh, hd.rel.hb.mono (Nat.le_of_eq h3.symm), hd.rel.hn, fun x hx => by simp at hx, List.nodup_nil, fun l hl => (by cases hl), hd.rel.hb.mono (Nat.le_of_eq h3.symm),
          Nat.le_refl _⟩
      obtain ⟨u, hu, hrep⟩ := results_sound hS2 hres
      refine ⟨u, hu, σ', I', hrep, hH2, ⟨hd.ext.sig, hd.ext.blk, hd.ext.new, ⟨fun b hb => ?_, fun b e n hb => ?_, fun b r hb => ?_, fun b hb => ?_⟩, ⟨?_, ?_, ?_, ?_, fun k hk => ?_⟩⟩, hd.low, hd.rel.fresh, hd.grow⟩
      · rw [hkI b (hd.ext.blk b hb)]; exact hd.ext.kp.keep b hb
      · exact hk0.shape b e n (hd.ext.kp.shape b e n hb)
      · obtain ⟨r', hr1, hr2⟩ := hd.ext.kp.loop b r hb
        exact ⟨r', by rw [h1 b (fun x hx e' => by rw [hr1] at hx; injection hx with hx; subst hx; cases e')]; exact hr1, hr2⟩
      · rw [h2 b (lt_of_heap hb)]; exact hd.ext.kp.dfr b hb
      · rw [h4.1]; exact hd.ext.below.os
      · rw [h4.2.1]; exact hd.ext.below.tape
      · rw [h4.2.2]; exact hd.ext.below.output
      · rw [h3]; exact hd.ext.below.size
      · rw [h2 k (hB k hk)]; exact hd.ext.below.block k hk
    rcases hx with rfl | rfl
    · exact hleave
    · exact hleave
  split at hb
  · rename_i s hs; exact key _ s hs (.inl rfl) hb
  · rename_i s hs; exact key _ s hs (.inr rfl) hb
  · cases hb

/-! ### calls -/
/-- a call whose result nobody writes any more -/
def PureDoes (P : Program) (f : FuncId) (us : Array Value) (w : World) (I : Blk) (r : PV) : Prop := Does P f us w fun u w' => ∃ I' : Blk, PRep I' w' r u ∧ (∀ b, I b → I' b) ∧ (∀ b, I' b → I b ∨ w.heap.size ≤ b) ∧
  Below w.heap.size w w' ∧ ∀ b, I' b → Solid w' b
structure EnvOk (E : Env) : Prop where
  mixed : E.P.follows .mixedOrders = true
  wf : ∀ (f : FuncId) (fn : Func), E.ok f = true → E.P.funcs[f]? = some fn → fnWf E fn = true
  intr : ∀ (f : FuncId) (F : List PV → Option PV), E.intr f = some F → ∀ (ps : List PV) (r : PV), F ps = some r → ∀ (I : Blk) (w : World) (us : List Value), Gl E I w → us.length = ps.length →
    (∀ (j : Nat) (p : PV) (u : Value), ps[j]? = some p → us[j]? = some u → PRep I w p u) → (∀ b, I b → Solid w b) → PureDoes E.P f us.toArray w I r

theorem enters_run (hE : EnvOk E) (f : FuncId) (he : enters E f = true) (args : Array Value) (w : World) : (callFunc f args).run E.P w = .ok (.enter f args) w := by
  unfold enters at he
  simp only [Bool.and_eq_true] at he
  obtain ⟨⟨h1, h2⟩, h3⟩ := he
  split at h3
  · rename_i fn hfn
    have hwf := hE.wf f fn h1 hfn
    simp only [fnWf, Bool.and_eq_true, Bool.not_eq_true', beq_eq_false_iff_ne, ne_eq] at hwf
    cases hb : fn.body with
    | none => rw [hb] at h3; cases h3
    | some c => simp [callFunc, hfn, hb, hwf.1]
  · cases h3
theorem keep_old {I' : Blk} {w' : World} (H : HRep σ I base w h) (hB : Bnd base w.heap.size) (hI : ∀ b, I b → I' b) (hN : ∀ b, I' b → I b ∨ w.heap.size ≤ b) (hw : Below w.heap.size w w') (hin : ∀ b, I' b → Solid w' b) :
    HRep σ I' base w' h ∧ Ext base σ I w σ I' w' := by
  have hk : Keep I w w' := ⟨fun b hb => hw.block b (H.lt b hb), fun b e n hs => by rw [shape_of_heap (hw.block b (lt_of_shape hs))]; exact hs,
    fun b r hr => ⟨r, by rw [hw.block b (lt_of_heap hr)]; exact hr, SameLoop.refl r⟩, fun b hb => by rw [hw.block b (lt_of_heap hb)]; exact hb⟩
  refine ⟨H.keep (fun _ _ h => h) hI hk hin fun d s b hb => ?_, ⟨fun _ _ h => h, hI, fun b hb => (hN b hb).imp id (fun h1 h2 => Nat.lt_irrefl _ (Nat.lt_of_lt_of_le (hB b h2) h1)), hk, Blw.of_below hw hB⟩⟩
  obtain ⟨h1, h2, h3⟩ := blkOf_facts (H.rows d s) hb
  exact ⟨hw.block b h1, fun hb' => (hN b hb').elim h2 (by omega)⟩

theorem reps_pv {ps : List PV} {us : List Value} {σ : Sig} (hr : ∀ (j : Nat) (p : PV) (u : Value), ps[j]? = some p → us[j]? = some u → PRep I w p u) :
    ∀ (j : Nat) (p : AV) (u : Value), (ps.map AV.pv)[j]? = some p → us[j]? = some u → Rep σ I w p u := by
  intro j p u hp hu
  simp only [List.getElem?_map, Option.map_eq_some_iff] at hp
  obtain ⟨q, hq, rfl⟩ := hp
  exact .pv _ _ (hr j q u hq hu)

/-- the callee's picture of the heap in a call of its own -/
theorem own_heap (H : HRep σ I base w h) : HRep (fun _ => none) I (Old w) w [[]] where
  inW := H.inW
  rows d s := by rw [hget_nil]; trivial
  apart d s d' s' b h1 := by rw [hget_nil] at h1; simp [blkOf, row0] at h1

theorem BodyPost.pure {σ' : Sig} {I' : Blk} {w' : World} {g g' : Nat} {v : AV} {hc h2 : Heap} {u : Value} {p : PV} {k : Nat} (hp : BodyPost (fun _ => none) I (Old w) w g v hc g' u w' σ' I') (hf : frz k v hc = some (p, h2)) :
    ∃ I'', PRep I'' w' p u ∧ (∀ b, I b → I'' b) ∧ (∀ b, I'' b → I b ∨ w.heap.size ≤ b) ∧ Below w.heap.size w w' ∧ ∀ b, I'' b → Solid w' b := by
  obtain ⟨I2, hpr, H2, m⟩ := frz_sound k v hc p h2 u I' hf hp.rep hp.heap
  refine ⟨I2, hpr, fun b hb => m.1 b (hp.ext.blk b hb), fun b hb => ?_, hp.ext.below.below, H2.inW⟩
  rcases m.2 b hb with h | h
  · exact (hp.ext.new b h).imp id Nat.le_of_not_lt
  · exact .inr (Nat.le_of_not_lt h)

theorem callN_fz (E : Env) : ∀ n, FzCall E (callN E n)
  | 0 => fun f args _ _ _ => ⟨fun _ => none, fun ys d slot gen h g => by cases frzs frzDepth args h <;> rfl⟩
  | n + 1 => fun f args hown hinl hm => by
    cases hi : E.intr f with
    | some F =>
      refine ⟨F, fun ys d slot gen h g => ?_⟩
      simp only [callN, hi]
    | none =>
      cases hf : E.P.funcs[f]? with
      | none => exact ⟨fun _ => none, fun ys d slot gen h g => by simp only [callN, hi, hf]; cases frzs frzDepth args h <;> rfl⟩
      | some fn =>
        by_cases hok : E.ok f = false
        · exact ⟨fun _ => none, fun ys d slot gen h g => by simp only [callN, hi, hf, hok, if_true]; cases frzs frzDepth args h <;> rfl⟩
        · refine ⟨fun ps => (bodyF E (callN E n) [] n fn 0 (ps.map .pv) [[]] 0).bind fun (v, hc, _) => (frz frzDepth v hc).map fun (p, _) => p, fun ys d slot gen h g => ?_⟩
          simp only [callN, hi, hf, hok, hinl, hown, hm, Bool.and_false]
          cases frzs frzDepth args h with
          | none => rfl
          | some q =>
            obtain ⟨ps, h1⟩ := q
            simp only [Option.bind_some, Bool.or_self, Bool.false_eq_true, if_false]
            cases bodyF E (callN E n) [] n fn 0 (ps.map .pv) [[]] 0 with
            | none => rfl
            | some q =>
              obtain ⟨v, hc, g2⟩ := q
              simp only [Option.bind_some]
              cases frz frzDepth v hc with
              | none => rfl
              | some q => rfl

/-- THE CALLS. -/
theorem callN_sound (hE : EnvOk E) : ∀ n, CallOk E (callN E n) := by
  intro n
  induction n with
  | zero => intro ys σ I base w h f args d slot gen g v h' g' us he; simp [callN] at he
  | succ n ih =>
    intro ys σ I base w h f args d slot gen g v h' g' us he hys H hB hl hr hg hlt hfr
    -- a call that is given frozen arguments and gives a frozen result
    have pure : ∀ (ps : List PV) (h1 : Heap) (p : PV), frzs frzDepth args h = some (ps, h1) → (∀ (I1 : Blk), Gl E I1 w → HRep σ I1 base w h1 → us.length = ps.length →
        (∀ (j : Nat) (p : PV) (u : Value), ps[j]? = some p → us[j]? = some u → PRep I1 w p u) → PureDoes E.P f us.toArray w I1 p) → v = .pv p → h' = h1 → g' = g →
        Does E.P f us.toArray w fun u w' => ∃ σ' I', CallPost σ I base w gen g v h' g' u w' σ' I' := by
      rintro ps h1 p hfz hdo rfl rfl rfl
      obtain ⟨I1, hlen, hpr, H1, m⟩ := frzs_sound frzDepth args h ps h' us I hfz hl hr H
      refine (hdo I1 (hys.2.mono m.1 fun _ _ => rfl) H1 (by omega) hpr).mono ?_
      rintro u w' ⟨I', hp, hI, hN, hw, hin⟩
      obtain ⟨H2, hx⟩ := keep_old H1 hB hI hN hw hin
      exact ⟨σ, I', .pv _ _ hp, H2, m.ext.trans hx, fun _ _ _ => rfl, hfr, Nat.le_refl _⟩
    simp only [callN] at he
    split at he
    · rename_i F hF
      simp only [Option.bind_eq_some_iff, Option.map_eq_some_iff, Prod.mk.injEq] at he
      obtain ⟨⟨ps, h1⟩, hfz, r, hFr, rfl, rfl, rfl⟩ := he
      exact pure ps _ r hfz (fun I1 hG1 H1 hl1 hpr => hE.intr f F hF ps r hFr I1 w us hG1 hl1 hpr H1.inW) rfl rfl rfl
    · split at he
      · cases he
      · rename_i hF _ fn hfn
        split at he
        · cases he
        · rename_i hok
          have hwf := hE.wf f fn (by simpa using hok) hfn
          split at he
          · split at he
            · -- under names of its own
              simp only [Option.bind_eq_some_iff] at he
              obtain ⟨⟨ks, cargs, rows⟩, hin, he⟩ := he
              simp only [] at he
              split at he
              rotate_left
              · cases he
              rename_i hgen
              simp only [Option.bind_eq_some_iff, Option.map_eq_some_iff, Prod.mk.injEq] at he
              obtain ⟨⟨vc, rs⟩, hcan, ⟨v1, h1⟩, hbk, rfl, rfl, rfl⟩ := he
              unfold canF at hcan
              simp only [Option.bind_eq_some_iff] at hcan
              obtain ⟨⟨vb, hb1, gb1⟩, hbody, hout⟩ := hcan
              obtain ⟨Hc, hBc, hlc, hrc, hrl, hnd⟩ := canIn_sound H hB hin hgen hl hr
              refine (body_sound ih (callN_fz E n) hE.mixed (enters_run hE) hfn hwf hbody (YsOk.nil hys.2) Hc.append hBc hlc hrc (fun k hk => by simp [sigIn, List.getElem?_eq_none (show ks.length ≤ k by omega)])).mono ?_
              rintro u w' ⟨σ', I', hp⟩
              obtain ⟨I2, Hc2, hr2, m2, hm2, hov, hor⟩ := canOut_sound hp.heap hp.rep hout
              rw [hrl] at hov hor
              obtain ⟨H3, hr3⟩ := canBack_sound (I' := I2) H hnd (fun i hi => hp.low i (by omega)) (fun b hb => m2.1 b (hp.ext.blk b hb)) (fun b hb => (m2.2 b hb).elim (fun h => hp.ext.new b h) .inr) hp.ext.kp.zero hp.ext.below Hc2 hr2 hov hor hbk
              refine ⟨σ, I2, hr3, H3, ⟨fun _ _ h => h, fun b hb => m2.1 b (hp.ext.blk b hb), fun b hb => ?_, hp.ext.kp, ⟨hp.ext.below.os, hp.ext.below.tape, hp.ext.below.output, hp.ext.below.size, fun k hk => hp.ext.below.block k (.inl hk)⟩⟩, fun _ _ _ => rfl, hfr, Nat.le_refl _⟩
              rcases m2.2 b hb with h2 | h2
              · exact (hp.ext.new b h2).imp id fun h3 h4 => h3 (.inl h4)
              · exact .inr fun h4 => h2 (.inl h4)
            -- in the caller's own heap
            simp only [Option.bind_eq_some_iff] at he
            obtain ⟨⟨v0, h1, g1⟩, hbody, he⟩ := he
            simp only [] at he
            refine (body_sound ih (callN_fz E n) hE.mixed (enters_run hE) hfn hwf hbody hys H.append hB hl hr hfr).mono ?_
            rintro u w' ⟨σ', I', hp⟩
            have hgen : σ' gen = none := by rw [hp.low gen hlt]; exact hg
            split at he
            · simp only [Option.some.injEq, Prod.mk.injEq] at he
              obtain ⟨rfl, rfl, rfl⟩ := he
              exact ⟨σ', I', hp.rep, hp.heap.take _, hp.ext, fun k hk _ => hp.low k hk, hp.high, hp.grow⟩
            · split at he
              · rename_i v' h2 had
                simp only [Option.some.injEq, Prod.mk.injEq] at he
                obtain ⟨rfl, rfl, rfl⟩ := he
                obtain ⟨x, hrep, H3⟩ := adopt_sound (hp.heap.take h.length) hp.heap (fun _ h => h) hp.rep had hgen fun d s s' b hb1 hb2 => by
                  rw [hget_take] at hb1
                  split at hb1
                  · rename_i hd
                    have := hp.heap.apart _ _ _ _ b hb1 hb2
                    omega
                  · simp [blkOf, row0] at hb1
                refine ⟨_, I', hrep, H3, ⟨fun k y hk => upd_sub hgen _ _ (hp.ext.sig k y hk), hp.ext.blk, hp.ext.new, hp.ext.kp, hp.ext.below⟩, fun k hk hne => ?_, fun k hk => ?_, hp.grow⟩
                · rw [upd, if_neg (by omega)]; exact hp.low k hk
                · have := hp.grow
                  rw [upd, if_neg (by omega)]; exact hp.high k hk
              · split at he
                · simp only [Option.some.injEq, Prod.mk.injEq] at he
                  obtain ⟨rfl, rfl, rfl⟩ := he
                  exact ⟨σ', I', hp.rep, hp.heap, hp.ext, fun k hk _ => hp.low k hk, hp.high, hp.grow⟩
                · simp only [Option.map_eq_some_iff, Prod.mk.injEq] at he
                  obtain ⟨⟨p, h2⟩, hfz, rfl, rfl, rfl⟩ := he
                  obtain ⟨I2, hpr, H2, m⟩ := frz_sound frzDepth v0 h1 p h2 u I' hfz hp.rep hp.heap
                  exact ⟨σ', I2, .pv _ _ hpr, H2.take _, hp.ext.trans m.ext, fun k hk _ => hp.low k hk, hp.high, hp.grow⟩
          · simp only [Option.bind_eq_some_iff] at he
            obtain ⟨⟨ps, h1⟩, hfz, ⟨v0, hc, g0⟩, hbody, he⟩ := he
            simp only [] at hbody he
            have run : ∀ (I1 : Blk), Gl E I1 w → HRep σ I1 base w h1 → us.length = ps.length → (∀ (j : Nat) (p : PV) (u : Value), ps[j]? = some p → us[j]? = some u → PRep I1 w p u) →
                Does E.P f us.toArray w fun u w' => ∃ σ' I', BodyPost (fun _ => none) I1 (Old w) w 0 v0 hc g0 u w' σ' I' := fun I1 hG1 H1 hl1 hpr =>
              body_sound ih (callN_fz E n) hE.mixed (enters_run hE) hfn hwf hbody (YsOk.nil hG1) (own_heap H1) (Old.bnd w) (by simpa using hl1) (reps_pv hpr) fun _ _ => rfl
            have dopure : ∀ (p : PV) (k : Nat) (h2 : Heap), frz k v0 hc = some (p, h2) → ∀ (I1 : Blk), Gl E I1 w → HRep σ I1 base w h1 → us.length = ps.length →
                (∀ (j : Nat) (p : PV) (u : Value), ps[j]? = some p → us[j]? = some u → PRep I1 w p u) → PureDoes E.P f us.toArray w I1 p := fun p k h2 hf I1 hG1 H1 hl1 hpr =>
              (run I1 hG1 H1 hl1 hpr).mono fun u w' ⟨σ', I', hp⟩ => hp.pure hf
            split at he
            · split at he
              · rename_i p
                simp only [Option.some.injEq, Prod.mk.injEq] at he
                obtain ⟨rfl, rfl, rfl⟩ := he
                exact pure ps _ p hfz (dopure p 1 hc (by simp [frz, pk, marks])) rfl rfl rfl
              · simp only [Option.map_eq_some_iff, Prod.mk.injEq] at he
                obtain ⟨⟨v', h2⟩, had, rfl, rfl, rfl⟩ := he
                obtain ⟨I1, hlen, hpr, H1, m⟩ := frzs_sound frzDepth args h ps h1 us I hfz hl hr H
                refine (run I1 (hys.2.mono m.1 fun _ _ => rfl) H1 (by omega) hpr).mono ?_
                rintro u w' ⟨σ', I', hp⟩
                obtain ⟨H2, hx⟩ := keep_old (I' := I') (w' := w') H1 hB hp.ext.blk (fun b hb => (hp.ext.new b hb).imp id Nat.le_of_not_lt) hp.ext.below.below hp.heap.inW
                obtain ⟨x, hrep, H3⟩ := adopt_sound H2 hp.heap (fun b h1 h2 => h1 (hB b h2)) hp.rep had hg fun d s s' b hb1 hb2 => by
                  have h1' := (H1.rows d s)
                  have h3 : b < w.heap.size := by
                    have := blkOf_facts h1' (b := b) (by exact hb1)
                    exact this.1
                  exact (blkOf_facts (hp.heap.rows 0 s') hb2).2.2 h3
                refine ⟨_, I', hrep, H3, m.ext.trans ⟨fun k y hk => upd_sub hg _ _ hk, hx.blk, hx.new, hx.kp, hx.below⟩, fun k hk hne => ?_, fun k hk => ?_, Nat.le_refl _⟩
                · rw [upd, if_neg (by omega)]
                · rw [upd, if_neg (by omega)]; exact hfr k hk
            · simp only [Option.map_eq_some_iff, Prod.mk.injEq] at he
              obtain ⟨⟨p, h2⟩, hf, rfl, rfl, rfl⟩ := he
              exact pure ps _ p hfz (dopure p _ h2 hf) rfl rfl rfl
end
end Go.Proofs.YtlhfgonjcpapnaaGreatDoor.Abs

/- Functions of the library, known by the library's own contracts: what the abstract machine takes them for. -/
set_option linter.unusedVariables false
set_option linter.unusedSimpArgs false
namespace Go.Proofs.YtlhfgonjcpapnaaGreatDoor.Abs
open Go Go.RowKit

/-- a contract of one function -/
def IntrAt (E : Env) (f : FuncId) (F : List PV → Option PV) : Prop := ∀ (ps : List PV) (r : PV), F ps = some r → ∀ (I : Blk) (w : World) (us : List Value), Gl E I w → us.length = ps.length →
  (∀ (j : Nat) (p : PV) (u : Value), ps[j]? = some p → us[j]? = some u → PRep I w p u) → (∀ b, I b → Solid w b) → PureDoes E.P f us.toArray w I r

section
variable {E : Env} {I : Blk} {w : World} {P : Program}

theorem pure_of_calls {f : FuncId} {us : Array Value} {r : PV} (hent : ∀ args w, (callFunc f args).run P w = .ok (.enter f args) w) {u : Value} {Q : World → Prop} (hc : Calls P f us w fun e w' => e = .returned u ∧ Q w')
    (hQ : ∀ w', Q w' → ∃ I' : Blk, PRep I' w' r u ∧ (∀ b, I b → I' b) ∧ (∀ b, I' b → I b ∨ w.heap.size ≤ b) ∧ Below w.heap.size w w' ∧ ∀ b, I' b → Solid w' b) : PureDoes P f us w I r :=
  .inr (.inl ⟨hent _ _, hc.mono fun e w' ⟨he, hq⟩ => by subst he; exact hQ w' hq⟩)
/-- the world is as it was but for new blocks -/
theorem post_below {w' : World} {r : PV} {u : Value} (hB : Below w.heap.size w w') (hin : ∀ b, I b → Solid w b) (hr : PRep I w' r u) :
    ∃ I' : Blk, PRep I' w' r u ∧ (∀ b, I b → I' b) ∧ (∀ b, I' b → I b ∨ w.heap.size ≤ b) ∧ Below w.heap.size w w' ∧ ∀ b, I' b → Solid w' b :=
  ⟨I, hr, fun _ h => h, fun _ h => .inl h, hB, fun b hb => (hin b hb).keep (hB.block b (hin b hb).lt)⟩

theorem two_lits {us : List Value} {a b : Value} (hl : us.length = 2) (hr : ∀ (j : Nat) (p : PV) (u : Value), [PV.lit a, PV.lit b][j]? = some p → us[j]? = some u → PRep I w p u) : us = [a, b] := by
  match us, hl with
  | [x, y], _ =>
    have h0 := prep_lit (hr 0 _ x rfl rfl)
    have h1 := prep_lit (hr 1 _ y rfl rfl)
    rw [h0, h1]
theorem three_lits {us : List Value} {a b c : Value} (hl : us.length = 3) (hr : ∀ (j : Nat) (p : PV) (u : Value), [PV.lit a, PV.lit b, PV.lit c][j]? = some p → us[j]? = some u → PRep I w p u) : us = [a, b, c] := by
  match us, hl with
  | [x, y, z], _ =>
    have h0 := prep_lit (hr 0 _ x rfl rfl)
    have h1 := prep_lit (hr 1 _ y rfl rfl)
    have h2 := prep_lit (hr 2 _ z rfl rfl)
    rw [h0, h1, h2]
theorem tup_lits (vs : List Value) : PRep I w (.tup (vs.map .lit)) (.tuple vs.toArray) := by
  refine .tup _ _ (by simp) fun j p v hp hv => ?_
  simp only [List.getElem?_map, Option.map_eq_some_iff] at hp
  obtain ⟨x, hx, rfl⟩ := hp
  rw [hv] at hx
  injection hx with hx
  subst hx
  exact .lit _

theorem gv_cell {g : Nat} {v : Value} (hg : PRep I w (.ptr (.lit v) 0) (.pointer (some ⟨g, 0, none⟩))) : w.cell? ⟨g, 0, none⟩ = some v := by
  obtain ⟨b, o, vs, hu, hI, hv⟩ := prep_ptr hg
  simp only [Value.pointer.injEq, Option.some.injEq, Addr.mk.injEq] at hu
  obtain ⟨rfl, ho, _⟩ := hu
  have ho' : o = 0 := by omega
  subst ho'
  obtain ⟨h1, h2, h3⟩ := hv 0 (.lit v) rfl
  rw [prep_lit h3] at h1
  simpa using h1

def strP (l : List UInt8) : PV := .lit (.string ⟨l.toArray⟩)
def cutP : List PV → Option PV
  | [.lit (.string s), .lit (.string sep)] => if s.size < 4294967281 then
      some (.tup [strP (Lib.cut s.data.toList sep.data.toList).1, strP (Lib.cut s.data.toList sep.data.toList).2.1, .lit (.bool (Lib.cut s.data.toList sep.data.toList).2.2)]) else none
  | _ => none
theorem cut_intr {f g : Nat} (hent : ∀ args w, (callFunc f args).run E.P w = .ok (.enter f args) w) (hg : ∀ I w, Gl E I w → ∃ m, w.cell? ⟨g, 0, none⟩ = some (.int .i64 m))
    (hc : ∀ (s sep : ByteArray) (m : Int) (w : World), s.size < 4294967281 → w.cell? ⟨g, 0, none⟩ = some (.int .i64 m) → Calls E.P f #[.string s, .string sep] w fun e w' =>
      e = .returned (.tuple #[.string ⟨(Lib.cut s.data.toList sep.data.toList).1.toArray⟩, .string ⟨(Lib.cut s.data.toList sep.data.toList).2.1.toArray⟩, .bool (Lib.cut s.data.toList sep.data.toList).2.2]) ∧ ∃ n, w' = w.drewN n) : IntrAt E f cutP := by
  intro ps r hF I w us hgl hl hr hin
  unfold cutP at hF
  split at hF
  · rename_i s sep
    split at hF
    · rename_i hs
      injection hF with hF
      subst hF
      rw [two_lits (by simpa using hl) hr]
      obtain ⟨m, hm⟩ := hg I w hgl
      refine pure_of_calls hent (hc s sep m w hs hm) ?_
      rintro w' ⟨n, rfl⟩
      exact post_below ⟨rfl, rfl, rfl, Nat.le_refl _, fun _ _ => rfl⟩ hin (tup_lits [_, _, _])
    · cases hF
  · cases hF

def repeatP : List PV → Option PV
  | [.lit (.string s), .lit (.int .i64 c)] => if 0 ≤ c ∧ c ≤ 9223372036854775807 ∧ s.size * c.toNat ≤ 140737488355328 then some (strP (Lib.repeatL s.data.toList c.toNat)) else none
  | _ => none
theorem repeat_intr {f : Nat} (hent : ∀ args w, (callFunc f args).run E.P w = .ok (.enter f args) w)
    (hc : ∀ (s : ByteArray) (c : Nat) (w : World), c ≤ 9223372036854775807 → s.size * c ≤ 140737488355328 → Calls E.P f #[.string s, .int .i64 c] w fun e w' =>
      e = .returned (.string ⟨(Lib.repeatL s.data.toList c).toArray⟩) ∧ Below w.heap.size w w') : IntrAt E f repeatP := by
  intro ps r hF I w us hgl hl hr hin
  unfold repeatP at hF
  split at hF
  · rename_i s c
    split at hF
    · rename_i hs
      injection hF with hF
      subst hF
      rw [two_lits (by simpa using hl) hr]
      have := hc s c.toNat w (by omega) hs.2.2
      rw [Int.toNat_of_nonneg hs.1] at this
      exact pure_of_calls hent this fun w' hB => post_below hB hin (.lit _)
    · cases hF
  · cases hF

def parseP : List PV → Option PV
  | [.lit (.string s), .lit (.int .i64 b), .lit (.int .i64 z)] => if b = 10 ∧ z = 64 ∧ s.size ≤ 9223372036854775806 then match Lib.parseUintB 64 s.data.toList with
    | .ok u => some (.tup [.lit (.int .u64 u), .lit .nilIface])
    | _ => none
    else none
  | _ => none
theorem parse_intr {f t : Nat} (hent : ∀ args w, (callFunc f args).run E.P w = .ok (.enter f args) w)
    (hc : ∀ (s : ByteArray), s.size ≤ 9223372036854775806 → ∀ (u : Nat), Lib.parseUintB 64 s.data.toList = .ok u → ∀ (w : World), Calls E.P f #[.string s, .int .i64 10, .int .i64 64] w fun e w' =>
      e = .returned (.tuple #[.int .u64 u, .nilIface]) ∧ (w' = w ∨ w' = Lib.bytesWorld w t s)) : IntrAt E f parseP := by
  intro ps r hF I w us hgl hl hr hin
  unfold parseP at hF
  split at hF
  · rename_i s b z
    split at hF
    · rename_i hs
      obtain ⟨rfl, rfl, hs⟩ := hs
      split at hF
      · rename_i u hu
        injection hF with hF
        subst hF
        rw [three_lits (by simpa using hl) hr]
        refine pure_of_calls hent (hc s hs u hu w) ?_
        rintro w' (rfl | rfl)
        · exact post_below (Below.refl _ _) hin (tup_lits [_, _])
        · exact post_below ⟨rfl, rfl, rfl, by rw [Lib.bytesWorld_size]; omega, fun k hk => Lib.bytesWorld_at_old w t s k hk⟩ hin (tup_lits [_, _])
      · cases hF
    · cases hF
  · cases hF

theorem alloc_keep (o : Obj) : ∀ b, b < w.heap.size → (w.alloc o).heap[b]? = w.heap[b]? := fun b hb => Below.heap_alloc w o b hb
/-- a new slice of strings, as long as its room -/
theorem post_strs (t : TypeId) (xs : List ByteArray) (hin : ∀ b, I b → Solid w b) :
    ∃ I' : Blk, PRep I' (w.alloc (.cells (xs.map Value.string).toArray t)) (.sl 1 false true (xs.map fun x => .lit (.string x))) (.slice (some ⟨w.heap.size, 0, none⟩) xs.length xs.length) ∧ (∀ b, I b → I' b) ∧ (∀ b, I' b → I b ∨ w.heap.size ≤ b) ∧
      Below w.heap.size w (w.alloc (.cells (xs.map Value.string).toArray t)) ∧ ∀ b, I' b → Solid (w.alloc (.cells (xs.map Value.string).toArray t)) b := by
  have hG : Grows w (w.alloc (.cells (xs.map Value.string).toArray t)) (.cells (xs.map Value.string).toArray t) := ⟨rfl, rfl, rfl, rfl⟩
  refine ⟨fun b => I b ∨ b = w.heap.size, ?_, fun _ h => .inl h, fun b hb => hb.imp id (fun e => by omega), (hG.below (Old.bnd w)).below, fun b hb => ?_⟩
  · have := PRep.sl (I := fun b => I b ∨ b = w.heap.size) (w := w.alloc (.cells (xs.map Value.string).toArray t)) 1 true (xs.map fun x => PV.lit (.string x)) w.heap.size 0 xs.length (fun i j => (.string (xs.getD i .empty)))
      (by simp) (by simp) (.inr rfl) (fun x hx => by obtain ⟨y, _, rfl⟩ := List.mem_map.1 hx; exact ⟨rfl, rfl⟩) (fun i x hx j p hp => ?_) (fun i x hx j p hp => ?_)
    · simpa using this
    · simp only [List.getElem?_map, Option.map_eq_some_iff] at hx
      obtain ⟨y, hy, rfl⟩ := hx
      cases j with
      | zero =>
        refine ⟨?_, rfl⟩
        rw [hG.cell]
        simp [hy, List.getD_eq_getElem?_getD]
      | succ j => simp [PV.cells] at hp
    · simp only [List.getElem?_map, Option.map_eq_some_iff] at hx
      obtain ⟨y, hy, rfl⟩ := hx
      cases j with
      | zero =>
        simp [PV.cells] at hp
        subst hp
        simp only [List.getD_eq_getElem?_getD, hy, Option.getD_some]
        exact .lit _
      | succ j => simp [PV.cells] at hp
  · rcases hb with hb | rfl
    · exact (hin b hb).keep (hG.old (hin b hb).lt)
    · exact .of_shape hG.shape

def splitP : List PV → Option PV
  | [.lit (.string s), .lit (.string sep)] => if s.size < 4294967281 ∧ 1 ≤ sep.size then some (.sl 1 false true ((Lib.splitB sep 0 (Lib.countB s sep) s).map fun x => .lit (.string x))) else none
  | _ => none
theorem split_intr {f g t : Nat} (hent : ∀ args w, (callFunc f args).run E.P w = .ok (.enter f args) w) (hg : ∀ I w, Gl E I w → ∃ m, w.cell? ⟨g, 0, none⟩ = some (.int .i64 m))
    (hlen : ∀ s sep : ByteArray, 1 ≤ sep.size → (Lib.splitB sep 0 (Lib.countB s sep) s).length = Lib.countB s sep + 1)
    (hc : ∀ (s sep : ByteArray) (m : Int) (w : World), s.size < 4294967281 → w.cell? ⟨g, 0, none⟩ = some (.int .i64 m) → 1 ≤ sep.size → Calls E.P f #[.string s, .string sep] w fun e w' =>
      e = .returned (.slice (some ⟨w.heap.size, 0, none⟩) (Lib.countB s sep + 1) (Lib.countB s sep + 1)) ∧ w' = w.alloc (.cells ((Lib.splitB sep 0 (Lib.countB s sep) s).map Value.string).toArray t)) : IntrAt E f splitP := by
  intro ps r hF I w us hgl hl hr hin
  unfold splitP at hF
  split at hF
  · rename_i s sep
    split at hF
    · rename_i hs
      injection hF with hF
      subst hF
      rw [two_lits (by simpa using hl) hr]
      obtain ⟨m, hm⟩ := hg I w hgl
      refine pure_of_calls hent (hc s sep m w hs.1 hm hs.2) ?_
      rintro w' rfl
      have := post_strs (I := I) (w := w) t (Lib.splitB sep 0 (Lib.countB s sep) s) hin
      rw [hlen s sep hs.2] at this
      exact this
    · cases hF
  · cases hF

def strsP : List PV → Option (List ByteArray)
  | [] => some []
  | .lit (.string s) :: l => (strsP l).map (s :: ·)
  | _ :: _ => none
theorem strsP_map : ∀ {l : List PV} {xs : List ByteArray}, strsP l = some xs → l = xs.map fun x => .lit (.string x)
  | [], xs, h => by simp [strsP] at h; subst h; rfl
  | p :: l, xs, h => by
    cases p with
    | lit v =>
      cases v <;> simp only [strsP, Option.map_eq_some_iff] at h <;> try (cases h; done)
      obtain ⟨ys, hy, rfl⟩ := h
      rw [strsP_map hy]; rfl
    | _ => simp [strsP] at h
def joinP : List PV → Option PV
  | [.sl k nl full l, .lit (.string sep)] => match strsP l with
    | some xs => if xs.length ≤ 140737488355328 ∧ (Lib.join (xs.map fun x => x.data.toList) sep.data.toList).length ≤ 140737488355328 then some (strP (Lib.join (xs.map fun x => x.data.toList) sep.data.toList)) else none
    | none => none
  | _ => none
theorem join_intr {f : Nat} (hent : ∀ args w, (callFunc f args).run E.P w = .ok (.enter f args) w)
    (h0 : ∀ (a : Option Addr) (c : Nat) (sep : ByteArray) (w : World), Calls E.P f #[.slice a 0 c, .string sep] w fun e w' => e = .returned (.string ⟨#[]⟩) ∧ w' = w)
    (hc : ∀ (bk o c : Nat) (xs : List ByteArray) (sep : ByteArray) (w : World), (∀ (j : Nat) (x : ByteArray), xs[j]? = some x → w.cell? ⟨bk, o + j, none⟩ = some (.string x)) → bk < w.heap.size → xs.length ≤ 140737488355328 → xs.length ≤ c →
      (Lib.join (xs.map fun x => x.data.toList) sep.data.toList).length ≤ 140737488355328 → Calls E.P f #[.slice (some ⟨bk, o, none⟩) xs.length c, .string sep] w fun e w' =>
        e = .returned (.string ⟨(Lib.join (xs.map fun x => x.data.toList) sep.data.toList).toArray⟩) ∧ Below w.heap.size w w') : IntrAt E f joinP := by
  intro ps r hF I w us hgl hl hr hin
  unfold joinP at hF
  split at hF
  · rename_i k nl full l sep
    split at hF
    · rename_i xs hxs
      split at hF
      · rename_i hs
        injection hF with hF
        subst hF
        have hl' := strsP_map hxs
        obtain ⟨x, hx⟩ : ∃ x, us = [x, .string sep] := by
          match us, hl with
          | [x, y], _ => exact ⟨x, by rw [prep_lit (hr 1 _ y rfl rfl)]⟩
        subst hx
        have hx := hr 0 _ x rfl rfl
        have nil : ∀ (a : Option Addr) (c : Nat), xs = [] → x = .slice a 0 c → PureDoes E.P f [x, .string sep].toArray w I (strP (Lib.join (xs.map fun x => x.data.toList) sep.data.toList)) := by
          rintro a c rfl rfl
          exact pure_of_calls hent (h0 a c sep w) fun w' hw => by subst hw; exact post_below (Below.refl _ _) hin (.lit _)
        cases hx with
        | nil => exact nil none 0 (by simpa using hl'.symm) rfl
        | emp _ _ a cap => exact nil (some a) cap (by simpa using hl'.symm) rfl
        | sl _ _ _ b o cap vs hcap hfull hI hk hcc hrr =>
          subst hl'
          by_cases hne : xs = []
          · subst hne; exact nil _ cap rfl rfl
          · have hk1 : k = 1 := by
              obtain ⟨y, ys, rfl⟩ := List.exists_cons_of_ne_nil hne
              have := (hk (.lit (.string y)) (by simp)).1
              simpa [PV.cells] using this.symm
            subst hk1
            have hcells : ∀ (j : Nat) (x : ByteArray), xs[j]? = some x → w.cell? ⟨b, o + j, none⟩ = some (.string x) := by
              intro j y hj
              have h1 := (hcc j (.lit (.string y)) (by simp [hj]) 0 (.lit (.string y)) rfl).1
              have h2 := hrr j (.lit (.string y)) (by simp [hj]) 0 (.lit (.string y)) rfl
              rw [prep_lit h2] at h1
              simpa using h1
            have := hc b o cap xs sep w hcells (hin b hI).lt hs.1 (by simpa using hcap) hs.2
            simp only [List.length_map]
            exact pure_of_calls hent this fun w' hB => post_below hB hin (.lit _)
      · cases hF
    · cases hF
  · cases hF
end
end Go.Proofs.YtlhfgonjcpapnaaGreatDoor.Abs

/- Rules for walking the abstract machine's code, with fuel out of sight. -/
set_option linter.unusedVariables false
set_option linter.unusedSimpArgs false
namespace Go.Proofs.YtlhfgonjcpapnaaGreatDoor.Abs
open Go

/-- handlers of rounds, for each choice of the fuels around them -/
abbrev Fam := (Nat → Nat) → Ys
def noY : Fam := fun _ => []
def Big (N : Nat) (a : Nat → Nat) : Prop := ∀ i, N ≤ a i
theorem Big.mono {N M : Nat} {a : Nat → Nat} (h : Big N a) (hm : M ≤ N) : Big M a := fun i => Nat.le_trans hm (h i)
def consF (n : Nat) (a : Nat → Nat) : Nat → Nat
  | 0 => n
  | i + 1 => a i
theorem Big.cons {N n : Nat} {a : Nat → Nat} (hn : N ≤ n) (h : Big N a) : Big N (consF n a) := fun i => by
  cases i with
  | zero => exact hn
  | succ i => exact h i

section
variable {E : Env} {ys : Fam} {d : Nat}

/-- with fuel enough the code goes from s to s' -/
def Runs (E : Env) (ys : Fam) (d : Nat) (c : Code) (s : St) (x : AExit) (s' : St) : Prop := ∃ N, ∀ a, Big N a → ∀ n, N ≤ n → codeF E (callN E n) (ys a) d n c s = some (x, s')
/-- the code ends in a state of which Q holds -/
def Wp (E : Env) (ys : Fam) (d : Nat) (c : Code) (Q : AExit → St → Prop) (s : St) : Prop := ∃ x s', Runs E ys d c s x s' ∧ Q x s'
/-- operations, from number i on -/
def OpsTo (E : Env) (ys : Fam) (st : Bool) (d gb : Nat) (all : Array Oper) (os : List Oper) (i : Nat) (s s' : St) : Prop := ∃ N, ∀ a, Big N a → ∀ n, N ≤ n → opsF E (callN E n) (ys a) st d gb all os i s = some s'
def WpOps (E : Env) (ys : Fam) (st : Bool) (d gb : Nat) (all : Array Oper) (os : List Oper) (i : Nat) (Q : St → Prop) (s : St) : Prop := ∃ s', OpsTo E ys st d gb all os i s s' ∧ Q s'
def OpTo (E : Env) (ys : Fam) (st : Bool) (d gb : Nat) (all : Array Oper) (i : Nat) (o : Oper) (s s' : St) : Prop := ∃ N, ∀ a, Big N a → ∀ n, N ≤ n → ostep E (callN E n) (ys a) st d gb all i o s = some s'

variable {Q : AExit → St → Prop} {s : St}
theorem ev_skip (h : Q .normal s) : Wp E ys d .skip Q s := ⟨_, _, ⟨0, fun _ _ _ _ => rfl⟩, h⟩
theorem ev_label {l : Nat} (h : Q .normal s) : Wp E ys d (.label l) Q s := ⟨_, _, ⟨0, fun _ _ _ _ => rfl⟩, h⟩
theorem ev_ret (h : Q .ret s) : Wp E ys d .ret Q s := ⟨_, _, ⟨0, fun _ _ _ _ => rfl⟩, h⟩
theorem ev_exit {id : Nat} (h : Q (.exit id) s) : Wp E ys d (.exit id) Q s := ⟨_, _, ⟨0, fun _ _ _ _ => rfl⟩, h⟩
theorem ev_goto {l : Nat} (h : Q (.goto l) s) : Wp E ys d (.goto l) Q s := ⟨_, _, ⟨0, fun _ _ _ _ => rfl⟩, h⟩
def thenQ (E : Env) (ys : Fam) (d : Nat) (b : Code) (Q : AExit → St → Prop) : AExit → St → Prop
  | .normal, s => Wp E ys d b Q s
  | x, s => Q x s
theorem ev_seq {a b : Code} (h : Wp E ys d a (thenQ E ys d b Q) s) : Wp E ys d (.seq a b) Q s := by
  obtain ⟨x, s1, ⟨N, hN⟩, hq⟩ := h
  cases x with
  | normal =>
    obtain ⟨y, s2, ⟨M, hM⟩, hq⟩ := hq
    exact ⟨y, s2, ⟨max N M, fun a ha n hn => by simp only [codeF, hN a (ha.mono (by omega)) n (by omega)]; exact hM a (ha.mono (by omega)) n (by omega)⟩, hq⟩
  | _ => exact ⟨_, s1, ⟨N, fun a ha n hn => by simp only [codeF, hN a ha n hn]⟩, hq⟩
theorem ev_cond {c : Operand} {x y : Code} {t : Bool} (hc : boolA (evalA s.t c) = some t) (h : Wp E ys d (if t then x else y) Q s) : Wp E ys d (.cond c x y) Q s := by
  obtain ⟨z, s1, ⟨N, hN⟩, hq⟩ := h
  refine ⟨z, s1, ⟨N, fun a ha n hn => ?_⟩, hq⟩
  have := hN a ha n hn
  cases t <;> simpa [codeF, hc] using this
def blockQ (id : Nat) (Q : AExit → St → Prop) : AExit → St → Prop
  | .exit id', s => if id' = id then Q .normal s else Q (.exit id') s
  | x, s => Q x s
theorem ev_block {id : Nat} {c : Code} (h : Wp E ys d c (blockQ id Q) s) : Wp E ys d (.block id c) Q s := by
  obtain ⟨x, s1, ⟨N, hN⟩, hq⟩ := h
  cases x with
  | exit id' =>
    refine ⟨_, s1, ⟨N, fun a ha n hn => by simp only [codeF, hN a ha n hn]; rfl⟩, ?_⟩
    simp only [blockQ] at hq
    by_cases e : id' = id
    · rw [if_pos e] at hq ⊢; exact hq
    · rw [if_neg e] at hq ⊢; exact hq
  | _ => exact ⟨_, s1, ⟨N, fun a ha n hn => by simp only [codeF, hN a ha n hn]⟩, hq⟩
/-- the loop from a state on, rounds counted apart -/
def WpL (E : Env) (ys : Fam) (d : Nat) (c : Code) (Q : AExit → St → Prop) (s : St) : Prop := ∃ x s', (∃ N, ∀ a, Big N a → ∀ n, N ≤ n → ∀ k, N ≤ k → loopF (codeF E (callN E n) (ys a) d n c) k s = some (x, s')) ∧ Q x s'
def roundQ (E : Env) (ys : Fam) (d : Nat) (c : Code) (Q : AExit → St → Prop) : AExit → St → Prop
  | .normal, s => WpL E ys d c Q s
  | x, s => Q x s
theorem ev_loop {c : Code} (h : WpL E ys d c Q s) : Wp E ys d (.loop c) Q s := by
  obtain ⟨x, s1, ⟨N, hN⟩, hq⟩ := h
  exact ⟨x, s1, ⟨N, fun a ha n hn => hN a ha n hn n hn⟩, hq⟩
/-- one round, and the loop again -/
theorem ev_round {c : Code} (h : Wp E ys d c (roundQ E ys d c Q) s) : WpL E ys d c Q s := by
  obtain ⟨x, s1, ⟨N, hN⟩, hq⟩ := h
  have step : ∀ a, Big N a → ∀ n, N ≤ n → ∀ k, loopF (codeF E (callN E n) (ys a) d n c) (k + 1) s = match x with
      | .normal => loopF (codeF E (callN E n) (ys a) d n c) k s1
      | x => some (x, s1) := by
    intro a ha n hn k
    simp only [loopF, hN a ha n hn]
    cases x <;> rfl
  cases x with
  | normal =>
    obtain ⟨y, s2, ⟨M, hM⟩, hq⟩ := hq
    refine ⟨y, s2, ⟨max N M + 1, fun a ha n hn k hk => ?_⟩, hq⟩
    obtain ⟨k, rfl⟩ : ∃ k', k = k' + 1 := ⟨k - 1, by omega⟩
    rw [step a (ha.mono (by omega)) n (by omega)]
    exact hM a (ha.mono (by omega)) n (by omega) k (by omega)
  | _ =>
    refine ⟨_, s1, ⟨N + 1, fun a ha n hn k hk => ?_⟩, hq⟩
    obtain ⟨k, rfl⟩ : ∃ k', k = k' + 1 := ⟨k - 1, by omega⟩
    rw [step a (ha.mono (by omega)) n (by omega)]
theorem ev_region {id : Nat} {ops : Array Oper} {draw : Bool} (h : WpOps E ys draw d s.g ops ops.toList 0 (fun s => Q .normal s) { s with h := if draw then killKeys E d ops.toList s.h else s.h, g := s.g + ops.size }) : Wp E ys d (.region id ops draw) Q s := by
  obtain ⟨s1, ⟨N, hN⟩, hq⟩ := h
  exact ⟨_, s1, ⟨N, fun a ha n hn => by simp only [codeF, hN a ha n hn, Option.map_some]⟩, hq⟩

variable {st : Bool} {gb : Nat} {all : Array Oper} {R : St → Prop}
theorem ops_nil {i : Nat} (h : R s) : WpOps E ys st d gb all [] i R s := ⟨s, ⟨0, fun _ _ _ _ => rfl⟩, h⟩
theorem ops_cons {o : Oper} {os : List Oper} {i : Nat} {s1 : St} (h1 : OpTo E ys st d gb all i o s s1) (h : WpOps E ys st d gb all os (i + 1) R s1) : WpOps E ys st d gb all (o :: os) i R s := by
  obtain ⟨N, hN⟩ := h1
  obtain ⟨s2, ⟨M, hM⟩, hq⟩ := h
  exact ⟨s2, ⟨max N M, fun a ha n hn => by simp only [opsF, hN a (ha.mono (by omega)) n (by omega), Option.bind_some]; exact hM a (ha.mono (by omega)) n (by omega)⟩, hq⟩

/-! ### calls of functions that are given values and give a value -/
def Den (E : Env) (f : FuncId) (ps : List PV) (r : PV) : Prop := ∃ N, ∀ n, N ≤ n → ∀ ys args d slot gen h h1 g, frzs frzDepth args h = some (ps, h1) → (!E.rd f && args.any (hasMut frzDepth)) = false → callN E n ys f args d slot gen h g = some (.pv r, h1, g)
def endQ (P : Program) (fn : Func) (r : PV) (x : AExit) (s : St) : Prop := (x = .normal ∨ x = .ret) ∧ ∃ v hp, resultsF P fn s.h s.t = some v ∧ frz frzDepth v s.h = some (r, hp)
theorem den_intr {f : FuncId} {F : List PV → Option PV} {ps : List PV} {r : PV} (hi : E.intr f = some F) (hF : F ps = some r) : Den E f ps r := by
  refine ⟨1, fun n hn ys args d slot gen h h1 g hz hm => ?_⟩
  obtain ⟨n, rfl⟩ : ∃ k, n = k + 1 := ⟨n - 1, by omega⟩
  simp only [callN, hi, hz, Option.bind_some, hF, Option.map_some]
theorem den_body {f : FuncId} {fn : Func} {c : Code} {ps : List PV} {r : PV} (hi : E.intr f = none) (hf : E.P.funcs[f]? = some fn) (hb : fn.body = some c) (hok : E.ok f = true) (hinl : E.inl f = false) (hown : E.own f = false)
    (h : Wp E noY 0 c (endQ E.P fn r) { t := padT fn.ntmps (ps.map .pv), h := [List.replicate fn.ntmps row0], g := 0 }) : Den E f ps r := by
  obtain ⟨x, s1, ⟨N, hN⟩, hx, v, hp, hv, hz1⟩ := h
  refine ⟨N + 1, fun n hn ys args d slot gen h h1 g hz hm => ?_⟩
  obtain ⟨n, rfl⟩ : ∃ k, n = k + 1 := ⟨n - 1, by omega⟩
  have hc : codeF E (callN E n) [] 0 n c _ = _ := hN (fun _ => n) (fun _ => by show N ≤ n; omega) n (by omega)
  have hbody : bodyF E (callN E n) [] n fn 0 (ps.map .pv) [[]] 0 = some (v, s1.h, s1.g) := by
    unfold bodyF
    have hpad : padH fn.ntmps 0 [[]] = [List.replicate fn.ntmps row0] := by simp [padH, putL]
    rw [hb, hpad]
    simp only [Option.bind_some, hc]
    rcases hx with rfl | rfl <;> simp [hv]
  simp only [callN, hi, hf, hok, hinl, hown, hm, hz, hbody, hz1, Option.bind_some, Option.map_some, Bool.or_self, Bool.false_eq_true, if_false, reduceCtorEq]
theorem frzs_pvs (ps : List PV) (n : Nat) (h : Heap) : frzs (n + 1) (ps.map .pv) h = some (ps, h) := by
  have : ∀ ps : List PV, pks (pk h (n + 1)) (ps.map .pv) = some (ps, []) := by
    intro ps
    induction ps with
    | nil => rfl
    | cons p ps ih =>
      have h1 : pk h (n + 1) (.pv p) = some (p, []) := rfl
      simp only [List.map_cons, pks, h1, ih, Option.bind_some, Option.map_some, List.append_nil]
  simp [frzs, this, marks]
theorem mut_pvs (ps : List PV) (n : Nat) : (ps.map AV.pv).any (hasMut (n + 1)) = false := by
  induction ps with
  | nil => rfl
  | cons p ps ih => simp [hasMut]
/-- WHAT IS KNOWN OF A CALL BY ITS VALUE. -/
theorem den_sound (hE : EnvOk E) {f : FuncId} {ps : List PV} {r : PV} (h : Den E f ps r) {I : Blk} {w : World} {us : List Value} (hgl : Gl E I w) (hl : us.length = ps.length)
    (hr : ∀ (j : Nat) (p : PV) (u : Value), ps[j]? = some p → us[j]? = some u → PRep I w p u) (hin : ∀ b, I b → Solid w b) : PureDoes E.P f us.toArray w I r := by
  obtain ⟨N, hN⟩ := h
  have hc := hN N (Nat.le_refl _) [] (ps.map .pv) 0 0 0 [[]] [[]] 1 (frzs_pvs ps 7 [[]]) (by rw [show (ps.map AV.pv).any (hasMut frzDepth) = false from mut_pvs ps 7, Bool.and_false])
  have H : HRep (fun _ => none) I (Old w) w [[]] := ⟨fun d s => by rw [hget_nil]; trivial, fun d s d' s' b h1 => by rw [hget_nil] at h1; simp [blkOf, row0] at h1, hin⟩
  refine (callN_sound hE N [] (fun _ => none) I (Old w) w [[]] f _ 0 0 0 1 _ _ _ us hc (YsOk.nil hgl) H (Old.bnd w) (by simpa using hl) (reps_pv hr) rfl (by omega) (fun _ _ => rfl)).mono ?_
  rintro u w' ⟨σ', I', hp⟩
  exact ⟨I', rep_pv hp.rep, hp.ext.blk, fun b hb => (hp.ext.new b hb).imp id Nat.le_of_not_lt, hp.ext.below.below, hp.heap.inW⟩

/-! ### calls of functions that are handed rows -/
/-- what such a function gives, and what becomes of the rows -/
def DenC (E : Env) (f : FuncId) (args : List AV) (rows : List Row) (v : AV) (rs : List Row) : Prop := ∃ fn, E.P.funcs[f]? = some fn ∧ ∃ N, ∀ n, N ≤ n → canF E (callN E n) n fn args rows = some (v, rs)
def endQC (P : Program) (fn : Func) (m : Nat) (v : AV) (rs : List Row) (x : AExit) (s : St) : Prop := (x = .normal ∨ x = .ret) ∧ ∃ v0, resultsF P fn s.h s.t = some v0 ∧ canOut m v0 s.h = some (v, rs)
theorem denC_body {f : FuncId} {fn : Func} {c : Code} {args : List AV} {rows rs : List Row} {v : AV} (hf : E.P.funcs[f]? = some fn) (hb : fn.body = some c)
    (h : Wp E noY 1 c (endQC E.P fn rows.length v rs) { t := padT fn.ntmps args, h := [rows, List.replicate fn.ntmps row0], g := rows.length }) : DenC E f args rows v rs := by
  obtain ⟨x, s1, ⟨N, hN⟩, hx, v0, hv, ho⟩ := h
  refine ⟨fn, hf, N, fun n hn => ?_⟩
  have hc : codeF E (callN E n) [] 1 n c _ = _ := hN (fun _ => n) (fun _ => hn) n hn
  unfold canF bodyF
  have hpad : padH fn.ntmps 1 [rows, []] = [rows, List.replicate fn.ntmps row0] := by simp [padH, putL]
  rw [hb, hpad]
  simp only [Option.bind_some, hc]
  rcases hx with rfl | rfl <;> simp [hv, ho]

/-! ### one operation -/
def noCall : CallFn := fun _ _ _ _ _ _ _ _ => none
/-- an operation that is no call of a function: by computing it -/
theorem op_do {i : Nat} {o : Oper} {s1 : St} (h : ostep E noCall [] st d gb all i o s = some s1) : OpTo E ys st d gb all i o s s1 := by
  refine ⟨0, fun a _ n _ => ?_⟩
  unfold ostep opV at h ⊢
  cases hw : wantedA all s.t o with
  | false => rw [hw] at h; exact h
  | true =>
    rw [hw] at h
    simp only [if_true] at h ⊢
    unfold stepV at h ⊢
    split at h
    · split at h
      · simp [Ys.get?] at h
      · exfalso
        simp only [Option.map_eq_some_iff, Option.bind_eq_some_iff] at h
        obtain ⟨r, ⟨⟨fid, a, b⟩, _, h⟩, _⟩ := h
        split at h
        · cases h
        · cases h
    · exact h
/-- a call that hands over rows -/
theorem op_can {i : Nat} {o : Oper} {f : Operand} {args : Array Operand} {ats : Array TypeId} {fid : FuncId} {a b cargs : List AV} {ks : List K2} {rows rs : List Row} {v v' : AV} {h' : Heap} (hw : wantedA all s.t o = true)
    (ho : o.op = .call { callee := .value f, args := args, argTypes := ats }) (hc : calleeOf (evalA s.t f) = some (fid, a, b)) (hst : (st && (clsOp E o == .fz)) = false)
    (hi : E.intr fid = none) (hok : E.ok fid = true) (hcan : E.can fid = true) (hm : (E.inl fid || (!E.rd fid && (a ++ args.toList.map (evalA s.t) ++ b).any (hasMut frzDepth))) = true)
    (hin : canIn s.h (a ++ args.toList.map (evalA s.t) ++ b) = some (ks, cargs, rows)) (hg : canGens s.h ks (a ++ args.toList.map (evalA s.t) ++ b) = true) (hd : DenC E fid cargs rows v rs) (hb : canBack ks s.h v rs = some (v', h')) :
    OpTo E ys st d gb all i o s { t := putD s.t o.dst v', h := h', g := s.g } := by
  obtain ⟨fn, hf, N, hN⟩ := hd
  refine ⟨N + 1, fun a1 ha n hn => ?_⟩
  obtain ⟨n, rfl⟩ : ∃ k, n = k + 1 := ⟨n - 1, by omega⟩
  have hcall := hN n (by omega)
  unfold ostep opV
  rw [hw]
  simp only [if_true]
  unfold stepV
  simp only [ho]
  split
  · rename_i d' s' gl hy
    rw [hy] at hc
    simp [calleeOf] at hc
  · simp only [hc, Option.bind_some, hst, Bool.false_and, Bool.false_eq_true, if_false, callN, hi, hf, hok, hcan, hm, hin, hg, hcall, hb, if_true, Option.map_some, reduceCtorEq]
/-- a call by value -/
theorem op_call {i : Nat} {o : Oper} {f : Operand} {args : Array Operand} {ats : Array TypeId} {fid : FuncId} {a b : List AV} {ps : List PV} {h1 : Heap} {r : PV} (hw : wantedA all s.t o = true) (ho : o.op = .call { callee := .value f, args := args, argTypes := ats })
    (hc : calleeOf (evalA s.t f) = some (fid, a, b)) (hz : frzs frzDepth (a ++ args.toList.map (evalA s.t) ++ b) s.h = some (ps, h1)) (hm : (!E.rd fid && (a ++ args.toList.map (evalA s.t) ++ b).any (hasMut frzDepth)) = false) (hst : (st && (clsOp E o == .fz) && (a ++ args.toList.map (evalA s.t) ++ b).any (hasMut frzDepth)) = false) (hd : Den E fid ps r) :
    OpTo E ys st d gb all i o s { t := putD s.t o.dst (.pv r), h := h1, g := s.g } := by
  obtain ⟨N, hN⟩ := hd
  refine ⟨N, fun a1 ha n hn => ?_⟩
  have hcall := hN n hn (ys a1) _ d (o.dst.getD 0) (gb + i) s.h h1 s.g hz hm
  unfold ostep opV
  rw [hw]
  simp only [if_true]
  unfold stepV
  simp only [ho]
  split
  · rename_i d' s' gl hy
    rw [hy] at hc
    simp [calleeOf] at hc
  · simp only [hc, Option.bind_some, hst, Bool.false_eq_true, if_false, hcall, Option.map_some]

/-! ### ranges over functions -/
/-- the rounds of a range over a function -/
def roundFam (E : Env) (ys : Fam) (d : Nat) (ps : Array Tmp) (assign body : Code) (t : List AV) (slot gen : Nat) : Fam := fun a =>
  (gen, roundF (codeF E (callN E (a 0)) (ys fun i => a (i + 1)) d (a 0) assign) (codeF E (callN E (a 0)) (ys fun i => a (i + 1)) d (a 0) body) ps t d slot gen) :: ys fun i => a (i + 1)
/-- a call of yield does this -/
def YTo (ys : Fam) (gl : Nat) (args : List AV) (h : Heap) (g : Nat) (b : Bool) (h' : Heap) (g' : Nat) : Prop := ∃ N, ∀ a, Big N a → ∃ hd, (ys a).get? gl = some hd ∧ hd args h g = some (b, h', g')
theorem op_yld {i : Nat} {o : Oper} {f : Operand} {args : Array Operand} {ats : Array TypeId} {d1 s1 gl : Nat} {b : Bool} {h' : Heap} {g' : Nat} (hw : wantedA all s.t o = true) (ho : o.op = .call { callee := .value f, args := args, argTypes := ats })
    (hc : evalA s.t f = .yld d1 s1 gl) (hy : YTo ys gl (args.toList.map (evalA s.t)) s.h s.g b h' g') : OpTo E ys st d gb all i o s { t := putD s.t o.dst (litA (.bool b)), h := h', g := g' } := by
  obtain ⟨N, hN⟩ := hy
  refine ⟨N, fun a ha n hn => ?_⟩
  obtain ⟨hd, h1, h2⟩ := hN a ha
  unfold ostep opV
  rw [hw]
  simp only [if_true]
  unfold stepV
  simp only [ho, hc, h1, Option.bind_some, h2, Option.map_some]
/-- where a function that was ranged over is left -/
def leaveQ (D d slot : Nat) (t : List AV) (gen : Nat) (Q : AExit → St → Prop) (x : AExit) (s : St) : Prop := (x = .normal ∨ x = .ret) ∧ match live (s.h.take D) d slot gen with
  | .lp .ready => Q .normal { t := t, h := hput (s.h.take D) d slot row0, g := s.g }
  | .lp (.done x') => x' ≠ .normal ∧ Q x' { t := t, h := hput (s.h.take D) d slot row0, g := s.g }
  | _ => False
theorem ev_range {f : Operand} {ps : Array Tmp} {assign body c : Code} {fid : FuncId} {a b : List AV} {fn : Func} (hc : calleeOf (evalA s.t f) = some (fid, a, b)) (hen : enters E fid = true) (hcan : E.can fid = false) (hrd : E.rd fid = false)
    (hf : E.P.funcs[fid]? = some fn) (hb : fn.body = some c) (hres : fn.results = #[])
    (h : Wp E (roundFam E ys d ps assign body s.t (ps.getD 0 0) s.g) (hput s.h d (ps.getD 0 0) ⟨s.g, .lp .ready⟩).length c (leaveQ (hput s.h d (ps.getD 0 0) ⟨s.g, .lp .ready⟩).length d (ps.getD 0 0) s.t s.g Q)
      { t := padT fn.ntmps (a ++ [.yld d (ps.getD 0 0) s.g] ++ b), h := padH fn.ntmps (hput s.h d (ps.getD 0 0) ⟨s.g, .lp .ready⟩).length (hput s.h d (ps.getD 0 0) ⟨s.g, .lp .ready⟩ ++ [[]]), g := s.g + 2 }) : Wp E ys d (.rangeFunc f ps assign body) Q s := by
  obtain ⟨x, s1, ⟨N, hN⟩, hx, hq⟩ := h
  have hen' := hen
  unfold enters at hen'
  simp only [Bool.and_eq_true, Option.isNone_iff_eq_none] at hen'
  obtain ⟨⟨hok, hi⟩, _⟩ := hen'
  have hyl : hasMut frzDepth (AV.yld d (ps.getD 0 0) s.g) = true := rfl
  have hmut : (a ++ [AV.yld d (ps.getD 0 0) s.g] ++ b).any (hasMut frzDepth) = true := by simp only [List.any_append, List.any_cons, hyl, Bool.true_or, Bool.or_true]
  have hres2 : resultsF E.P fn s1.h s1.t = some (.pv (.tup [])) := by simp [resultsF, hres, mkTup, allPV]
  have run : ∀ al, Big (N + 1) al → ∀ n, N + 1 ≤ n → callN E n ((s.g, roundF (codeF E (callN E n) (ys al) d n assign) (codeF E (callN E n) (ys al) d n body) ps s.t d (ps.getD 0 0) s.g) :: ys al) fid (a ++ [.yld d (ps.getD 0 0) s.g] ++ b) d (ps.getD 0 0) (s.g + 1)
      (hput s.h d (ps.getD 0 0) ⟨s.g, .lp .ready⟩) (s.g + 2) = some (.pv (.tup []), s1.h.take (hput s.h d (ps.getD 0 0) ⟨s.g, .lp .ready⟩).length, s1.g) := by
    intro al ha n hn
    obtain ⟨n, rfl⟩ : ∃ k, n = k + 1 := ⟨n - 1, by omega⟩
    have hc2 := hN (consF (n + 1) al) (Big.cons (by omega) (ha.mono (by omega))) n (by omega)
    have hc3 : codeF E (callN E n) ((s.g, roundF (codeF E (callN E (n + 1)) (ys al) d (n + 1) assign) (codeF E (callN E (n + 1)) (ys al) d (n + 1) body) ps s.t d (ps.getD 0 0) s.g) :: ys al) (hput s.h d (ps.getD 0 0) ⟨s.g, .lp .ready⟩).length n c _ = some (x, s1) := hc2
    have hbody : bodyF E (callN E n) ((s.g, roundF (codeF E (callN E (n + 1)) (ys al) d (n + 1) assign) (codeF E (callN E (n + 1)) (ys al) d (n + 1) body) ps s.t d (ps.getD 0 0) s.g) :: ys al) n fn (hput s.h d (ps.getD 0 0) ⟨s.g, .lp .ready⟩).length (a ++ [.yld d (ps.getD 0 0) s.g] ++ b) (hput s.h d (ps.getD 0 0) ⟨s.g, .lp .ready⟩ ++ [[]]) (s.g + 2) = some (.pv (.tup []), s1.h, s1.g) := by
      unfold bodyF
      rw [hb]
      simp only [Option.bind_some, hc3]
      rcases hx with rfl | rfl <;> simp [hres2]
    have hld : ∀ D, leads frzDepth D (.pv (.tup [])) = false := fun _ => rfl
    generalize ((s.g, roundF (codeF E (callN E (n + 1)) (ys al) d (n + 1) assign) (codeF E (callN E (n + 1)) (ys al) d (n + 1) body) ps s.t d (ps.getD 0 0) s.g) :: ys al) = Y at hbody ⊢
    simp only [callN, hi, hf, hok, hcan, hrd, hmut, hbody, hld, Bool.not_false, Bool.true_and, Bool.or_true, if_true, Bool.false_eq_true, if_false, reduceCtorEq, Option.bind_some]
  have fin : ∀ (x1 : AExit) (s2 : St), (match live (s1.h.take (hput s.h d (ps.getD 0 0) ⟨s.g, .lp .ready⟩).length) d (ps.getD 0 0) s.g with
      | .lp .ready => some (AExit.normal, { t := s.t, h := hput (s1.h.take (hput s.h d (ps.getD 0 0) ⟨s.g, .lp .ready⟩).length) d (ps.getD 0 0) row0, g := s1.g })
      | .lp (.done x) => if x = .normal then none else some (x, { t := s.t, h := hput (s1.h.take (hput s.h d (ps.getD 0 0) ⟨s.g, .lp .ready⟩).length) d (ps.getD 0 0) row0, g := s1.g })
      | _ => none) = some (x1, s2) → Runs E ys d (.rangeFunc f ps assign body) s x1 s2 := by
    intro x1 s2 he
    refine ⟨N + 1, fun al ha n hn => ?_⟩
    simp only [codeF, hc, Option.bind_some, hen, if_true, run al ha n hn]
    exact he
  split at hq
  · rename_i hl
    exact ⟨_, _, fin _ _ (by rw [hl]), hq⟩
  · rename_i x' hl
    exact ⟨_, _, fin _ _ (by rw [hl]; simp only []; rw [if_neg hq.1]), hq.2⟩
  · exact hq.elim
/-- one round -/
theorem yld_round {ps : Array Tmp} {assign body : Code} {t : List AV} {slot gen : Nat} {args : List AV} {h : Heap} {g : Nat} {R : AExit → St → Prop} (hl : args.length = ps.size) (hr : live h d slot gen = .lp .ready)
    (hw : Wp E ys d assign (fun x s1 => x = .normal ∧ live s1.h d slot gen = .lp .ready ∧ Wp E ys d body (fun x s2 => live s2.h d slot gen = .lp .busy ∧ R x s2) { s1 with h := hput s1.h d slot ⟨gen, .lp .busy⟩ }) { t := setTs ps.toList args t, h := h, g := g }) :
    ∃ x s2, R x s2 ∧ YTo (roundFam E ys d ps assign body t slot gen) gen args h g (decide (x = .normal)) (hput s2.h d slot ⟨gen, .lp (if x = .normal then .ready else .done x)⟩) s2.g := by
  obtain ⟨x, s1, ⟨N, hN⟩, rfl, h1, x2, s2, ⟨M, hM⟩, h2, hR⟩ := hw
  refine ⟨x2, s2, hR, max N M, fun a ha => ⟨_, by simp [roundFam, Ys.get?]; rfl, ?_⟩⟩
  have e1 := hN (fun i => a (i + 1)) (fun i => Nat.le_trans (by omega) (ha (i + 1))) (a 0) (Nat.le_trans (by omega) (ha 0))
  have e2 := hM (fun i => a (i + 1)) (fun i => Nat.le_trans (by omega) (ha (i + 1))) (a 0) (Nat.le_trans (by omega) (ha 0))
  unfold roundF
  rw [if_pos hl]
  simp only [hr, e1, h1, e2, h2]
  by_cases hx : x2 = .normal
  · simp [hx]
  · simp [hx]
end
end Go.Proofs.YtlhfgonjcpapnaaGreatDoor.Abs

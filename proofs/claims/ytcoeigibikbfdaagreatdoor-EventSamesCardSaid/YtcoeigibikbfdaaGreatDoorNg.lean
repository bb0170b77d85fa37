/-
  The abstract machine over the model, its soundness, walks of the program's functions and what they compute. Conditions: the values are of their types.
-/
import Derived.Test.YtcoeigibikbfdaaGreatDoorRows
import Derived.Test.YtcoeigibikbfdaaGreatDoorNc
import Derived.Test.YtcoeigibikbfdaaGreatDoorNf
import Derived.ProofKit
import Derived.SizedLaws
import Derived.Stop.LaidErr
import Derived.MakeChecks
import Derived.LaidHandle
import Derived.Lay
import Derived.Shelf.Vars

set_option linter.all false
set_option linter.unnecessarySimpa false

namespace Go.Proofs.YtcoeigibikbfdaaGreatDoor.Abs
open Go Go.Proofs Go.RowKit Go.ChangeShapes Go.WideShapes Go.ChangeAt
def inAll (w : World) : Blk := fun b => ∃ e n, w.shape? b = some (e, n)
theorem laidOut0 : laidOutB Tryz.prog = true := by kernel_rfl
theorem cell_shape {w : World} {b o : Nat} {v : Value} (h : w.cell? ⟨b, o, none⟩ = some v) : inAll w b := (cell_spot h).2
theorem pow10_tab : (YtcoeigibikbfdaaGreatDoor.Rows.laid_internal_strconv_uint64pow10 : DataW Unit) = Lib.tabData .u64 Lib.pow10Tab := by kernel_rfl
theorem rtype_no : (Tryz.prog.cutTypes.find? (·.1 == "internal/reflectlite.rtype")).map (·.2) = some 162 := by kernel_rfl
theorem one_row : ((List.range 358).filter fun t => Tryz.prog.rowNamed t [101, 114, 114, 111, 114]) = [42] := by kernel_rfl
theorem types_no : Tryz.prog.types.size = 358 := by kernel_rfl
theorem handle_of {W : World} {l : List (String × DataW Unit)} (h : handlesMet Tryz.prog l W) (hm : ("errors.errorType", YtcoeigibikbfdaaGreatDoor.Rows.laid_errors_errorType) ∈ l) : W.cell? ⟨0, 0, none⟩ = some (.iface 162 (.agg #[.pointer (some ⟨14, 42, none⟩)])) := by
  obtain ⟨name, u, ty, e1, e2, e3, e4, e5⟩ := h _ hm
  have en : name = [101, 114, 114, 111, 114] := (Option.some.inj e1).symm
  subst en
  obtain rfl := Option.some.inj (rtype_no.symm.trans e2)
  have hx : ty ∈ (List.range 358).filter fun t => Tryz.prog.rowNamed t [101, 114, 114, 111, 114] := List.mem_filter.2 ⟨List.mem_range.2 (by rw [← types_no]; exact e3), e4⟩
  rw [one_row] at hx
  obtain rfl := List.mem_singleton.1 hx
  have hh : typeHandle Tryz.prog 42 = .pointer (some ⟨14, 42, none⟩) := by kernel_rfl
  rw [hh] at e5
  have hg : Tryz.prog.globalNamed "errors.errorType" = some 0 := by kernel_rfl
  simpa using World.var?_cell hg e5 0
theorem gl_of {W : World} (hL : laidMetH Tryz.prog YtcoeigibikbfdaaGreatDoor.Rows.eventSamesRow.laid W) (hsh : W.ShapedOpen Tryz.prog) : glE (inAll W) W := by
  have hL' : laidMet Tryz.prog [("math/bits.deBruijn32tab", YtcoeigibikbfdaaGreatDoor.Rows.laid_math_bits_deBruijn32tab), ("math/bits.deBruijn64tab", YtcoeigibikbfdaaGreatDoor.Rows.laid_math_bits_deBruijn64tab), ("internal/strconv.uint64pow10", YtcoeigibikbfdaaGreatDoor.Rows.laid_internal_strconv_uint64pow10), ("unicode/utf8.acceptRanges", YtcoeigibikbfdaaGreatDoor.Rows.laid_unicode_utf8_acceptRanges), ("strconv.ErrRange", YtcoeigibikbfdaaGreatDoor.Rows.laid_strconv_ErrRange), ("strconv.ErrSyntax", YtcoeigibikbfdaaGreatDoor.Rows.laid_strconv_ErrSyntax), ("unicode/utf8.first", YtcoeigibikbfdaaGreatDoor.Rows.laid_unicode_utf8_first)] W ∧
    handlesMet Tryz.prog [("errors.errorType", YtcoeigibikbfdaaGreatDoor.Rows.laid_errors_errorType)] W := hL
  have h1 := hL'.1.tail.tail
  rw [pow10_tab] at h1
  have hg : Tryz.prog.globalNamed "internal/strconv.uint64pow10" = some 2 := by kernel_rfl
  have ht := Lib.tabIs_of_head (t := 241) (e := 24) (n := 20) hg (by kernel_rfl) Tryz.underlying241 Tryz.underlying24 (by kernel_rfl) (by kernel_rfl) h1
  have he := handle_of hL'.2 (by simp)
  obtain ⟨m, hm⟩ := Go.Proofs.cell_of_shapedOpen_int (g := 1) (zero := #[.int .i64 0]) (t := 3) hsh (of_decide_eq_true (by kernel_rfl)) (by kernel_rfl) rfl (by kernel_rfl) (by kernel_rfl) Tryz.underlying3
  refine ⟨⟨m, ?_⟩, ht, cell_shape (ht.cell hg 0 (by rw [Lib.pow10Tab_length]; omega)), he, cell_shape he⟩
  refine .ptr _ 0 _ 0 (fun _ => .int .i64 m) (cell_shape hm) (fun j p hp => ?_) (fun j p hp => ?_)
  · cases j with
    | zero => exact ⟨hm, rfl⟩
    | succ j => simp [PV.cells] at hp
  · cases j with
    | zero => simp [PV.cells] at hp; subst hp; exact .lit _
    | succ j => simp [PV.cells] at hp
theorem laidMet_lw {P : Program} {w0 : World} {l : List (String × DataW Unit)} (args : Array Value) (hf : w0.layFits P l [] = true) (hi : w0.layIfaces P l (w0.layVars P l) = true) :
    laidMet P l ((w0.layVars P l).forCall (fun _ _ => 0) ⟨#[], args, []⟩).memory := by
  have e1 : (l.filter fun x => (l.map (·.1)).contains x.1) = l := List.filter_eq_self.2 fun x hx => List.contains_iff_mem.2 (List.mem_map.2 ⟨x, hx, rfl⟩)
  have e2 : (l.filter fun x => !(l.map (·.1)).contains x.1) = [] := List.filter_eq_nil_iff.2 fun x hx => by rw [List.contains_iff_mem.2 (List.mem_map.2 ⟨x, hx, rfl⟩)]; simp
  have h : laidMet P l (w0.layVars P l) := laidMet_layVars (w0 := w0) (l.map (·.1)) [] (by rw [e1]) (by rw [e1]; exact hf) (by rw [e1]; exact hi) (by rw [e2]; exact LaidIn.none)
  exact h.of_heap (by simp [World.memory, World.forCall, Input.heap])
noncomputable def w0E (os : Os) : World :=
  let w := World.holding Tryz.prog os ⟨#[], #[], []⟩
  { w with heap := w.heap.modify 0 fun
      | .cells _ t frozen => .cells #[.iface 162 (.agg #[.pointer (some ⟨14, 42, none⟩)])] t frozen
      | o => o }
noncomputable def lwE (os : Os) : World := (w0E os).layVars Tryz.prog (YtcoeigibikbfdaaGreatDoor.Rows.eventSamesRow.laid.filter fun x => x.2.handleName?.isNone)
theorem lwE_os (os : Os) : (lwE os).os = os := World.layVars_os _ _ _
theorem den_alive : Den E1 12 [] (bolP true) := den_intr (F := aliveP) rfl rfl
section
variable {H : Type} {enc : TypeId × Value → H}
theorem cells_one {P : Program} {W : World} {base : Nat} {t : TypeId} {v : Value} (hok : Value.okWide P W .any base t v) (hp : plainT P 9 t = true) (hs : isSt P t = false) : v.cells.toList = [v] := by
  unfold plainT at hp
  unfold isSt at hs
  unfold Value.okWide Cell.okWide Cell.ok at hok
  split at hp
  · rename_i he; rw [he] at hok; cases v <;> first | rfl | exact hok.elim | simp at hok
  · rename_i he; rw [he] at hok; cases v <;> first | rfl | exact hok.elim | simp at hok
  · rename_i he; rw [he] at hok; cases v <;> first | rfl | exact hok.elim | simp at hok
  · rename_i he; rw [he] at hok; cases v <;> first | rfl | exact hok.elim | simp at hok
  · rename_i he; rw [he] at hs; cases hs
  · cases hp
theorem arg_rep {P : Program} {W : World} {base : Nat} {t : TypeId} {v : Value} {d : DataW H} {ps : List MemPlace} (hok : Value.okWide P W .any base t v) (hd : DataW.Trod enc P W 0 (fun _ => true) true t v d ps)
    (hp : plainT P 9 t = true) (hw : ∀ n ∈ d.weights P t, n ≤ reachBytes) : ∃ n cs, wellP P n t cs ∧ PRep (inAll W) W (mkE (isSt P t) cs) v := by
  obtain ⟨fuel, h⟩ := hd
  obtain ⟨cs, hcs, hf⟩ := of_trod (I := inAll W) (fun b e n h => ⟨e, n, h⟩) fuel t _ _ 9 h hp hw
  refine ⟨fuel, cs, hcs, ?_⟩
  cases hs : isSt P t with
  | false =>
    have h1 := cells_one hok hp hs
    rw [h1] at hf
    obtain ⟨p, rfl, _, _⟩ := well_one hs hcs
    exact (hf.get (j := 0) rfl rfl).1
  | true =>
    have hv : ∃ a, v = .agg a := by
      unfold isSt at hs
      unfold Value.okWide at hok
      split at hs
      · rename_i he
        rw [he] at hok
        obtain ⟨a, ha, _⟩ := hok
        exact ⟨a, ha⟩
      · cases hs
    obtain ⟨a, rfl⟩ := hv
    have hf' : F2 (inAll W) W cs a.toList := hf
    have := PRep.agg (I := inAll W) (w := W) cs a.toList hf'.length.symm (fun x hx => ?_) (fun j p v hp hv => (hf'.get hp hv).1)
    · simpa [mkE] using this
    · obtain ⟨j, hj, rfl⟩ := List.getElem_of_mem hx
      have hj' : j < cs.length := by rw [hf'.length]; exact hj
      exact (hf'.get (List.getElem?_eq_getElem hj') (List.getElem?_eq_getElem hj)).2
def argsWell (P : Program) : List TypeId → List PV → Prop
  | [], ps => ps = []
  | t :: ts, ps => ∃ n cs qs, ps = mkE (isSt P t) cs :: qs ∧ wellP P n t cs ∧ argsWell P ts qs
structure OkAll (P : Program) (W : World) (base : Nat) (ts : Array TypeId) (args : Array Value) : Prop where
  val : ∀ (j : Nat) t v, ts[j]? = some t → args[j]? = some v → Value.okWide P W .any base t v
structure OkAllL (P : Program) (W : World) (base : Nat) (ts : List TypeId) (args : List Value) : Prop where
  val : ∀ (j : Nat) t v, ts[j]? = some t → args[j]? = some v → Value.okWide P W .any base t v
theorem args_rep {P : Program} {W : World} {base : Nat} : ∀ (ts : List TypeId) (vs : List Value) (ds : List (DataW H)) (ps : List MemPlace), DataW.TrodAll enc P W 0 (fun _ => true) true ts vs ds ps →
    OkAllL P W base ts vs → (ts.all fun t => plainT P 9 t) = true → (∀ n ∈ DataW.weightsEach P ts ds, n ≤ reachBytes) →
    ∃ qs, argsWell P ts qs ∧ vs.length = qs.length ∧ ∀ (j : Nat) (p : PV) (u : Value), qs[j]? = some p → vs[j]? = some u → PRep (inAll W) W p u
  | [], [], [], ps, _, _, _, _ => ⟨[], rfl, rfl, fun j p u h => by simp at h⟩
  | t :: ts, v :: vs, d :: ds, ps, h, hok, hp, hw => by
    obtain ⟨p, q, h1, h2, rfl⟩ := h
    simp only [List.all_cons, Bool.and_eq_true] at hp
    simp only [DataW.weightsEach, List.mem_append] at hw
    obtain ⟨n, cs, hcs, hr⟩ := arg_rep (hok.val 0 t v rfl rfl) h1 hp.1 (fun n hn => hw n (.inl hn))
    obtain ⟨qs, g1, g2, g3⟩ := args_rep ts vs ds q h2 ⟨fun j t v a b => hok.val (j + 1) t v (by simpa using a) (by simpa using b)⟩ hp.2 (fun n hn => hw n (.inr hn))
    refine ⟨_, ⟨n, cs, qs, rfl, hcs, g1⟩, by simp [g2], fun j p u a b => ?_⟩
    cases j with
    | zero => simp only [List.getElem?_cons_zero, Option.some.injEq] at a b; subst a; subst b; exact hr
    | succ j => exact g3 j p u (by simpa using a) (by simpa using b)
  | [], _ :: _, _, _, h, _, _, _ => h.elim
  | [], [], _ :: _, _, h, _, _, _ => h.elim
  | _ :: _, [], _, _, h, _, _, _ => h.elim
  | _ :: _, _ :: _, [], _, h, _, _, _ => h.elim
theorem args_carry {P : Program} (hlo : laidOutB P = true) {W W' : World} (hb : Below W.heap.size W W') : ∀ (ts : List TypeId) (vs : List Value) (ds : List (DataW H)) (ps : List MemPlace), DataW.TrodAll enc P W 0 (fun _ => true) true ts vs ds ps →
    (ts.all fun t => P.readableRec t && decide (t < P.types.size)) = true → (∀ x ∈ ps, x.block < W.heap.size) → DataW.TrodAll enc P W' 0 (fun b => decide (b < W.heap.size)) true ts vs ds ps
  | [], [], [], ps, h, _, _ => h
  | t :: ts, v :: vs, d :: ds, ps, h, hp, hlt => by
    obtain ⟨p, q, h1, h2, rfl⟩ := h
    simp only [List.all_cons, Bool.and_eq_true, decide_eq_true_eq] at hp
    exact ⟨p, q, Below.trod hlo hp.1.1 hp.1.2 h1 hb (fun x hx => hlt x (List.mem_append_left _ hx)), args_carry hlo hb ts vs ds q h2 hp.2 (fun x hx => hlt x (List.mem_append_right _ hx)), rfl⟩
  | [], _ :: _, _, _, h, _, _ => h.elim
  | [], [], _ :: _, _, h, _, _ => h.elim
  | _ :: _, [], _, _, h, _, _ => h.elim
  | _ :: _, _ :: _, [], _, h, _, _ => h.elim
theorem trod_len {P : Program} {W : World} : ∀ (ts : List TypeId) (vs : List Value) (ds : List (DataW H)) (ps : List MemPlace), DataW.TrodAll enc P W 0 (fun _ => true) true ts vs ds ps → ds.length = ts.length := by
  intro ts
  induction ts with
  | nil => intro vs ds ps h; cases vs <;> cases ds <;> first | rfl | exact h.elim
  | cons t ts ih =>
    intro vs ds ps h
    cases vs with
    | nil => exact h.elim
    | cons v vs =>
      cases ds with
      | nil => exact h.elim
      | cons d ds =>
        obtain ⟨_, _, _, h2, _⟩ := h
        simp [ih _ _ _ h2]
theorem weights_more {P : Program} {n : Nat} : ∀ (ts us : List TypeId) (ds : List (DataW H)), n ∈ DataW.weightsEach P ts ds → n ∈ DataW.weightsEach P (ts ++ us) ds := by
  intro ts us
  induction ts with
  | nil => intro ds h; cases ds <;> simp [DataW.weightsEach] at h
  | cons t ts ih =>
    intro ds h
    cases ds with
    | nil => simp [DataW.weightsEach] at h
    | cons d ds =>
      simp only [DataW.weightsEach, List.mem_append, List.cons_append] at h ⊢
      exact h.imp id (ih ds)
theorem val_list {P : Program} {W : World} {base : Nat} {ts : Array TypeId} {args : Array Value} (h : OkAll P W base ts args) : OkAllL P W base ts.toList args.toList := by
  refine ⟨?_⟩
  intro j t v a b
  rw [Array.getElem?_toList] at a b
  exact h.val j t v a b
theorem law_contract {f : FuncId} {fn : Func} {c : Code} {s : ChangeSpec} {W : World} {base : Nat} {args : Array Value} {ds gs : List (DataW H)} {before : List MemPlace} {us : List TypeId}
    (hfn : Tryz.prog.funcs[f]? = some fn) (hname : (fn.name == "runtime.NumGoroutine") = false) (hbody : fn.body = some c) (hres : fn.resultTypes = #[4]) (hvars : s.vars = []) (hplain : (fn.params.toList.all fun t => plainT Tryz.prog 9 t) = true)
    (hread : (fn.params.toList.all fun t => Tryz.prog.readableRec t && decide (t < Tryz.prog.types.size)) = true)
    (hspec : ∀ ds : List (DataW H), ds.length = fn.params.toList.length → s.fn H ds = { results := [.lit (.bool true)], args := ds })
    (den : ∀ ps, argsWell Tryz.prog fn.params.toList ps → Den E1 f ps (bolP true))
    (hval : OkAll Tryz.prog W base fn.params args)
    (hW : DataW.Whole enc Tryz.prog fn.params.toList s.vars false W args.toList ds gs before)
    (hz : (DataW.weightsEach Tryz.prog (fn.params.toList ++ us) (ds ++ gs)).all (· ≤ reachBytes) = true) (hgl : glE (inAll W) W) :
    Calls Tryz.prog f args W fun e W' => ∃ v, e = .returned v ∧ s.post enc Tryz.prog fn false true false false W args v W' := by
  have hlt := hW.lt
  have hW' := hW
  obtain ⟨p, q, hA, hV, rfl, _, _⟩ := hW
  have hV' := hV
  rw [hvars] at hV
  obtain ⟨rfl, rfl⟩ := trodVars_none hV
  simp only [List.append_nil] at hz hW' hlt
  have hwt : ∀ n ∈ DataW.weightsEach Tryz.prog fn.params.toList ds, n ≤ reachBytes := fun n hn => by
    have h1 : n ∈ DataW.weightsEach Tryz.prog (fn.params.toList ++ us) ds := by
      exact weights_more _ _ _ hn
    simpa using List.all_eq_true.1 hz n h1
  have hval' := val_list hval
  obtain ⟨qs, hq, hl, hr⟩ := args_rep fn.params.toList args.toList ds p hA hval' hplain hwt
  have hdl : ds.length = fn.params.toList.length := by
    exact trod_len _ _ _ _ hA
  have hgl' : Gl E1 (inAll W) W := hgl
  have hin : ∀ b, inAll W b → Solid W b := fun b ⟨e, n, h⟩ => .of_shape h
  have hpure : PureDoes E1.P f args.toList.toArray W (inAll W) (bolP true) := den_sound envOk1 (den qs hq) hgl' hl hr hin
  have hc : Calls Tryz.prog f args W fun e W' => ∃ I' v, e = .returned v ∧ PRep I' W' (bolP true) v ∧ Below W.heap.size W W' := by
    have hent := enters_of (P := Tryz.prog) hfn hname hbody args W
    rcases hpure with ⟨v, w', h1, h2⟩ | ⟨h1, h2⟩ | ⟨row, ax, w1, h1, h2⟩
    · have h3 := hent.symm.trans h1; cases h3
    · refine h2.mono fun e W' he => ?_
      split at he
      · rename_i v
        obtain ⟨I', k1, _, _, k2, _⟩ := he
        exact ⟨I', v, rfl, k1, k2⟩
      · exact he.elim
    · have h3 := hent.symm.trans h1; cases h3
  refine hc.mono ?_
  rintro e W' ⟨I', v, rfl, hv, hb⟩
  obtain rfl : v = .bool true := by cases hv; rfl
  refine ⟨_, rfl, ds, [], p, [], p, [], hW', ?_, ?_, ?_, hb.frame _, fun h => by cases h⟩
  · rw [List.append_nil, hspec ds hdl, hres]
    exact trodAll_mk1 (shut_bool Tryz.underlying4 _)
  · rw [List.append_nil, hspec ds hdl]
    exact args_carry laidOut0 hb _ _ _ _ hA hread (fun x hx => by simpa using hlt x hx)
  · rw [List.append_nil, hspec ds hdl, hvars]
    rfl
end
end Go.Proofs.YtcoeigibikbfdaaGreatDoor.Abs

namespace Go.Proofs.YtcoeigibikbfdaaGreatDoor.Abs
open Go Go.Proofs
theorem well_u32 {n : Nat} {r : List PV} (h : wellP Tryz.prog n 25 r) : ∃ x, r = [.lit (.int .u32 x)] ∧ u32 x := by
  have h := well_int0 Tryz.underlying25 h
  obtain ⟨x, h1, h2⟩ := h
  refine ⟨x, h1, ?_⟩
  simp [Lit.wf] at h2
  have e1 : IntKind.u32.min = 0 := rfl
  have e2 : IntKind.u32.max = 4294967295 := rfl
  rw [e1, e2] at h2
  unfold u32
  omega
theorem well_str {n : Nat} {r : List PV} (h : wellP Tryz.prog n 9 r) : ∃ s : List UInt8, r = [strP s] ∧ s.length ≤ reachBytes := by
  have h := well_str0 Tryz.underlying9 h
  obtain ⟨s, h1, h2⟩ := h
  refine ⟨s.data.toList, h1, ?_⟩
  rw [Array.length_toList]
  exact h2
theorem wellF2 {W : TypeId → List PV → Prop} {a b : Field} {r : List PV} (h : wellF W [a, b] r) : ∃ w x, r = w ++ x ∧ W a.type w ∧ W b.type x := by
  obtain ⟨w, _, rfl, h1, x, _, rfl, h2, rfl⟩ := h
  exact ⟨w, x, by simp, h1, h2⟩
end Go.Proofs.YtcoeigibikbfdaaGreatDoor.Abs

namespace Go.Proofs.YtcoeigibikbfdaaGreatDoor.Abs
open Go Go.Proofs
structure Nd where
  name : List UInt8
  span : List UInt8
  deriving Inhabited
abbrev Nd.p (x : Nd) : PV := .agg [strP x.name, strP x.span]
abbrev ndsP (k : Nat) (nl full : Bool) (l : List Nd) : PV := .sl k nl full (l.map Nd.p)
abbrev evP (kind : Int) (who name version : List UInt8) (nd : PV) (sum n size : Int) (holder note : List UInt8) : PV :=
  .agg [.lit (.int .u8 kind), strP who, strP name, strP version, nd, .lit (.int .u64 sum), .lit (.int .u32 n), .lit (.int .u32 size), strP holder, strP note]
structure Ev where
  kind : Int
  who : List UInt8
  name : List UInt8
  version : List UInt8
  k : Nat
  nl : Bool
  full : Bool
  needs : List Nd
  sum : Int
  n : Int
  size : Int
  holder : List UInt8
  note : List UInt8
  deriving Inhabited
abbrev Ev.p (e : Ev) : PV := evP e.kind e.who e.name e.version (ndsP e.k e.nl e.full e.needs) e.sum e.n e.size e.holder e.note
abbrev Ev.q (e : Ev) (nd : PV) : PV := evP e.kind e.who e.name e.version nd e.sum e.n e.size e.holder e.note
def Ev.tw (e : Ev) : Ev := { e with k := if e.needs.isEmpty then 0 else 2, nl := e.needs.isEmpty, full := e.needs.isEmpty }
def ndB (x y : Nd) : Bool := x.name == y.name && x.span == y.span
def ndsB : List Nd → List Nd → Bool
  | [], [] => true
  | x :: l, y :: m => ndB x y && ndsB l m
  | _, _ => false
def evB (a b : Ev) : Bool := ndsB a.needs b.needs && (a.kind == b.kind && a.who == b.who && a.name == b.name && a.version == b.version && a.sum == b.sum && a.n == b.n && a.size == b.size && a.holder == b.holder && a.note == b.note)
end Go.Proofs.YtcoeigibikbfdaaGreatDoor.Abs

namespace Go.Proofs.YtcoeigibikbfdaaGreatDoor.Abs
open Go Go.Proofs
theorem well_i {n : Nat} {t : TypeId} {k : IntKind} {r : List PV} (ht : Tryz.prog.underlying t = some (.int k)) (h : wellP Tryz.prog n t r) : ∃ x, r = [.lit (.int k x)] ∧ k.min ≤ x ∧ x ≤ k.max := by
  obtain ⟨x, h1, h2⟩ := well_int0 ht h
  refine ⟨x, h1, ?_⟩
  simpa [Lit.wf] using h2
theorem well_need {n : Nat} {r : List PV} (h : wellP Tryz.prog n 66 r) : ∃ x : Nd, .agg r = x.p ∧ x.name.length ≤ reachBytes ∧ x.span.length ≤ reachBytes := by
  obtain ⟨n, h⟩ := well_st0 Tryz.underlying66 h
  obtain ⟨w, x, rfl, h1, h2⟩ := wellF2 h
  obtain ⟨s, rfl, g1⟩ := well_str h1
  obtain ⟨t, rfl, g2⟩ := well_str h2
  exact ⟨⟨s, t⟩, rfl, g1, g2⟩
theorem well_needs {n : Nat} {r : List PV} (h : wellP Tryz.prog n 23 r) : ∃ k nl l, r = [ndsP k nl false l] ∧ slOk 2 k nl l.length ∧ l.length * 32 ≤ reachBytes ∧ ∀ x ∈ l, x.name.length ≤ reachBytes ∧ x.span.length ≤ reachBytes := by
  obtain ⟨n, h⟩ := well_sl0 Tryz.underlying23 h
  obtain ⟨k, nl, rs, rfl, h1, h2, h3⟩ := h
  have hc : Tryz.prog.cellsOf 66 = 2 := by kernel_rfl
  have hb : Tryz.prog.bytesOf 66 = 32 := by kernel_rfl
  have hs : isSt Tryz.prog 66 = true := isSt_of Tryz.underlying66
  rw [hc] at h1
  rw [hb] at h2
  rw [hs]
  have hx : ∀ rs : List (List PV), (∀ r ∈ rs, wellP Tryz.prog n 66 r) → ∃ l : List Nd, rs.map (mkE true) = l.map Nd.p ∧ l.length = rs.length ∧ ∀ x ∈ l, x.name.length ≤ reachBytes ∧ x.span.length ≤ reachBytes := by
    intro rs
    induction rs with
    | nil => intro _; exact ⟨[], rfl, rfl, fun s hs => absurd hs List.not_mem_nil⟩
    | cons r rs ih =>
      intro h
      obtain ⟨x, h1, h2⟩ := well_need (h r (by simp))
      obtain ⟨l, h4, h5, h6⟩ := ih (fun r hr => h r (by simp [hr]))
      refine ⟨x :: l, ?_, by simp [h5], fun t ht => ?_⟩
      · rw [List.map_cons, List.map_cons, h4, ← h1]; rfl
      · cases List.mem_cons.1 ht with
        | inl e => rw [e]; exact h2
        | inr e => exact h6 t e
  obtain ⟨l, h4, h5, h6⟩ := hx rs h3
  refine ⟨k, nl, l, ?_, ?_, ?_, h6⟩
  · rw [h4]
  · rw [h5]; exact h1
  · rw [h5]; exact h2
structure Ev.ok (e : Ev) : Prop where
  kind : 0 ≤ e.kind ∧ e.kind < 256
  sum : 0 ≤ e.sum ∧ e.sum < 18446744073709551616
  n : u32 e.n
  size : u32 e.size
  sl : slOk 2 e.k e.nl e.needs.length
  len : e.needs.length * 32 ≤ reachBytes
  nds : ∀ x ∈ e.needs, x.name.length ≤ reachBytes ∧ x.span.length ≤ reachBytes
  who : e.who.length ≤ reachBytes
  name : e.name.length ≤ reachBytes
  version : e.version.length ≤ reachBytes
  holder : e.holder.length ≤ reachBytes
  note : e.note.length ≤ reachBytes
theorem well_ev {n : Nat} {r : List PV} (h : wellP Tryz.prog n 27 r) : ∃ e : Ev, .agg r = e.p ∧ e.ok := by
  obtain ⟨n, h⟩ := well_st0 Tryz.underlying27 h
  obtain ⟨a0, _, rfl, h0, a1, _, rfl, h1, a2, _, rfl, h2, a3, _, rfl, h3, a4, _, rfl, h4, a5, _, rfl, h5, a6, _, rfl, h6, a7, _, rfl, h7, a8, _, rfl, h8, a9, _, rfl, h9, rfl⟩ := h
  obtain ⟨kd, rfl, k1, k2⟩ := well_i Tryz.underlying22 h0
  obtain ⟨s1, rfl, g1⟩ := well_str h1
  obtain ⟨s2, rfl, g2⟩ := well_str h2
  obtain ⟨s3, rfl, g3⟩ := well_str h3
  obtain ⟨k, nl, l, rfl, l1, l2, l3⟩ := well_needs h4
  obtain ⟨sm, rfl, m1, m2⟩ := well_i Tryz.underlying24 h5
  obtain ⟨x6, rfl, n1⟩ := well_u32 h6
  obtain ⟨x7, rfl, n2⟩ := well_u32 h7
  obtain ⟨s8, rfl, g8⟩ := well_str h8
  obtain ⟨s9, rfl, g9⟩ := well_str h9
  have e1 : IntKind.u8.min = 0 := rfl
  have e2 : IntKind.u8.max = 255 := rfl
  have e3 : IntKind.u64.min = 0 := rfl
  have e4 : IntKind.u64.max = 18446744073709551615 := rfl
  rw [e1] at k1; rw [e2] at k2; rw [e3] at m1; rw [e4] at m2
  exact ⟨⟨kd, s1, s2, s3, k, nl, false, l, sm, x6, x7, s8, s9⟩, rfl, ⟨k1, by show kd < 256; omega⟩, ⟨m1, by show sm < 18446744073709551616; omega⟩, n1, n2, l1, l2, l3, g1, g2, g3, g8, g9⟩
end Go.Proofs.YtcoeigibikbfdaaGreatDoor.Abs

namespace Go.Proofs.YtcoeigibikbfdaaGreatDoor.Abs
open Go Go.Proofs
def slices_Equal_api_Need_api_Need_S0 (l : List Nd) (m : List Nd) (k : Nat) (k' : Nat) (nl : Bool) (full : Bool) (nl' : Bool) (full' : Bool) (i : Int) (j : Nat → AV) (jr : Nat → Row) (g : Nat) : St :=
  { t := [.pv (.sl k nl full (List.map Nd.p l)), .pv (.sl k' nl' full' (List.map Nd.p m))] ++ jj j 2 10 ++ [intA ((↑(List.length (List.map Nd.p l)) : Int)), intA i] ++ jj j 14 12, h := [List.replicate 26 row0], g := g }
theorem slices_Equal_api_Need_api_Need_go (l : List Nd) (m : List Nd) (k : Nat) (k' : Nat) (nl : Bool) (full : Bool) (nl' : Bool) (full' : Bool) (r : PV) : FnGo E1 Tryz.f31 [.sl k nl full (List.map Nd.p l), .sl k' nl' full' (List.map Nd.p m)] r 2000 (.fork (.hole 0) (.mask (iv [(2, 11), (14, 25)]) [])) =
  ((((↑(List.length (List.map Nd.p l)) : Int) != (↑(List.length (List.map Nd.p m)) : Int)) = true →
 (bolP false) = r) ∧
 (((↑(List.length (List.map Nd.p l)) : Int) != (↑(List.length (List.map Nd.p m)) : Int)) = false →
 AtAll Tryz.f31 r 0 (slices_Equal_api_Need_api_Need_S0 l m k k' nl full nl' full' 0))) := by kernel_rfl
theorem slices_Equal_api_Need_api_Need_go_S0 (l : List Nd) (m : List Nd) (k : Nat) (k' : Nat) (nl : Bool) (full : Bool) (nl' : Bool) (full' : Bool) (i : Int) (j : Nat → AV) (jr : Nat → Row) (g : Nat) (r : PV) : LoopGo E1 Tryz.f31 r 0 2000 (.fork (.val (.agg [strP (Nd.name (gI l i)), strP (Nd.span (gI l i))]) (.val (.agg [strP (Nd.name (List.getD m (Int.toNat i) default)), strP (Nd.span (List.getD m (Int.toNat i) default))]) (.fork (.hole 0) (.mask (iv [(2, 11), (14, 25)]) [])))) (.hole 0)) (slices_Equal_api_Need_api_Need_S0 l m k k' nl full nl' full' i j jr g) =
  (((decide (i < (↑(List.length (List.map Nd.p l)) : Int))) = true →
 (((0 : Int) ≤ i) ∧ ((nl = false) ∧ (k = 2))) ∧
 (((List.map Nd.p l)[Int.toNat i]?) = some (.agg [strP (Nd.name (gI l i)), strP (Nd.span (gI l i))])) ∧
 (((0 : Int) ≤ i) ∧ ((nl' = false) ∧ (k' = 2))) ∧
 (((List.map Nd.p m)[Int.toNat i]?) = some (.agg [strP (Nd.name (List.getD m (Int.toNat i) default)), strP (Nd.span (List.getD m (Int.toNat i) default))])) ∧
 ((!(ByteArray.toList (bs (Nd.name (gI l i))) == ByteArray.toList (bs (Nd.name (List.getD m (Int.toNat i) default))) && (ByteArray.toList (bs (Nd.span (gI l i))) == ByteArray.toList (bs (Nd.span (List.getD m (Int.toNat i) default))) && true))) = true →
 (bolP false) = r) ∧
 ((!(ByteArray.toList (bs (Nd.name (gI l i))) == ByteArray.toList (bs (Nd.name (List.getD m (Int.toNat i) default))) && (ByteArray.toList (bs (Nd.span (gI l i))) == ByteArray.toList (bs (Nd.span (List.getD m (Int.toNat i) default))) && true))) = false →
 AtAll Tryz.f31 r 0 (slices_Equal_api_Need_api_Need_S0 l m k k' nl full nl' full' (IntKind.i64.wrap (i + (1 : Int)))))) ∧
 ((decide (i < (↑(List.length (List.map Nd.p l)) : Int))) = false →
 (bolP true) = r)) := by kernel_rfl
theorem law09_Twin_go (e : Ev) (r : PV) : FnGo E1 Tryz.f10 [Ev.p e] r 2000 (.fork (.hole 0) (.lit (.hole 0))) =
  (((0 : Nat) = 0) ∧
 ((((Ev.nl e) = true → (List.map Nd.p (Ev.needs e)) = [])) ∧ (((Ev.nl e) = false → (Ev.k e) = 2))) ∧
 ((List.isEmpty (List.map Nd.p (Ev.needs e))) = true →
 ((0 : Nat) = 0) ∧
 ((0 : Nat) = 0) ∧
 ((1 : Nat) = 1) ∧
 ((Ev.q e (.sl 0 true true [])) : PV) = r) ∧
 ((List.isEmpty (List.map Nd.p (Ev.needs e))) = false →
 (((0 : Nat) = 0) ∧ ((fitsRow (List.length (List.map Nd.p (Ev.needs e))) (32 : Nat)) = true)) ∧
 ((0 : Nat) = 0) ∧
 ((0 : Nat) = 0) ∧
 ((1 : Nat) = 1) ∧
 ∃ hp, frz frzDepth (.agg [.pv (PV.lit (.int .u8 (Ev.kind e))), strA (bs (Ev.who e)), strA (bs (Ev.name e)), strA (bs (Ev.version e)), .msl 0 5 4 0 (List.length (List.map Nd.p (Ev.needs e))) false, .pv (PV.lit (.int .u64 (Ev.sum e))), .pv (PV.lit (.int .u32 (Ev.n e))), .pv (PV.lit (.int .u32 (Ev.size e))), strA (bs (Ev.holder e)), strA (bs (Ev.note e))]) [[row0, ⟨0, .box (.agg [.pv (PV.lit (.int .u8 (Ev.kind e))), strA (bs (Ev.who e)), strA (bs (Ev.name e)), strA (bs (Ev.version e)), .msl 0 5 4 0 (List.length (List.map Nd.p (Ev.needs e))) false, .pv (PV.lit (.int .u64 (Ev.sum e))), .pv (PV.lit (.int .u32 (Ev.n e))), .pv (PV.lit (.int .u32 (Ev.size e))), strA (bs (Ev.holder e)), strA (bs (Ev.note e))]) false⟩, ⟨1, .box (.agg [.pv (PV.lit (.int .u8 (Ev.kind e))), strA (bs (Ev.who e)), strA (bs (Ev.name e)), strA (bs (Ev.version e)), .msl 0 5 4 0 (List.length (List.map Nd.p (Ev.needs e))) false, .pv (PV.lit (.int .u64 (Ev.sum e))), .pv (PV.lit (.int .u32 (Ev.n e))), .pv (PV.lit (.int .u32 (Ev.size e))), strA (bs (Ev.holder e)), strA (bs (Ev.note e))]) false⟩, row0, row0, ⟨4, .row 2 66 (List.map Nd.p (Ev.needs e)) false⟩, row0, row0]] = some (r, hp))) := by kernel_rfl
theorem event_Same_go (a : Ev) (b : Ev) (r : PV) : FnGo E1 Tryz.f9 [Ev.p a, Ev.p b] r 2000 (.res (bolP (ndsB (Ev.needs a) (Ev.needs b))) (.fork (.hole 0) (.fork (.lts 6 (.fork (.lts 6 (.fork (.lts 6 (.fork (.lts 6 (.fork (.lts 6 (.fork (.lts 6 (.fork (.lts 6 (.fork (.lts 6 (.hole 0)) (.lts 6 (.hole 0)))) (.lts 13 (.hole 0)))) (.lts 20 (.hole 0)))) (.lts 27 (.hole 0)))) (.lts 34 (.hole 0)))) (.lts 41 (.hole 0)))) (.lts 48 (.hole 0)))) (.lts 55 (.hole 0))))) =
  (((0 : Nat) = 0) ∧
 ((1 : Nat) = 1) ∧
 (Den E1 31 [.sl (Ev.k a) (Ev.nl a) (Ev.full a) (List.map Nd.p (Ev.needs a)), .sl (Ev.k b) (Ev.nl b) (Ev.full b) (List.map Nd.p (Ev.needs b))] (bolP (ndsB (Ev.needs a) (Ev.needs b)))) ∧
 ((!ndsB (Ev.needs a) (Ev.needs b)) = true →
 (bolP false) = r) ∧
 ((!ndsB (Ev.needs a) (Ev.needs b)) = false →
 ((0 : Nat) = 0) ∧
 ((1 : Nat) = 1) ∧
 ((Ev.kind a == Ev.kind b) = true →
 ((0 : Nat) = 0) ∧
 ((1 : Nat) = 1) ∧
 ((ByteArray.toList (bs (Ev.who a)) == ByteArray.toList (bs (Ev.who b))) = true →
 ((0 : Nat) = 0) ∧
 ((1 : Nat) = 1) ∧
 ((ByteArray.toList (bs (Ev.name a)) == ByteArray.toList (bs (Ev.name b))) = true →
 ((0 : Nat) = 0) ∧
 ((1 : Nat) = 1) ∧
 ((ByteArray.toList (bs (Ev.version a)) == ByteArray.toList (bs (Ev.version b))) = true →
 ((0 : Nat) = 0) ∧
 ((1 : Nat) = 1) ∧
 ((Ev.sum a == Ev.sum b) = true →
 ((0 : Nat) = 0) ∧
 ((1 : Nat) = 1) ∧
 ((Ev.n a == Ev.n b) = true →
 ((0 : Nat) = 0) ∧
 ((1 : Nat) = 1) ∧
 ((Ev.size a == Ev.size b) = true →
 ((0 : Nat) = 0) ∧
 ((1 : Nat) = 1) ∧
 ((ByteArray.toList (bs (Ev.holder a)) == ByteArray.toList (bs (Ev.holder b))) = true →
 ((0 : Nat) = 0) ∧
 ((1 : Nat) = 1) ∧
 (bolP (ByteArray.toList (bs (Ev.note a)) == ByteArray.toList (bs (Ev.note b)))) = r) ∧
 ((ByteArray.toList (bs (Ev.holder a)) == ByteArray.toList (bs (Ev.holder b))) = false →
 (bolP false) = r)) ∧
 ((Ev.size a == Ev.size b) = false →
 (bolP false) = r)) ∧
 ((Ev.n a == Ev.n b) = false →
 (bolP false) = r)) ∧
 ((Ev.sum a == Ev.sum b) = false →
 (bolP false) = r)) ∧
 ((ByteArray.toList (bs (Ev.version a)) == ByteArray.toList (bs (Ev.version b))) = false →
 (bolP false) = r)) ∧
 ((ByteArray.toList (bs (Ev.name a)) == ByteArray.toList (bs (Ev.name b))) = false →
 (bolP false) = r)) ∧
 ((ByteArray.toList (bs (Ev.who a)) == ByteArray.toList (bs (Ev.who b))) = false →
 (bolP false) = r)) ∧
 ((Ev.kind a == Ev.kind b) = false →
 (bolP false) = r))) := by kernel_rfl
def ref09_Same_S0 (a : Ev) (b : Ev) (i : Int) (j : Nat → AV) (jr : Nat → Row) (g : Nat) : St :=
  { t := [j 0, j 1, .mptr 0 2 0 0 0, .mptr 0 3 1 0 0, j 4, intA i] ++ jj j 6 88, h := [[row0, row0, ⟨0, .box (.pv (Ev.p a)) false⟩, ⟨1, .box (.pv (Ev.p b)) false⟩] ++ List.replicate 90 row0], g := g }
theorem ref09_Same_go (a : Ev) (b : Ev) (r : PV) : FnGo E1 Tryz.f11 [Ev.p a, Ev.p b] r 2000 (.fork (.lts 65 (.hole 0)) (.lts 6 (.fork (.lts 58 (.hole 0)) (.lts 6 (.fork (.lts 51 (.hole 0)) (.lts 6 (.fork (.lts 44 (.hole 0)) (.lts 6 (.fork (.lts 37 (.hole 0)) (.lts 6 (.fork (.lts 30 (.hole 0)) (.lts 6 (.fork (.lts 23 (.hole 0)) (.lts 6 (.fork (.lts 16 (.hole 0)) (.lts 6 (.fork (.lts 9 (.hole 0)) (.lts 8 (.fork (.hole 0) (.mask (iv [(0, 1), (4, 4), (6, 93)]) [])))))))))))))))))))) =
  (((0 : Nat) = 0) ∧
 ((1 : Nat) = 1) ∧
 ((Ev.kind a != Ev.kind b) = true →
 (bolP false) = r) ∧
 ((Ev.kind a != Ev.kind b) = false →
 ((0 : Nat) = 0) ∧
 ((1 : Nat) = 1) ∧
 ((!ByteArray.toList (bs (Ev.who a)) == ByteArray.toList (bs (Ev.who b))) = true →
 (bolP false) = r) ∧
 ((!ByteArray.toList (bs (Ev.who a)) == ByteArray.toList (bs (Ev.who b))) = false →
 ((0 : Nat) = 0) ∧
 ((1 : Nat) = 1) ∧
 ((!ByteArray.toList (bs (Ev.name a)) == ByteArray.toList (bs (Ev.name b))) = true →
 (bolP false) = r) ∧
 ((!ByteArray.toList (bs (Ev.name a)) == ByteArray.toList (bs (Ev.name b))) = false →
 ((0 : Nat) = 0) ∧
 ((1 : Nat) = 1) ∧
 ((!ByteArray.toList (bs (Ev.version a)) == ByteArray.toList (bs (Ev.version b))) = true →
 (bolP false) = r) ∧
 ((!ByteArray.toList (bs (Ev.version a)) == ByteArray.toList (bs (Ev.version b))) = false →
 ((0 : Nat) = 0) ∧
 ((1 : Nat) = 1) ∧
 ((Ev.sum a != Ev.sum b) = true →
 (bolP false) = r) ∧
 ((Ev.sum a != Ev.sum b) = false →
 ((0 : Nat) = 0) ∧
 ((1 : Nat) = 1) ∧
 ((Ev.n a != Ev.n b) = true →
 (bolP false) = r) ∧
 ((Ev.n a != Ev.n b) = false →
 ((0 : Nat) = 0) ∧
 ((1 : Nat) = 1) ∧
 ((Ev.size a != Ev.size b) = true →
 (bolP false) = r) ∧
 ((Ev.size a != Ev.size b) = false →
 ((0 : Nat) = 0) ∧
 ((1 : Nat) = 1) ∧
 ((!ByteArray.toList (bs (Ev.holder a)) == ByteArray.toList (bs (Ev.holder b))) = true →
 (bolP false) = r) ∧
 ((!ByteArray.toList (bs (Ev.holder a)) == ByteArray.toList (bs (Ev.holder b))) = false →
 ((0 : Nat) = 0) ∧
 ((1 : Nat) = 1) ∧
 ((!ByteArray.toList (bs (Ev.note a)) == ByteArray.toList (bs (Ev.note b))) = true →
 (bolP false) = r) ∧
 ((!ByteArray.toList (bs (Ev.note a)) == ByteArray.toList (bs (Ev.note b))) = false →
 ((0 : Nat) = 0) ∧
 ((1 : Nat) = 1) ∧
 (((↑(List.length (List.map Nd.p (Ev.needs a))) : Int) != (↑(List.length (List.map Nd.p (Ev.needs b))) : Int)) = true →
 (bolP false) = r) ∧
 (((↑(List.length (List.map Nd.p (Ev.needs a))) : Int) != (↑(List.length (List.map Nd.p (Ev.needs b))) : Int)) = false →
 AtAll Tryz.f11 r 0 (ref09_Same_S0 a b 0)))))))))))) := by kernel_rfl
theorem ref09_Same_go_S0 (a : Ev) (b : Ev) (i : Int) (j : Nat → AV) (jr : Nat → Row) (g : Nat) (r : PV) : LoopGo E1 Tryz.f11 r 0 2000 (.fork (.val (.agg [strP (Nd.name (List.getD (Ev.needs a) (Int.toNat i) default)), strP (Nd.span (List.getD (Ev.needs a) (Int.toNat i) default))]) (.val (.agg [strP (Nd.name (List.getD (Ev.needs b) (Int.toNat i) default)), strP (Nd.span (List.getD (Ev.needs b) (Int.toNat i) default))]) (.fork (.hole 0) (.mask (iv [(0, 1), (4, 4), (6, 93)]) [])))) (.hole 0)) (ref09_Same_S0 a b i j jr g) =
  (((0 : Nat) = 0) ∧
 ((decide (i < (↑(List.length (List.map Nd.p (Ev.needs a))) : Int))) = true →
 ((0 : Nat) = 0) ∧
 (((0 : Int) ≤ i) ∧ (((Ev.nl a) = false) ∧ ((Ev.k a) = 2))) ∧
 (((List.map Nd.p (Ev.needs a))[Int.toNat i]?) = some (.agg [strP (Nd.name (List.getD (Ev.needs a) (Int.toNat i) default)), strP (Nd.span (List.getD (Ev.needs a) (Int.toNat i) default))])) ∧
 ((1 : Nat) = 1) ∧
 (((0 : Int) ≤ i) ∧ (((Ev.nl b) = false) ∧ ((Ev.k b) = 2))) ∧
 (((List.map Nd.p (Ev.needs b))[Int.toNat i]?) = some (.agg [strP (Nd.name (List.getD (Ev.needs b) (Int.toNat i) default)), strP (Nd.span (List.getD (Ev.needs b) (Int.toNat i) default))])) ∧
 ((!(ByteArray.toList (bs (Nd.name (List.getD (Ev.needs a) (Int.toNat i) default))) == ByteArray.toList (bs (Nd.name (List.getD (Ev.needs b) (Int.toNat i) default))) && (ByteArray.toList (bs (Nd.span (List.getD (Ev.needs a) (Int.toNat i) default))) == ByteArray.toList (bs (Nd.span (List.getD (Ev.needs b) (Int.toNat i) default))) && true))) = true →
 (bolP false) = r) ∧
 ((!(ByteArray.toList (bs (Nd.name (List.getD (Ev.needs a) (Int.toNat i) default))) == ByteArray.toList (bs (Nd.name (List.getD (Ev.needs b) (Int.toNat i) default))) && (ByteArray.toList (bs (Nd.span (List.getD (Ev.needs a) (Int.toNat i) default))) == ByteArray.toList (bs (Nd.span (List.getD (Ev.needs b) (Int.toNat i) default))) && true))) = false →
 AtAll Tryz.f11 r 0 (ref09_Same_S0 a b (IntKind.i64.wrap (i + (1 : Int)))))) ∧
 ((decide (i < (↑(List.length (List.map Nd.p (Ev.needs a))) : Int))) = false →
 (bolP true) = r)) := by kernel_rfl
theorem law09_EventSames_go (a : Ev) (b : Ev) (r : PV) : FnGo E1 Tryz.f3 [Ev.p a, Ev.p b] r 2000 (.res (Ev.p (Ev.tw a)) (.res (Ev.p (Ev.tw b)) (.res (bolP (evB a b)) (.res (bolP (evB a b)) (.fork (.lit (.res (bolP true) (.lit (.hole 0)))) (.lit (.lit (.hole 0)))))))) =
  (((0 : Nat) = 0) ∧
 (Den E1 10 [Ev.p a] (Ev.p (Ev.tw a))) ∧
 ((1 : Nat) = 1) ∧
 (Den E1 10 [Ev.p b] (Ev.p (Ev.tw b))) ∧
 (Den E1 9 [Ev.p (Ev.tw a), Ev.p (Ev.tw b)] (bolP (evB a b))) ∧
 ((0 : Nat) = 0) ∧
 ((1 : Nat) = 1) ∧
 (Den E1 11 [Ev.p a, Ev.p b] (bolP (evB a b))) ∧
 ((evB a b == evB a b) = true →
 (Den E1 12 [] (bolP true)) ∧
 (bolP true) = r) ∧
 ((evB a b == evB a b) = false →
 (bolP false) = r)) := by kernel_rfl
end Go.Proofs.YtcoeigibikbfdaaGreatDoor.Abs

namespace Go.Proofs.YtcoeigibikbfdaaGreatDoor.Abs
open Go Go.Proofs
theorem den1 {f : FuncId} {fn : Func} {ps : List PV} {r : PV} (n : Nat) (scr : Scr) (hi : E1.intr f = none) (hf : E1.P.funcs[f]? = some fn) (hb : fn.body.isSome = true) (hinl : E1.inl f = false) (hown : E1.own f = false) (h : FnGo E1 fn ps r n scr) (hok : E1.ok f = true := by rfl) (hlit : E1.rd f = false ∨ ∃ x, r = .lit x := by first | exact .inl rfl | exact .inr ⟨_, rfl⟩) : Den E1 f ps r :=
  den_go n scr hi hf hb hok hinl hown h hlit
theorem getD_lt {α : Type} {l : List α} {i : Nat} (h : i < l.length) (d : α) : l.getD i d = l[i] := by
  simp [List.getD_eq_getElem?_getD, h]
theorem drop_nil {α : Type} {l : List α} {i : Nat} (h : l.length ≤ i) : l.drop i = [] := List.drop_eq_nil_of_le h
theorem pk_msl {h : Heap} {d s g n m k : Nat} {full fz : Bool} {e : TypeId} {xs : List PV} (hb : hget h d s = ⟨g, .row k e xs fz⟩) (hn : xs.length = n) : pk h (m + 1) (.msl d s g 0 n full) = some (.sl k false full xs, [(d, s)]) := by
  have hl : live h d s g = .row k e xs fz := by unfold live; rw [hb]; simp
  simp only [pk, hl]
  rw [if_pos (by omega), ← hn]
  simp
end Go.Proofs.YtcoeigibikbfdaaGreatDoor.Abs

namespace Go.Proofs.YtcoeigibikbfdaaGreatDoor.Abs
open Go Go.Proofs
theorem ndsB_len : ∀ {l m : List Nd}, l.length ≠ m.length → ndsB l m = false := by
  intro l
  induction l with
  | nil => intro m h; cases m <;> simp [ndsB] at h ⊢
  | cons x l ih => intro m h; cases m with
    | nil => simp [ndsB]
    | cons y m => simp only [ndsB, ih (m := m) (by simpa using h), Bool.and_false]
theorem nds_step {l m : List Nd} {i : Nat} (h1 : i < l.length) (h2 : i < m.length) : ndsB (l.drop i) (m.drop i) = (ndB l[i] m[i] && ndsB (l.drop (i + 1)) (m.drop (i + 1))) := by
  rw [List.drop_eq_getElem_cons h1, List.drop_eq_getElem_cons h2, ndsB]
theorem mapN_get {l : List Nd} {i : Nat} (h : i < l.length) : (List.map Nd.p l)[i]? = some (Nd.p l[i]) := by simp [h]
theorem den_EqualN (l m : List Nd) (k k' : Nat) (nl full nl' full' : Bool) (hl : slOk 2 k nl l.length) (hm : slOk 2 k' nl' m.length) (hsm : small l.length) :
    Den E1 31 [ndsP k nl full l, ndsP k' nl' full' m] (bolP (ndsB l m)) := by
  refine den1 2000 _ rfl (by kernel_rfl) rfl rfl rfl (Eq.mpr (slices_Equal_api_Need_api_Need_go l m k k' nl full nl' full' _) ?_)
  refine ⟨fun h => ?_, fun h j jr g => ?_⟩
  · simp only [List.length_map, bne_iff_ne, ne_eq] at h
    rw [ndsB_len (by omega)]
  simp only [List.length_map, bne_eq_false_iff_eq] at h
  have hlen : l.length = m.length := by omega
  have H : ∀ (n i : Nat) j jr g, i + n = l.length → ndsB l m = ndsB (l.drop i) (m.drop i) → LoopAt E1 Tryz.f31 (bolP (ndsB l m)) 0 (slices_Equal_api_Need_api_Need_S0 l m k k' nl full nl' full' i j jr g) := by
    intro n
    induction n with
    | zero =>
      intro i j jr g hi hd
      refine loop_go 2000 _ (Eq.mpr (slices_Equal_api_Need_api_Need_go_S0 l m k k' nl full nl' full' i j jr g _) ⟨fun h => ?_, fun h => ?_⟩)
      · simp at h; omega
      · rw [hd, drop_nil (by omega), drop_nil (by omega)]; rfl
    | succ n ih =>
      intro i j jr g hi hd
      have h1 : i < l.length := by omega
      have h2 : i < m.length := by omega
      rw [nds_step h1 h2] at hd
      have hw : IntKind.wrap IntKind.i64 ((i : Int) + 1) = ((i + 1 : Nat) : Int) := wrap_i64 _ (by omega) (by unfold small at hsm; omega)
      refine loop_go 2000 _ (Eq.mpr (slices_Equal_api_Need_api_Need_go_S0 l m k k' nl full nl' full' i j jr g _) ⟨fun h => ?_, fun h => ?_⟩)
      · simp only [Int.toNat_natCast, gI_nat, gI_zero, getD_lt h1, getD_lt h2, hw, toList_bs, Bool.and_true]
        refine ⟨⟨by omega, sl_at hl h1⟩, mapN_get h1, ⟨by omega, sl_at hm h2⟩, mapN_get h2, fun h => ?_, fun h j jr g => ?_⟩
        · have : ndB l[i] m[i] = false := by unfold ndB; simpa only [Bool.not_eq_true'] using h
          rw [hd, this]; rfl
        · have : ndB l[i] m[i] = true := by simpa [ndB] using h
          exact ih (i + 1) j jr g (by omega) (by rw [hd, this, Bool.true_and])
      · rw [decide_eq_false_iff_not, List.length_map] at h; omega
  exact H l.length 0 j jr g (by omega) rfl
theorem den_event_Same (a b : Ev) (ha : slOk 2 a.k a.nl a.needs.length) (hb : slOk 2 b.k b.nl b.needs.length) (hs : small a.needs.length) : Den E1 9 [a.p, b.p] (bolP (evB a b)) := by
  refine den1 2000 _ rfl (by kernel_rfl) rfl rfl rfl (Eq.mpr (event_Same_go a b _) ?_)
  refine ⟨rfl, rfl, den_EqualN _ _ _ _ _ _ _ _ ha hb hs, ?_⟩
  simp +contextual [evB]
theorem den_ref_Same (a b : Ev) (ha : slOk 2 a.k a.nl a.needs.length) (hb : slOk 2 b.k b.nl b.needs.length) (hs : small a.needs.length) : Den E1 11 [a.p, b.p] (bolP (evB a b)) := by
  refine den1 2000 _ rfl (by kernel_rfl) rfl rfl rfl (Eq.mpr (ref09_Same_go a b _) ?_)
  have H : a.needs.length = b.needs.length → evB a b = ndsB a.needs b.needs → AtAll Tryz.f11 (bolP (evB a b)) 0 (ref09_Same_S0 a b 0) := by
    intro hlen he j jr g
    rw [he]
    have H : ∀ (n i : Nat) j jr g, i + n = a.needs.length → ndsB a.needs b.needs = ndsB (a.needs.drop i) (b.needs.drop i) → LoopAt E1 Tryz.f11 (bolP (ndsB a.needs b.needs)) 0 (ref09_Same_S0 a b i j jr g) := by
      intro n
      induction n with
      | zero =>
        intro i j jr g hi hd
        refine loop_go 2000 _ (Eq.mpr (ref09_Same_go_S0 a b i j jr g _) ⟨rfl, fun h => ?_, fun h => ?_⟩)
        · simp at h; omega
        · rw [hd, drop_nil (by omega), drop_nil (by omega)]; rfl
      | succ n ih =>
        intro i j jr g hi hd
        have h1 : i < a.needs.length := by omega
        have h2 : i < b.needs.length := by omega
        rw [nds_step h1 h2] at hd
        have hw : IntKind.wrap IntKind.i64 ((i : Int) + 1) = ((i + 1 : Nat) : Int) := wrap_i64 _ (by omega) (by unfold small at hs; omega)
        refine loop_go 2000 _ (Eq.mpr (ref09_Same_go_S0 a b i j jr g _) ⟨rfl, fun h => ?_, fun h => ?_⟩)
        · simp only [Int.toNat_natCast, gI_nat, gI_zero, getD_lt h1, getD_lt h2, hw, toList_bs, Bool.and_true]
          refine ⟨trivial, ⟨by omega, sl_at ha h1⟩, mapN_get h1, trivial, ⟨by omega, sl_at hb h2⟩, mapN_get h2, fun h => ?_, fun h j jr g => ?_⟩
          · have : ndB a.needs[i] b.needs[i] = false := by unfold ndB; simpa only [Bool.not_eq_true'] using h
            rw [hd, this]; rfl
          · have : ndB a.needs[i] b.needs[i] = true := by simpa [ndB] using h
            exact ih (i + 1) j jr g (by omega) (by rw [hd, this, Bool.true_and])
        · rw [decide_eq_false_iff_not, List.length_map] at h; omega
    exact H a.needs.length 0 j jr g (by omega) rfl
  have L : a.needs.length ≠ b.needs.length → evB a b = false := fun h => by unfold evB; rw [ndsB_len h, Bool.false_and]
  generalize (AtAll Tryz.f11 (bolP (evB a b)) 0 (ref09_Same_S0 a b 0)) = X at H ⊢
  simp only [toList_bs, List.length_map]
  by_cases hlen : a.needs.length = b.needs.length
  · have h2 := H hlen
    simp only [hlen]
    unfold evB at h2 ⊢
    simp +contextual
    exact fun e1 e2 e3 e4 e5 e6 e7 e8 e9 => h2 (by simp [e1, e2, e3, e4, e5, e6, e7, e8, e9])
  · have h2 := L hlen
    rw [h2]
    simp +contextual
    intro _ _ _ _ _ _ _ _ _ h
    omega
theorem frz_ev {h : Heap} {e : Ev} {x : AV} {px : PV} {kx : List Key} (hx : pk h 7 x = some (px, kx)) :
    ∃ h1, frz frzDepth (.agg [.pv (PV.lit (.int .u8 e.kind)), strA (bs e.who), strA (bs e.name), strA (bs e.version), x, .pv (PV.lit (.int .u64 e.sum)), .pv (PV.lit (.int .u32 e.n)), .pv (PV.lit (.int .u32 e.size)), strA (bs e.holder), strA (bs e.note)]) h = some (e.q px, h1) := by
  have hp : ∀ (p : PV) n, pk h (n + 1) (.pv p) = some (p, []) := fun _ _ => rfl
  have ha : ∀ (l : List AV) n, pk h (n + 1) (.agg l) = (pks (pk h n) l).map fun (ps, ks) => (.agg ps, ks) := fun _ _ => rfl
  refine ⟨marks kx h, ?_⟩
  unfold frz
  simp only [frzDepth, pks, ha, hp, hx, Option.bind_some, Option.map_some, List.nil_append, List.append_nil]
  rfl
theorem den_Twin (e : Ev) (he : slOk 2 e.k e.nl e.needs.length) (hs : e.needs.length * 32 ≤ reachBytes) : Den E1 10 [e.p] (Ev.tw e).p := by
  refine den1 2000 _ rfl (by kernel_rfl) rfl rfl rfl (Eq.mpr (law09_Twin_go e _) ?_)
  have hr := reachBytes_lt
  have nlm : (e.nl = true → List.map Nd.p e.needs = []) ∧ (e.nl = false → e.k = 2) := ⟨fun h => by rw [List.length_eq_zero_iff.1 (he.1 h)]; rfl, he.2⟩
  refine ⟨rfl, nlm, fun h => ⟨rfl, rfl, rfl, ?_⟩, fun h => ⟨⟨rfl, ?_⟩, rfl, rfl, rfl, ?_⟩⟩
  · have h0 : e.needs = [] := by simpa using h
    simp only [Ev.tw, h0]; rfl
  · have h1 : (List.map Nd.p e.needs).length * 32 ≤ room47 := by rw [List.length_map]; unfold room47; omega
    have h2 : (List.map Nd.p e.needs).length ≤ maxInt := by rw [List.length_map]; unfold maxInt; omega
    simp only [fitsRow, h1, h2, decide_true, Bool.and_self]
  · have h0 : e.needs.isEmpty = false := by simpa using h
    have : (Ev.tw e).p = e.q (.sl 2 false false (List.map Nd.p e.needs)) := by simp only [Ev.tw, h0]; rfl
    rw [this]
    exact frz_ev (pk_msl rfl rfl)
theorem den_EventSames (a b : Ev) (ha : slOk 2 a.k a.nl a.needs.length) (hb : slOk 2 b.k b.nl b.needs.length) (la : a.needs.length * 32 ≤ reachBytes) (lb : b.needs.length * 32 ≤ reachBytes) (hal : Den E1 12 [] (bolP true)) : Den E1 3 [a.p, b.p] (bolP true) := by
  have hr := reachBytes_lt
  have tk : ∀ e : Ev, slOk 2 (Ev.tw e).k (Ev.tw e).nl (Ev.tw e).needs.length := fun e => by
    unfold Ev.tw slOk
    cases h : e.needs <;> simp
  refine den1 2000 _ rfl (by kernel_rfl) rfl rfl rfl (Eq.mpr (law09_EventSames_go a b _) ?_)
  refine ⟨rfl, den_Twin a ha la, rfl, den_Twin b hb lb, den_event_Same (Ev.tw a) (Ev.tw b) (tk a) (tk b) (by unfold small; simp only [Ev.tw]; omega), rfl, rfl, den_ref_Same a b ha hb (by unfold small; omega), fun h => ⟨hal, rfl⟩, fun h => ?_⟩
  simp at h
end Go.Proofs.YtcoeigibikbfdaaGreatDoor.Abs

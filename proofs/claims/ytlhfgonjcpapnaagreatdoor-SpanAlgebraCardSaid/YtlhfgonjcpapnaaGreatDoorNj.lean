/-
  The abstract machine over the model, its soundness, walks of the program's functions and what they compute. Conditions: the values are of their types.
-/
import Derived.Test.YtlhfgonjcpapnaaGreatDoorRows
import Derived.Test.YtlhfgonjcpapnaaGreatDoorNc
import Derived.Test.YtlhfgonjcpapnaaGreatDoorNi
import Derived.ProofKit
import Derived.SizedLaws
import Derived.Stop.LaidErr
import Derived.MakeChecks
import Derived.Shelf.Vars
import Derived.Lib.Split
import Derived.Lib.IndexMore

set_option linter.all false
set_option linter.unnecessarySimpa false

namespace Go.Proofs.YtlhfgonjcpapnaaGreatDoor.Abs
open Go Go.Proofs Go.RowKit Go.ChangeShapes Go.WideShapes Go.ChangeAt
def inAll (w : World) : Blk := fun b => ∃ e n, w.shape? b = some (e, n)
theorem laidOut0 : laidOutB Tryz.prog = true := by kernel_rfl
theorem cell_shape {w : World} {b o : Nat} {v : Value} (h : w.cell? ⟨b, o, none⟩ = some v) : inAll w b := (cell_spot h).2
theorem pow10_tab : (YtlhfgonjcpapnaaGreatDoor.Rows.laid_internal_strconv_uint64pow10 : DataW Unit) = Lib.tabData .u64 Lib.pow10Tab := by kernel_rfl
theorem gl_of {W : World} {a b : String × DataW Unit} {rest : List (String × DataW Unit)} (hL : laidMet Tryz.prog (a :: b :: ("internal/strconv.uint64pow10", YtlhfgonjcpapnaaGreatDoor.Rows.laid_internal_strconv_uint64pow10) :: rest) W) (hsh : W.ShapedOpen Tryz.prog) : glE (inAll W) W := by
  have h1 := hL.tail.tail
  rw [pow10_tab] at h1
  have hg : Tryz.prog.globalNamed "internal/strconv.uint64pow10" = some 3 := by kernel_rfl
  have ht := Lib.tabIs_of_head (t := 200) (e := 125) (n := 20) hg (by kernel_rfl) Tryz.underlying200 Tryz.underlying125 (by kernel_rfl) (by kernel_rfl) h1
  obtain ⟨m, hm⟩ := Go.Proofs.cell_of_shapedOpen_int (g := 0) (zero := #[.int .i64 0]) (t := 3) hsh (of_decide_eq_true (by kernel_rfl)) (by kernel_rfl) rfl (by kernel_rfl) (by kernel_rfl) Tryz.underlying3
  refine ⟨⟨m, ?_⟩, ht, cell_shape (ht.cell hg 0 (by rw [Lib.pow10Tab_length]; omega))⟩
  refine .ptr _ 0 _ 0 (fun _ => .int .i64 m) (cell_shape hm) (fun j p hp => ?_) (fun j p hp => ?_)
  · cases j with
    | zero => exact ⟨hm, rfl⟩
    | succ j => simp [PV.cells] at hp
  · cases j with
    | zero => simp [PV.cells] at hp; subst hp; exact .lit _
    | succ j => simp [PV.cells] at hp
section
variable {H : Type} {enc : TypeId × Value → H}
theorem cells_one {P : Program} {W : World} {base : Nat} {t : TypeId} {v : Value} (hok : Value.okWide P W .any base t v) (hp : plainT P 9 t = true) (hs : isSt P t = false) : v.cells.toList = [v] := by
  unfold plainT at hp
  unfold isSt at hs
  unfold Value.okWide Cell.okWide Cell.ok at hok
  split at hp
  · rename_i he; rw [he] at hok; cases v <;> first | rfl | exact hok.elim | simp at hok
  · rename_i he; rw [he] at hok; cases v <;> first | rfl | exact hok.elim | simp at hok
  · rename_i he; rw [he] at hok; cases v <;> first | rfl | exact hok.elim | simp at hok
  · rename_i he; rw [he] at hok; cases v <;> first | rfl | exact hok.elim | simp at hok
  · rename_i he; rw [he] at hs; cases hs
  · cases hp
theorem arg_rep {P : Program} {W : World} {base : Nat} {t : TypeId} {v : Value} {d : DataW H} {ps : List MemPlace} (hok : Value.okWide P W .any base t v) (hd : DataW.Trod enc P W 0 (fun _ => true) true t v d ps)
    (hp : plainT P 9 t = true) (hw : ∀ n ∈ d.weights P t, n ≤ reachBytes) : ∃ n cs, wellP P n t cs ∧ PRep (inAll W) W (mkE (isSt P t) cs) v := by
  obtain ⟨fuel, h⟩ := hd
  obtain ⟨cs, hcs, hf⟩ := of_trod (I := inAll W) (fun b e n h => ⟨e, n, h⟩) fuel t _ _ 9 h hp hw
  refine ⟨fuel, cs, hcs, ?_⟩
  cases hs : isSt P t with
  | false =>
    have h1 := cells_one hok hp hs
    rw [h1] at hf
    obtain ⟨p, rfl, _, _⟩ := well_one hs hcs
    exact (hf.get (j := 0) rfl rfl).1
  | true =>
    have hv : ∃ a, v = .agg a := by
      unfold isSt at hs
      unfold Value.okWide at hok
      split at hs
      · rename_i he
        rw [he] at hok
        obtain ⟨a, ha, _⟩ := hok
        exact ⟨a, ha⟩
      · cases hs
    obtain ⟨a, rfl⟩ := hv
    have hf' : F2 (inAll W) W cs a.toList := hf
    have := PRep.agg (I := inAll W) (w := W) cs a.toList hf'.length.symm (fun x hx => ?_) (fun j p v hp hv => (hf'.get hp hv).1)
    · simpa [mkE] using this
    · obtain ⟨j, hj, rfl⟩ := List.getElem_of_mem hx
      have hj' : j < cs.length := by rw [hf'.length]; exact hj
      exact (hf'.get (List.getElem?_eq_getElem hj') (List.getElem?_eq_getElem hj)).2
def argsWell (P : Program) : List TypeId → List PV → Prop
  | [], ps => ps = []
  | t :: ts, ps => ∃ n cs qs, ps = mkE (isSt P t) cs :: qs ∧ wellP P n t cs ∧ argsWell P ts qs
structure OkAll (P : Program) (W : World) (base : Nat) (ts : Array TypeId) (args : Array Value) : Prop where
  val : ∀ (j : Nat) t v, ts[j]? = some t → args[j]? = some v → Value.okWide P W .any base t v
structure OkAllL (P : Program) (W : World) (base : Nat) (ts : List TypeId) (args : List Value) : Prop where
  val : ∀ (j : Nat) t v, ts[j]? = some t → args[j]? = some v → Value.okWide P W .any base t v
theorem args_rep {P : Program} {W : World} {base : Nat} : ∀ (ts : List TypeId) (vs : List Value) (ds : List (DataW H)) (ps : List MemPlace), DataW.TrodAll enc P W 0 (fun _ => true) true ts vs ds ps →
    OkAllL P W base ts vs → (ts.all fun t => plainT P 9 t) = true → (∀ n ∈ DataW.weightsEach P ts ds, n ≤ reachBytes) →
    ∃ qs, argsWell P ts qs ∧ vs.length = qs.length ∧ ∀ (j : Nat) (p : PV) (u : Value), qs[j]? = some p → vs[j]? = some u → PRep (inAll W) W p u
  | [], [], [], ps, _, _, _, _ => ⟨[], rfl, rfl, fun j p u h => by simp at h⟩
  | t :: ts, v :: vs, d :: ds, ps, h, hok, hp, hw => by
    obtain ⟨p, q, h1, h2, rfl⟩ := h
    simp only [List.all_cons, Bool.and_eq_true] at hp
    simp only [DataW.weightsEach, List.mem_append] at hw
    obtain ⟨n, cs, hcs, hr⟩ := arg_rep (hok.val 0 t v rfl rfl) h1 hp.1 (fun n hn => hw n (.inl hn))
    obtain ⟨qs, g1, g2, g3⟩ := args_rep ts vs ds q h2 ⟨fun j t v a b => hok.val (j + 1) t v (by simpa using a) (by simpa using b)⟩ hp.2 (fun n hn => hw n (.inr hn))
    refine ⟨_, ⟨n, cs, qs, rfl, hcs, g1⟩, by simp [g2], fun j p u a b => ?_⟩
    cases j with
    | zero => simp only [List.getElem?_cons_zero, Option.some.injEq] at a b; subst a; subst b; exact hr
    | succ j => exact g3 j p u (by simpa using a) (by simpa using b)
  | [], _ :: _, _, _, h, _, _, _ => h.elim
  | [], [], _ :: _, _, h, _, _, _ => h.elim
  | _ :: _, [], _, _, h, _, _, _ => h.elim
  | _ :: _, _ :: _, [], _, h, _, _, _ => h.elim
theorem args_carry {P : Program} (hlo : laidOutB P = true) {W W' : World} (hb : Below W.heap.size W W') : ∀ (ts : List TypeId) (vs : List Value) (ds : List (DataW H)) (ps : List MemPlace), DataW.TrodAll enc P W 0 (fun _ => true) true ts vs ds ps →
    (ts.all fun t => P.readableRec t && decide (t < P.types.size)) = true → (∀ x ∈ ps, x.block < W.heap.size) → DataW.TrodAll enc P W' 0 (fun b => decide (b < W.heap.size)) true ts vs ds ps
  | [], [], [], ps, h, _, _ => h
  | t :: ts, v :: vs, d :: ds, ps, h, hp, hlt => by
    obtain ⟨p, q, h1, h2, rfl⟩ := h
    simp only [List.all_cons, Bool.and_eq_true, decide_eq_true_eq] at hp
    exact ⟨p, q, Below.trod hlo hp.1.1 hp.1.2 h1 hb (fun x hx => hlt x (List.mem_append_left _ hx)), args_carry hlo hb ts vs ds q h2 hp.2 (fun x hx => hlt x (List.mem_append_right _ hx)), rfl⟩
  | [], _ :: _, _, _, h, _, _ => h.elim
  | [], [], _ :: _, _, h, _, _ => h.elim
  | _ :: _, [], _, _, h, _, _ => h.elim
  | _ :: _, _ :: _, [], _, h, _, _ => h.elim
theorem trod_len {P : Program} {W : World} : ∀ (ts : List TypeId) (vs : List Value) (ds : List (DataW H)) (ps : List MemPlace), DataW.TrodAll enc P W 0 (fun _ => true) true ts vs ds ps → ds.length = ts.length := by
  intro ts
  induction ts with
  | nil => intro vs ds ps h; cases vs <;> cases ds <;> first | rfl | exact h.elim
  | cons t ts ih =>
    intro vs ds ps h
    cases vs with
    | nil => exact h.elim
    | cons v vs =>
      cases ds with
      | nil => exact h.elim
      | cons d ds =>
        obtain ⟨_, _, _, h2, _⟩ := h
        simp [ih _ _ _ h2]
theorem weights_more {P : Program} {n : Nat} : ∀ (ts us : List TypeId) (ds : List (DataW H)), n ∈ DataW.weightsEach P ts ds → n ∈ DataW.weightsEach P (ts ++ us) ds := by
  intro ts us
  induction ts with
  | nil => intro ds h; cases ds <;> simp [DataW.weightsEach] at h
  | cons t ts ih =>
    intro ds h
    cases ds with
    | nil => simp [DataW.weightsEach] at h
    | cons d ds =>
      simp only [DataW.weightsEach, List.mem_append, List.cons_append] at h ⊢
      exact h.imp id (ih ds)
theorem val_list {P : Program} {W : World} {base : Nat} {ts : Array TypeId} {args : Array Value} (h : OkAll P W base ts args) : OkAllL P W base ts.toList args.toList := by
  refine ⟨?_⟩
  intro j t v a b
  rw [Array.getElem?_toList] at a b
  exact h.val j t v a b
theorem law_contract {f : FuncId} {fn : Func} {c : Code} {s : ChangeSpec} {W : World} {base : Nat} {args : Array Value} {ds gs : List (DataW H)} {before : List MemPlace} {us : List TypeId}
    (hfn : Tryz.prog.funcs[f]? = some fn) (hname : (fn.name == "runtime.NumGoroutine") = false) (hbody : fn.body = some c) (hres : fn.resultTypes = #[4]) (hvars : s.vars = []) (hplain : (fn.params.toList.all fun t => plainT Tryz.prog 9 t) = true)
    (hread : (fn.params.toList.all fun t => Tryz.prog.readableRec t && decide (t < Tryz.prog.types.size)) = true)
    (hspec : ∀ ds : List (DataW H), ds.length = fn.params.toList.length → s.fn H ds = { results := [.lit (.bool true)], args := ds })
    (den : ∀ ps, argsWell Tryz.prog fn.params.toList ps → Den E1 f ps (bolP true))
    (hval : OkAll Tryz.prog W base fn.params args)
    (hW : DataW.Whole enc Tryz.prog fn.params.toList s.vars false W args.toList ds gs before)
    (hz : (DataW.weightsEach Tryz.prog (fn.params.toList ++ us) (ds ++ gs)).all (· ≤ reachBytes) = true) (hgl : glE (inAll W) W) :
    Calls Tryz.prog f args W fun e W' => ∃ v, e = .returned v ∧ s.post enc Tryz.prog fn false true false false W args v W' := by
  have hlt := hW.lt
  have hW' := hW
  obtain ⟨p, q, hA, hV, rfl, _, _⟩ := hW
  have hV' := hV
  rw [hvars] at hV
  obtain ⟨rfl, rfl⟩ := trodVars_none hV
  simp only [List.append_nil] at hz hW' hlt
  have hwt : ∀ n ∈ DataW.weightsEach Tryz.prog fn.params.toList ds, n ≤ reachBytes := fun n hn => by
    have h1 : n ∈ DataW.weightsEach Tryz.prog (fn.params.toList ++ us) ds := by
      exact weights_more _ _ _ hn
    simpa using List.all_eq_true.1 hz n h1
  have hval' := val_list hval
  obtain ⟨qs, hq, hl, hr⟩ := args_rep fn.params.toList args.toList ds p hA hval' hplain hwt
  have hdl : ds.length = fn.params.toList.length := by
    exact trod_len _ _ _ _ hA
  have hgl' : Gl E1 (inAll W) W := hgl
  have hin : ∀ b, inAll W b → Solid W b := fun b ⟨e, n, h⟩ => .of_shape h
  have hpure : PureDoes E1.P f args.toList.toArray W (inAll W) (bolP true) := den_sound envOk1 (den qs hq) hgl' hl hr hin
  have hc : Calls Tryz.prog f args W fun e W' => ∃ I' v, e = .returned v ∧ PRep I' W' (bolP true) v ∧ Below W.heap.size W W' := by
    have hent := enters_of (P := Tryz.prog) hfn hname hbody args W
    rcases hpure with ⟨v, w', h1, h2⟩ | ⟨h1, h2⟩ | ⟨row, ax, w1, h1, h2⟩
    · have h3 := hent.symm.trans h1; cases h3
    · refine h2.mono fun e W' he => ?_
      split at he
      · rename_i v
        obtain ⟨I', k1, _, _, k2, _⟩ := he
        exact ⟨I', v, rfl, k1, k2⟩
      · exact he.elim
    · have h3 := hent.symm.trans h1; cases h3
  refine hc.mono ?_
  rintro e W' ⟨I', v, rfl, hv, hb⟩
  obtain rfl : v = .bool true := by cases hv; rfl
  refine ⟨_, rfl, ds, [], p, [], p, [], hW', ?_, ?_, ?_, hb.frame _, fun h => by cases h⟩
  · rw [List.append_nil, hspec ds hdl, hres]
    exact trodAll_mk1 (shut_bool Tryz.underlying4 _)
  · rw [List.append_nil, hspec ds hdl]
    exact args_carry laidOut0 hb _ _ _ _ hA hread (fun x hx => by simpa using hlt x hx)
  · rw [List.append_nil, hspec ds hdl, hvars]
    rfl
end
end Go.Proofs.YtlhfgonjcpapnaaGreatDoor.Abs

namespace Go.Proofs.YtlhfgonjcpapnaaGreatDoor.Abs
open Go Go.Proofs
def version_digits_S0 (l : List UInt8) (i : Int) (j : Nat → AV) (jr : Nat → Row) (g : Nat) : St :=
  { t := [strA (bs l), j 1, j 2, j 3, j 4, intA ((↑(ByteArray.size (bs l)) : Int)), intA i] ++ jj j 7 13 ++ [undefA, undefA], h := [List.replicate 22 row0], g := g }
theorem version_digits_go (l : List UInt8) (r : PV) : FnGo E1 Tryz.f108 [strP l] r 2000 (.mask (iv [(1, 4), (7, 19)]) []) =
  (∀ (j : Nat → AV) (jr : Nat → Row) (g : Nat), LoopAt E1 Tryz.f108 r 0 (version_digits_S0 l (0 : Int) j jr g)) := by kernel_rfl
theorem version_digits_go_S0 (l : List UInt8) (i : Int) (j : Nat → AV) (jr : Nat → Row) (g : Nat) (r : PV) : LoopGo E1 Tryz.f108 r 0 2000 (.fork (.fork (.lts 6 (.hole 0)) (.lts 5 (.fork (.hole 0) (.mask (iv [(1, 4), (7, 19)]) [])))) (.hole 0)) (version_digits_S0 l i j jr g) =
  (((decide (i < (↑(ByteArray.size (bs l)) : Int))) = true →
 (((0 : Int) ≤ i) ∧ (Int.toNat i < ByteArray.size (bs l))) ∧
 ((decide ((↑(UInt8.toNat (List.getD l (Int.toNat i) 0)) : Int) < (48 : Int))) = true →
 (bolP false) = r) ∧
 ((decide ((↑(UInt8.toNat (List.getD l (Int.toNat i) 0)) : Int) < (48 : Int))) = false →
 (((0 : Int) ≤ i) ∧ (Int.toNat i < ByteArray.size (bs l))) ∧
 ((decide ((↑(UInt8.toNat (List.getD l (Int.toNat i) 0)) : Int) > (57 : Int))) = true →
 (bolP false) = r) ∧
 ((decide ((↑(UInt8.toNat (List.getD l (Int.toNat i) 0)) : Int) > (57 : Int))) = false →
 ∀ (j : Nat → AV) (jr : Nat → Row) (g : Nat), LoopAt E1 Tryz.f108 r 0 (version_digits_S0 l (IntKind.i64.wrap (i + (1 : Int))) j jr g)))) ∧
 ((decide (i < (↑(ByteArray.size (bs l)) : Int))) = false →
 (bolP (!ByteArray.toList (bs l) == ByteArray.toList (bs []))) = r)) := by kernel_rfl
theorem version_plain_go (l : List UInt8) (r : PV) : FnGo E1 Tryz.f109 [strP l] r 2000 (.fork (.lts 4 (.hole 0)) (.lts 4 (.hole 0))) =
  ((((↑(ByteArray.size (bs l)) : Int) == (1 : Int)) = true →
 (bolP true) = r) ∧
 (((↑(ByteArray.size (bs l)) : Int) == (1 : Int)) = false →
 (((0 : Int) ≤ (0 : Int)) ∧ ((0 : Nat) < ByteArray.size (bs l))) ∧
 (bolP ((↑(UInt8.toNat (List.getD l (0 : Nat) 0)) : Int) != (48 : Int))) = r)) := by kernel_rfl
theorem cmp_isNaN_uint32_go (x : Int) (r : PV) : FnGo E1 Tryz.f147 [.lit (.int .u32 x)] r 2000 (.hole 0) =
  ((bolP (x != x)) = r) := by kernel_rfl
theorem cmp_isNaN_int_go (x : Int) (r : PV) : FnGo E1 Tryz.f148 [intP x] r 2000 (.hole 0) =
  ((bolP (x != x)) = r) := by kernel_rfl
theorem cmp_isNaN_string_go (l : List UInt8) (r : PV) : FnGo E1 Tryz.f175 [strP l] r 2000 (.hole 0) =
  ((bolP (!ByteArray.toList (bs l) == ByteArray.toList (bs l))) = r) := by kernel_rfl
theorem cmp_Or_int_go (x : Int) (y : Int) (z : Int) (r : PV) : FnGo E1 Tryz.f122 [.sl 1 false true [intP x, intP y, intP z]] r 2000 (.go (.lit (.val (intP x) (.fork (.hole 0) (.go (.lit (.val (intP y) (.fork (.hole 0) (.go (.lit (.val (intP z) (.fork (.hole 0) (.go (.lit (.hole 0))))))))))))))) =
  ((((0 : Int) ≤ (0 : Int)) ∧ ((false = false) ∧ ((1 : Nat) = 1))) ∧
 ((some (intP x)) = some (intP x)) ∧
 ((x != (0 : Int)) = true →
 (intP x) = r) ∧
 ((x != (0 : Int)) = false →
 (((0 : Int) ≤ (1 : Int)) ∧ ((false = false) ∧ ((1 : Nat) = 1))) ∧
 ((some (intP y)) = some (intP y)) ∧
 ((y != (0 : Int)) = true →
 (intP y) = r) ∧
 ((y != (0 : Int)) = false →
 (((0 : Int) ≤ (2 : Int)) ∧ ((false = false) ∧ ((1 : Nat) = 1))) ∧
 ((some (intP z)) = some (intP z)) ∧
 ((z != (0 : Int)) = true →
 (intP z) = r) ∧
 ((z != (0 : Int)) = false →
 (intP 0) = r)))) := by kernel_rfl
theorem span_low_go (x : I) (r : PV) : FnGo E1 Tryz.f37 [I.p x] r 2000 (.hole 0) =
  (((0 : Nat) = 0) ∧
 ((0 : Nat) = 0) ∧
 ((1 : Nat) = 1) ∧
 (Ed.p ⟨(I.lo x), (I.lopen x), false⟩) = r) := by kernel_rfl
theorem span_high_go (x : I) (r : PV) : FnGo E1 Tryz.f38 [I.p x] r 2000 (.hole 0) =
  (((0 : Nat) = 0) ∧
 ((0 : Nat) = 0) ∧
 ((0 : Nat) = 0) ∧
 ((1 : Nat) = 1) ∧
 (Ed.p ⟨(I.hi x), (!I.hopen x), (I.less x)⟩) = r) := by kernel_rfl
theorem span_bottom_go (r : PV) : FnGo E1 Tryz.f76 [] r 2000 (.hole 0) =
  (((0 : Nat) = 0) ∧
 ∃ hp, frz frzDepth (.agg [.pv (.lit (.int .u32 0)), .pv (.lit (.int .u32 0)), .pv (.lit (.int .u32 0)), .msl 0 1 1 0 1 true, bolA false, bolA false]) [[⟨0, .box (.agg [.pv (.lit (.int .u32 0)), .pv (.lit (.int .u32 0)), .pv (.lit (.int .u32 0)), .msl 0 1 1 0 1 true, bolA false, bolA false]) false⟩, ⟨1, .row 1 9 [strP [48]] false⟩, row0, row0]] = some (r, hp)) := by kernel_rfl
def ref07_Same_S0 (v : V) (w : V) (i : Int) (j : Nat → AV) (jr : Nat → Row) (g : Nat) : St :=
  { t := [j 0, j 1, .mptr 0 2 0 0 0, .mptr 0 3 1 0 0, j 4, intA i] ++ jj j 6 46, h := [[row0, row0, ⟨0, .box (.pv (V.p v)) false⟩, ⟨1, .box (.pv (V.p w)) false⟩] ++ List.replicate 48 row0], g := g }
theorem ref07_Same_go (v : V) (w : V) (r : PV) : FnGo E1 Tryz.f46 [V.p v, V.p w] r 2000 (.fork (.lts 23 (.hole 0)) (.lts 6 (.fork (.lts 16 (.hole 0)) (.lts 6 (.fork (.lts 9 (.hole 0)) (.lts 8 (.fork (.hole 0) (.mask (iv [(0, 1), (4, 4), (6, 51)]) [])))))))) =
  (((0 : Nat) = 0) ∧
 ((1 : Nat) = 1) ∧
 ((V.a v != V.a w) = true →
 (bolP false) = r) ∧
 ((V.a v != V.a w) = false →
 ((0 : Nat) = 0) ∧
 ((1 : Nat) = 1) ∧
 ((V.b v != V.b w) = true →
 (bolP false) = r) ∧
 ((V.b v != V.b w) = false →
 ((0 : Nat) = 0) ∧
 ((1 : Nat) = 1) ∧
 ((V.c v != V.c w) = true →
 (bolP false) = r) ∧
 ((V.c v != V.c w) = false →
 ((0 : Nat) = 0) ∧
 ((1 : Nat) = 1) ∧
 (((↑(List.length (List.map strP (V.pre v))) : Int) != (↑(List.length (List.map strP (V.pre w))) : Int)) = true →
 (bolP false) = r) ∧
 (((↑(List.length (List.map strP (V.pre v))) : Int) != (↑(List.length (List.map strP (V.pre w))) : Int)) = false →
 ∀ (j : Nat → AV) (jr : Nat → Row) (g : Nat), LoopAt E1 Tryz.f46 r 0 (ref07_Same_S0 v w (0 : Int) j jr g)))))) := by kernel_rfl
theorem ref07_Same_go_S0 (v : V) (w : V) (i : Int) (j : Nat → AV) (jr : Nat → Row) (g : Nat) (r : PV) : LoopGo E1 Tryz.f46 r 0 2000 (.fork (.val (strP (List.getD (V.pre v) (Int.toNat i) default)) (.val (strP (List.getD (V.pre w) (Int.toNat i) default)) (.fork (.hole 0) (.mask (iv [(0, 1), (4, 4), (6, 51)]) [])))) (.hole 0)) (ref07_Same_S0 v w i j jr g) =
  (((0 : Nat) = 0) ∧
 ((decide (i < (↑(List.length (List.map strP (V.pre v))) : Int))) = true →
 ((0 : Nat) = 0) ∧
 (((0 : Int) ≤ i) ∧ (((V.nl v) = false) ∧ ((V.k v) = 1))) ∧
 (((List.map strP (V.pre v))[Int.toNat i]?) = some (strP (List.getD (V.pre v) (Int.toNat i) default))) ∧
 ((1 : Nat) = 1) ∧
 (((0 : Int) ≤ i) ∧ (((V.nl w) = false) ∧ ((V.k w) = 1))) ∧
 (((List.map strP (V.pre w))[Int.toNat i]?) = some (strP (List.getD (V.pre w) (Int.toNat i) default))) ∧
 ((!ByteArray.toList (bs (List.getD (V.pre v) (Int.toNat i) default)) == ByteArray.toList (bs (List.getD (V.pre w) (Int.toNat i) default))) = true →
 (bolP false) = r) ∧
 ((!ByteArray.toList (bs (List.getD (V.pre v) (Int.toNat i) default)) == ByteArray.toList (bs (List.getD (V.pre w) (Int.toNat i) default))) = false →
 ∀ (j : Nat → AV) (jr : Nat → Row) (g : Nat), LoopAt E1 Tryz.f46 r 0 (ref07_Same_S0 v w (IntKind.i64.wrap (i + (1 : Int))) j jr g))) ∧
 ((decide (i < (↑(List.length (List.map strP (V.pre v))) : Int))) = false →
 (bolP true) = r)) := by kernel_rfl
end Go.Proofs.YtlhfgonjcpapnaaGreatDoor.Abs

namespace Go.Proofs.YtlhfgonjcpapnaaGreatDoor.Abs
open Go Go.Proofs
theorem den1 {f : FuncId} {fn : Func} {ps : List PV} {r : PV} (n : Nat) (scr : Scr) (hi : E1.intr f = none) (hf : E1.P.funcs[f]? = some fn) (hb : fn.body.isSome = true) (hinl : E1.inl f = false) (hown : E1.own f = false) (h : FnGo E1 fn ps r n scr) (hok : E1.ok f = true := by rfl) (hlit : E1.rd f = false ∨ ∃ x, r = .lit x := by first | exact .inl rfl | exact .inr ⟨_, rfl⟩) : Den E1 f ps r :=
  den_go n scr hi hf hb hok hinl hown h hlit
def isDig (b : UInt8) : Bool := decide (48 ≤ b.toNat) && decide (b.toNat ≤ 57)
def digitsL (l : List UInt8) : Bool := l.all isDig && !l.isEmpty
theorem drop_all {l : List UInt8} {i : Nat} (h : i < l.length) (p : UInt8 → Bool) : (l.drop i).all p = (p l[i] && (l.drop (i + 1)).all p) := by
  rw [List.drop_eq_getElem_cons h, List.all_cons]
theorem getD_lt {α : Type} {l : List α} {i : Nat} (h : i < l.length) (d : α) : l.getD i d = l[i] := by
  simp [List.getD_eq_getElem?_getD, h]
theorem den_version_digits (l : List UInt8) (hl : small l.length) : Den E1 108 [strP l] (bolP (digitsL l)) := by
  refine den1 2000 _ rfl (by kernel_rfl) rfl rfl rfl (Eq.mpr (version_digits_go l _) fun j jr g => ?_)
  have H : ∀ (n i : Nat) j jr g, i + n = l.length → digitsL l = ((l.drop i).all isDig && !l.isEmpty) → LoopAt E1 Tryz.f108 (bolP (digitsL l)) 0 (version_digits_S0 l i j jr g) := by
    intro n
    induction n with
    | zero =>
      intro i j jr g hi hd
      refine loop_go 2000 _ (Eq.mpr (version_digits_go_S0 l i j jr g _) ⟨fun h => ?_, fun h => ?_⟩)
      · simp [size_bs] at h; omega
      · rw [hd, List.drop_eq_nil_of_le (by omega)]
        simp [toList_bs]
    | succ n ih =>
      intro i j jr g hi hd
      have hlt : i < l.length := by omega
      rw [drop_all hlt] at hd
      refine loop_go 2000 _ (Eq.mpr (version_digits_go_S0 l i j jr g _) ⟨fun h => ?_, fun h => ?_⟩)
      · simp only [Int.toNat_natCast, getD_lt hlt, size_bs]
        refine ⟨⟨by omega, hlt⟩, fun h1 => ?_, fun h1 => ⟨⟨by omega, hlt⟩, fun h2 => ?_, fun h2 j jr g => ?_⟩⟩
        · rw [hd]; simp only [decide_eq_true_eq] at h1; simp [isDig]; omega
        · rw [hd]; simp only [decide_eq_true_eq] at h2; simp [isDig]; omega
        · simp only [decide_eq_false_iff_not] at h1 h2
          have : isDig l[i] = true := by simp [isDig]; omega
          rw [this, Bool.true_and] at hd
          rw [wrap_i64 _ (by omega) (by unfold small at hl; omega)]
          exact ih (i + 1) j jr g (by omega) hd
      · simp [size_bs] at h; omega
  exact H l.length 0 j jr g (by omega) (by simp [digitsL])
def plainL (l : List UInt8) : Bool := l.length == 1 || (l.getD 0 0).toNat != 48
theorem den_version_plain (l : List UInt8) (h0 : l ≠ []) : Den E1 109 [strP l] (bolP (plainL l)) := by
  refine den1 2000 _ rfl (by kernel_rfl) rfl rfl rfl (Eq.mpr (version_plain_go l _) ⟨fun h => ?_, fun h => ?_⟩)
  · simp only [size_bs, beq_iff_eq] at h
    have : l.length = 1 := by omega
    simp [plainL, this]
  · have : 0 < l.length := List.length_pos_iff.2 h0
    refine ⟨⟨by omega, this⟩, ?_⟩
    simp only [size_bs, beq_eq_false_iff_ne, ne_eq] at h
    have h1 : (l.length == 1) = false := by simp; omega
    have h2 : (((l.getD 0 0).toNat : Int) != 48) = ((l.getD 0 0).toNat != 48) := by rw [Bool.eq_iff_iff]; simp; omega
    simp only [plainL, h1, Bool.false_or, ← h2]
def cmpI (x y : Int) : Int := if x < y then -1 else if x > y then 1 else 0
theorem den_isNaN_uint32 (x : Int) : Den E1 147 [.lit (.int .u32 x)] (bolP false) :=
  den1 2000 _ rfl (by kernel_rfl) rfl rfl rfl (Eq.mpr (cmp_isNaN_uint32_go x _) (by simp))
theorem den_isNaN_int (x : Int) : Den E1 148 [intP x] (bolP false) :=
  den1 2000 _ rfl (by kernel_rfl) rfl rfl rfl (Eq.mpr (cmp_isNaN_int_go x _) (by simp))
theorem den_isNaN_string (l : List UInt8) : Den E1 175 [strP l] (bolP false) :=
  den1 2000 _ rfl (by kernel_rfl) rfl rfl rfl (Eq.mpr (cmp_isNaN_string_go l _) (by simp))
def or3 (x y z : Int) : Int := if x ≠ 0 then x else if y ≠ 0 then y else z
theorem den_Or (x y z : Int) : Den E1 122 [.sl 1 false true [intP x, intP y, intP z]] (intP (or3 x y z)) := by
  refine den1 2000 _ rfl (by kernel_rfl) rfl rfl rfl (Eq.mpr (cmp_Or_int_go x y z _) ?_)
  by_cases hx : x = 0
  · by_cases hy : y = 0
    · by_cases hz : z = 0 <;> simp [or3, hx, hy, hz]
    · simp [or3, hx, hy]
  · simp [or3, hx]
def I.low (x : I) : Ed := ⟨x.lo, x.lopen, false⟩
def I.high (x : I) : Ed := ⟨x.hi, !x.hopen, x.less⟩
theorem den_low (x : I) : Den E1 37 [x.p] (x.low.p) :=
  den1 2000 _ rfl (by kernel_rfl) rfl rfl rfl (Eq.mpr (span_low_go x _) ⟨rfl, rfl, rfl, rfl⟩)
theorem den_high (x : I) : Den E1 38 [x.p] (x.high.p) :=
  den1 2000 _ rfl (by kernel_rfl) rfl rfl rfl (Eq.mpr (span_high_go x _) ⟨rfl, rfl, rfl, rfl, rfl⟩)
theorem ex_frz {v : AV} {h : Heap} {r : PV} (h1 : (frz frzDepth v h).map (·.1) = some r) : ∃ hp, frz frzDepth v h = some (r, hp) := by
  simp only [Option.map_eq_some_iff] at h1
  obtain ⟨⟨p, hp⟩, h1, rfl⟩ := h1
  exact ⟨hp, h1⟩
def bottomV : V := ⟨0, 0, 0, 1, false, true, [[48]]⟩
def bottomE : Ed := ⟨bottomV, false, false⟩
theorem den_bottom : Den E1 76 [] bottomE.p := by
  have h := span_bottom_go bottomE.p
  refine den1 (fn := Tryz.f76) 2000 (.hole 0) rfl (by kernel_rfl) rfl rfl rfl ?_
  rw [h]
  exact ⟨rfl, ex_frz (by kernel_rfl)⟩
def numL (n : Nat) : List UInt8 := if h : n < 10 then [UInt8.ofNat (48 + n)] else numL (n / 10) ++ [UInt8.ofNat (48 + n % 10)]
def sameV (v w : V) : Bool := v.a == w.a && v.b == w.b && v.c == w.c && v.pre == w.pre
theorem cons_beq (a b : List UInt8) (x y : List (List UInt8)) : (a :: x == b :: y) = (a == b && x == y) := rfl
theorem den_Same (v w : V) (hv : v.ok) (hw : w.ok) : Den E1 46 [v.p, w.p] (bolP (sameV v w)) := by
  refine den1 2000 _ rfl (by kernel_rfl) rfl rfl rfl (Eq.mpr (ref07_Same_go v w _) ?_)
  refine ⟨rfl, rfl, fun h => by simp at h; simp [sameV, h], fun ha => ⟨rfl, rfl, fun h => by simp at h; simp [sameV, h], fun hb => ⟨rfl, rfl, fun h => by simp at h; simp [sameV, h], fun hc => ⟨rfl, rfl, fun h => ?_, fun hlen j jr g => ?_⟩⟩⟩⟩
  · simp at h
    have : (v.pre == w.pre) = false := by simp; intro e; exact h (by rw [e])
    simp [sameV, this]
  simp only [bne_eq_false_iff_eq] at ha hb hc
  simp only [List.length_map, bne_eq_false_iff_eq] at hlen
  have hlen : v.pre.length = w.pre.length := by omega
  have H : ∀ (n i : Nat) j jr g, i + n = v.pre.length → sameV v w = (v.pre.drop i == w.pre.drop i) → LoopAt E1 Tryz.f46 (bolP (sameV v w)) 0 (ref07_Same_S0 v w i j jr g) := by
    intro n
    induction n with
    | zero =>
      intro i j jr g hi hd
      refine loop_go 2000 _ (Eq.mpr (ref07_Same_go_S0 v w i j jr g _) ⟨rfl, fun h => ?_, fun h => ?_⟩)
      · simp at h; omega
      · rw [hd, List.drop_eq_nil_of_le (by omega), List.drop_eq_nil_of_le (by omega)]; rfl
    | succ n ih =>
      intro i j jr g hi hd
      have h1 : i < v.pre.length := by omega
      have h2 : i < w.pre.length := by omega
      rw [List.drop_eq_getElem_cons h1, List.drop_eq_getElem_cons h2, cons_beq] at hd
      refine loop_go 2000 _ (Eq.mpr (ref07_Same_go_S0 v w i j jr g _) ⟨rfl, fun h => ?_, fun h => ?_⟩)
      · simp only [Int.toNat_natCast, getD_lt h1, getD_lt h2, toList_bs]
        refine ⟨trivial, ⟨by omega, sl_at hv.sl h1⟩, by simp [h1, strP], trivial, ⟨by omega, sl_at hw.sl h2⟩, by simp [h2, strP], fun h3 => ?_, fun h3 j jr g => ?_⟩
        · rw [hd]; simp at h3; simp [h3]
        · simp at h3
          rw [wrap_i64 _ (by omega) (by have := hv.len; unfold small at this; omega)]
          exact ih (i + 1) j jr g (by omega) (by rw [hd, h3]; simp)
      · simp at h; omega
  exact H v.pre.length 0 j jr g (by omega) (by simp [sameV, ha, hb, hc])
end Go.Proofs.YtlhfgonjcpapnaaGreatDoor.Abs

namespace Go.Proofs.YtlhfgonjcpapnaaGreatDoor.Abs
open Go Go.Proofs
def cmpS (a b : List UInt8) : Int := if Op.bytesLess a b then -1 else if a == b then 0 else 1
def ordL (a b : List UInt8) : Int :=
  if digitsL a && !digitsL b then -1
  else if !digitsL a && digitsL b then 1
  else if digitsL a && digitsL b && cmpI a.length b.length != 0 then cmpI a.length b.length
  else cmpS a b
def cmpP : List (List UInt8) → List (List UInt8) → Int
  | [], [] => 0
  | [], _ :: _ => -1
  | _ :: _, [] => 1
  | a :: x, b :: y => if ordL a b ≠ 0 then ordL a b else cmpP x y
def cmpN (v w : V) : Int := or3 (cmpI v.a w.a) (cmpI v.b w.b) (cmpI v.c w.c)
def cmpV (v w : V) : Int :=
  if cmpN v w ≠ 0 then cmpN v w
  else if v.pre.length = 0 ∨ w.pre.length = 0 then cmpI w.pre.length v.pre.length
  else cmpP v.pre w.pre
def identC (b : UInt8) : Bool := isDig b || (decide (97 ≤ b.toNat) && decide (b.toNat ≤ 122)) || b.toNat == 45
def identL (s : List UInt8) : Bool := !s.isEmpty && decide (s.length ≤ 16) && s.all identC && (!digitsL s || plainL s)
def mayV (v : V) : Bool := decide (v.a ≤ 2147483647) && decide (v.b ≤ 2147483647) && decide (v.c ≤ 2147483647) && decide (v.pre.length ≤ 8) && v.pre.all identL
def firstI (p : List UInt8 → Bool) (l : List (List UInt8)) : Int := if l.findIdx p < l.length then (l.findIdx p : Int) else -1
def errV (b : Bool) : Int := if b then 0 else 70
end Go.Proofs.YtlhfgonjcpapnaaGreatDoor.Abs

namespace Go.Proofs.YtlhfgonjcpapnaaGreatDoor.Abs
open Go Go.Proofs
theorem cmp_Compare_uint32_go (x : Int) (y : Int) (r : PV) : FnGo E1 Tryz.f123 [.lit (.int .u32 x), .lit (.int .u32 y)] r 2000 (.res (bolP false) (.res (bolP false) (.lit (.lit (.fork (.hole 0) (.fork (.hole 0) (.hole 0))))))) =
  ((Den E1 147 [.lit (.int .u32 x)] (bolP false)) ∧
 (Den E1 147 [.lit (.int .u32 y)] (bolP false)) ∧
 ((decide (x < y)) = true →
 (intP (-1)) = r) ∧
 ((decide (x < y)) = false →
 ((decide (x > y)) = true →
 (intP 1) = r) ∧
 ((decide (x > y)) = false →
 (intP 0) = r))) := by kernel_rfl
theorem cmp_Compare_int_go (x : Int) (y : Int) (r : PV) : FnGo E1 Tryz.f124 [intP x, intP y] r 2000 (.res (bolP false) (.res (bolP false) (.lit (.lit (.fork (.hole 0) (.fork (.hole 0) (.hole 0))))))) =
  ((Den E1 148 [intP x] (bolP false)) ∧
 (Den E1 148 [intP y] (bolP false)) ∧
 ((decide (x < y)) = true →
 (intP (-1)) = r) ∧
 ((decide (x < y)) = false →
 ((decide (x > y)) = true →
 (intP 1) = r) ∧
 ((decide (x > y)) = false →
 (intP 0) = r))) := by kernel_rfl
theorem cmp_Compare_string_go (a : List UInt8) (b : List UInt8) (r : PV) : FnGo E1 Tryz.f149 [strP a, strP b] r 2000 (.res (bolP false) (.res (bolP false) (.lit (.lit (.fork (.hole 0) (.fork (.hole 0) (.hole 0))))))) =
  ((Den E1 175 [strP a] (bolP false)) ∧
 (Den E1 175 [strP b] (bolP false)) ∧
 ((Op.bytesLess (ByteArray.toList (bs a)) (ByteArray.toList (bs b))) = true →
 (intP (-1)) = r) ∧
 ((Op.bytesLess (ByteArray.toList (bs a)) (ByteArray.toList (bs b))) = false →
 ((!(Op.bytesLess (ByteArray.toList (bs a)) (ByteArray.toList (bs b)) || ByteArray.toList (bs a) == ByteArray.toList (bs b))) = true →
 (intP 1) = r) ∧
 ((!(Op.bytesLess (ByteArray.toList (bs a)) (ByteArray.toList (bs b)) || ByteArray.toList (bs a) == ByteArray.toList (bs b))) = false →
 (intP 0) = r))) := by kernel_rfl
theorem version_order_go (a : List UInt8) (b : List UInt8) (r : PV) : FnGo E1 Tryz.f126 [strP a, strP b] r 2000 (.resB (digitsL a) (.resB (digitsL b) (.lts 3 (.res (intP (cmpI (↑(ByteArray.size (bs a)) : Int) (↑(ByteArray.size (bs b)) : Int))) (.fork (.hole 0) (.res (intP (cmpS a b)) (.hole 0))))) (.lit (.hole 0))) (.resB (digitsL b) (.lit (.lit (.hole 0))) (.lts 3 (.res (intP (cmpS a b)) (.hole 0))))) =
  ((Den E1 108 [strP a] (bolP (digitsL a))) ∧
 ((digitsL a) = true →
 (Den E1 108 [strP b] (bolP (digitsL b))) ∧
 ((digitsL b) = true →
 ((6 : Nat) = 6) ∧
 ((6 : Nat) = 6) ∧
 ((6 : Nat) = 6) ∧
 ((6 : Nat) = 6) ∧
 (Den E1 124 [intP ((↑(ByteArray.size (bs a)) : Int)), intP ((↑(ByteArray.size (bs b)) : Int))] (intP (cmpI (↑(ByteArray.size (bs a)) : Int) (↑(ByteArray.size (bs b)) : Int)))) ∧
 ((cmpI (↑(ByteArray.size (bs a)) : Int) (↑(ByteArray.size (bs b)) : Int) != (0 : Int)) = true →
 (intP (cmpI (↑(ByteArray.size (bs a)) : Int) (↑(ByteArray.size (bs b)) : Int))) = r) ∧
 ((cmpI (↑(ByteArray.size (bs a)) : Int) (↑(ByteArray.size (bs b)) : Int) != (0 : Int)) = false →
 (Den E1 149 [strP a, strP b] (intP (cmpS a b))) ∧
 (intP (cmpS a b)) = r)) ∧
 ((digitsL b) = false →
 ((6 : Nat) = 6) ∧
 ((6 : Nat) = 6) ∧
 (intP (-1)) = r)) ∧
 ((digitsL a) = false →
 (Den E1 108 [strP b] (bolP (digitsL b))) ∧
 ((digitsL b) = true →
 ((6 : Nat) = 6) ∧
 ((6 : Nat) = 6) ∧
 ((6 : Nat) = 6) ∧
 (intP 1) = r) ∧
 ((digitsL b) = false →
 ((6 : Nat) = 6) ∧
 ((6 : Nat) = 6) ∧
 ((6 : Nat) = 6) ∧
 ((6 : Nat) = 6) ∧
 (Den E1 149 [strP a, strP b] (intP (cmpS a b))) ∧
 (intP (cmpS a b)) = r))) := by kernel_rfl
def slices_CompareFunc_string_string_string_string_S0 (x : List (List UInt8)) (y : List (List UInt8)) (k : Nat) (k' : Nat) (nl : Bool) (full : Bool) (nl' : Bool) (full' : Bool) (i : Int) (j : Nat → AV) (jr : Nat → Row) (g : Nat) : St :=
  { t := [.pv (.sl k nl full (List.map strP x)), .pv (.sl k' nl' full' (List.map strP y)), .pv (.clo (.func 126) [] [])] ++ jj j 3 8 ++ [.pv (.sl k nl full (List.map strP x)), intA ((↑(List.length (List.map strP x)) : Int)), intA i] ++ jj j 14 20 ++ [undefA, undefA, undefA, undefA, undefA], h := [List.replicate 39 row0], g := g }
theorem slices_CompareFunc_string_string_string_string_go (x : List (List UInt8)) (y : List (List UInt8)) (k : Nat) (k' : Nat) (nl : Bool) (full : Bool) (nl' : Bool) (full' : Bool) (r : PV) : FnGo E1 Tryz.f125 [.sl k nl full (List.map strP x), .sl k' nl' full' (List.map strP y), .clo (.func 126) [] []] r 2000 (.mask (iv [(3, 10), (14, 33)]) []) =
  (∀ (j : Nat → AV) (jr : Nat → Row) (g : Nat), LoopAt E1 Tryz.f125 r 0 (slices_CompareFunc_string_string_string_string_S0 x y k k' nl full nl' full' (0 : Int) j jr g)) := by kernel_rfl
theorem slices_CompareFunc_string_string_string_string_go_S0 (x : List (List UInt8)) (y : List (List UInt8)) (k : Nat) (k' : Nat) (nl : Bool) (full : Bool) (nl' : Bool) (full' : Bool) (i : Int) (j : Nat → AV) (jr : Nat → Row) (g : Nat) (r : PV) : LoopGo E1 Tryz.f125 r 0 2000 (.fork (.val (strP (List.getD x (Int.toNat i) default)) (.fork (.hole 0) (.val (strP (List.getD y (Int.toNat i) default)) (.res (intP (ordL (List.getD x (Int.toNat i) default) (List.getD y (Int.toNat i) default))) (.fork (.hole 0) (.mask (iv [(3, 10), (14, 33)]) [])))))) (.fork (.hole 0) (.hole 0))) (slices_CompareFunc_string_string_string_string_S0 x y k k' nl full nl' full' i j jr g) =
  (((decide (i < (↑(List.length (List.map strP x)) : Int))) = true →
 (((0 : Int) ≤ i) ∧ ((nl = false) ∧ (k = 1))) ∧
 (((List.map strP x)[Int.toNat i]?) = some (strP (List.getD x (Int.toNat i) default))) ∧
 ((decide (i ≥ (↑(List.length (List.map strP y)) : Int))) = true →
 (intP 1) = r) ∧
 ((decide (i ≥ (↑(List.length (List.map strP y)) : Int))) = false →
 (((0 : Int) ≤ i) ∧ ((nl' = false) ∧ (k' = 1))) ∧
 (((List.map strP y)[Int.toNat i]?) = some (strP (List.getD y (Int.toNat i) default))) ∧
 (Den E1 126 [strP (List.getD x (Int.toNat i) default), strP (List.getD y (Int.toNat i) default)] (intP (ordL (List.getD x (Int.toNat i) default) (List.getD y (Int.toNat i) default)))) ∧
 ((ordL (List.getD x (Int.toNat i) default) (List.getD y (Int.toNat i) default) != (0 : Int)) = true →
 (intP (ordL (List.getD x (Int.toNat i) default) (List.getD y (Int.toNat i) default))) = r) ∧
 ((ordL (List.getD x (Int.toNat i) default) (List.getD y (Int.toNat i) default) != (0 : Int)) = false →
 ∀ (j : Nat → AV) (jr : Nat → Row) (g : Nat), LoopAt E1 Tryz.f125 r 0 (slices_CompareFunc_string_string_string_string_S0 x y k k' nl full nl' full' (IntKind.i64.wrap (i + (1 : Int))) j jr g)))) ∧
 ((decide (i < (↑(List.length (List.map strP x)) : Int))) = false →
 ((decide ((↑(List.length (List.map strP x)) : Int) < (↑(List.length (List.map strP y)) : Int))) = true →
 (intP (-1)) = r) ∧
 ((decide ((↑(List.length (List.map strP x)) : Int) < (↑(List.length (List.map strP y)) : Int))) = false →
 (intP 0) = r))) := by kernel_rfl
theorem version_compare_go (v : V) (w : V) (r : PV) : FnGo E1 Tryz.f85 [V.p v, V.p w] r 2000 (.res (intP (cmpI (V.a v) (V.a w))) (.res (intP (cmpI (V.b v) (V.b w))) (.res (intP (cmpI (V.c v) (V.c w))) (.ev (.res (intP (or3 (cmpI (V.a v) (V.a w)) (cmpI (V.b v) (V.b w)) (cmpI (V.c v) (V.c w)))) (.fork (.hole 0) (.fork (.lts 6 (.res (intP (cmpI (↑(List.length (List.map strP (V.pre w))) : Int) (↑(List.length (List.map strP (V.pre v))) : Int))) (.hole 0))) (.lts 5 (.fork (.res (intP (cmpI (↑(List.length (List.map strP (V.pre w))) : Int) (↑(List.length (List.map strP (V.pre v))) : Int))) (.hole 0)) (.res (intP (cmpP (V.pre v) (V.pre w))) (.hole 0))))))))))) =
  (((0 : Nat) = 0) ∧
 ((1 : Nat) = 1) ∧
 (Den E1 123 [.lit (.int .u32 (V.a v)), .lit (.int .u32 (V.a w))] (intP (cmpI (V.a v) (V.a w)))) ∧
 ((0 : Nat) = 0) ∧
 ((1 : Nat) = 1) ∧
 (Den E1 123 [.lit (.int .u32 (V.b v)), .lit (.int .u32 (V.b w))] (intP (cmpI (V.b v) (V.b w)))) ∧
 ((0 : Nat) = 0) ∧
 ((1 : Nat) = 1) ∧
 (Den E1 123 [.lit (.int .u32 (V.c v)), .lit (.int .u32 (V.c w))] (intP (cmpI (V.c v) (V.c w)))) ∧
 (Den E1 122 [.sl 1 false true [intP (cmpI (V.a v) (V.a w)), intP (cmpI (V.b v) (V.b w)), intP (cmpI (V.c v) (V.c w))]] (intP (or3 (cmpI (V.a v) (V.a w)) (cmpI (V.b v) (V.b w)) (cmpI (V.c v) (V.c w))))) ∧
 ((or3 (cmpI (V.a v) (V.a w)) (cmpI (V.b v) (V.b w)) (cmpI (V.c v) (V.c w)) != (0 : Int)) = true →
 (intP (or3 (cmpI (V.a v) (V.a w)) (cmpI (V.b v) (V.b w)) (cmpI (V.c v) (V.c w)))) = r) ∧
 ((or3 (cmpI (V.a v) (V.a w)) (cmpI (V.b v) (V.b w)) (cmpI (V.c v) (V.c w)) != (0 : Int)) = false →
 ((0 : Nat) = 0) ∧
 (((↑(List.length (List.map strP (V.pre v))) : Int) == (0 : Int)) = true →
 ((1 : Nat) = 1) ∧
 ((0 : Nat) = 0) ∧
 (Den E1 124 [intP ((↑(List.length (List.map strP (V.pre w))) : Int)), intP ((↑(List.length (List.map strP (V.pre v))) : Int))] (intP (cmpI (↑(List.length (List.map strP (V.pre w))) : Int) (↑(List.length (List.map strP (V.pre v))) : Int)))) ∧
 (intP (cmpI (↑(List.length (List.map strP (V.pre w))) : Int) (↑(List.length (List.map strP (V.pre v))) : Int))) = r) ∧
 (((↑(List.length (List.map strP (V.pre v))) : Int) == (0 : Int)) = false →
 ((1 : Nat) = 1) ∧
 (((↑(List.length (List.map strP (V.pre w))) : Int) == (0 : Int)) = true →
 ((1 : Nat) = 1) ∧
 ((0 : Nat) = 0) ∧
 (Den E1 124 [intP ((↑(List.length (List.map strP (V.pre w))) : Int)), intP ((↑(List.length (List.map strP (V.pre v))) : Int))] (intP (cmpI (↑(List.length (List.map strP (V.pre w))) : Int) (↑(List.length (List.map strP (V.pre v))) : Int)))) ∧
 (intP (cmpI (↑(List.length (List.map strP (V.pre w))) : Int) (↑(List.length (List.map strP (V.pre v))) : Int))) = r) ∧
 (((↑(List.length (List.map strP (V.pre w))) : Int) == (0 : Int)) = false →
 ((0 : Nat) = 0) ∧
 ((1 : Nat) = 1) ∧
 (Den E1 125 [V.q v, V.q w, .clo (.func 126) [] []] (intP (cmpP (V.pre v) (V.pre w)))) ∧
 (intP (cmpP (V.pre v) (V.pre w))) = r)))) := by kernel_rfl
def version_ident_S0 (l : List UInt8) (i : Int) (j : Nat → AV) (jr : Nat → Row) (g : Nat) : St :=
  { t := [strA (bs l)] ++ jj j 1 12 ++ [intA ((↑(ByteArray.size (bs l)) : Int)), intA i] ++ jj j 15 21 ++ [undefA, undefA, undefA, undefA, undefA, undefA, undefA], h := [List.replicate 43 row0], g := g }
theorem version_ident_go (l : List UInt8) (r : PV) : FnGo E1 Tryz.f103 [strP l] r 2000 (.fork (.lts 5 (.hole 0)) (.lts 4 (.fork (.hole 0) (.mask (iv [(1, 12), (15, 35)]) [])))) =
  (((ByteArray.toList (bs l) == ByteArray.toList (bs [])) = true →
 (bolP false) = r) ∧
 ((ByteArray.toList (bs l) == ByteArray.toList (bs [])) = false →
 ((decide ((↑(ByteArray.size (bs l)) : Int) > (16 : Int))) = true →
 (bolP false) = r) ∧
 ((decide ((↑(ByteArray.size (bs l)) : Int) > (16 : Int))) = false →
 ∀ (j : Nat → AV) (jr : Nat → Row) (g : Nat), LoopAt E1 Tryz.f103 r 0 (version_ident_S0 l (0 : Int) j jr g)))) := by kernel_rfl
theorem version_ident_go_S0 (l : List UInt8) (i : Int) (j : Nat → AV) (jr : Nat → Row) (g : Nat) (r : PV) : LoopGo E1 Tryz.f103 r 0 2000 (.fork (.fork (.lts 3 (.fork (.br true (.mask (iv [(1, 12), (15, 35)]) [])) (.fork (.lts 3 (.fork (.br true (.mask (iv [(1, 12), (15, 35)]) [])) (.fork (.mask (iv [(1, 12), (15, 35)]) []) (.hole 0)))) (.lts 4 (.fork (.mask (iv [(1, 12), (15, 35)]) []) (.hole 0)))))) (.lts 4 (.fork (.lts 3 (.fork (.br true (.mask (iv [(1, 12), (15, 35)]) [])) (.fork (.mask (iv [(1, 12), (15, 35)]) []) (.hole 0)))) (.lts 4 (.fork (.mask (iv [(1, 12), (15, 35)]) []) (.hole 0)))))) (.resB (digitsL l) (.lts 3 (.res (bolP (plainL l)) (.lit (.hole 0)))) (.lts 4 (.hole 0)))) (version_ident_S0 l i j jr g) =
  (((decide (i < (↑(ByteArray.size (bs l)) : Int))) = true →
 (((0 : Int) ≤ i) ∧ (Int.toNat i < ByteArray.size (bs l))) ∧
 ((decide ((↑(UInt8.toNat (List.getD l (Int.toNat i) 0)) : Int) ≥ (48 : Int))) = true →
 ((decide ((↑(UInt8.toNat (List.getD l (Int.toNat i) 0)) : Int) ≤ (57 : Int))) = true →
 ((decide ((↑(UInt8.toNat (List.getD l (Int.toNat i) 0)) : Int) ≤ (57 : Int))) = true) ∧
 (∀ (j : Nat → AV) (jr : Nat → Row) (g : Nat), LoopAt E1 Tryz.f103 r 0 (version_ident_S0 l (IntKind.i64.wrap (i + (1 : Int))) j jr g))) ∧
 ((decide ((↑(UInt8.toNat (List.getD l (Int.toNat i) 0)) : Int) ≤ (57 : Int))) = false →
 ((decide ((↑(UInt8.toNat (List.getD l (Int.toNat i) 0)) : Int) ≥ (97 : Int))) = true →
 ((decide ((↑(UInt8.toNat (List.getD l (Int.toNat i) 0)) : Int) ≤ (122 : Int))) = true →
 ((decide ((↑(UInt8.toNat (List.getD l (Int.toNat i) 0)) : Int) ≤ (122 : Int))) = true) ∧
 (∀ (j : Nat → AV) (jr : Nat → Row) (g : Nat), LoopAt E1 Tryz.f103 r 0 (version_ident_S0 l (IntKind.i64.wrap (i + (1 : Int))) j jr g))) ∧
 ((decide ((↑(UInt8.toNat (List.getD l (Int.toNat i) 0)) : Int) ≤ (122 : Int))) = false →
 (((↑(UInt8.toNat (List.getD l (Int.toNat i) 0)) : Int) == (45 : Int)) = true →
 ∀ (j : Nat → AV) (jr : Nat → Row) (g : Nat), LoopAt E1 Tryz.f103 r 0 (version_ident_S0 l (IntKind.i64.wrap (i + (1 : Int))) j jr g)) ∧
 (((↑(UInt8.toNat (List.getD l (Int.toNat i) 0)) : Int) == (45 : Int)) = false →
 (bolP false) = r))) ∧
 ((decide ((↑(UInt8.toNat (List.getD l (Int.toNat i) 0)) : Int) ≥ (97 : Int))) = false →
 (((↑(UInt8.toNat (List.getD l (Int.toNat i) 0)) : Int) == (45 : Int)) = true →
 ∀ (j : Nat → AV) (jr : Nat → Row) (g : Nat), LoopAt E1 Tryz.f103 r 0 (version_ident_S0 l (IntKind.i64.wrap (i + (1 : Int))) j jr g)) ∧
 (((↑(UInt8.toNat (List.getD l (Int.toNat i) 0)) : Int) == (45 : Int)) = false →
 (bolP false) = r)))) ∧
 ((decide ((↑(UInt8.toNat (List.getD l (Int.toNat i) 0)) : Int) ≥ (48 : Int))) = false →
 ((decide ((↑(UInt8.toNat (List.getD l (Int.toNat i) 0)) : Int) ≥ (97 : Int))) = true →
 ((decide ((↑(UInt8.toNat (List.getD l (Int.toNat i) 0)) : Int) ≤ (122 : Int))) = true →
 ((decide ((↑(UInt8.toNat (List.getD l (Int.toNat i) 0)) : Int) ≤ (122 : Int))) = true) ∧
 (∀ (j : Nat → AV) (jr : Nat → Row) (g : Nat), LoopAt E1 Tryz.f103 r 0 (version_ident_S0 l (IntKind.i64.wrap (i + (1 : Int))) j jr g))) ∧
 ((decide ((↑(UInt8.toNat (List.getD l (Int.toNat i) 0)) : Int) ≤ (122 : Int))) = false →
 (((↑(UInt8.toNat (List.getD l (Int.toNat i) 0)) : Int) == (45 : Int)) = true →
 ∀ (j : Nat → AV) (jr : Nat → Row) (g : Nat), LoopAt E1 Tryz.f103 r 0 (version_ident_S0 l (IntKind.i64.wrap (i + (1 : Int))) j jr g)) ∧
 (((↑(UInt8.toNat (List.getD l (Int.toNat i) 0)) : Int) == (45 : Int)) = false →
 (bolP false) = r))) ∧
 ((decide ((↑(UInt8.toNat (List.getD l (Int.toNat i) 0)) : Int) ≥ (97 : Int))) = false →
 (((↑(UInt8.toNat (List.getD l (Int.toNat i) 0)) : Int) == (45 : Int)) = true →
 ∀ (j : Nat → AV) (jr : Nat → Row) (g : Nat), LoopAt E1 Tryz.f103 r 0 (version_ident_S0 l (IntKind.i64.wrap (i + (1 : Int))) j jr g)) ∧
 (((↑(UInt8.toNat (List.getD l (Int.toNat i) 0)) : Int) == (45 : Int)) = false →
 (bolP false) = r)))) ∧
 ((decide (i < (↑(ByteArray.size (bs l)) : Int))) = false →
 (Den E1 108 [strP l] (bolP (digitsL l))) ∧
 ((digitsL l) = true →
 (Den E1 109 [strP l] (bolP (plainL l))) ∧
 (bolP (plainL l)) = r) ∧
 ((digitsL l) = false →
 (bolP true) = r))) := by kernel_rfl
end Go.Proofs.YtlhfgonjcpapnaaGreatDoor.Abs

namespace Go.Proofs.YtlhfgonjcpapnaaGreatDoor.Abs
open Go Go.Proofs
theorem den_Compare_uint32 (x y : Int) : Den E1 123 [.lit (.int .u32 x), .lit (.int .u32 y)] (intP (cmpI x y)) := by
  refine den1 2000 _ rfl (by kernel_rfl) rfl rfl rfl (Eq.mpr (cmp_Compare_uint32_go x y _) ⟨den_isNaN_uint32 x, den_isNaN_uint32 y, fun h => ?_, fun h => ⟨fun h2 => ?_, fun h2 => ?_⟩⟩)
  · simp at h; simp [cmpI, h]
  · simp at h h2; simp [cmpI, h2, show ¬ x < y by omega]
  · simp at h h2; simp [cmpI, show ¬ x < y by omega, show ¬ y < x by omega]
theorem den_Compare_int (x y : Int) : Den E1 124 [intP x, intP y] (intP (cmpI x y)) := by
  refine den1 2000 _ rfl (by kernel_rfl) rfl rfl rfl (Eq.mpr (cmp_Compare_int_go x y _) ⟨den_isNaN_int x, den_isNaN_int y, fun h => ?_, fun h => ⟨fun h2 => ?_, fun h2 => ?_⟩⟩)
  · simp at h; simp [cmpI, h]
  · simp at h h2; simp [cmpI, h2, show ¬ x < y by omega]
  · simp at h h2; simp [cmpI, show ¬ x < y by omega, show ¬ y < x by omega]
theorem bytesLess_irrefl (a : List UInt8) : Op.bytesLess a a = false := by
  induction a with
  | nil => rfl
  | cons x a ih => simp [Op.bytesLess, ih]
theorem den_Compare_string (a b : List UInt8) : Den E1 149 [strP a, strP b] (intP (cmpS a b)) := by
  refine den1 2000 _ rfl (by kernel_rfl) rfl rfl rfl (Eq.mpr (cmp_Compare_string_go a b _) ⟨den_isNaN_string a, den_isNaN_string b, fun h => ?_, fun h => ⟨fun h2 => ?_, fun h2 => ?_⟩⟩)
  · rw [toList_bs, toList_bs] at h; simp [cmpS, h]
  · rw [toList_bs, toList_bs] at h h2; simp [h] at h2; simp [cmpS, h, h2]
  · rw [toList_bs, toList_bs] at h h2; simp [h] at h2; simp [cmpS, h2, bytesLess_irrefl]
theorem cmpI_self (x : Int) : cmpI x x = 0 := by simp [cmpI]
theorem cmpI_eq (x y : Int) : cmpI x y = 0 ↔ x = y := by
  unfold cmpI; split <;> (try split) <;> omega
theorem den_version_order (a b : List UInt8) (ha : small a.length) (hb : small b.length) : Den E1 126 [strP a, strP b] (intP (ordL a b)) := by
  refine den1 2000 _ rfl (by kernel_rfl) rfl rfl rfl (Eq.mpr (version_order_go a b _) ?_)
  refine ⟨den_version_digits a ha, fun h => ⟨den_version_digits b hb, fun h2 => ⟨rfl, rfl, rfl, rfl, den_Compare_int _ _, fun h3 => ?_, fun h3 => ⟨den_Compare_string _ _, ?_⟩⟩, fun h2 => ⟨rfl, rfl, ?_⟩⟩, fun h => ⟨den_version_digits b hb, fun h2 => ⟨rfl, rfl, rfl, ?_⟩, fun h2 => ⟨rfl, rfl, rfl, rfl, den_Compare_string _ _, ?_⟩⟩⟩
  · simp only [size_bs] at h3 ⊢; simp only [ordL, h, h2, h3]; rfl
  · simp only [size_bs] at h3; simp only [ordL, h, h2, h3]; rfl
  · simp only [ordL, h, h2]; rfl
  · simp only [ordL, h, h2]; rfl
  · simp only [ordL, h, h2]; rfl
theorem drop_nil {α : Type} {l : List α} {i : Nat} (h : l.length ≤ i) : l.drop i = [] := List.drop_eq_nil_of_le h
theorem den_CompareFunc (x y : List (List UInt8)) (k k' : Nat) (nl full nl' full' : Bool) (hx : slOk 1 k nl x.length) (hy : slOk 1 k' nl' y.length) (hlx : small x.length) (hly : small y.length) (hsx : ∀ s ∈ x, small s.length) (hsy : ∀ s ∈ y, small s.length) :
    Den E1 125 [preP k nl full x, preP k' nl' full' y, .clo (.func 126) [] []] (intP (cmpP x y)) := by
  refine den1 2000 _ rfl (by kernel_rfl) rfl rfl rfl (Eq.mpr (slices_CompareFunc_string_string_string_string_go x y k k' nl full nl' full' _) fun j jr g => ?_)
  have H : ∀ (n i : Nat) j jr g, i + n = x.length → cmpP x y = cmpP (x.drop i) (y.drop i) → i ≤ y.length → LoopAt E1 Tryz.f125 (intP (cmpP x y)) 0 (slices_CompareFunc_string_string_string_string_S0 x y k k' nl full nl' full' i j jr g) := by
    intro n
    induction n with
    | zero =>
      intro i j jr g hi hd hy'
      refine loop_go 2000 _ (Eq.mpr (slices_CompareFunc_string_string_string_string_go_S0 x y k k' nl full nl' full' i j jr g _) ⟨fun h => ?_, fun h => ⟨fun h2 => ?_, fun h2 => ?_⟩⟩)
      · simp at h; omega
      · simp at h2
        rw [hd, List.drop_eq_nil_of_le (by omega), List.drop_eq_getElem_cons (by omega)]; rfl
      · simp at h2
        rw [hd, List.drop_eq_nil_of_le (by omega), List.drop_eq_nil_of_le (by omega)]; rfl
    | succ n ih =>
      intro i j jr g hi hd hy'
      have h1 : i < x.length := by omega
      rw [List.drop_eq_getElem_cons h1] at hd
      refine loop_go 2000 _ (Eq.mpr (slices_CompareFunc_string_string_string_string_go_S0 x y k k' nl full nl' full' i j jr g _) ⟨fun h => ?_, fun h => ?_⟩)
      · simp only [Int.toNat_natCast, getD_lt h1]
        refine ⟨⟨by omega, sl_at hx h1⟩, by simp [h1, strP], fun h2 => ?_, fun h2 => ?_⟩
        · simp at h2
          rw [hd, drop_nil (l := y) (by omega)]; rfl
        · simp at h2
          have h3 : i < y.length := by omega
          rw [List.drop_eq_getElem_cons h3] at hd
          simp only [getD_lt h3]
          refine ⟨⟨by omega, sl_at hy h3⟩, by simp [h3, strP], den_version_order _ _ (hsx _ (by simp)) (hsy _ (by simp)), fun h4 => ?_, fun h4 j jr g => ?_⟩
          · rw [hd]; simp only [bne_iff_ne] at h4; simp only [cmpP, ne_eq, h4, not_false_eq_true, if_true]
          · simp only [bne_eq_false_iff_eq] at h4
            rw [wrap_i64 _ (by omega) (by unfold small at hlx; omega)]
            refine ih (i + 1) j jr g (by omega) ?_ (by omega)
            rw [hd]; simp only [cmpP, h4]; rfl
      · simp at h; omega
  exact H x.length 0 j jr g (by omega) rfl (by omega)
theorem den_compare (v w : V) (hv : v.ok) (hw : w.ok) : Den E1 85 [v.p, w.p] (intP (cmpV v w)) := by
  refine den1 2000 _ rfl (by kernel_rfl) rfl rfl rfl (Eq.mpr (version_compare_go v w _) ?_)
  refine ⟨rfl, rfl, den_Compare_uint32 _ _, rfl, rfl, den_Compare_uint32 _ _, rfl, rfl, den_Compare_uint32 _ _, den_Or _ _ _, fun h => ?_, fun h => ⟨rfl, fun h1 => ⟨rfl, rfl, den_Compare_int _ _, ?_⟩, fun h1 => ⟨rfl, fun h2 => ⟨rfl, rfl, den_Compare_int _ _, ?_⟩, fun h2 => ⟨rfl, rfl, den_CompareFunc _ _ _ _ _ _ _ _ hv.sl hw.sl hv.len hw.len hv.str hw.str, ?_⟩⟩⟩⟩
  · simp only [bne_iff_ne] at h; simp [cmpV, cmpN, h]
  · simp only [bne_eq_false_iff_eq, beq_iff_eq, List.length_map] at h h1 ⊢
    have h5 : v.pre.length = 0 := by omega
    simp only [cmpV, cmpN, h, h5, ne_eq, not_true, if_false, true_or, if_true]
  · simp only [bne_eq_false_iff_eq, beq_iff_eq, List.length_map] at h h2 ⊢
    have h5 : w.pre.length = 0 := by omega
    simp only [cmpV, cmpN, h, h5, ne_eq, not_true, if_false, or_true, if_true]
  · simp only [bne_eq_false_iff_eq, beq_eq_false_iff_ne, ne_eq, List.length_map] at h h1 h2
    have h5 : ¬ (v.pre.length = 0 ∨ w.pre.length = 0) := by omega
    simp only [cmpV, cmpN, h, h5, ne_eq, not_true, if_false]
end Go.Proofs.YtlhfgonjcpapnaaGreatDoor.Abs

namespace Go.Proofs.YtlhfgonjcpapnaaGreatDoor.Abs
open Go Go.Proofs
theorem version_May_1_go (l : List UInt8) (r : PV) : FnGo E1 Tryz.f102 [strP l] r 2000 (.res (bolP (identL l)) (.hole 0)) =
  ((Den E1 103 [strP l] (bolP (identL l))) ∧
 (bolP (!identL l)) = r) := by kernel_rfl
def slices_IndexFunc_string_string_S0 (x : List (List UInt8)) (k : Nat) (nl : Bool) (full : Bool) (i : Int) (j : Nat → AV) (jr : Nat → Row) (g : Nat) : St :=
  { t := [.pv (.sl k nl full (List.map strP x)), .pv (.clo (.func 102) [] [])] ++ jj j 2 5 ++ [intA ((↑(List.length (List.map strP x)) : Int)), intA i] ++ jj j 9 10, h := [List.replicate 19 row0], g := g }
theorem slices_IndexFunc_string_string_go (x : List (List UInt8)) (k : Nat) (nl : Bool) (full : Bool) (r : PV) : FnGo E1 Tryz.f134 [.sl k nl full (List.map strP x), .clo (.func 102) [] []] r 2000 (.mask (iv [(2, 6), (9, 18)]) []) =
  (∀ (j : Nat → AV) (jr : Nat → Row) (g : Nat), LoopAt E1 Tryz.f134 r 0 (slices_IndexFunc_string_string_S0 x k nl full (0 : Int) j jr g)) := by kernel_rfl
theorem slices_IndexFunc_string_string_go_S0 (x : List (List UInt8)) (k : Nat) (nl : Bool) (full : Bool) (i : Int) (j : Nat → AV) (jr : Nat → Row) (g : Nat) (r : PV) : LoopGo E1 Tryz.f134 r 0 2000 (.fork (.val (strP (List.getD x (Int.toNat i) default)) (.res (bolP (!identL (List.getD x (Int.toNat i) default))) (.fork (.hole 0) (.mask (iv [(2, 6), (9, 18)]) [])))) (.hole 0)) (slices_IndexFunc_string_string_S0 x k nl full i j jr g) =
  (((decide (i < (↑(List.length (List.map strP x)) : Int))) = true →
 (((0 : Int) ≤ i) ∧ ((nl = false) ∧ (k = 1))) ∧
 (((List.map strP x)[Int.toNat i]?) = some (strP (List.getD x (Int.toNat i) default))) ∧
 (Den E1 102 [strP (List.getD x (Int.toNat i) default)] (bolP (!identL (List.getD x (Int.toNat i) default)))) ∧
 ((!identL (List.getD x (Int.toNat i) default)) = true →
 (intP i) = r) ∧
 ((!identL (List.getD x (Int.toNat i) default)) = false →
 ∀ (j : Nat → AV) (jr : Nat → Row) (g : Nat), LoopAt E1 Tryz.f134 r 0 (slices_IndexFunc_string_string_S0 x k nl full (IntKind.i64.wrap (i + (1 : Int))) j jr g))) ∧
 ((decide (i < (↑(List.length (List.map strP x)) : Int))) = false →
 (intP (-1)) = r)) := by kernel_rfl
theorem slices_ContainsFunc_string_string_go (x : List (List UInt8)) (k : Nat) (nl : Bool) (full : Bool) (r : PV) : FnGo E1 Tryz.f101 [.sl k nl full (List.map strP x), .clo (.func 102) [] []] r 2000 (.res (intP (firstI (fun s => !identL s) x)) (.hole 0)) =
  ((Den E1 134 [.sl k nl full (List.map strP x), .clo (.func 102) [] []] (intP (firstI (fun s => !identL s) x))) ∧
 (bolP (decide (firstI (fun s => !identL s) x ≥ (0 : Int)))) = r) := by kernel_rfl
theorem version_May_go (v : V) (r : PV) : FnGo E1 Tryz.f59 [V.p v] r 2000 (.fork (.lts 11 (.hole 0)) (.lts 5 (.fork (.lts 5 (.hole 0)) (.lts 3 (.res (bolP (!List.all (V.pre v) identL)) (.lit (.fork (.hole 0) (.hole 0)))))))) =
  (((0 : Nat) = 0) ∧
 ((0 : Nat) = 0) ∧
 ((0 : Nat) = 0) ∧
 ((decide ((if V.c v > if V.b v > V.a v then V.b v else V.a v then V.c v else if V.b v > V.a v then V.b v else V.a v) > (2147483647 : Int))) = true →
 (intP 70) = r) ∧
 ((decide ((if V.c v > if V.b v > V.a v then V.b v else V.a v then V.c v else if V.b v > V.a v then V.b v else V.a v) > (2147483647 : Int))) = false →
 ((0 : Nat) = 0) ∧
 ((decide ((↑(List.length (List.map strP (V.pre v))) : Int) > (8 : Int))) = true →
 (intP 70) = r) ∧
 ((decide ((↑(List.length (List.map strP (V.pre v))) : Int) > (8 : Int))) = false →
 ((0 : Nat) = 0) ∧
 (Den E1 101 [V.q v, .clo (.func 102) [] []] (bolP (!List.all (V.pre v) identL))) ∧
 ((!List.all (V.pre v) identL) = true →
 (intP 70) = r) ∧
 ((!List.all (V.pre v) identL) = false →
 (intP 0) = r)))) := by kernel_rfl
end Go.Proofs.YtlhfgonjcpapnaaGreatDoor.Abs

namespace Go.Proofs.YtlhfgonjcpapnaaGreatDoor.Abs
open Go Go.Proofs
theorem identC_iff (b : UInt8) : identC b = true ↔ (48 ≤ (b.toNat : Int) ∧ (b.toNat : Int) ≤ 57) ∨ (97 ≤ (b.toNat : Int) ∧ (b.toNat : Int) ≤ 122) ∨ (b.toNat : Int) = 45 := by
  simp [identC, isDig]
  omega
theorem beq_nil (l : List UInt8) : (l == []) = l.isEmpty := by cases l <;> rfl
theorem den_version_ident (l : List UInt8) : Den E1 103 [strP l] (bolP (identL l)) := by
  refine den1 2000 _ rfl (by kernel_rfl) rfl rfl rfl (Eq.mpr (version_ident_go l _) ?_)
  simp only [toList_bs, size_bs, beq_nil]
  refine ⟨fun h => by simp [identL, h], fun h0 => ⟨fun h => ?_, fun h1 j jr g => ?_⟩⟩
  · simp at h
    have : ¬ l.length ≤ 16 := by omega
    simp [identL, this]
  simp at h1
  have hne : l ≠ [] := by intro e; subst e; simp at h0
  have hsm : small l.length := by unfold small; omega
  have H : ∀ (n i : Nat) j jr g, i + n = l.length → identL l = ((l.drop i).all identC && (!digitsL l || plainL l)) → LoopAt E1 Tryz.f103 (bolP (identL l)) 0 (version_ident_S0 l i j jr g) := by
    intro n
    induction n with
    | zero =>
      intro i j jr g hi hd
      refine loop_go 2000 _ (Eq.mpr (version_ident_go_S0 l i j jr g _) ⟨fun h => ?_, fun h => ⟨den_version_digits l hsm, fun h2 => ⟨den_version_plain l hne, ?_⟩, fun h2 => ?_⟩⟩)
      · simp [size_bs] at h; omega
      · rw [hd, drop_nil (by omega)]; simp [h2]
      · rw [hd, drop_nil (by omega)]; simp [h2]
    | succ n ih =>
      intro i j jr g hi hd
      have hlt : i < l.length := by omega
      rw [drop_all hlt] at hd
      have hw : IntKind.wrap IntKind.i64 ((i : Int) + 1) = ((i + 1 : Nat) : Int) := wrap_i64 _ (by omega) (by omega)
      refine loop_go 2000 _ (Eq.mpr (version_ident_go_S0 l i j jr g _) ⟨fun h => ?_, fun h => ?_⟩)
      · simp only [Int.toNat_natCast, gI_nat, gI_zero, getD_lt hlt, size_bs, hw, decide_eq_true_eq, decide_eq_false_iff_not, beq_iff_eq, beq_eq_false_iff_ne, ne_eq]
        have hc := identC_iff l[i]
        cases hb : identC l[i] with
        | true =>
          rw [hb] at hc hd
          have hc := hc.1 rfl
          have hL := fun j jr g => ih (i + 1) j jr g (by omega) (by rw [hd]; simp)
          generalize (l[i].toNat : Int) = c at hc ⊢
          refine ⟨⟨by omega, hlt⟩, ?_⟩
          repeat' (first | exact hL | omega | refine ⟨?_, ?_⟩ | intro _)
        | false =>
          rw [hb] at hc hd
          have hc : ¬ _ := fun h => absurd (hc.2 h) (by simp)
          have hL : identL l = false := by rw [hd]; simp
          rw [hL]
          generalize (l[i].toNat : Int) = c at hc ⊢
          refine ⟨⟨by omega, hlt⟩, ?_⟩
          repeat' (first | rfl | (exfalso; apply hc; omega) | omega | refine ⟨?_, ?_⟩ | intro _)
      · simp [size_bs] at h; omega
  have h16 : l.length ≤ 16 := by omega
  exact H l.length 0 j jr g (by omega) (by simp [identL, h0, h16])
theorem den_May_1 (l : List UInt8) : Den E1 102 [strP l] (bolP (!identL l)) :=
  den1 2000 _ rfl (by kernel_rfl) rfl rfl rfl (Eq.mpr (version_May_1_go l _) ⟨den_version_ident l, rfl⟩)
theorem den_IndexFunc (x : List (List UInt8)) (k : Nat) (nl full : Bool) (hx : slOk 1 k nl x.length) (hl : small x.length) : Den E1 134 [preP k nl full x, .clo (.func 102) [] []] (intP (firstI (fun s => !identL s) x)) := by
  refine den1 2000 _ rfl (by kernel_rfl) rfl rfl rfl (Eq.mpr (slices_IndexFunc_string_string_go x k nl full _) fun j jr g => ?_)
  have H : ∀ (n i : Nat) j jr g, i + n = x.length → x.findIdx (fun s => !identL s) = i + (x.drop i).findIdx (fun s => !identL s) → LoopAt E1 Tryz.f134 (intP (firstI (fun s => !identL s) x)) 0 (slices_IndexFunc_string_string_S0 x k nl full i j jr g) := by
    intro n
    induction n with
    | zero =>
      intro i j jr g hi hd
      refine loop_go 2000 _ (Eq.mpr (slices_IndexFunc_string_string_go_S0 x k nl full i j jr g _) ⟨fun h => ?_, fun h => ?_⟩)
      · simp at h; omega
      · rw [drop_nil (by omega)] at hd
        simp only [List.findIdx_nil] at hd
        simp only [firstI]
        rw [hd, if_neg (by omega)]
    | succ n ih =>
      intro i j jr g hi hd
      have h1 : i < x.length := by omega
      rw [List.drop_eq_getElem_cons h1, List.findIdx_cons] at hd
      refine loop_go 2000 _ (Eq.mpr (slices_IndexFunc_string_string_go_S0 x k nl full i j jr g _) ⟨fun h => ?_, fun h => ?_⟩)
      · simp only [Int.toNat_natCast, gI_nat, gI_zero, getD_lt h1]
        refine ⟨⟨by omega, sl_at hx h1⟩, by simp [h1, strP], den_May_1 _, fun h2 => ?_, fun h2 j jr g => ?_⟩
        · rw [h2] at hd
          simp only [cond_true] at hd
          simp only [firstI]
          rw [hd, if_pos (by omega)]
          rfl
        · rw [h2] at hd
          simp only [cond_false] at hd
          rw [wrap_i64 _ (by omega) (by unfold small at hl; omega)]
          exact ih (i + 1) j jr g (by omega) (by rw [hd]; omega)
      · simp at h; omega
  exact H x.length 0 j jr g (by omega) (by simp)
theorem firstI_ge (x : List (List UInt8)) : decide (firstI (fun s => !identL s) x ≥ 0) = !x.all identL := by
  unfold firstI
  by_cases h : x.findIdx (fun s => !identL s) < x.length
  · rw [if_pos h]
    have h1 := List.findIdx_getElem (w := h)
    have h2 : x.all identL = false := by
      rw [List.all_eq_false]
      exact ⟨_, List.getElem_mem h, by simpa using h1⟩
    rw [h2]; simp
  · rw [if_neg h]
    have h2 : x.all identL = true := by
      rw [List.all_eq_true]
      intro s hs
      have h3 := List.findIdx_lt_length (p := fun s => !identL s) (xs := x)
      cases hc : identL s with
      | true => rfl
      | false => exact absurd (h3.2 ⟨s, hs, by simp [hc]⟩) h
    rw [h2]; rfl
theorem den_ContainsFunc (x : List (List UInt8)) (k : Nat) (nl full : Bool) (hx : slOk 1 k nl x.length) (hl : small x.length) : Den E1 101 [preP k nl full x, .clo (.func 102) [] []] (bolP (!x.all identL)) :=
  den1 2000 _ rfl (by kernel_rfl) rfl rfl rfl (Eq.mpr (slices_ContainsFunc_string_string_go x k nl full _) ⟨den_IndexFunc x k nl full hx hl, by rw [firstI_ge]⟩)
theorem max3 (a b c m : Int) : (if c > (if b > a then b else a) then c else (if b > a then b else a)) > m ↔ ¬ (a ≤ m ∧ b ≤ m ∧ c ≤ m) := by
  split <;> split <;> omega
theorem mayV_num (v : V) (h : ¬ (v.a ≤ 2147483647 ∧ v.b ≤ 2147483647 ∧ v.c ≤ 2147483647)) : mayV v = false := by
  simp [mayV]; omega
theorem den_version_May (v : V) (hv : v.ok) : Den E1 59 [v.p] (intP (errV (mayV v))) := by
  refine den1 2000 _ rfl (by kernel_rfl) rfl rfl rfl (Eq.mpr (version_May_go v _) ?_)
  simp only [decide_eq_true_eq, decide_eq_false_iff_not, max3, List.length_map]
  refine ⟨trivial, trivial, trivial, fun h => ?_, fun h => ⟨trivial, fun h1 => ?_, fun h1 => ⟨trivial, den_ContainsFunc _ _ _ _ hv.sl hv.len, fun h2 => ?_, fun h2 => ?_⟩⟩⟩
  · rw [mayV_num v h]; rfl
  · have : mayV v = false := by
      have h5 : ¬ v.pre.length ≤ 8 := by omega
      simp [mayV, h5]
    rw [this]; rfl
  · have : mayV v = false := by
      simp only [Bool.not_eq_true'] at h2
      simp [mayV, h2]
    rw [this]; rfl
  · have : mayV v = true := by
      simp only [Bool.not_eq_false'] at h2
      have h5 : v.pre.length ≤ 8 := by omega
      simp [mayV, h2, h5]; omega
    rw [this]; rfl
end Go.Proofs.YtlhfgonjcpapnaaGreatDoor.Abs

namespace Go.Proofs.YtlhfgonjcpapnaaGreatDoor.Abs
open Go Go.Proofs
def ordV (v w : V) : Int := if mayV v && mayV w then cmpV v w else 0
def befE (a b : Ed) : Int :=
  if a.less && b.less then 0 else if a.less then 1 else if b.less then -1
  else if ordV a.v b.v != 0 then ordV a.v b.v
  else if a.behind == b.behind then 0 else if b.behind then -1 else 1
def zeroB (v : V) : Bool := v.a == 0 && v.b == 0 && v.c == 0 && decide (v.pre.length = 0)
def rightI (x : I) : Bool := mayV x.lo && mayV x.hi && (!x.less || (!x.hopen && zeroB x.hi))
def emptyI (x : I) : Bool := !x.less && (decide (cmpV x.lo x.hi > 0) || (cmpV x.lo x.hi == 0 && (x.lopen || x.hopen)))
def lowB (x y : Bd) : Int := if cmpV x.v y.v != 0 || x.op == y.op then cmpV x.v y.v else if y.op then -1 else 1
def touchI (x y : I) : Bool := x.less || (decide (cmpV x.hi y.lo > 0) || (cmpV x.hi y.lo == 0 && !(x.hopen && y.lopen)))
def I.lb (x : I) : Bd := ⟨x.lo, x.lopen⟩
end Go.Proofs.YtlhfgonjcpapnaaGreatDoor.Abs

namespace Go.Proofs.YtlhfgonjcpapnaaGreatDoor.Abs
open Go Go.Proofs
theorem version_Cmp_go (v : V) (w : V) (r : PV) : FnGo E1 Tryz.f111 [V.p v, V.p w] r 2000 (.res (intP (errV (mayV v))) (.fork (.lts 5 (.hole 0)) (.lit (.lit (.res (intP (errV (mayV w))) (.lit (.lit (.fork (.hole 0) (.res (intP (cmpV v w)) (.hole 0)))))))))) =
  (((0 : Nat) = 0) ∧
 (Den E1 59 [V.p v] (intP (errV (mayV v)))) ∧
 ((errV (mayV v) != (0 : Int)) = true →
 ((.tup [intP 0, intP 70]) : PV) = r) ∧
 ((errV (mayV v) != (0 : Int)) = false →
 ((1 : Nat) = 1) ∧
 (Den E1 59 [V.p w] (intP (errV (mayV w)))) ∧
 ((errV (mayV w) != (0 : Int)) = true →
 ((.tup [intP 0, intP 70]) : PV) = r) ∧
 ((errV (mayV w) != (0 : Int)) = false →
 ((0 : Nat) = 0) ∧
 ((1 : Nat) = 1) ∧
 (Den E1 85 [V.p v, V.p w] (intP (cmpV v w))) ∧
 ((.tup [intP (cmpV v w), intP 0]) : PV) = r))) := by kernel_rfl
theorem span_order_go (v : V) (w : V) (r : PV) : FnGo E1 Tryz.f72 [V.p v, V.p w] r 2000 (.res (.tup [intP (ordV v w), intP (errV (mayV v && mayV w))]) (.hole 0)) =
  (((0 : Nat) = 0) ∧
 ((1 : Nat) = 1) ∧
 (Den E1 111 [V.p v, V.p w] (.tup [intP (ordV v w), intP (errV (mayV v && mayV w))])) ∧
 (intP (ordV v w)) = r) := by kernel_rfl
theorem span_before_go (x : Ed) (y : Ed) (r : PV) : FnGo E1 Tryz.f36 [Ed.p ⟨(Ed.v x), (Ed.behind x), (Ed.less x)⟩, Ed.p ⟨(Ed.v y), (Ed.behind y), (Ed.less y)⟩] r 2000 (.fork (.lts 3 (.fork (.hole 0) (.br true (.hole 0)))) (.lts 4 (.br false (.fork (.hole 0) (.res (intP (ordV (Ed.v x) (Ed.v y))) (.fork (.hole 0) (.fork (.hole 0) (.fork (.hole 0) (.hole 0))))))))) =
  (((0 : Nat) = 0) ∧
 ((Ed.less x) = true →
 ((1 : Nat) = 1) ∧
 ((Ed.less y) = true →
 (intP 0) = r) ∧
 ((Ed.less y) = false →
 ((0 : Nat) = 0) ∧
 ((Ed.less x) = true) ∧
 (intP 1) = r)) ∧
 ((Ed.less x) = false →
 ((0 : Nat) = 0) ∧
 ((Ed.less x) = false) ∧
 ((1 : Nat) = 1) ∧
 ((Ed.less y) = true →
 (intP (-1)) = r) ∧
 ((Ed.less y) = false →
 ((0 : Nat) = 0) ∧
 ((1 : Nat) = 1) ∧
 (Den E1 72 [V.p (Ed.v x), V.p (Ed.v y)] (intP (ordV (Ed.v x) (Ed.v y)))) ∧
 ((ordV (Ed.v x) (Ed.v y) != (0 : Int)) = true →
 (intP (ordV (Ed.v x) (Ed.v y))) = r) ∧
 ((ordV (Ed.v x) (Ed.v y) != (0 : Int)) = false →
 ((0 : Nat) = 0) ∧
 ((1 : Nat) = 1) ∧
 ((Ed.behind x == Ed.behind y) = true →
 (intP 0) = r) ∧
 ((Ed.behind x == Ed.behind y) = false →
 ((1 : Nat) = 1) ∧
 ((Ed.behind y) = true →
 (intP (-1)) = r) ∧
 ((Ed.behind y) = false →
 (intP 1) = r)))))) := by kernel_rfl
theorem span_right_go (x : I) (r : PV) : FnGo E1 Tryz.f35 [I.p x] r 2000 (.res (intP (errV (mayV (I.lo x)))) (.fork (.lts 7 (.hole 0)) (.lts 4 (.res (intP (errV (mayV (I.hi x)))) (.lit (.lit (.fork (.hole 0) (.fork (.lts 12 (.hole 0)) (.lts 4 (.fork (.lts 7 (.fork (.lts 7 (.fork (.lts 7 (.fork (.lts 8 (.hole 0)) (.lts 8 (.hole 0)))) (.lts 16 (.hole 0)))) (.lts 24 (.hole 0)))) (.lts 32 (.hole 0)))))))))))) =
  (((0 : Nat) = 0) ∧
 (Den E1 59 [V.p (I.lo x)] (intP (errV (mayV (I.lo x))))) ∧
 ((errV (mayV (I.lo x)) != (0 : Int)) = true →
 (bolP false) = r) ∧
 ((errV (mayV (I.lo x)) != (0 : Int)) = false →
 ((0 : Nat) = 0) ∧
 (Den E1 59 [V.p (I.hi x)] (intP (errV (mayV (I.hi x))))) ∧
 ((errV (mayV (I.hi x)) != (0 : Int)) = true →
 (bolP false) = r) ∧
 ((errV (mayV (I.hi x)) != (0 : Int)) = false →
 ((0 : Nat) = 0) ∧
 ((16 : Nat) = 16) ∧
 ((0 : Nat) = 0) ∧
 ((!I.less x) = true →
 (bolP true) = r) ∧
 ((!I.less x) = false →
 ((16 : Nat) = 16) ∧
 ((!I.hopen x) = true →
 ((16 : Nat) = 16) ∧
 ((V.a (I.hi x) == (0 : Int)) = true →
 ((16 : Nat) = 16) ∧
 ((V.b (I.hi x) == (0 : Int)) = true →
 ((16 : Nat) = 16) ∧
 ((V.c (I.hi x) == (0 : Int)) = true →
 ((16 : Nat) = 16) ∧
 (bolP ((↑(List.length (List.map strP (V.pre (I.hi x)))) : Int) == (0 : Int))) = r) ∧
 ((V.c (I.hi x) == (0 : Int)) = false →
 (bolP false) = r)) ∧
 ((V.b (I.hi x) == (0 : Int)) = false →
 (bolP false) = r)) ∧
 ((V.a (I.hi x) == (0 : Int)) = false →
 (bolP false) = r)) ∧
 ((!I.hopen x) = false →
 (bolP false) = r))))) := by kernel_rfl
end Go.Proofs.YtlhfgonjcpapnaaGreatDoor.Abs

namespace Go.Proofs.YtlhfgonjcpapnaaGreatDoor.Abs
open Go Go.Proofs
theorem errV_ne (b : Bool) : (errV b != 0) = !b := by cases b <;> rfl
theorem den_version_Cmp (v w : V) (hv : v.ok) (hw : w.ok) : Den E1 111 [v.p, w.p] (.tup [intP (ordV v w), intP (errV (mayV v && mayV w))]) := by
  refine den1 2000 _ rfl (by kernel_rfl) rfl rfl rfl (Eq.mpr (version_Cmp_go v w _) ?_)
  simp only [errV_ne, Bool.not_eq_true', Bool.not_eq_false']
  refine ⟨trivial, den_version_May v hv, fun h => ?_, fun h => ⟨trivial, den_version_May w hw, fun h1 => ?_, fun h1 => ⟨trivial, trivial, den_compare v w hv hw, ?_⟩⟩⟩
  · simp [ordV, h, errV]
  · simp [ordV, h, h1, errV]
  · simp [ordV, h, h1, errV]
theorem den_span_order (v w : V) (hv : v.ok) (hw : w.ok) : Den E1 72 [v.p, w.p] (intP (ordV v w)) :=
  den1 2000 _ rfl (by kernel_rfl) rfl rfl rfl (Eq.mpr (span_order_go v w _) ⟨rfl, rfl, den_version_Cmp v w hv hw, rfl⟩)
theorem den_before (a b : Ed) (ha : a.v.ok) (hb : b.v.ok) : Den E1 36 [a.p, b.p] (intP (befE a b)) := by
  refine den1 2000 _ rfl (by kernel_rfl) rfl rfl rfl (Eq.mpr (span_before_go a b _) ?_)
  refine ⟨rfl, fun h => ⟨rfl, fun h1 => ?_, fun h1 => ⟨rfl, h, ?_⟩⟩, fun h => ⟨rfl, h, rfl, fun h1 => ?_, fun h1 => ⟨rfl, rfl, den_span_order _ _ ha hb, fun h2 => ?_, fun h2 => ⟨rfl, rfl, fun h3 => ?_, fun h3 => ⟨rfl, fun h4 => ?_, fun h4 => ?_⟩⟩⟩⟩⟩
  · simp [befE, h, h1]
  · simp [befE, h, h1]
  · simp [befE, h, h1]
  · simp [befE, h, h1, h2]
  · simp only [befE, h, h1, h2, h3]; rfl
  · simp only [befE, h, h1, h2, h3]; simp [h4]
  · simp only [befE, h, h1, h2, h3]; simp [h4]
theorem beq_nat (n : Nat) : ((n : Int) == 0) = decide (n = 0) := by rw [Bool.eq_iff_iff]; simp
theorem den_span_right (x : I) (hx : x.ok) : Den E1 35 [x.p] (bolP (rightI x)) := by
  refine den1 2000 _ rfl (by kernel_rfl) rfl rfl rfl (Eq.mpr (span_right_go x _) ?_)
  simp only [errV_ne, Bool.not_eq_true', Bool.not_eq_false', List.length_map, beq_nat]
  refine ⟨trivial, den_version_May _ hx.lo, fun h => ?_, fun h => ⟨trivial, den_version_May _ hx.hi, fun h1 => ?_, fun h1 => ⟨trivial, trivial, trivial, fun h2 => ?_, fun h2 => ⟨trivial, fun h3 => ⟨trivial, fun h4 => ⟨trivial, fun h5 => ⟨trivial, fun h6 => ⟨trivial, ?_⟩, fun h6 => ?_⟩, fun h5 => ?_⟩, fun h4 => ?_⟩, fun h3 => ?_⟩⟩⟩⟩
  · simp [rightI, h]
  · simp [rightI, h, h1]
  · simp [rightI, h, h1, h2]
  · simp [rightI, h, h1, h2, h3, zeroB, h4, h5, h6]
  · simp [rightI, h, h1, h2, h3, zeroB, h4, h5, h6]
  · simp [rightI, h, h1, h2, h3, zeroB, h4, h5]
  · simp [rightI, h, h1, h2, h3, zeroB, h4]
  · simp [rightI, h, h1, h2, h3]
end Go.Proofs.YtlhfgonjcpapnaaGreatDoor.Abs

namespace Go.Proofs.YtlhfgonjcpapnaaGreatDoor.Abs
open Go Go.Proofs
def span_May_S0 (l : List I) (k : Nat) (nl : Bool) (full : Bool) (i : Int) (j : Nat → AV) (jr : Nat → Row) (g : Nat) : St :=
  { t := [.pv (.sl k nl full (List.map I.p l))] ++ jj j 1 7 ++ [.pv (.sl k nl full (List.map I.p l)), intA ((↑(List.length (List.map I.p l)) : Int)), intA i] ++ jj j 11 32, h := [List.replicate 4 row0 ++ [jr 4] ++ List.replicate 38 row0], g := g }
theorem span_May_go (l : List I) (k : Nat) (nl : Bool) (full : Bool) (r : PV) : FnGo E1 Tryz.f12 [.sl k nl full (List.map I.p l)] r 2000 (.fork (.hole 0) (.mask (iv [(1, 7), (11, 42)]) [4])) =
  (((decide ((↑(List.length (List.map I.p l)) : Int) > (16 : Int))) = true →
 (intP 80) = r) ∧
 ((decide ((↑(List.length (List.map I.p l)) : Int) > (16 : Int))) = false →
 ∀ (j : Nat → AV) (jr : Nat → Row) (g : Nat), LoopAt E1 Tryz.f12 r 0 (span_May_S0 l k nl full (0 : Int) j jr g))) := by kernel_rfl
theorem span_May_go_S0 (l : List I) (k : Nat) (nl : Bool) (full : Bool) (i : Int) (j : Nat → AV) (jr : Nat → Row) (g : Nat) (r : PV) : LoopGo E1 Tryz.f12 r 0 2000 (.fork (.val (I.p (gI l i)) (.res (bolP (rightI (gI l i))) (.fork (.lts 14 (.hole 0)) (.lit (.lit (.res (Ed.p ⟨(I.lo (gI l i)), (I.lopen (gI l i)), false⟩) (.lit (.lit (.res (Ed.p ⟨(I.hi (gI l i)), (!I.hopen (gI l i)), (I.less (gI l i))⟩) (.lit (.res (intP (befE ⟨I.lo (gI l i), I.lopen (gI l i), false⟩ ⟨I.hi (gI l i), !I.hopen (gI l i), I.less (gI l i)⟩)) (.lit (.lit (.fork (.lts 6 (.hole 0)) (.lts 3 (.fork (.lts 4 (.val (I.p (List.getD l (Int.toNat (IntKind.i64.wrap (i - (1 : Int)))) default)) (.lit (.lit (.res (Ed.p ⟨(I.hi (List.getD l (Int.toNat (IntKind.i64.wrap (i - (1 : Int)))) default)), (!I.hopen (List.getD l (Int.toNat (IntKind.i64.wrap (i - (1 : Int)))) default)), (I.less (List.getD l (Int.toNat (IntKind.i64.wrap (i - (1 : Int)))) default))⟩) (.lit (.lit (.res (Ed.p ⟨(I.lo (gI l i)), (I.lopen (gI l i)), false⟩) (.lit (.res (intP (befE ⟨I.hi (List.getD l (Int.toNat (IntKind.i64.wrap (i - (1 : Int)))) default), !I.hopen (List.getD l (Int.toNat (IntKind.i64.wrap (i - (1 : Int)))) default), I.less (List.getD l (Int.toNat (IntKind.i64.wrap (i - (1 : Int)))) default)⟩ ⟨I.lo (gI l i), I.lopen (gI l i), false⟩)) (.lts 4 (.fork (.hole 0) (.mask (iv [(1, 7), (11, 42)]) [4]))))))))))))) (.lts 14 (.mask (iv [(1, 7), (11, 42)]) [4])))))))))))))))))) (.hole 0)) (span_May_S0 l k nl full i j jr g) =
  (((decide (i < (↑(List.length (List.map I.p l)) : Int))) = true →
 (((0 : Int) ≤ i) ∧ ((nl = false) ∧ (k = 11))) ∧
 (((List.map I.p l)[Int.toNat i]?) = some (I.p (gI l i))) ∧
 ((g + 1 + 3) = g + 1 + 3) ∧
 ((g + 1 + 3) = g + 1 + 3) ∧
 (Den E1 35 [I.p (gI l i)] (bolP (rightI (gI l i)))) ∧
 ((!rightI (gI l i)) = true →
 (intP 80) = r) ∧
 ((!rightI (gI l i)) = false →
 ((g + 1 + 3) = g + 1 + 3) ∧
 (Den E1 37 [I.p (gI l i)] (Ed.p ⟨(I.lo (gI l i)), (I.lopen (gI l i)), false⟩)) ∧
 ((g + 1 + 3) = g + 1 + 3) ∧
 (Den E1 38 [I.p (gI l i)] (Ed.p ⟨(I.hi (gI l i)), (!I.hopen (gI l i)), (I.less (gI l i))⟩)) ∧
 (Den E1 36 [Ed.p ⟨(I.lo (gI l i)), (I.lopen (gI l i)), false⟩, Ed.p ⟨(I.hi (gI l i)), (!I.hopen (gI l i)), (I.less (gI l i))⟩] (intP (befE ⟨I.lo (gI l i), I.lopen (gI l i), false⟩ ⟨I.hi (gI l i), !I.hopen (gI l i), I.less (gI l i)⟩))) ∧
 ((decide (befE ⟨I.lo (gI l i), I.lopen (gI l i), false⟩ ⟨I.hi (gI l i), !I.hopen (gI l i), I.less (gI l i)⟩ ≥ (0 : Int))) = true →
 (intP 80) = r) ∧
 ((decide (befE ⟨I.lo (gI l i), I.lopen (gI l i), false⟩ ⟨I.hi (gI l i), !I.hopen (gI l i), I.less (gI l i)⟩ ≥ (0 : Int))) = false →
 ((decide (i > (0 : Int))) = true →
 (((0 : Int) ≤ IntKind.i64.wrap (i - (1 : Int))) ∧ ((nl = false) ∧ (k = 11))) ∧
 (((List.map I.p l)[Int.toNat (IntKind.i64.wrap (i - (1 : Int)))]?) = some (I.p (List.getD l (Int.toNat (IntKind.i64.wrap (i - (1 : Int)))) default))) ∧
 (Den E1 38 [I.p (List.getD l (Int.toNat (IntKind.i64.wrap (i - (1 : Int)))) default)] (Ed.p ⟨(I.hi (List.getD l (Int.toNat (IntKind.i64.wrap (i - (1 : Int)))) default)), (!I.hopen (List.getD l (Int.toNat (IntKind.i64.wrap (i - (1 : Int)))) default)), (I.less (List.getD l (Int.toNat (IntKind.i64.wrap (i - (1 : Int)))) default))⟩)) ∧
 ((g + 1 + 3) = g + 1 + 3) ∧
 (Den E1 37 [I.p (gI l i)] (Ed.p ⟨(I.lo (gI l i)), (I.lopen (gI l i)), false⟩)) ∧
 (Den E1 36 [Ed.p ⟨(I.hi (List.getD l (Int.toNat (IntKind.i64.wrap (i - (1 : Int)))) default)), (!I.hopen (List.getD l (Int.toNat (IntKind.i64.wrap (i - (1 : Int)))) default)), (I.less (List.getD l (Int.toNat (IntKind.i64.wrap (i - (1 : Int)))) default))⟩, Ed.p ⟨(I.lo (gI l i)), (I.lopen (gI l i)), false⟩] (intP (befE ⟨I.hi (List.getD l (Int.toNat (IntKind.i64.wrap (i - (1 : Int)))) default), !I.hopen (List.getD l (Int.toNat (IntKind.i64.wrap (i - (1 : Int)))) default), I.less (List.getD l (Int.toNat (IntKind.i64.wrap (i - (1 : Int)))) default)⟩ ⟨I.lo (gI l i), I.lopen (gI l i), false⟩))) ∧
 ((decide (befE ⟨I.hi (List.getD l (Int.toNat (IntKind.i64.wrap (i - (1 : Int)))) default), !I.hopen (List.getD l (Int.toNat (IntKind.i64.wrap (i - (1 : Int)))) default), I.less (List.getD l (Int.toNat (IntKind.i64.wrap (i - (1 : Int)))) default)⟩ ⟨I.lo (gI l i), I.lopen (gI l i), false⟩ ≥ (0 : Int))) = true →
 (intP 80) = r) ∧
 ((decide (befE ⟨I.hi (List.getD l (Int.toNat (IntKind.i64.wrap (i - (1 : Int)))) default), !I.hopen (List.getD l (Int.toNat (IntKind.i64.wrap (i - (1 : Int)))) default), I.less (List.getD l (Int.toNat (IntKind.i64.wrap (i - (1 : Int)))) default)⟩ ⟨I.lo (gI l i), I.lopen (gI l i), false⟩ ≥ (0 : Int))) = false →
 ∀ (j : Nat → AV) (jr : Nat → Row) (g : Nat), LoopAt E1 Tryz.f12 r 0 (span_May_S0 l k nl full (IntKind.i64.wrap (i + (1 : Int))) j jr g))) ∧
 ((decide (i > (0 : Int))) = false →
 ∀ (j : Nat → AV) (jr : Nat → Row) (g : Nat), LoopAt E1 Tryz.f12 r 0 (span_May_S0 l k nl full (IntKind.i64.wrap (i + (1 : Int))) j jr g))))) ∧
 ((decide (i < (↑(List.length (List.map I.p l)) : Int))) = false →
 (intP 0) = r)) := by kernel_rfl
end Go.Proofs.YtlhfgonjcpapnaaGreatDoor.Abs

namespace Go.Proofs.YtlhfgonjcpapnaaGreatDoor.Abs
open Go Go.Proofs
def stepOk (p : Option I) (x : I) : Bool := rightI x && decide (befE x.low x.high < 0) && (match p with
  | none => true
  | some p => decide (befE p.high x.low < 0))
def chainOk : Option I → List I → Bool
  | _, [] => true
  | p, x :: l => stepOk p x && chainOk (some x) l
def mayS (l : List I) : Bool := decide (l.length ≤ 16) && chainOk none l
def errS (b : Bool) : Int := if b then 0 else 80
def prevOf (l : List I) : Nat → Option I
  | 0 => none
  | i + 1 => l[i]?
def pairsS : List I → Bool
  | x :: y :: l => decide (lowB x.lb y.lb < 0) && !touchI x y && pairsS (y :: l)
  | _ => true
def mayR (l : List I) : Bool := decide (l.length ≤ 16) && l.all (fun x => rightI x && !emptyI x) && pairsS l
theorem right_lo {x : I} (h : rightI x = true) : mayV x.lo = true := by simp [rightI] at h; exact h.1.1
theorem right_hi {x : I} (h : rightI x = true) : mayV x.hi = true := by simp [rightI] at h; exact h.1.2
theorem mapI_get {l : List I} {i : Nat} (h : i < l.length) : (List.map I.p l)[i]? = some (I.p l[i]) := by simp [h]
theorem den_span_May (l : List I) (k : Nat) (nl full : Bool) (hsl : slOk 11 k nl l.length) (hok : ∀ x ∈ l, x.ok) : Den E1 12 [listP k nl full l] (intP (errS (mayS l))) := by
  refine den1 2000 _ rfl (by kernel_rfl) rfl rfl rfl (Eq.mpr (span_May_go l k nl full _) ⟨fun h => ?_, fun h j jr g => ?_⟩)
  · simp only [decide_eq_true_eq, List.length_map] at h
    have h5 : ¬ l.length ≤ 16 := by omega
    simp [mayS, h5, errS]
  simp only [decide_eq_false_iff_not, List.length_map] at h
  have h16 : l.length ≤ 16 := by omega
  have H : ∀ (n i : Nat) j jr g, i + n = l.length → mayS l = chainOk (prevOf l i) (l.drop i) → LoopAt E1 Tryz.f12 (intP (errS (mayS l))) 0 (span_May_S0 l k nl full i j jr g) := by
    intro n
    induction n with
    | zero =>
      intro i j jr g hi hd
      refine loop_go 2000 _ (Eq.mpr (span_May_go_S0 l k nl full i j jr g _) ⟨fun h => ?_, fun h => ?_⟩)
      · simp at h; omega
      · rw [hd, drop_nil (by omega)]; rfl
    | succ n ih =>
      intro i j jr g hi hd
      have h1 : i < l.length := by omega
      rw [List.drop_eq_getElem_cons h1, chainOk] at hd
      have hx : l[i].ok := hok _ (by simp)
      have hw : IntKind.wrap IntKind.i64 ((i : Int) + 1) = ((i + 1 : Nat) : Int) := wrap_i64 _ (by omega) (by omega)
      refine loop_go 2000 _ (Eq.mpr (span_May_go_S0 l k nl full i j jr g _) ⟨fun h => ?_, fun h => ?_⟩)
      · simp only [Int.toNat_natCast, gI_nat, gI_zero, getD_lt h1, hw]
        have hm := mapI_get h1
        have hn : l[i]? = some l[i] := by simp [h1]
        generalize l[i] = x at hd hx hm hn ⊢
        refine ⟨⟨by omega, sl_at hsl h1⟩, hm, trivial, trivial, den_span_right _ hx, fun h2 => ?_, fun h2 => ⟨trivial, den_low _, trivial, den_high _, den_before x.low x.high hx.lo hx.hi, fun h3 => ?_, fun h3 => ⟨fun h4 => ?_, fun h4 j jr g => ?_⟩⟩⟩
        · simp only [Bool.not_eq_true'] at h2
          rw [hd]; simp [stepOk, h2, errS]
        · simp only [decide_eq_true_eq] at h3
          have h5 : ¬ befE x.low x.high < 0 := Int.not_lt.2 h3
          rw [hd]; simp [stepOk, h5, errS]
        · simp only [decide_eq_true_eq] at h4
          obtain ⟨i, rfl⟩ : ∃ i', i = i' + 1 := ⟨i - 1, by omega⟩
          have hw2 : IntKind.wrap IntKind.i64 (((i + 1 : Nat) : Int) - 1) = (i : Int) := by rw [wrap_i64 _ (by omega) (by omega)]; omega
          have h0 : i < l.length := by omega
          have hp : prevOf l (i + 1) = some l[i] := by simp [prevOf, h0]
          rw [hp] at hd
          simp only [hw2, Int.toNat_natCast, gI_nat, gI_zero, getD_lt h0]
          have hm0 := mapI_get h0
          have hx0 : l[i].ok := hok _ (by simp)
          generalize l[i] = y at hd hm0 hx0 ⊢
          refine ⟨⟨by omega, sl_at hsl h0⟩, hm0, den_high _, trivial, den_low _, den_before y.high x.low hx0.hi hx.lo, fun h5 => ?_, fun h5 j jr g => ?_⟩
          · simp only [decide_eq_true_eq] at h5
            have h6 : ¬ befE y.high x.low < 0 := Int.not_lt.2 h5
            rw [hd]; simp [stepOk, h6, errS]
          · simp only [decide_eq_false_iff_not] at h3 h5
            have h6 : befE y.high x.low < 0 := Int.not_le.1 h5
            have h7 : befE x.low x.high < 0 := Int.not_le.1 h3
            simp only [Bool.not_eq_false'] at h2
            refine ih (i + 1 + 1) j jr g (by omega) ?_
            rw [hd]
            simp [stepOk, h2, h6, h7, prevOf, hn]
        · simp only [decide_eq_false_iff_not] at h3 h4
          have h0 : i = 0 := by omega
          subst h0
          have h7 : befE x.low x.high < 0 := Int.not_le.1 h3
          simp only [Bool.not_eq_false'] at h2
          refine ih 1 j jr g (by omega) ?_
          rw [hd]
          simp [stepOk, h2, h7, prevOf, hn]
      · simp at h; omega
  have h0 := H l.length 0 j jr g (by omega) (by simp [mayS, h16, prevOf])
  rw [Int.natCast_zero] at h0
  exact h0
end Go.Proofs.YtlhfgonjcpapnaaGreatDoor.Abs

namespace Go.Proofs.YtlhfgonjcpapnaaGreatDoor.Abs
open Go Go.Proofs
def joinL (sep : List UInt8) (l : List (List UInt8)) : List UInt8 := Lib.join l sep
def verL (v : V) : List UInt8 := joinL [46] [numL v.a.toNat, numL v.b.toNat, numL v.c.toNat] ++ (if v.pre.length > 0 then 45 :: joinL [46] v.pre else [])
end Go.Proofs.YtlhfgonjcpapnaaGreatDoor.Abs

namespace Go.Proofs.YtlhfgonjcpapnaaGreatDoor.Abs
open Go Go.Proofs
theorem fits_small {n : Nat} (h : n ≤ 1000000) : fitsRow n 16 = true := by
  have h1 : n * 16 ≤ room47 := by unfold room47; omega
  have h2 : n ≤ maxInt := by unfold maxInt; omega
  simp [fitsRow, h1, h2]
end Go.Proofs.YtlhfgonjcpapnaaGreatDoor.Abs

namespace Go.Proofs.YtlhfgonjcpapnaaGreatDoor.Abs
open Go Go.Proofs
structure Tr {α : Type} (f : α → α → Int) : Prop where
  ll : ∀ a b c, f a b < 0 → f b c < 0 → f a c < 0
  le : ∀ a b c, f a b < 0 → f b c = 0 → f a c < 0
  el : ∀ a b c, f a b = 0 → f b c < 0 → f a c < 0
  ee : ∀ a b c, f a b = 0 → f b c = 0 → f a c = 0
def lex2 {α : Type} (f g : α → α → Int) (a b : α) : Int := if f a b ≠ 0 then f a b else g a b
theorem Tr.lex {α : Type} {f g : α → α → Int} (hf : Tr f) (hg : Tr g) : Tr (lex2 f g) := by
  have cases2 : ∀ a b, lex2 f g a b < 0 → f a b < 0 ∨ (f a b = 0 ∧ g a b < 0) := by
    intro a b h
    unfold lex2 at h
    split at h
    · exact .inl h
    · rename_i h0; exact .inr ⟨by simpa using h0, h⟩
  have cases0 : ∀ a b, lex2 f g a b = 0 → f a b = 0 ∧ g a b = 0 := by
    intro a b h
    unfold lex2 at h
    split at h
    · rename_i h0; exact absurd h h0
    · rename_i h0; exact ⟨by simpa using h0, h⟩
  have lt : ∀ a b, f a b < 0 → lex2 f g a b < 0 := fun a b h => by unfold lex2; rw [if_pos (by omega)]; exact h
  have eq : ∀ a b, f a b = 0 → lex2 f g a b = g a b := fun a b h => by unfold lex2; rw [if_neg (by omega)]
  refine ⟨fun a b c h1 h2 => ?_, fun a b c h1 h2 => ?_, fun a b c h1 h2 => ?_, fun a b c h1 h2 => ?_⟩
  · rcases cases2 a b h1 with h1 | ⟨h1, h1'⟩ <;> rcases cases2 b c h2 with h2 | ⟨h2, h2'⟩
    · exact lt _ _ (hf.ll _ _ _ h1 h2)
    · exact lt _ _ (hf.le _ _ _ h1 h2)
    · exact lt _ _ (hf.el _ _ _ h1 h2)
    · rw [eq _ _ (hf.ee _ _ _ h1 h2)]; exact hg.ll _ _ _ h1' h2'
  · obtain ⟨h2, h2'⟩ := cases0 b c h2
    rcases cases2 a b h1 with h1 | ⟨h1, h1'⟩
    · exact lt _ _ (hf.le _ _ _ h1 h2)
    · rw [eq _ _ (hf.ee _ _ _ h1 h2)]; exact hg.le _ _ _ h1' h2'
  · obtain ⟨h1, h1'⟩ := cases0 a b h1
    rcases cases2 b c h2 with h2 | ⟨h2, h2'⟩
    · exact lt _ _ (hf.el _ _ _ h1 h2)
    · rw [eq _ _ (hf.ee _ _ _ h1 h2)]; exact hg.el _ _ _ h1' h2'
  · obtain ⟨h1, h1'⟩ := cases0 a b h1
    obtain ⟨h2, h2'⟩ := cases0 b c h2
    rw [eq _ _ (hf.ee _ _ _ h1 h2)]; exact hg.ee _ _ _ h1' h2'
theorem cmpI_lt (x y : Int) : cmpI x y < 0 ↔ x < y := by unfold cmpI; split <;> (try split) <;> omega
theorem Tr.key {α : Type} (k : α → Int) : Tr (fun a b => cmpI (k a) (k b)) := by
  refine ⟨fun a b c h1 h2 => ?_, fun a b c h1 h2 => ?_, fun a b c h1 h2 => ?_, fun a b c h1 h2 => ?_⟩ <;> simp only [cmpI_lt, cmpI_eq] at * <;> omega
def lexL {α : Type} (f : α → α → Int) : List α → List α → Int
  | [], [] => 0
  | [], _ :: _ => -1
  | _ :: _, [] => 1
  | a :: x, b :: y => if f a b ≠ 0 then f a b else lexL f x y
theorem Tr.list {α : Type} {f : α → α → Int} (hf : Tr f) : Tr (lexL f) := by
  have c2 : ∀ (a b : α) (x y : List α), lexL f (a :: x) (b :: y) < 0 → f a b < 0 ∨ (f a b = 0 ∧ lexL f x y < 0) := by
    intro a b x y h
    simp only [lexL] at h
    split at h
    · exact .inl h
    · rename_i h0; exact .inr ⟨by simpa using h0, h⟩
  have c0 : ∀ (a b : α) (x y : List α), lexL f (a :: x) (b :: y) = 0 → f a b = 0 ∧ lexL f x y = 0 := by
    intro a b x y h
    simp only [lexL] at h
    split at h
    · rename_i h0; exact absurd h h0
    · rename_i h0; exact ⟨by simpa using h0, h⟩
  have lt : ∀ (a b : α) (x y : List α), f a b < 0 → lexL f (a :: x) (b :: y) < 0 := fun a b x y h => by simp only [lexL]; rw [if_pos (by omega)]; exact h
  have eq : ∀ (a b : α) (x y : List α), f a b = 0 → lexL f (a :: x) (b :: y) = lexL f x y := fun a b x y h => by simp only [lexL]; rw [if_neg (by omega)]
  have key : ∀ (x y z : List α), (lexL f x y < 0 → lexL f y z < 0 → lexL f x z < 0) ∧ (lexL f x y < 0 → lexL f y z = 0 → lexL f x z < 0) ∧ (lexL f x y = 0 → lexL f y z < 0 → lexL f x z < 0) ∧ (lexL f x y = 0 → lexL f y z = 0 → lexL f x z = 0) := by
    intro x
    induction x with
    | nil =>
      intro y z
      cases y with
      | nil => cases z <;> simp [lexL]
      | cons b y => cases z <;> simp [lexL]
    | cons a x ih =>
      intro y z
      cases y with
      | nil => simp [lexL]
      | cons b y => cases z with
        | nil => simp [lexL]
        | cons c z =>
          obtain ⟨i1, i2, i3, i4⟩ := ih y z
          refine ⟨fun h1 h2 => ?_, fun h1 h2 => ?_, fun h1 h2 => ?_, fun h1 h2 => ?_⟩
          · rcases c2 _ _ _ _ h1 with h1 | ⟨h1, h1'⟩ <;> rcases c2 _ _ _ _ h2 with h2 | ⟨h2, h2'⟩
            · exact lt _ _ _ _ (hf.ll _ _ _ h1 h2)
            · exact lt _ _ _ _ (hf.le _ _ _ h1 h2)
            · exact lt _ _ _ _ (hf.el _ _ _ h1 h2)
            · rw [eq _ _ _ _ (hf.ee _ _ _ h1 h2)]; exact i1 h1' h2'
          · obtain ⟨h2, h2'⟩ := c0 _ _ _ _ h2
            rcases c2 _ _ _ _ h1 with h1 | ⟨h1, h1'⟩
            · exact lt _ _ _ _ (hf.le _ _ _ h1 h2)
            · rw [eq _ _ _ _ (hf.ee _ _ _ h1 h2)]; exact i2 h1' h2'
          · obtain ⟨h1, h1'⟩ := c0 _ _ _ _ h1
            rcases c2 _ _ _ _ h2 with h2 | ⟨h2, h2'⟩
            · exact lt _ _ _ _ (hf.el _ _ _ h1 h2)
            · rw [eq _ _ _ _ (hf.ee _ _ _ h1 h2)]; exact i3 h1' h2'
          · obtain ⟨h1, h1'⟩ := c0 _ _ _ _ h1
            obtain ⟨h2, h2'⟩ := c0 _ _ _ _ h2
            rw [eq _ _ _ _ (hf.ee _ _ _ h1 h2)]; exact i4 h1' h2'
  exact ⟨fun a b c => (key a b c).1, fun a b c => (key a b c).2.1, fun a b c => (key a b c).2.2.1, fun a b c => (key a b c).2.2.2⟩
theorem cmpP_lex : ∀ x y, cmpP x y = lexL ordL x y
  | [], [] => rfl
  | [], _ :: _ => rfl
  | _ :: _, [] => rfl
  | a :: x, b :: y => by simp only [cmpP, lexL, cmpP_lex x y]
theorem cmpS_lex : ∀ x y : List UInt8, cmpS x y = lexL (fun a b => cmpI (a.toNat : Int) (b.toNat : Int)) x y
  | [], [] => rfl
  | [], _ :: _ => rfl
  | a :: x, [] => by simp [cmpS, lexL, Op.bytesLess]
  | a :: x, b :: y => by
    have ih := cmpS_lex x y
    simp only [lexL, ← ih]
    by_cases h : a.toNat < b.toNat
    · have h1 : a < b := h
      have h2 : cmpI (a.toNat : Int) (b.toNat : Int) = -1 := by unfold cmpI; rw [if_pos (by omega)]
      simp [cmpS, Op.bytesLess, h1, h2]
    · by_cases h3 : b.toNat < a.toNat
      · have h1 : ¬ a < b := h
        have h4 : ¬ a = b := fun e => by subst e; omega
        have h2 : cmpI (a.toNat : Int) (b.toNat : Int) = 1 := by unfold cmpI; rw [if_neg (by omega), if_pos (by omega)]
        simp [cmpS, Op.bytesLess, h1, h2, h4]
      · have h4 : a = b := UInt8.toNat_inj.1 (by omega)
        subst h4
        have h1 : ¬ a < a := h
        simp [cmpS, Op.bytesLess, h1, cmpI_self]
theorem Tr.congr {α : Type} {f g : α → α → Int} (h : ∀ a b, f a b = g a b) (hg : Tr g) : Tr f := by
  have : f = g := by funext a b; exact h a b
  rw [this]; exact hg
theorem tr_cmpS : Tr cmpS := Tr.congr cmpS_lex (Tr.list (Tr.key fun a : UInt8 => (a.toNat : Int)))
def rankL (a : List UInt8) : Int := if digitsL a then 0 else 1
def lenL (a : List UInt8) : Int := if digitsL a then a.length else 0
theorem ordL_lex (a b : List UInt8) : ordL a b = lex2 (fun a b => cmpI (rankL a) (rankL b)) (lex2 (fun a b => cmpI (lenL a) (lenL b)) cmpS) a b := by
  unfold ordL lex2 rankL lenL
  cases h1 : digitsL a <;> cases h2 : digitsL b
  · simp [h1, h2, cmpI_self]
  · simp [h1, h2, cmpI]
  · simp [h1, h2, cmpI]
  · simp [h1, h2, cmpI_self]
theorem tr_ordL : Tr ordL := Tr.congr ordL_lex (Tr.lex (Tr.key rankL) (Tr.lex (Tr.key lenL) tr_cmpS))
def relV (v : V) : Int := if v.pre.length = 0 then 1 else 0
theorem cmpV_lex (v w : V) : cmpV v w = lex2 (fun v w => cmpI v.a w.a) (lex2 (fun v w => cmpI v.b w.b) (lex2 (fun v w => cmpI v.c w.c) (lex2 (fun v w => cmpI (relV v) (relV w)) (fun v w => lexL ordL v.pre w.pre)))) v w := by
  unfold cmpV cmpN or3 lex2
  by_cases ha : cmpI v.a w.a = 0
  · by_cases hb : cmpI v.b w.b = 0
    · by_cases hc : cmpI v.c w.c = 0
      · simp only [ha, hb, hc, ne_eq, not_true, if_false]
        unfold relV
        by_cases h1 : v.pre.length = 0
        · by_cases h2 : w.pre.length = 0
          · have e1 : v.pre = [] := List.length_eq_zero_iff.1 h1
            have e2 : w.pre = [] := List.length_eq_zero_iff.1 h2
            simp [e1, e2, cmpI_self, lexL]
          · simp [h1, h2, cmpI] <;> omega
        · by_cases h2 : w.pre.length = 0
          · simp [h1, h2, cmpI] <;> omega
          · simp [h1, h2, cmpI_self, cmpP_lex]
      · simp [ha, hb, hc]
    · simp [ha, hb]
  · simp [ha]
theorem tr_cmpV : Tr cmpV := Tr.congr cmpV_lex (Tr.lex (Tr.key V.a) (Tr.lex (Tr.key V.b) (Tr.lex (Tr.key V.c) (Tr.lex (Tr.key relV) ⟨fun a b c => (Tr.list tr_ordL).ll _ _ _, fun a b c => (Tr.list tr_ordL).le _ _ _, fun a b c => (Tr.list tr_ordL).el _ _ _, fun a b c => (Tr.list tr_ordL).ee _ _ _⟩))))
theorem ordV_may {v w : V} (hv : mayV v = true) (hw : mayV w = true) : ordV v w = cmpV v w := by simp [ordV, hv, hw]
theorem befE_fin {a b : Ed} (ha : a.less = false) (hb : b.less = false) (hva : mayV a.v = true) (hvb : mayV b.v = true) : befE a b < 0 ↔ cmpV a.v b.v < 0 ∨ (cmpV a.v b.v = 0 ∧ a.behind = false ∧ b.behind = true) := by
  simp only [befE, ha, hb, ordV_may hva hvb]
  by_cases hc : cmpV a.v b.v = 0
  · cases h1 : a.behind <;> cases h2 : b.behind <;> simp [hc]
  · simp [hc]
theorem step_empty {x : I} (hr : rightI x = true) : decide (befE x.low x.high < 0) = !emptyI x := by
  have hl := right_lo hr
  have hh := right_hi hr
  cases hs : x.less with
  | true => simp [befE, I.low, I.high, emptyI, hs]
  | false =>
    have := befE_fin (a := x.low) (b := x.high) rfl (by simp [I.high, hs]) hl hh
    rw [Bool.eq_iff_iff, decide_eq_true_eq, this]
    simp only [I.low, I.high, emptyI, hs]
    cases x.lopen <;> cases x.hopen <;> simp <;> omega
theorem befE_less {a b : Ed} (h : a.less = true) : ¬ befE a b < 0 := by
  unfold befE
  cases b.less <;> simp [h]
theorem pair_ok {p x : I} (hp : rightI p = true) (hx : rightI x = true) (hpe : befE p.low p.high < 0) : decide (befE p.high x.low < 0) = (decide (lowB p.lb x.lb < 0) && !touchI p x) := by
  have hpl := right_lo hp
  have hph := right_hi hp
  have hxl := right_lo hx
  cases hs : p.less with
  | true =>
    have h1 : ¬ befE p.high x.low < 0 := befE_less (by simp [I.high, hs])
    simp [h1, touchI, hs]
  | false =>
    have h1 := befE_fin (a := p.high) (b := x.low) (by simp [I.high, hs]) rfl hph hxl
    have h2 := (befE_fin (a := p.low) (b := p.high) rfl (by simp [I.high, hs]) hpl hph).1 hpe
    have hl : lowB p.lb x.lb < 0 ↔ cmpV p.lo x.lo < 0 ∨ (cmpV p.lo x.lo = 0 ∧ p.lopen = false ∧ x.lopen = true) := by
      simp only [lowB, I.lb]
      by_cases hc : cmpV p.lo x.lo = 0
      · rcases Bool.eq_false_or_eq_true p.lopen with h5 | h5 <;> rcases Bool.eq_false_or_eq_true x.lopen with h6 | h6 <;> simp [hc, h5, h6]
      · simp [hc]
    have ht : touchI p x = false ↔ cmpV p.hi x.lo < 0 ∨ (cmpV p.hi x.lo = 0 ∧ p.hopen = true ∧ x.lopen = true) := by
      simp only [touchI, hs]
      by_cases hc : cmpV p.hi x.lo = 0
      · rcases Bool.eq_false_or_eq_true p.hopen with h5 | h5 <;> rcases Bool.eq_false_or_eq_true x.lopen with h6 | h6 <;> simp [hc, h5, h6]
      · simp [hc]; omega
    have hboth : befE p.high x.low < 0 ↔ touchI p x = false := by
      rw [h1, ht]
      simp only [I.high, I.low]
      cases p.hopen <;> cases x.lopen <;> simp
    have himp : befE p.high x.low < 0 → lowB p.lb x.lb < 0 := by
      intro h
      have h3 := h1.1 h
      rw [hl]
      simp only [I.high, I.low] at h2 h3
      rcases h2 with h2 | ⟨h2, h2', h2''⟩ <;> rcases h3 with h3 | ⟨h3, h3', h3''⟩
      · exact .inl (tr_cmpV.ll _ _ _ h2 h3)
      · exact .inl (tr_cmpV.le _ _ _ h2 h3)
      · exact .inl (tr_cmpV.el _ _ _ h2 h3)
      · simp at h2'' h3'
        rw [h2''] at h3'; cases h3'
    rw [Bool.eq_iff_iff]
    simp only [decide_eq_true_eq, Bool.and_eq_true, Bool.not_eq_true']
    constructor
    · exact fun h => ⟨himp h, hboth.1 h⟩
    · exact fun h => hboth.2 h.2
theorem chain_pairs : ∀ (l : List I) (p : I), rightI p = true → befE p.low p.high < 0 → chainOk (some p) l = (l.all (fun x => rightI x && !emptyI x) && pairsS (p :: l))
  | [], p, _, _ => by simp [chainOk, pairsS]
  | x :: l, p, hp, hpe => by
    simp only [chainOk, stepOk, List.all_cons, pairsS]
    cases hr : rightI x with
    | false => simp
    | true =>
      rw [pair_ok hp hr hpe]
      have he := step_empty hr
      cases hem : emptyI x with
      | true => rw [hem] at he; simp [he]
      | false =>
        rw [hem] at he
        have he' : befE x.low x.high < 0 := by simpa using he
        rw [chain_pairs l x hr he', he]
        cases decide (lowB p.lb x.lb < 0) <;> cases touchI p x <;> simp
theorem may_same (l : List I) : mayS l = mayR l := by
  unfold mayS mayR
  cases l with
  | nil => simp [chainOk, pairsS]
  | cons x l =>
    simp only [chainOk, stepOk, List.all_cons]
    cases hr : rightI x with
    | false => simp
    | true =>
      have he := step_empty hr
      cases hem : emptyI x with
      | true => rw [hem] at he; simp [he]
      | false =>
        rw [hem] at he
        have he' : befE x.low x.high < 0 := by simpa using he
        rw [chain_pairs l x hr he', he]
        simp [Bool.and_assoc]
end Go.Proofs.YtlhfgonjcpapnaaGreatDoor.Abs

namespace Go.Proofs.YtlhfgonjcpapnaaGreatDoor.Abs
open Go Go.Proofs
def sameI (x y : I) : Bool := x.lopen == y.lopen && x.hopen == y.hopen && x.less == y.less && sameV x.lo y.lo && sameV x.hi y.hi
def sameLs : List I → List I → Bool
  | [], [] => true
  | x :: a, y :: b => sameI x y && sameLs a b
  | _, _ => false
end Go.Proofs.YtlhfgonjcpapnaaGreatDoor.Abs

namespace Go.Proofs.YtlhfgonjcpapnaaGreatDoor.Abs
open Go Go.Proofs
def law08_same_S0 (l : List I) (m : List I) (k : Nat) (k' : Nat) (nl : Bool) (full : Bool) (nl' : Bool) (full' : Bool) (i : Int) (j : Nat → AV) (jr : Nat → Row) (g : Nat) : St :=
  { t := [.pv (.sl k nl full (List.map I.p l)), .pv (.sl k' nl' full' (List.map I.p m)), j 2, j 3, j 4, intA i] ++ jj j 6 84, h := [List.replicate 90 row0], g := g }
theorem law08_same_go (l : List I) (m : List I) (k : Nat) (k' : Nat) (nl : Bool) (full : Bool) (nl' : Bool) (full' : Bool) (r : PV) : FnGo E1 Tryz.f16 [.sl k nl full (List.map I.p l), .sl k' nl' full' (List.map I.p m)] r 2000 (.fork (.hole 0) (.mask (iv [(2, 4), (6, 89)]) [])) =
  ((((↑(List.length (List.map I.p l)) : Int) != (↑(List.length (List.map I.p m)) : Int)) = true →
 (bolP false) = r) ∧
 (((↑(List.length (List.map I.p l)) : Int) != (↑(List.length (List.map I.p m)) : Int)) = false →
 AtAll Tryz.f16 r 0 (law08_same_S0 l m k k' nl full nl' full' 0))) := by kernel_rfl
theorem law08_same_go_S0 (l : List I) (m : List I) (k : Nat) (k' : Nat) (nl : Bool) (full : Bool) (nl' : Bool) (full' : Bool) (i : Int) (j : Nat → AV) (jr : Nat → Row) (g : Nat) (r : PV) : LoopGo E1 Tryz.f16 r 0 2000 (.fork (.val (I.p (gI l i)) (.val (I.p (List.getD m (Int.toNat i) default)) (.fork (.lts 60 (.hole 0)) (.lts 3 (.val (I.p (gI l i)) (.lts 6 (.val (I.p (List.getD m (Int.toNat i) default)) (.lts 5 (.fork (.lts 45 (.hole 0)) (.lts 3 (.val (I.p (gI l i)) (.lts 5 (.val (I.p (List.getD m (Int.toNat i) default)) (.lts 4 (.fork (.lts 32 (.hole 0)) (.lts 3 (.val (I.p (gI l i)) (.lts 6 (.val (I.p (List.getD m (Int.toNat i) default)) (.lts 4 (.res (bolP (sameV (I.lo (gI l i)) (I.lo (List.getD m (Int.toNat i) default)))) (.lit (.lit (.fork (.lts 16 (.hole 0)) (.lts 3 (.val (I.p (gI l i)) (.lts 6 (.val (I.p (List.getD m (Int.toNat i) default)) (.lts 4 (.res (bolP (sameV (I.hi (gI l i)) (I.hi (List.getD m (Int.toNat i) default)))) (.lit (.lit (.fork (.hole 0) (.mask (iv [(2, 4), (6, 89)]) [])))))))))))))))))))))))))))))))))) (.hole 0)) (law08_same_S0 l m k k' nl full nl' full' i j jr g) =
  (((decide (i < (↑(List.length (List.map I.p l)) : Int))) = true →
 (((0 : Int) ≤ i) ∧ ((nl = false) ∧ (k = 11))) ∧
 (((List.map I.p l)[Int.toNat i]?) = some (I.p (gI l i))) ∧
 (((0 : Int) ≤ i) ∧ ((nl' = false) ∧ (k' = 11))) ∧
 (((List.map I.p m)[Int.toNat i]?) = some (I.p (List.getD m (Int.toNat i) default))) ∧
 ((!I.lopen (gI l i) == I.lopen (List.getD m (Int.toNat i) default)) = true →
 (bolP false) = r) ∧
 ((!I.lopen (gI l i) == I.lopen (List.getD m (Int.toNat i) default)) = false →
 (((0 : Int) ≤ i) ∧ ((nl = false) ∧ (k = 11))) ∧
 (((List.map I.p l)[Int.toNat i]?) = some (I.p (gI l i))) ∧
 (((0 : Int) ≤ i) ∧ ((nl' = false) ∧ (k' = 11))) ∧
 (((List.map I.p m)[Int.toNat i]?) = some (I.p (List.getD m (Int.toNat i) default))) ∧
 ((!I.hopen (gI l i) == I.hopen (List.getD m (Int.toNat i) default)) = true →
 (bolP false) = r) ∧
 ((!I.hopen (gI l i) == I.hopen (List.getD m (Int.toNat i) default)) = false →
 (((0 : Int) ≤ i) ∧ ((nl = false) ∧ (k = 11))) ∧
 (((List.map I.p l)[Int.toNat i]?) = some (I.p (gI l i))) ∧
 (((0 : Int) ≤ i) ∧ ((nl' = false) ∧ (k' = 11))) ∧
 (((List.map I.p m)[Int.toNat i]?) = some (I.p (List.getD m (Int.toNat i) default))) ∧
 ((!I.less (gI l i) == I.less (List.getD m (Int.toNat i) default)) = true →
 (bolP false) = r) ∧
 ((!I.less (gI l i) == I.less (List.getD m (Int.toNat i) default)) = false →
 (((0 : Int) ≤ i) ∧ ((nl = false) ∧ (k = 11))) ∧
 (((List.map I.p l)[Int.toNat i]?) = some (I.p (gI l i))) ∧
 (((0 : Int) ≤ i) ∧ ((nl' = false) ∧ (k' = 11))) ∧
 (((List.map I.p m)[Int.toNat i]?) = some (I.p (List.getD m (Int.toNat i) default))) ∧
 (Den E1 46 [V.p (I.lo (gI l i)), V.p (I.lo (List.getD m (Int.toNat i) default))] (bolP (sameV (I.lo (gI l i)) (I.lo (List.getD m (Int.toNat i) default))))) ∧
 ((!sameV (I.lo (gI l i)) (I.lo (List.getD m (Int.toNat i) default))) = true →
 (bolP false) = r) ∧
 ((!sameV (I.lo (gI l i)) (I.lo (List.getD m (Int.toNat i) default))) = false →
 (((0 : Int) ≤ i) ∧ ((nl = false) ∧ (k = 11))) ∧
 (((List.map I.p l)[Int.toNat i]?) = some (I.p (gI l i))) ∧
 (((0 : Int) ≤ i) ∧ ((nl' = false) ∧ (k' = 11))) ∧
 (((List.map I.p m)[Int.toNat i]?) = some (I.p (List.getD m (Int.toNat i) default))) ∧
 (Den E1 46 [V.p (I.hi (gI l i)), V.p (I.hi (List.getD m (Int.toNat i) default))] (bolP (sameV (I.hi (gI l i)) (I.hi (List.getD m (Int.toNat i) default))))) ∧
 ((!sameV (I.hi (gI l i)) (I.hi (List.getD m (Int.toNat i) default))) = true →
 (bolP false) = r) ∧
 ((!sameV (I.hi (gI l i)) (I.hi (List.getD m (Int.toNat i) default))) = false →
 AtAll Tryz.f16 r 0 (law08_same_S0 l m k k' nl full nl' full' (IntKind.i64.wrap (i + (1 : Int)))))))))) ∧
 ((decide (i < (↑(List.length (List.map I.p l)) : Int))) = false →
 (bolP true) = r)) := by kernel_rfl
end Go.Proofs.YtlhfgonjcpapnaaGreatDoor.Abs

namespace Go.Proofs.YtlhfgonjcpapnaaGreatDoor.Abs
open Go Go.Proofs
theorem bnot_beq {a b : Bool} : (!a == b) = true ↔ (a == b) = false := by cases a <;> cases b <;> simp
theorem bnot_beq' {a b : Bool} : (!a == b) = false ↔ (a == b) = true := by cases a <;> cases b <;> simp
theorem den_same (l m : List I) (k k' : Nat) (nl full nl' full' : Bool) (hl : slOk 11 k nl l.length) (hm : slOk 11 k' nl' m.length) (hol : ∀ x ∈ l, x.ok) (hom : ∀ x ∈ m, x.ok) (hsm : small l.length) :
    Den E1 16 [listP k nl full l, listP k' nl' full' m] (bolP (sameLs l m)) := by
  refine den1 2000 _ rfl (by kernel_rfl) rfl rfl rfl (Eq.mpr (law08_same_go l m k k' nl full nl' full' _) ?_)
  have hne : ∀ l m : List I, l.length ≠ m.length → sameLs l m = false := by
    intro l
    induction l with
    | nil => intro m h; cases m <;> simp [sameLs] at h ⊢
    | cons x l ih => intro m h; cases m with
      | nil => simp [sameLs]
      | cons y m => simp only [sameLs, ih m (by simpa using h), Bool.and_false]
  refine ⟨fun h => ?_, fun h j jr g => ?_⟩
  · simp only [List.length_map, bne_iff_ne, ne_eq] at h
    rw [hne l m (by omega)]
  simp only [List.length_map, bne_eq_false_iff_eq] at h
  have hlen : l.length = m.length := by omega
  have H : ∀ (n i : Nat) j jr g, i + n = l.length → sameLs l m = sameLs (l.drop i) (m.drop i) → LoopAt E1 Tryz.f16 (bolP (sameLs l m)) 0 (law08_same_S0 l m k k' nl full nl' full' i j jr g) := by
    intro n
    induction n with
    | zero =>
      intro i j jr g hi hd
      refine loop_go 2000 _ (Eq.mpr (law08_same_go_S0 l m k k' nl full nl' full' i j jr g _) ⟨fun h => ?_, fun h => ?_⟩)
      · simp at h; omega
      · rw [hd, drop_nil (by omega), drop_nil (by omega)]; rfl
    | succ n ih =>
      intro i j jr g hi hd
      have h1 : i < l.length := by omega
      have h2 : i < m.length := by omega
      rw [List.drop_eq_getElem_cons h1, List.drop_eq_getElem_cons h2, sameLs] at hd
      have hw : IntKind.wrap IntKind.i64 ((i : Int) + 1) = ((i + 1 : Nat) : Int) := wrap_i64 _ (by omega) (by unfold small at hsm; omega)
      refine loop_go 2000 _ (Eq.mpr (law08_same_go_S0 l m k k' nl full nl' full' i j jr g _) ⟨fun h => ?_, fun h => ?_⟩)
      · simp only [Int.toNat_natCast, gI_nat, gI_zero, getD_lt h1, getD_lt h2, hw]
        have hm1 := mapI_get h1
        have hm2 := mapI_get h2
        have o1 := hol l[i] (by simp)
        have o2 := hom m[i] (by simp)
        generalize l[i] = x at hd hm1 o1 ⊢
        generalize m[i] = y at hd hm2 o2 ⊢
        have c1 : (0 : Int) ≤ i ∧ nl = false ∧ k = 11 := ⟨by omega, sl_at hl h1⟩
        have c2 : (0 : Int) ≤ i ∧ nl' = false ∧ k' = 11 := ⟨by omega, sl_at hm h2⟩
        refine ⟨c1, hm1, c2, hm2, fun h => ?_, fun ha => ⟨c1, hm1, c2, hm2, fun h => ?_, fun hb => ⟨c1, hm1, c2, hm2, fun h => ?_, fun hc => ⟨c1, hm1, c2, hm2, den_Same _ _ o1.lo o2.lo, fun h => ?_, fun hd2 => ⟨c1, hm1, c2, hm2, den_Same _ _ o1.hi o2.hi, fun h => ?_, fun he j jr g => ?_⟩⟩⟩⟩⟩
        · rw [hd]; rw [bnot_beq] at h; simp [sameI, h]
        · rw [hd]; rw [bnot_beq] at h; simp [sameI, h]
        · rw [hd]; rw [bnot_beq] at h; simp [sameI, h]
        · rw [hd]; simp only [Bool.not_eq_true'] at h; simp [sameI, h]
        · rw [hd]; simp only [Bool.not_eq_true'] at h; simp [sameI, h]
        · rw [bnot_beq'] at ha hb hc
          simp only [Bool.not_eq_false'] at hd2 he
          refine ih (i + 1) j jr g (by omega) ?_
          rw [hd]; simp [sameI, ha, hb, hc, hd2, he]
      · rw [decide_eq_false_iff_not, List.length_map] at h; omega
  have h0 := H l.length 0 j jr g (by omega) rfl
  rw [Int.natCast_zero] at h0
  exact h0
theorem pk_msl {h : Heap} {d s g n m k : Nat} {full fz : Bool} {e : TypeId} {xs : List PV} (hb : hget h d s = ⟨g, .row k e xs fz⟩) (hn : xs.length = n) : pk h (m + 1) (.msl d s g 0 n full) = some (.sl k false full xs, [(d, s)]) := by
  have hl : live h d s g = .row k e xs fz := by unfold live; rw [hb]; simp
  simp only [pk, hl]
  rw [if_pos (by omega), ← hn]
  simp
theorem frz_msl {h : Heap} {d s g n k : Nat} {full fz : Bool} {e : TypeId} {xs : List PV} {p : PV} (hb : hget h d s = ⟨g, .row k e xs fz⟩) (hn : xs.length = n) (hp : p = .sl k false full xs) : ∃ h1, frz frzDepth (.msl d s g 0 n full) h = some (p, h1) := by
  refine ⟨marks [(d, s)] h, ?_⟩
  unfold frz
  rw [frzDepth, pk_msl hb hn, hp]
  rfl
end Go.Proofs.YtlhfgonjcpapnaaGreatDoor.Abs

namespace Go.Proofs.YtlhfgonjcpapnaaGreatDoor.Abs
open Go Go.Proofs
theorem reach_small {n : Nat} (h : n ≤ reachBytes) : small n := by
  have := reachBytes_lt
  unfold small
  omega
theorem well_str {n : Nat} {r : List PV} (h : wellP Tryz.prog n 9 r) : ∃ s : List UInt8, r = [strP s] ∧ s.length ≤ reachBytes := by
  have h := well_str0 Tryz.underlying9 h
  obtain ⟨s, h1, h2⟩ := h
  refine ⟨s.data.toList, h1, ?_⟩
  rw [Array.length_toList]
  exact h2
end Go.Proofs.YtlhfgonjcpapnaaGreatDoor.Abs

namespace Go.Proofs.YtlhfgonjcpapnaaGreatDoor.Abs
open Go Go.Proofs
def twK (l : List I) : Nat := if l.length = 0 then 0 else 11
def twN (l : List I) : Bool := decide (l.length = 0)
end Go.Proofs.YtlhfgonjcpapnaaGreatDoor.Abs

namespace Go.Proofs.YtlhfgonjcpapnaaGreatDoor.Abs
open Go Go.Proofs
theorem den_alive : Den E1 10 [] (bolP true) := den_intr (F := aliveP) rfl rfl
end Go.Proofs.YtlhfgonjcpapnaaGreatDoor.Abs

namespace Go.Proofs.YtlhfgonjcpapnaaGreatDoor.Abs
open Go Go.Proofs
def highI (x y : I) : Int :=
  if x.less then (if y.less then 0 else 1) else if y.less then -1
  else if cmpV x.hi y.hi != 0 then cmpV x.hi y.hi else if x.hopen == y.hopen then cmpV x.hi y.hi else if x.hopen then -1 else 1
def insPos (s : List I) (x : I) : Nat → Nat
  | 0 => 0
  | k + 1 => if lowB (s.getD k default).lb x.lb > 0 then insPos s x k else k + 1
def insR (s : List I) (x : I) : List I := s.take (insPos s x s.length) ++ x :: s.drop (insPos s x s.length)
def sortR (l s : List I) : List I := l.foldl (fun s x => if emptyI x then s else insR s x) s
def upR (y x : I) : I := { y with hi := x.hi, hopen := x.hopen, less := x.less }
def stepR (out : List I) (x : I) : List I :=
  if out.isEmpty then [x]
  else if touchI (out.getD (out.length - 1) default) x then
    (if highI (out.getD (out.length - 1) default) x < 0 then out.set (out.length - 1) (upR (out.getD (out.length - 1) default) x) else out)
  else out ++ [x]
def joinR (l : List I) : List I := (sortR l []).foldl stepR []
abbrev resL (l : List I) : PV := listP (twK l) (twN l) (twN l) l
def meet1 (x y : I) : I := 
  let x := if lowB x.lb y.lb < 0 then { x with lo := y.lo, lopen := y.lopen } else x
  if highI y x < 0 then upR x y else x
def meetR (a b : List I) : List I := joinR (a.flatMap fun x => b.map fun y => meet1 x y)
end Go.Proofs.YtlhfgonjcpapnaaGreatDoor.Abs

namespace Go.Proofs.YtlhfgonjcpapnaaGreatDoor.Abs
open Go Go.Proofs
theorem getI {l : List I} {i : Nat} (h : i < l.length) : (List.map I.p l)[i]? = some (I.p (l.getD i default)) := by
  simp [h]
theorem drop_get {l : List I} {i : Nat} (h : i < l.length) : l.drop i = l.getD i default :: l.drop (i + 1) := by
  rw [List.drop_eq_getElem_cons h, getD_lt h]
theorem fits_104 {n : Nat} (h : n ≤ 1000000) : fitsRow n 104 = true := by
  unfold fitsRow room47 maxInt
  simp only [Bool.and_eq_true, decide_eq_true_eq]
  omega
theorem resL_cons {l : List I} (h : l ≠ []) : resL l = .sl 11 false false (List.map I.p l) := by
  have : l.length ≠ 0 := fun e => h (List.length_eq_zero_iff.1 e)
  simp [resL, listP, twK, twN, this]
section
variable (l : List I) (k : Nat) (nl full : Bool)
def zI : I := ⟨⟨0, 0, 0, 0, true, true, []⟩, false, ⟨0, 0, 0, 0, true, true, []⟩, false, false⟩
end
end Go.Proofs.YtlhfgonjcpapnaaGreatDoor.Abs

namespace Go.Proofs.YtlhfgonjcpapnaaGreatDoor.Abs
open Go Go.Proofs
def inI (x : I) (v : V) : Bool := decide (befE x.low ⟨v, false, false⟩ ≤ 0) && decide (befE ⟨v, true, false⟩ x.high ≤ 0)
def idxI (p : I → Bool) (l : List I) : Int := if l.findIdx p < l.length then (l.findIdx p : Int) else -1
def hasS (l : List I) (v : V) : Bool × Int := if mayR l then (if mayV v then (l.any fun x => inI x v, 0) else (false, 70)) else (false, 80)
end Go.Proofs.YtlhfgonjcpapnaaGreatDoor.Abs

namespace Go.Proofs.YtlhfgonjcpapnaaGreatDoor.Abs
open Go Go.Proofs
theorem span_has_1_go (x : I) (v : V) (r : PV) : FnGo E1 Tryz.f84 [I.p x, .ptr (V.p v) 0] r 2000 (.res (Ed.p ⟨(I.lo x), (I.lopen x), false⟩) (.res (intP (befE ⟨I.lo x, I.lopen x, false⟩ ⟨v, false, false⟩)) (.fork (.lts 4 (.res (Ed.p ⟨(I.hi x), (!I.hopen x), (I.less x)⟩) (.lit (.res (intP (befE ⟨v, true, false⟩ ⟨I.hi x, !I.hopen x, I.less x⟩)) (.lit (.lit (.hole 0))))))) (.lts 7 (.hole 0))))) =
  (((0 : Nat) = 0) ∧
 (Den E1 37 [I.p x] (Ed.p ⟨(I.lo x), (I.lopen x), false⟩)) ∧
 (Den E1 36 [Ed.p ⟨(I.lo x), (I.lopen x), false⟩, Ed.p ⟨v, false, false⟩] (intP (befE ⟨I.lo x, I.lopen x, false⟩ ⟨v, false, false⟩))) ∧
 ((decide (befE ⟨I.lo x, I.lopen x, false⟩ ⟨v, false, false⟩ ≤ (0 : Int))) = true →
 ((0 : Nat) = 0) ∧
 (Den E1 38 [I.p x] (Ed.p ⟨(I.hi x), (!I.hopen x), (I.less x)⟩)) ∧
 (Den E1 36 [Ed.p ⟨v, true, false⟩, Ed.p ⟨(I.hi x), (!I.hopen x), (I.less x)⟩] (intP (befE ⟨v, true, false⟩ ⟨I.hi x, !I.hopen x, I.less x⟩))) ∧
 (bolP (decide (befE ⟨v, true, false⟩ ⟨I.hi x, !I.hopen x, I.less x⟩ ≤ (0 : Int)))) = r) ∧
 ((decide (befE ⟨I.lo x, I.lopen x, false⟩ ⟨v, false, false⟩ ≤ (0 : Int))) = false →
 (bolP false) = r)) := by kernel_rfl
def slices_IndexFunc_api_Interval_api_Interval_S0 (l : List I) (k : Nat) (nl : Bool) (full : Bool) (v : V) (i : Int) (j : Nat → AV) (jr : Nat → Row) (g : Nat) : St :=
  { t := [.pv (.sl k nl full (List.map I.p l)), .pv (.clo (.func 84) [] [.ptr (V.p v) 0])] ++ jj j 2 5 ++ [intA ((↑(List.length (List.map I.p l)) : Int)), intA i] ++ jj j 9 10, h := [List.replicate 19 row0], g := g }
theorem slices_IndexFunc_api_Interval_api_Interval_go (l : List I) (k : Nat) (nl : Bool) (full : Bool) (v : V) (r : PV) : FnGo E1 Tryz.f121 [.sl k nl full (List.map I.p l), .clo (.func 84) [] [.ptr (V.p v) 0]] r 2000 (.mask (iv [(2, 6), (9, 18)]) []) =
  (AtAll Tryz.f121 r 0 (slices_IndexFunc_api_Interval_api_Interval_S0 l k nl full v 0)) := by kernel_rfl
theorem slices_IndexFunc_api_Interval_api_Interval_go_S0 (l : List I) (k : Nat) (nl : Bool) (full : Bool) (v : V) (i : Int) (j : Nat → AV) (jr : Nat → Row) (g : Nat) (r : PV) : LoopGo E1 Tryz.f121 r 0 2000 (.fork (.val (I.p (gI l i)) (.res (bolP (inI (gI l i) v)) (.fork (.hole 0) (.mask (iv [(2, 6), (9, 18)]) [])))) (.hole 0)) (slices_IndexFunc_api_Interval_api_Interval_S0 l k nl full v i j jr g) =
  (((decide (i < (↑(List.length (List.map I.p l)) : Int))) = true →
 (((0 : Int) ≤ i) ∧ ((nl = false) ∧ (k = 11))) ∧
 (((List.map I.p l)[Int.toNat i]?) = some (I.p (gI l i))) ∧
 (Den E1 84 [I.p (gI l i), .ptr (V.p v) 0] (bolP (inI (gI l i) v))) ∧
 ((inI (gI l i) v) = true →
 (intP i) = r) ∧
 ((inI (gI l i) v) = false →
 AtAll Tryz.f121 r 0 (slices_IndexFunc_api_Interval_api_Interval_S0 l k nl full v (IntKind.i64.wrap (i + (1 : Int)))))) ∧
 ((decide (i < (↑(List.length (List.map I.p l)) : Int))) = false →
 (intP (-1)) = r)) := by kernel_rfl
theorem slices_ContainsFunc_api_Interval_api_Interval_go (l : List I) (k : Nat) (nl : Bool) (full : Bool) (v : V) (r : PV) : FnGo E1 Tryz.f83 [.sl k nl full (List.map I.p l), .clo (.func 84) [] [.ptr (V.p v) 0]] r 2000 (.res (intP (idxI (fun x => inI x v) l)) (.hole 0)) =
  ((Den E1 121 [.sl k nl full (List.map I.p l), .clo (.func 84) [] [.ptr (V.p v) 0]] (intP (idxI (fun x => inI x v) l))) ∧
 (bolP (decide (idxI (fun x => inI x v) l ≥ (0 : Int)))) = r) := by kernel_rfl
theorem span_has_go (l : List I) (k : Nat) (nl : Bool) (full : Bool) (v : V) (r : PV) : FnGo E1 Tryz.f47 [.sl k nl full (List.map I.p l), V.p v] r 2000 (.ev (.res (bolP (List.any l fun x => inI x v)) (.hole 0))) =
  ((Den E1 83 [.sl k nl full (List.map I.p l), .clo (.func 84) [] [.ptr (V.p v) 0]] (bolP (List.any l fun x => inI x v))) ∧
 (bolP (List.any l fun x => inI x v)) = r) := by kernel_rfl
theorem span_Has_go (l : List I) (k : Nat) (nl : Bool) (full : Bool) (v : V) (r : PV) : FnGo E1 Tryz.f25 [.sl k nl full (List.map I.p l), V.p v] r 2000 (.res (intP (errS (mayR l))) (.fork (.hole 0) (.res (intP (errV (mayV v))) (.fork (.hole 0) (.res (bolP (List.any l fun x => inI x v)) (.hole 0)))))) =
  ((Den E1 12 [.sl k nl full (List.map I.p l)] (intP (errS (mayR l)))) ∧
 ((errS (mayR l) != (0 : Int)) = true →
 ((.tup [bolP false, intP 80]) : PV) = r) ∧
 ((errS (mayR l) != (0 : Int)) = false →
 ((0 : Nat) = 0) ∧
 (Den E1 59 [V.p v] (intP (errV (mayV v)))) ∧
 ((errV (mayV v) != (0 : Int)) = true →
 ((.tup [bolP false, intP 70]) : PV) = r) ∧
 ((errV (mayV v) != (0 : Int)) = false →
 ((0 : Nat) = 0) ∧
 (Den E1 47 [.sl k nl full (List.map I.p l), V.p v] (bolP (List.any l fun x => inI x v))) ∧
 ((.tup [bolP (List.any l fun x => inI x v), intP 0]) : PV) = r))) := by kernel_rfl
end Go.Proofs.YtlhfgonjcpapnaaGreatDoor.Abs

namespace Go.Proofs.YtlhfgonjcpapnaaGreatDoor.Abs
open Go Go.Proofs
theorem frzs_msl {h h1 : Heap} {d s g n k : Nat} {full fz : Bool} {e : TypeId} {xs : List PV} (hb : hget h d s = ⟨g, .row k e xs fz⟩) (hn : xs.length = n) (hm : marks [(d, s)] h = h1) : frzs frzDepth [.msl d s g 0 n full] h = some ([.sl k false full xs], h1) := by
  have hp : pk h frzDepth (.msl d s g 0 n full) = some (.sl k false full xs, [(d, s)]) := pk_msl hb hn
  simp only [frzs, pks, hp, Option.bind_some, Option.map_some, List.append_nil]
  rw [hm]
def mixL (x y : I) : I := ⟨y.lo, y.lopen, x.hi, x.hopen, x.less⟩
theorem meet1_a {x y : I} (h1 : decide (lowB x.lb y.lb < 0) = true) (h2 : decide (highI y (mixL x y) < 0) = true) : meet1 x y = y := by
  simp only [decide_eq_true_eq] at h1 h2
  unfold meet1
  simp only [h1, if_true]
  exact if_pos h2
theorem meet1_b {x y : I} (h1 : decide (lowB x.lb y.lb < 0) = true) (h2 : decide (highI y (mixL x y) < 0) = false) : meet1 x y = mixL x y := by
  simp only [decide_eq_true_eq, decide_eq_false_iff_not] at h1 h2
  unfold meet1
  simp only [h1, if_true]
  exact if_neg h2
theorem meet1_c {x y : I} (h1 : decide (lowB x.lb y.lb < 0) = false) (h2 : decide (highI y x < 0) = true) : meet1 x y = mixL y x := by
  simp only [decide_eq_true_eq, decide_eq_false_iff_not] at h1 h2
  unfold meet1
  simp only [h1, if_false]
  exact if_pos h2
theorem meet1_d {x y : I} (h1 : decide (lowB x.lb y.lb < 0) = false) (h2 : decide (highI y x < 0) = false) : meet1 x y = x := by
  simp only [decide_eq_false_iff_not] at h1 h2
  unfold meet1
  simp only [h1, if_false]
  exact if_neg h2
section
variable (l m : List I) (k k' : Nat) (nl full nl' full' : Bool)
end
theorem den_inI (x : I) (v : V) (hx : x.ok) (hv : v.ok) : Den E1 84 [x.p, .ptr v.p 0] (bolP (inI x v)) := by
  refine den1 2000 _ rfl (by kernel_rfl) rfl rfl rfl (Eq.mpr (span_has_1_go x v _) ?_)
  refine ⟨rfl, den_low x, den_before x.low ⟨v, false, false⟩ hx.lo hv, fun h => ⟨rfl, den_high x, den_before ⟨v, true, false⟩ x.high hv hx.hi, ?_⟩, fun h => ?_⟩
  · have h' : decide (befE x.low ⟨v, false, false⟩ ≤ 0) = true := h
    simp only [inI, h']; rfl
  · have h' : decide (befE x.low ⟨v, false, false⟩ ≤ 0) = false := h
    simp only [inI, h']; rfl
theorem den_IndexFuncI (l : List I) (k : Nat) (nl full : Bool) (v : V) (hsl : slOk 11 k nl l.length) (hll : l.length < 1000000) (hok : ∀ x ∈ l, x.ok) (hv : v.ok) :
    Den E1 121 [listP k nl full l, .clo (.func 84) [] [.ptr v.p 0]] (intP (idxI (fun x => inI x v) l)) := by
  refine den1 2000 _ rfl (by kernel_rfl) rfl rfl rfl (Eq.mpr (slices_IndexFunc_api_Interval_api_Interval_go l k nl full v _) fun j jr g => ?_)
  have H : ∀ (n i : Nat) j jr g, i + n = l.length → (l.findIdx (fun x => inI x v) = i + (l.drop i).findIdx (fun x => inI x v)) → LoopAt E1 Tryz.f121 (intP (idxI (fun x => inI x v) l)) 0 (slices_IndexFunc_api_Interval_api_Interval_S0 l k nl full v i j jr g) := by
    intro n
    induction n with
    | zero =>
      intro i j jr g hi hd
      refine loop_go 2000 _ (Eq.mpr (slices_IndexFunc_api_Interval_api_Interval_go_S0 l k nl full v i j jr g _) ⟨fun h => ?_, fun h => ?_⟩)
      · simp only [decide_eq_true_eq, List.length_map] at h; omega
      · unfold idxI
        rw [if_neg (by rw [hd]; omega)]
    | succ n ih =>
      intro i j jr g hi hd
      have hil : i < l.length := by omega
      have hw1 : IntKind.wrap IntKind.i64 ((i : Int) + 1) = ((i + 1 : Nat) : Int) := wrap_i64 _ (by omega) (by omega)
      refine loop_go 2000 _ (Eq.mpr (slices_IndexFunc_api_Interval_api_Interval_go_S0 l k nl full v i j jr g _) ⟨fun h => ?_, fun h => ?_⟩)
      · simp only [hw1, Int.toNat_natCast, gI_nat, gI_zero]
        rw [drop_get hil, List.findIdx_cons] at hd
        refine ⟨⟨by omega, sl_at hsl hil⟩, getI hil, den_inI _ v (by rw [getD_lt hil]; exact hok _ (by simp)) hv, fun he => ?_, fun he j jr g => ?_⟩
        · rw [he] at hd
          have hd' : l.findIdx (fun x => inI x v) = i := hd
          unfold idxI
          rw [hd', if_pos hil]
        · rw [he] at hd
          exact ih (i + 1) j jr g (by omega) (by rw [hd]; simp only [cond_false]; omega)
      · simp only [decide_eq_false_iff_not, List.length_map] at h; omega
  exact H l.length 0 j jr g (by omega) (by simp)
theorem idx_any (p : I → Bool) (l : List I) : decide (idxI p l ≥ 0) = l.any p := by
  unfold idxI
  by_cases h : l.findIdx p < l.length
  · rw [if_pos h]
    have : l.any p = true := List.any_eq_true.2 ⟨l[l.findIdx p], by simp, List.findIdx_getElem (w := h)⟩
    rw [this]; simp
  · rw [if_neg h]
    have h2 : l.any p = false := by
      rw [List.any_eq_false]
      intro x hx hp
      exact h (List.findIdx_lt_length_of_exists ⟨x, hx, hp⟩)
    rw [h2]; rfl
theorem den_has (l : List I) (k : Nat) (nl full : Bool) (v : V) (hsl : slOk 11 k nl l.length) (hll : l.length < 1000000) (hok : ∀ x ∈ l, x.ok) (hv : v.ok) : Den E1 47 [listP k nl full l, v.p] (bolP (l.any fun x => inI x v)) := by
  refine den1 2000 _ rfl (by kernel_rfl) rfl rfl rfl (Eq.mpr (span_has_go l k nl full v _) ⟨?_, rfl⟩)
  refine den_go 2000 _ rfl (by kernel_rfl) rfl rfl rfl rfl (Eq.mpr (slices_ContainsFunc_api_Interval_api_Interval_go l k nl full v _) ⟨den_IndexFuncI l k nl full v hsl hll hok hv, ?_⟩)
  rw [idx_any]
theorem den_Has (l : List I) (k : Nat) (nl full : Bool) (v : V) (hsl : slOk 11 k nl l.length) (hll : l.length < 1000000) (hok : ∀ x ∈ l, x.ok) (hv : v.ok) : Den E1 25 [listP k nl full l, v.p] (.tup [bolP (hasS l v).1, intP (hasS l v).2]) := by
  have hmay := den_span_May l k nl full hsl hok
  rw [may_same] at hmay
  refine den1 2000 _ rfl (by kernel_rfl) rfl rfl rfl (Eq.mpr (span_Has_go l k nl full v _) ⟨hmay, fun h => ?_, fun h => ⟨rfl, den_version_May v hv, fun h2 => ?_, fun h2 => ⟨rfl, den_has l k nl full v hsl hll hok hv, ?_⟩⟩⟩)
  · have : mayR l = false := by cases hm : mayR l with
      | true => rw [hm] at h; cases h
      | false => rfl
    simp only [hasS, this]; rfl
  · have h1 : mayR l = true := by cases hm : mayR l with
      | true => rfl
      | false => rw [hm] at h; cases h
    have h3 : mayV v = false := by cases hm : mayV v with
      | true => rw [hm] at h2; cases h2
      | false => rfl
    simp only [hasS, h1, h3]; rfl
  · have h1 : mayR l = true := by cases hm : mayR l with
      | true => rfl
      | false => rw [hm] at h; cases h
    have h3 : mayV v = true := by cases hm : mayV v with
      | true => rfl
      | false => rw [hm] at h2; cases h2
    simp only [hasS, h1, h3]; rfl
end Go.Proofs.YtlhfgonjcpapnaaGreatDoor.Abs

namespace Go.Proofs.YtlhfgonjcpapnaaGreatDoor.Abs
open Go Go.Proofs
def An {α : Type} (f : α → α → Int) : Prop := ∀ a b, f b a = - f a b
theorem An.lex {α : Type} {f g : α → α → Int} (hf : An f) (hg : An g) : An (lex2 f g) := by
  intro a b
  unfold lex2
  rw [hf a b, hg a b]
  by_cases h : f a b = 0
  · simp [h]
  · rw [if_pos (by omega), if_pos h]
theorem cmpI_neg (x y : Int) : cmpI y x = - cmpI x y := by
  unfold cmpI
  by_cases h1 : x < y
  · rw [if_neg (by omega), if_pos (by omega), if_pos h1]; rfl
  · by_cases h2 : x > y
    · rw [if_pos (by omega), if_neg h1, if_pos h2]
    · rw [if_neg (by omega), if_neg (by omega), if_neg h1, if_neg h2]; rfl
theorem An.key {α : Type} (k : α → Int) : An (fun a b => cmpI (k a) (k b)) := fun a b => cmpI_neg _ _
theorem An.list {α : Type} {f : α → α → Int} (hf : An f) : An (lexL f) := by
  intro x
  induction x with
  | nil => intro y; cases y <;> rfl
  | cons a x ih =>
    intro y
    cases y with
    | nil => rfl
    | cons b y =>
      simp only [lexL]
      rw [hf a b, ih y]
      by_cases h : f a b = 0
      · simp [h]
      · rw [if_pos (by omega), if_pos h]
theorem An.congr {α : Type} {f g : α → α → Int} (h : ∀ a b, f a b = g a b) (hg : An g) : An f := by
  have : f = g := by funext a b; exact h a b
  rw [this]; exact hg
theorem an_cmpV : An cmpV := An.congr cmpV_lex (An.lex (An.key V.a) (An.lex (An.key V.b) (An.lex (An.key V.c) (An.lex (An.key relV) fun v w => An.list (An.congr ordL_lex (An.lex (An.key rankL) (An.lex (An.key lenL) (An.congr cmpS_lex (An.list (An.key fun a : UInt8 => (a.toNat : Int))))))) v.pre w.pre))))
theorem right_all {l : List I} (h : mayR l = true) : ∀ x ∈ l, rightI x = true ∧ emptyI x = false := by
  simp only [mayR, Bool.and_eq_true, List.all_eq_true] at h
  intro x hx
  have := h.1.2 x hx
  simpa using this
theorem not_eq {b : Bool} : ((!b) = true → b = false) ∧ ((!b) = false → b = true) := by cases b <;> simp
end Go.Proofs.YtlhfgonjcpapnaaGreatDoor.Abs

namespace Go.Proofs.YtlhfgonjcpapnaaGreatDoor.Abs
open Go Go.Proofs
def deadI (x : I) : Bool := decide (befE x.low x.high ≥ 0)
def zV : V := ⟨0, 0, 0, 0, true, true, []⟩
def betE (a b : Ed) : I := ⟨a.v, a.behind, if b.less then zV else b.v, if b.less then false else !b.behind, b.less⟩
def delL (l : List I) : List I := l.filter (fun x => !deadI x) ++ List.replicate (l.length - (l.filter (fun x => !deadI x)).length) zI
def delN (l : List I) : Nat := (l.filter (fun x => !deadI x)).length
def insPosS (s : List I) (x : I) : Nat → Nat
  | 0 => 0
  | k + 1 => if befE x.low (s.getD k default).low < 0 then insPosS s x k else k + 1
def insS (s : List I) (x : I) : List I := s.take (insPosS s x s.length) ++ x :: s.drop (insPosS s x s.length)
def sortS (l : List I) : List I := l.foldl insS []
def stepS (out : List I) (x : I) : List I :=
  if out.isEmpty then [x]
  else if befE (out.getD (out.length - 1) default).high x.low ≥ 0 then
    (if befE (out.getD (out.length - 1) default).high x.high < 0 then out.set (out.length - 1) (betE (out.getD (out.length - 1) default).low x.high) else out)
  else out ++ [x]
def joinS (l : List I) : List I := (sortS (l.filter fun x => !deadI x)).foldl stepS []
def insDown (a : Nat) : Nat → List I → List I
  | 0, l => l
  | j + 1, l => if a < j + 1 ∧ befE (l.getD (j + 1) default).low (l.getD j default).low < 0 then insDown a j ((l.set (j + 1) (l.getD j default)).set j (l.getD (j + 1) default)) else l
def insRange (a b : Nat) (l : List I) : List I := (List.range (b - (a + 1))).foldl (fun l t => insDown a (a + 1 + t) l) l
def symL (a m b : Nat) (l : List I) : List I := l.take a ++ ((l.take m).drop a).merge ((l.take b).drop m) (fun x y => decide (befE y.low x.low ≥ 0)) ++ l.drop b
def sortN (n : Nat) (l : List I) : List I := sortS (l.take n) ++ l.drop n
end Go.Proofs.YtlhfgonjcpapnaaGreatDoor.Abs

namespace Go.Proofs.YtlhfgonjcpapnaaGreatDoor.Abs
open Go Go.Proofs
theorem span_join_1_go (x : I) (r : PV) : FnGo E1 Tryz.f96 [I.p x] r 2000 (.res (Ed.p ⟨(I.lo x), (I.lopen x), false⟩) (.res (Ed.p ⟨(I.hi x), (!I.hopen x), (I.less x)⟩) (.res (intP (befE ⟨I.lo x, I.lopen x, false⟩ ⟨I.hi x, !I.hopen x, I.less x⟩)) (.hole 0)))) =
  (((0 : Nat) = 0) ∧
 (Den E1 37 [I.p x] (Ed.p ⟨(I.lo x), (I.lopen x), false⟩)) ∧
 ((0 : Nat) = 0) ∧
 (Den E1 38 [I.p x] (Ed.p ⟨(I.hi x), (!I.hopen x), (I.less x)⟩)) ∧
 (Den E1 36 [Ed.p ⟨(I.lo x), (I.lopen x), false⟩, Ed.p ⟨(I.hi x), (!I.hopen x), (I.less x)⟩] (intP (befE ⟨I.lo x, I.lopen x, false⟩ ⟨I.hi x, !I.hopen x, I.less x⟩))) ∧
 (bolP (decide (befE ⟨I.lo x, I.lopen x, false⟩ ⟨I.hi x, !I.hopen x, I.less x⟩ ≥ (0 : Int)))) = r) := by kernel_rfl
theorem span_join_2_go (x : I) (y : I) (r : PV) : FnGo E1 Tryz.f98 [I.p x, I.p y] r 2000 (.res (Ed.p ⟨(I.lo x), (I.lopen x), false⟩) (.res (Ed.p ⟨(I.lo y), (I.lopen y), false⟩) (.res (intP (befE ⟨I.lo x, I.lopen x, false⟩ ⟨I.lo y, I.lopen y, false⟩)) (.hole 0)))) =
  (((0 : Nat) = 0) ∧
 (Den E1 37 [I.p x] (Ed.p ⟨(I.lo x), (I.lopen x), false⟩)) ∧
 ((1 : Nat) = 1) ∧
 (Den E1 37 [I.p y] (Ed.p ⟨(I.lo y), (I.lopen y), false⟩)) ∧
 (Den E1 36 [Ed.p ⟨(I.lo x), (I.lopen x), false⟩, Ed.p ⟨(I.lo y), (I.lopen y), false⟩] (intP (befE ⟨I.lo x, I.lopen x, false⟩ ⟨I.lo y, I.lopen y, false⟩))) ∧
 (intP (befE ⟨I.lo x, I.lopen x, false⟩ ⟨I.lo y, I.lopen y, false⟩)) = r) := by kernel_rfl
theorem span_between_go (a : Ed) (b : Ed) (r : PV) : FnGo E1 Tryz.f89 [Ed.p ⟨(Ed.v a), (Ed.behind a), (Ed.less a)⟩, Ed.p ⟨(Ed.v b), (Ed.behind b), (Ed.less b)⟩] r 2000 (.fork (.hole 0) (.hole 0)) =
  (((0 : Nat) = 0) ∧
 ((0 : Nat) = 0) ∧
 ((1 : Nat) = 1) ∧
 ((11 : Nat) = 11) ∧
 ((1 : Nat) = 1) ∧
 ((!Ed.less b) = true →
 ((1 : Nat) = 1) ∧
 ((1 : Nat) = 1) ∧
 ((11 : Nat) = 11) ∧
 ((11 : Nat) = 11) ∧
 ((2 : Nat) = 2) ∧
 (I.p ⟨(Ed.v a), (Ed.behind a), (Ed.v b), (!Ed.behind b), (Ed.less b)⟩) = r) ∧
 ((!Ed.less b) = false →
 ((11 : Nat) = 11) ∧
 ((2 : Nat) = 2) ∧
 (itvP (V.a (Ed.v a)) (V.b (Ed.v a)) (V.c (Ed.v a)) (V.q (Ed.v a)) (Ed.behind a) 0 0 0 (.sl 0 true true []) false (Ed.less b)) = r)) := by kernel_rfl
def slices_IndexFunc_api_Interval_api_Interval_D_S0 (l : List I) (k : Nat) (nl : Bool) (full : Bool) (i : Int) (j : Nat → AV) (jr : Nat → Row) (g : Nat) : St :=
  { t := [.pv (.sl k nl full (List.map I.p l)), .pv (.clo (.func 96) [] [])] ++ jj j 2 5 ++ [intA ((↑(List.length (List.map I.p l)) : Int)), intA i] ++ jj j 9 10, h := [List.replicate 19 row0], g := g }
theorem slices_IndexFunc_api_Interval_api_Interval_D_go (l : List I) (k : Nat) (nl : Bool) (full : Bool) (r : PV) : FnGo E1 Tryz.f121 [.sl k nl full (List.map I.p l), .clo (.func 96) [] []] r 2000 (.mask (iv [(2, 6), (9, 18)]) []) =
  (AtAll Tryz.f121 r 0 (slices_IndexFunc_api_Interval_api_Interval_D_S0 l k nl full 0)) := by kernel_rfl
theorem slices_IndexFunc_api_Interval_api_Interval_D_go_S0 (l : List I) (k : Nat) (nl : Bool) (full : Bool) (i : Int) (j : Nat → AV) (jr : Nat → Row) (g : Nat) (r : PV) : LoopGo E1 Tryz.f121 r 0 2000 (.fork (.val (I.p (gI l i)) (.res (bolP (deadI (gI l i))) (.fork (.hole 0) (.mask (iv [(2, 6), (9, 18)]) [])))) (.hole 0)) (slices_IndexFunc_api_Interval_api_Interval_D_S0 l k nl full i j jr g) =
  (((decide (i < (↑(List.length (List.map I.p l)) : Int))) = true →
 (((0 : Int) ≤ i) ∧ ((nl = false) ∧ (k = 11))) ∧
 (((List.map I.p l)[Int.toNat i]?) = some (I.p (gI l i))) ∧
 (Den E1 96 [I.p (gI l i)] (bolP (deadI (gI l i)))) ∧
 ((deadI (gI l i)) = true →
 (intP i) = r) ∧
 ((deadI (gI l i)) = false →
 AtAll Tryz.f121 r 0 (slices_IndexFunc_api_Interval_api_Interval_D_S0 l k nl full (IntKind.i64.wrap (i + (1 : Int)))))) ∧
 ((decide (i < (↑(List.length (List.map I.p l)) : Int))) = false →
 (intP (-1)) = r)) := by kernel_rfl
theorem slices_Clone_api_Interval_api_Interval_O_go (l : List I) (k : Nat) (full : Bool) (kk : Nat) (ee : TypeId) (xs : List PV) (off m : Nat) (fu : Bool) : FnGoO E1 Tryz.f95 [.sl k false full (List.map I.p l)] kk ee xs off m fu 2000 (.lit (.fork (.hole 0) (.lit (.hole 0)))) =
  ((((false = true → (List.map I.p l) = [])) ∧ ((false = false → k = 11))) ∧
 ((List.isEmpty (List.map I.p l)) = true →
 False) ∧
 ((List.isEmpty (List.map I.p l)) = false →
 ((true = true) ∧ (((11 : Nat) = 11) ∧ ((fitsRow ((0 : Nat) + List.length (List.map I.p l)) (104 : Nat)) = true))) ∧
 (((0 : Nat) = off) ∧ ((((0 : Nat) + List.length (List.map I.p l)) = m) ∧ (false = fu))) ∧
 ((5 : Nat) = 5) ∧
 ((11 : Nat) = kk) ∧
 ((63 : Nat) = ee) ∧
 ([] ++ List.map I.p l) = xs)) := by kernel_rfl
theorem slices_Clone_api_Interval_api_Interval_P_go (k : Nat) (full : Bool) (r : PV) : FnGoP E1 Tryz.f95 [.sl k true full []] r 2000 (.lit (.hole 0)) =
  (((.sl 0 true true []) : PV) = r) := by kernel_rfl
def slices_DeleteFunc_api_Interval_api_Interval_S0 (l : List I) (n : Nat) (fu : Bool) (i : Int) (q : Int) (xsI : List PV) (j : Nat → AV) (jr : Nat → Row) (g : Nat) : St :=
  { t := [.msl 0 0 0 0 n fu, .pv (.clo (.func 96) [] []), j 2, j 3, j 4, intA q, intA i] ++ jj j 7 35, h := [[⟨0, .row 11 63 xsI false⟩], List.replicate 7 row0 ++ [jr 7] ++ List.replicate 34 row0], g := g }
theorem slices_DeleteFunc_api_Interval_api_Interval_go (l : List I) (n : Nat) (fu : Bool) (v : AV) (rs : List Row) : FnGoC E1 Tryz.f94 [.msl 0 0 0 0 n fu, .pv (.clo (.func 96) [] [])] [⟨0, .row 11 63 (List.map I.p l) false⟩] v rs 2000 (.frz [.sl 11 false fu (List.map I.p l), .clo (.func 96) [] []] [[⟨0, .row 11 63 (List.map I.p l) true⟩], List.replicate 42 row0] (.res (intP (idxI deadI l)) (.fork (.hole 0) (.mask (iv [(2, 4), (7, 41)]) [7])))) =
  ((frzs frzDepth [.msl 0 0 0 0 n fu, .pv (.clo (.func 96) [] [])] [[⟨0, .row 11 63 (List.map I.p l) false⟩], List.replicate 42 row0] = some ([.sl 11 false fu (List.map I.p l), .clo (.func 96) [] []], [[⟨0, .row 11 63 (List.map I.p l) true⟩], List.replicate 42 row0])) ∧
 (Den E1 121 [.sl 11 false fu (List.map I.p l), .clo (.func 96) [] []] (intP (idxI deadI l))) ∧
 ((idxI deadI l == (-1 : Int)) = true →
 ((0 : Nat) = 0) ∧
 ((0 : Nat) = 0) ∧
 ((.msl 0 0 0 0 n fu) = v) ∧
 [⟨0, .row 11 63 (List.map I.p l) false⟩] = rs) ∧
 ((idxI deadI l == (-1 : Int)) = false →
 ∀ (j' : Nat → AV) (jr' : Nat → Row) (g' : Nat), LoopAtC E1 Tryz.f94 1 v rs 0 (slices_DeleteFunc_api_Interval_api_Interval_S0 l n fu (IntKind.i64.wrap (idxI deadI l + (1 : Int))) (idxI deadI l) (List.map I.p l) j' jr' g'))) := by kernel_rfl
theorem slices_DeleteFunc_api_Interval_api_Interval_go_S0 (l : List I) (n : Nat) (fu : Bool) (i : Int) (q : Int) (xs : List I) (j : Nat → AV) (jr : Nat → Row) (g : Nat) (v : AV) (rs : List Row) : LoopGoC E1 Tryz.f94 1 v rs 0 2000 (.fork (.val (I.p (List.getD xs ((0 : Nat) + Int.toNat i) default)) (.res (bolP (deadI (List.getD xs ((0 : Nat) + Int.toNat i) default))) (.fork (.val (I.p (List.getD xs ((0 : Nat) + Int.toNat q) default)) (.mask (iv [(2, 4), (7, 41)]) [7])) (.mask (iv [(2, 4), (7, 41)]) [7])))) (.fork (.hole 0) (.hole 0))) (slices_DeleteFunc_api_Interval_api_Interval_S0 l n fu i q (List.map I.p xs) j jr g) =
  (((decide (i < (↑n : Int))) = true →
 ((0 : Nat) = 0) ∧
 (((0 : Int) ≤ i) ∧ ((i < (↑n : Int)) ∧ ((11 : Nat) = 11))) ∧
 ((0 : Nat) = 0) ∧
 (((List.map I.p xs)[(0 : Nat) + Int.toNat i]?) = some (I.p (List.getD xs ((0 : Nat) + Int.toNat i) default))) ∧
 ((g + 4 + 4) = g + 4 + 4) ∧
 ((g + 4 + 4) = g + 4 + 4) ∧
 (Den E1 96 [I.p (List.getD xs ((0 : Nat) + Int.toNat i) default)] (bolP (deadI (List.getD xs ((0 : Nat) + Int.toNat i) default)))) ∧
 ((!deadI (List.getD xs ((0 : Nat) + Int.toNat i) default)) = true →
 ((g + 4 + 4) = g + 4 + 4) ∧
 ((0 : Nat) = 0) ∧
 (((0 : Int) ≤ q) ∧ ((q < (↑n : Int)) ∧ ((11 : Nat) = 11))) ∧
 ((0 : Nat) = 0) ∧
 ((0 : Nat) = 0) ∧
 (((List.map I.p xs)[(0 : Nat) + Int.toNat q]?) = some (I.p (List.getD xs ((0 : Nat) + Int.toNat q) default))) ∧
 (∀ (j' : Nat → AV) (jr' : Nat → Row) (g' : Nat), LoopAtC E1 Tryz.f94 1 v rs 0 (slices_DeleteFunc_api_Interval_api_Interval_S0 l n fu (IntKind.i64.wrap (i + (1 : Int))) (IntKind.i64.wrap (q + (1 : Int))) (List.set (List.map I.p xs) ((0 : Nat) + Int.toNat q) (PV.agg [PV.lit (Value.int IntKind.u32 (V.a (I.lo (List.getD xs ((0 : Nat) + Int.toNat i) default)))), PV.lit (Value.int IntKind.u32 (V.b (I.lo (List.getD xs ((0 : Nat) + Int.toNat i) default)))), PV.lit (Value.int IntKind.u32 (V.c (I.lo (List.getD xs ((0 : Nat) + Int.toNat i) default)))), V.q (I.lo (List.getD xs ((0 : Nat) + Int.toNat i) default)), PV.lit (Value.bool (I.lopen (List.getD xs ((0 : Nat) + Int.toNat i) default))), PV.lit (Value.int IntKind.u32 (V.a (I.hi (List.getD xs ((0 : Nat) + Int.toNat i) default)))), PV.lit (Value.int IntKind.u32 (V.b (I.hi (List.getD xs ((0 : Nat) + Int.toNat i) default)))), PV.lit (Value.int IntKind.u32 (V.c (I.hi (List.getD xs ((0 : Nat) + Int.toNat i) default)))), V.q (I.hi (List.getD xs ((0 : Nat) + Int.toNat i) default)), PV.lit (Value.bool (I.hopen (List.getD xs ((0 : Nat) + Int.toNat i) default))), PV.lit (Value.bool (I.less (List.getD xs ((0 : Nat) + Int.toNat i) default)))])) j' jr' g'))) ∧
 ((!deadI (List.getD xs ((0 : Nat) + Int.toNat i) default)) = false →
 ∀ (j' : Nat → AV) (jr' : Nat → Row) (g' : Nat), LoopAtC E1 Tryz.f94 1 v rs 0 (slices_DeleteFunc_api_Interval_api_Interval_S0 l n fu (IntKind.i64.wrap (i + (1 : Int))) q (List.map I.p xs) j' jr' g'))) ∧
 ((decide (i < (↑n : Int))) = false →
 (((0 : Int) ≤ q) ∧ (q ≤ (↑n : Int))) ∧
 ((0 : Nat) = 0) ∧
 ((11 : Nat) = 11) ∧
 ((0 : Nat) = 0) ∧
 ((n - Int.toNat q == (0 : Nat)) = true →
 (((0 : Int) ≤ q) ∧ (q ≤ (↑n : Int))) ∧
 ((0 : Nat) = 0) ∧
 ((11 : Nat) = 11) ∧
 ((0 : Nat) = 0) ∧
 ((0 : Nat) = 0) ∧
 ((.msl 0 0 0 0 (Int.toNat q - (0 : Nat)) (fu && Int.toNat q == n)) = v) ∧
 [⟨0, .row 11 63 (List.map I.p xs) false⟩] = rs) ∧
 ((n - Int.toNat q == (0 : Nat)) = false →
 ((true = true) ∧ (((11 : Nat) = 11) ∧ (((11 : Nat) ≠ (0 : Nat)) ∧ ((0 : Nat) + Int.toNat q + (n - Int.toNat q) ≤ List.length (List.map I.p xs))))) ∧
 (((0 : Int) ≤ q) ∧ (q ≤ (↑n : Int))) ∧
 ((0 : Nat) = 0) ∧
 ((11 : Nat) = 11) ∧
 ((0 : Nat) = 0) ∧
 ((0 : Nat) = 0) ∧
 ((.msl 0 0 0 0 (Int.toNat q - (0 : Nat)) (fu && Int.toNat q == n)) = v) ∧
 [⟨0, .row 11 63 (splice (List.map I.p xs) ((0 : Nat) + Int.toNat q) (List.replicate (n - Int.toNat q) (PV.agg [PV.lit (Value.int IntKind.u32 (0 : Int)), PV.lit (Value.int IntKind.u32 (0 : Int)), PV.lit (Value.int IntKind.u32 (0 : Int)), PV.sl (0 : Nat) true true [], PV.lit (Value.bool false), PV.lit (Value.int IntKind.u32 (0 : Int)), PV.lit (Value.int IntKind.u32 (0 : Int)), PV.lit (Value.int IntKind.u32 (0 : Int)), PV.sl (0 : Nat) true true [], PV.lit (Value.bool false), PV.lit (Value.bool false)]))) false⟩] = rs))) := by kernel_rfl
def slices_insertionSortCmpFunc_api_Interval_S0 (l : List I) (n : Nat) (fu : Bool) (a : Int) (b : Int) (i : Int) (xsI : List PV) (j : Nat → AV) (jr : Nat → Row) (g : Nat) : St :=
  { t := [.msl 0 0 0 0 n fu, intA a, intA b, .pv (.clo (.func 98) [] []), j 4, j 5, j 6, j 7, intA i] ++ jj j 9 44, h := [[⟨0, .row 11 63 xsI false⟩], List.replicate 53 row0], g := g }
def slices_insertionSortCmpFunc_api_Interval_S1 (l : List I) (n : Nat) (fu : Bool) (a : Int) (b : Int) (i : Int) (q : Int) (xsI : List PV) (j : Nat → AV) (jr : Nat → Row) (g : Nat) : St :=
  { t := [.msl 0 0 0 0 n fu, intA a, intA b, .pv (.clo (.func 98) [] []), j 4, j 5, j 6, j 7, intA i, intA q] ++ jj j 10 43, h := [[⟨0, .row 11 63 xsI false⟩], List.replicate 53 row0], g := g }
theorem slices_insertionSortCmpFunc_api_Interval_go (l : List I) (n : Nat) (fu : Bool) (a : Int) (b : Int) (v : AV) (rs : List Row) : FnGoC E1 Tryz.f154 [.msl 0 0 0 0 n fu, intA a, intA b, .pv (.clo (.func 98) [] [])] [⟨0, .row 11 63 (List.map I.p l) false⟩] v rs 2000 (.mask (iv [(4, 7), (9, 52)]) []) =
  (∀ (j' : Nat → AV) (jr' : Nat → Row) (g' : Nat), LoopAtC E1 Tryz.f154 1 v rs 0 (slices_insertionSortCmpFunc_api_Interval_S0 l n fu a b (IntKind.i64.wrap (a + (1 : Int))) (List.map I.p l) j' jr' g')) := by kernel_rfl
theorem slices_insertionSortCmpFunc_api_Interval_go_S0 (l : List I) (n : Nat) (fu : Bool) (a : Int) (b : Int) (i : Int) (xs : List I) (j : Nat → AV) (jr : Nat → Row) (g : Nat) (v : AV) (rs : List Row) : LoopGoC E1 Tryz.f154 1 v rs 0 2000 (.fork (.mask (iv [(4, 7), (10, 52)]) []) (.hole 0)) (slices_insertionSortCmpFunc_api_Interval_S0 l n fu a b i (List.map I.p xs) j jr g) =
  (((decide (i < b)) = true →
 ∀ (j' : Nat → AV) (jr' : Nat → Row) (g' : Nat), LoopAtC E1 Tryz.f154 1 v rs 1 (slices_insertionSortCmpFunc_api_Interval_S1 l n fu a b i i (List.map I.p xs) j' jr' g')) ∧
 ((decide (i < b)) = false →
 ((0 : Nat) = 0) ∧
 ((.pv (.tup [])) = v) ∧
 [⟨0, .row 11 63 (List.map I.p xs) false⟩] = rs)) := by kernel_rfl
theorem slices_insertionSortCmpFunc_api_Interval_go_S1 (l : List I) (n : Nat) (fu : Bool) (a : Int) (b : Int) (i : Int) (q : Int) (xs : List I) (j : Nat → AV) (jr : Nat → Row) (g : Nat) (v : AV) (rs : List Row) : LoopGoC E1 Tryz.f154 1 v rs 1 2000 (.fork (.lts 5 (.val (I.p (List.getD xs ((0 : Nat) + Int.toNat q) default)) (.lts 5 (.val (I.p (List.getD xs ((0 : Nat) + Int.toNat (IntKind.i64.wrap (q - (1 : Int)))) default)) (.lit (.res (intP (befE ⟨I.lo (List.getD xs ((0 : Nat) + Int.toNat q) default), I.lopen (List.getD xs ((0 : Nat) + Int.toNat q) default), false⟩ ⟨I.lo (List.getD xs ((0 : Nat) + Int.toNat (IntKind.i64.wrap (q - (1 : Int)))) default), I.lopen (List.getD xs ((0 : Nat) + Int.toNat (IntKind.i64.wrap (q - (1 : Int)))) default), false⟩)) (.lit (.lit (.fork (.val (I.p (List.getD xs ((0 : Nat) + Int.toNat (IntKind.i64.wrap (q - (1 : Int)))) default)) (.val (I.p (List.getD xs ((0 : Nat) + Int.toNat q) default)) (.val (I.p (List.getD xs ((0 : Nat) + Int.toNat q) default)) (.val (I.p (List.getD xs ((0 : Nat) + Int.toNat (IntKind.i64.wrap (q - (1 : Int)))) default)) (.mask (iv [(4, 7), (10, 52)]) []))))) (.mask (iv [(4, 7), (9, 52)]) [])))))))))) (.lts 14 (.mask (iv [(4, 7), (9, 52)]) []))) (slices_insertionSortCmpFunc_api_Interval_S1 l n fu a b i q (List.map I.p xs) j jr g) =
  (((decide (q > a)) = true →
 ((0 : Nat) = 0) ∧
 (((0 : Int) ≤ q) ∧ ((q < (↑n : Int)) ∧ ((11 : Nat) = 11))) ∧
 ((0 : Nat) = 0) ∧
 (((List.map I.p xs)[(0 : Nat) + Int.toNat q]?) = some (I.p (List.getD xs ((0 : Nat) + Int.toNat q) default))) ∧
 ((0 : Nat) = 0) ∧
 (((0 : Int) ≤ IntKind.i64.wrap (q - (1 : Int))) ∧ ((IntKind.i64.wrap (q - (1 : Int)) < (↑n : Int)) ∧ ((11 : Nat) = 11))) ∧
 ((0 : Nat) = 0) ∧
 (((List.map I.p xs)[(0 : Nat) + Int.toNat (IntKind.i64.wrap (q - (1 : Int)))]?) = some (I.p (List.getD xs ((0 : Nat) + Int.toNat (IntKind.i64.wrap (q - (1 : Int)))) default))) ∧
 (Den E1 98 [I.p (List.getD xs ((0 : Nat) + Int.toNat q) default), I.p (List.getD xs ((0 : Nat) + Int.toNat (IntKind.i64.wrap (q - (1 : Int)))) default)] (intP (befE ⟨I.lo (List.getD xs ((0 : Nat) + Int.toNat q) default), I.lopen (List.getD xs ((0 : Nat) + Int.toNat q) default), false⟩ ⟨I.lo (List.getD xs ((0 : Nat) + Int.toNat (IntKind.i64.wrap (q - (1 : Int)))) default), I.lopen (List.getD xs ((0 : Nat) + Int.toNat (IntKind.i64.wrap (q - (1 : Int)))) default), false⟩))) ∧
 ((decide (befE ⟨I.lo (List.getD xs ((0 : Nat) + Int.toNat q) default), I.lopen (List.getD xs ((0 : Nat) + Int.toNat q) default), false⟩ ⟨I.lo (List.getD xs ((0 : Nat) + Int.toNat (IntKind.i64.wrap (q - (1 : Int)))) default), I.lopen (List.getD xs ((0 : Nat) + Int.toNat (IntKind.i64.wrap (q - (1 : Int)))) default), false⟩ < (0 : Int))) = true →
 ((0 : Nat) = 0) ∧
 (((0 : Int) ≤ IntKind.i64.wrap (q - (1 : Int))) ∧ ((IntKind.i64.wrap (q - (1 : Int)) < (↑n : Int)) ∧ ((11 : Nat) = 11))) ∧
 ((0 : Nat) = 0) ∧
 (((List.map I.p xs)[(0 : Nat) + Int.toNat (IntKind.i64.wrap (q - (1 : Int)))]?) = some (I.p (List.getD xs ((0 : Nat) + Int.toNat (IntKind.i64.wrap (q - (1 : Int)))) default))) ∧
 ((0 : Nat) = 0) ∧
 (((0 : Int) ≤ q) ∧ ((q < (↑n : Int)) ∧ ((11 : Nat) = 11))) ∧
 ((0 : Nat) = 0) ∧
 (((List.map I.p xs)[(0 : Nat) + Int.toNat q]?) = some (I.p (List.getD xs ((0 : Nat) + Int.toNat q) default))) ∧
 ((0 : Nat) = 0) ∧
 (((0 : Int) ≤ q) ∧ ((q < (↑n : Int)) ∧ ((11 : Nat) = 11))) ∧
 ((0 : Nat) = 0) ∧
 ((0 : Nat) = 0) ∧
 (((List.map I.p xs)[(0 : Nat) + Int.toNat q]?) = some (I.p (List.getD xs ((0 : Nat) + Int.toNat q) default))) ∧
 ((0 : Nat) = 0) ∧
 (((0 : Int) ≤ IntKind.i64.wrap (q - (1 : Int))) ∧ ((IntKind.i64.wrap (q - (1 : Int)) < (↑n : Int)) ∧ ((11 : Nat) = 11))) ∧
 ((0 : Nat) = 0) ∧
 ((0 : Nat) = 0) ∧
 (((List.set (List.map I.p xs) ((0 : Nat) + Int.toNat q) (PV.agg [PV.lit (Value.int IntKind.u32 (V.a (I.lo (List.getD xs ((0 : Nat) + Int.toNat (IntKind.i64.wrap (q - (1 : Int)))) default)))), PV.lit (Value.int IntKind.u32 (V.b (I.lo (List.getD xs ((0 : Nat) + Int.toNat (IntKind.i64.wrap (q - (1 : Int)))) default)))), PV.lit (Value.int IntKind.u32 (V.c (I.lo (List.getD xs ((0 : Nat) + Int.toNat (IntKind.i64.wrap (q - (1 : Int)))) default)))), V.q (I.lo (List.getD xs ((0 : Nat) + Int.toNat (IntKind.i64.wrap (q - (1 : Int)))) default)), PV.lit (Value.bool (I.lopen (List.getD xs ((0 : Nat) + Int.toNat (IntKind.i64.wrap (q - (1 : Int)))) default))), PV.lit (Value.int IntKind.u32 (V.a (I.hi (List.getD xs ((0 : Nat) + Int.toNat (IntKind.i64.wrap (q - (1 : Int)))) default)))), PV.lit (Value.int IntKind.u32 (V.b (I.hi (List.getD xs ((0 : Nat) + Int.toNat (IntKind.i64.wrap (q - (1 : Int)))) default)))), PV.lit (Value.int IntKind.u32 (V.c (I.hi (List.getD xs ((0 : Nat) + Int.toNat (IntKind.i64.wrap (q - (1 : Int)))) default)))), V.q (I.hi (List.getD xs ((0 : Nat) + Int.toNat (IntKind.i64.wrap (q - (1 : Int)))) default)), PV.lit (Value.bool (I.hopen (List.getD xs ((0 : Nat) + Int.toNat (IntKind.i64.wrap (q - (1 : Int)))) default))), PV.lit (Value.bool (I.less (List.getD xs ((0 : Nat) + Int.toNat (IntKind.i64.wrap (q - (1 : Int)))) default)))]))[(0 : Nat) + Int.toNat (IntKind.i64.wrap (q - (1 : Int)))]?) = some (I.p (List.getD xs ((0 : Nat) + Int.toNat (IntKind.i64.wrap (q - (1 : Int)))) default))) ∧
 (∀ (j' : Nat → AV) (jr' : Nat → Row) (g' : Nat), LoopAtC E1 Tryz.f154 1 v rs 1 (slices_insertionSortCmpFunc_api_Interval_S1 l n fu a b i (IntKind.i64.wrap (q - (1 : Int))) (List.set (List.set (List.map I.p xs) ((0 : Nat) + Int.toNat q) (PV.agg [PV.lit (Value.int IntKind.u32 (V.a (I.lo (List.getD xs ((0 : Nat) + Int.toNat (IntKind.i64.wrap (q - (1 : Int)))) default)))), PV.lit (Value.int IntKind.u32 (V.b (I.lo (List.getD xs ((0 : Nat) + Int.toNat (IntKind.i64.wrap (q - (1 : Int)))) default)))), PV.lit (Value.int IntKind.u32 (V.c (I.lo (List.getD xs ((0 : Nat) + Int.toNat (IntKind.i64.wrap (q - (1 : Int)))) default)))), V.q (I.lo (List.getD xs ((0 : Nat) + Int.toNat (IntKind.i64.wrap (q - (1 : Int)))) default)), PV.lit (Value.bool (I.lopen (List.getD xs ((0 : Nat) + Int.toNat (IntKind.i64.wrap (q - (1 : Int)))) default))), PV.lit (Value.int IntKind.u32 (V.a (I.hi (List.getD xs ((0 : Nat) + Int.toNat (IntKind.i64.wrap (q - (1 : Int)))) default)))), PV.lit (Value.int IntKind.u32 (V.b (I.hi (List.getD xs ((0 : Nat) + Int.toNat (IntKind.i64.wrap (q - (1 : Int)))) default)))), PV.lit (Value.int IntKind.u32 (V.c (I.hi (List.getD xs ((0 : Nat) + Int.toNat (IntKind.i64.wrap (q - (1 : Int)))) default)))), V.q (I.hi (List.getD xs ((0 : Nat) + Int.toNat (IntKind.i64.wrap (q - (1 : Int)))) default)), PV.lit (Value.bool (I.hopen (List.getD xs ((0 : Nat) + Int.toNat (IntKind.i64.wrap (q - (1 : Int)))) default))), PV.lit (Value.bool (I.less (List.getD xs ((0 : Nat) + Int.toNat (IntKind.i64.wrap (q - (1 : Int)))) default)))])) ((0 : Nat) + Int.toNat (IntKind.i64.wrap (q - (1 : Int)))) (PV.agg [PV.lit (Value.int IntKind.u32 (V.a (I.lo (List.getD xs ((0 : Nat) + Int.toNat q) default)))), PV.lit (Value.int IntKind.u32 (V.b (I.lo (List.getD xs ((0 : Nat) + Int.toNat q) default)))), PV.lit (Value.int IntKind.u32 (V.c (I.lo (List.getD xs ((0 : Nat) + Int.toNat q) default)))), V.q (I.lo (List.getD xs ((0 : Nat) + Int.toNat q) default)), PV.lit (Value.bool (I.lopen (List.getD xs ((0 : Nat) + Int.toNat q) default))), PV.lit (Value.int IntKind.u32 (V.a (I.hi (List.getD xs ((0 : Nat) + Int.toNat q) default)))), PV.lit (Value.int IntKind.u32 (V.b (I.hi (List.getD xs ((0 : Nat) + Int.toNat q) default)))), PV.lit (Value.int IntKind.u32 (V.c (I.hi (List.getD xs ((0 : Nat) + Int.toNat q) default)))), V.q (I.hi (List.getD xs ((0 : Nat) + Int.toNat q) default)), PV.lit (Value.bool (I.hopen (List.getD xs ((0 : Nat) + Int.toNat q) default))), PV.lit (Value.bool (I.less (List.getD xs ((0 : Nat) + Int.toNat q) default)))])) j' jr' g'))) ∧
 ((decide (befE ⟨I.lo (List.getD xs ((0 : Nat) + Int.toNat q) default), I.lopen (List.getD xs ((0 : Nat) + Int.toNat q) default), false⟩ ⟨I.lo (List.getD xs ((0 : Nat) + Int.toNat (IntKind.i64.wrap (q - (1 : Int)))) default), I.lopen (List.getD xs ((0 : Nat) + Int.toNat (IntKind.i64.wrap (q - (1 : Int)))) default), false⟩ < (0 : Int))) = false →
 ∀ (j' : Nat → AV) (jr' : Nat → Row) (g' : Nat), LoopAtC E1 Tryz.f154 1 v rs 0 (slices_insertionSortCmpFunc_api_Interval_S0 l n fu a b (IntKind.i64.wrap (i + (1 : Int))) (List.map I.p xs) j' jr' g'))) ∧
 ((decide (q > a)) = false →
 ∀ (j' : Nat → AV) (jr' : Nat → Row) (g' : Nat), LoopAtC E1 Tryz.f154 1 v rs 0 (slices_insertionSortCmpFunc_api_Interval_S0 l n fu a b (IntKind.i64.wrap (i + (1 : Int))) (List.map I.p xs) j' jr' g'))) := by kernel_rfl
def slices_stableCmpFunc_api_Interval_S0 (l : List I) (n : Nat) (fu : Bool) (a : Int) (b : Int) (xsI : List PV) (j : Nat → AV) (jr : Nat → Row) (g : Nat) : St :=
  { t := [.msl 0 0 0 0 n fu, intA ((↑n : Int)), .pv (.clo (.func 98) [] []), j 3, j 4, j 5, intA 20, intA a, intA b] ++ jj j 9 54, h := [[⟨0, .row 11 63 xsI false⟩], List.replicate 63 row0], g := g }
def slices_stableCmpFunc_api_Interval_S1 (l : List I) (n : Nat) (fu : Bool) (a : Int) (b : Int) (s : Int) (xsI : List PV) (j : Nat → AV) (jr : Nat → Row) (g : Nat) : St :=
  { t := [.msl 0 0 0 0 n fu, intA ((↑n : Int)), .pv (.clo (.func 98) [] []), j 3, j 4, j 5, intA s, intA a, intA b] ++ jj j 9 54, h := [[⟨0, .row 11 63 xsI false⟩], List.replicate 63 row0], g := g }
def slices_stableCmpFunc_api_Interval_S2 (l : List I) (n : Nat) (fu : Bool) (a : Int) (b : Int) (s : Int) (xsI : List PV) (j : Nat → AV) (jr : Nat → Row) (g : Nat) : St :=
  { t := [.msl 0 0 0 0 n fu, intA ((↑n : Int)), .pv (.clo (.func 98) [] []), j 3, j 4, j 5, intA s, intA a, intA b] ++ jj j 9 54, h := [[⟨0, .row 11 63 xsI false⟩], List.replicate 63 row0], g := g }
theorem slices_stableCmpFunc_api_Interval_go (l : List I) (n : Nat) (fu : Bool) (v : AV) (rs : List Row) : FnGoC E1 Tryz.f132 [.msl 0 0 0 0 n fu, intA ((↑n : Int)), .pv (.clo (.func 98) [] [])] [⟨0, .row 11 63 (List.map I.p l) false⟩] v rs 2000 (.mask (iv [(3, 5), (9, 62)]) []) =
  (∀ (j' : Nat → AV) (jr' : Nat → Row) (g' : Nat), LoopAtC E1 Tryz.f132 1 v rs 0 (slices_stableCmpFunc_api_Interval_S0 l n fu 0 20 (List.map I.p l) j' jr' g')) := by kernel_rfl
theorem slices_stableCmpFunc_api_Interval_go_S0 (l : List I) (n : Nat) (fu : Bool) (a : Int) (b : Int) (xs : List I) (j : Nat → AV) (jr : Nat → Row) (g : Nat) (v : AV) (rs : List Row) : LoopGoC E1 Tryz.f132 1 v rs 0 2000 (.fork (.resC (.pv (.tup [])) [⟨0, .row 11 63 (List.map I.p (insRange (Int.toNat a) (Int.toNat b) xs)) false⟩] (.mask (iv [(3, 5), (9, 62)]) [])) (.resC (.pv (.tup [])) [⟨0, .row 11 63 (List.map I.p (insRange (Int.toNat a) (Int.toNat (↑n : Int)) xs)) false⟩] (.mask (iv [(3, 5), (9, 62)]) []))) (slices_stableCmpFunc_api_Interval_S0 l n fu a b (List.map I.p xs) j jr g) =
  (((decide (b ≤ (↑n : Int))) = true →
 ((0 : Nat) = 0) ∧
 (DenC E1 154 [.msl 0 0 0 0 n fu, intA a, intA b, .pv (.clo (.func 98) [] [])] [⟨0, .row 11 63 (List.map I.p xs) false⟩] (.pv (.tup [])) [⟨0, .row 11 63 (List.map I.p (insRange (Int.toNat a) (Int.toNat b) xs)) false⟩]) ∧
 (∀ (j' : Nat → AV) (jr' : Nat → Row) (g' : Nat), LoopAtC E1 Tryz.f132 1 v rs 0 (slices_stableCmpFunc_api_Interval_S0 l n fu b (IntKind.i64.wrap (b + (20 : Int))) (List.map I.p (insRange (Int.toNat a) (Int.toNat b) xs)) j' jr' g'))) ∧
 ((decide (b ≤ (↑n : Int))) = false →
 ((0 : Nat) = 0) ∧
 (DenC E1 154 [.msl 0 0 0 0 n fu, intA a, intA ((↑n : Int)), .pv (.clo (.func 98) [] [])] [⟨0, .row 11 63 (List.map I.p xs) false⟩] (.pv (.tup [])) [⟨0, .row 11 63 (List.map I.p (insRange (Int.toNat a) (Int.toNat (↑n : Int)) xs)) false⟩]) ∧
 (∀ (j' : Nat → AV) (jr' : Nat → Row) (g' : Nat), LoopAtC E1 Tryz.f132 1 v rs 1 (slices_stableCmpFunc_api_Interval_S1 l n fu a b 20 (List.map I.p (insRange (Int.toNat a) (Int.toNat (↑n : Int)) xs)) j' jr' g')))) := by kernel_rfl
theorem slices_stableCmpFunc_api_Interval_go_S1 (l : List I) (n : Nat) (fu : Bool) (a : Int) (b : Int) (s : Int) (xs : List I) (j : Nat → AV) (jr : Nat → Row) (g : Nat) (v : AV) (rs : List Row) : LoopGoC E1 Tryz.f132 1 v rs 1 2000 (.fork (.mask (iv [(3, 5), (9, 62)]) []) (.hole 0)) (slices_stableCmpFunc_api_Interval_S1 l n fu a b s (List.map I.p xs) j jr g) =
  (((decide (s < (↑n : Int))) = true →
 ∀ (j' : Nat → AV) (jr' : Nat → Row) (g' : Nat), LoopAtC E1 Tryz.f132 1 v rs 2 (slices_stableCmpFunc_api_Interval_S2 l n fu 0 (IntKind.i64.wrap ((2 : Int) * s)) s (List.map I.p xs) j' jr' g')) ∧
 ((decide (s < (↑n : Int))) = false →
 ((0 : Nat) = 0) ∧
 ((.pv (.tup [])) = v) ∧
 [⟨0, .row 11 63 (List.map I.p xs) false⟩] = rs)) := by kernel_rfl
theorem slices_stableCmpFunc_api_Interval_go_S2 (l : List I) (n : Nat) (fu : Bool) (a : Int) (b : Int) (s : Int) (xs : List I) (j : Nat → AV) (jr : Nat → Row) (g : Nat) (v : AV) (rs : List Row) : LoopGoC E1 Tryz.f132 1 v rs 2 2000 (.fork (.resC (.pv (.tup [])) [⟨0, .row 11 63 (List.map I.p (symL (Int.toNat a) (Int.toNat (IntKind.i64.wrap (a + s))) (Int.toNat b) xs)) false⟩] (.mask (iv [(3, 5), (9, 62)]) [])) (.fork (.resC (.pv (.tup [])) [⟨0, .row 11 63 (List.map I.p (symL (Int.toNat a) (Int.toNat (IntKind.i64.wrap (a + s))) (Int.toNat (↑n : Int)) xs)) false⟩] (.mask (iv [(3, 5), (9, 62)]) [])) (.mask (iv [(3, 5), (9, 62)]) []))) (slices_stableCmpFunc_api_Interval_S2 l n fu a b s (List.map I.p xs) j jr g) =
  (((decide (b ≤ (↑n : Int))) = true →
 ((0 : Nat) = 0) ∧
 (DenC E1 155 [.msl 0 0 0 0 n fu, intA a, intA (IntKind.i64.wrap (a + s)), intA b, .pv (.clo (.func 98) [] [])] [⟨0, .row 11 63 (List.map I.p xs) false⟩] (.pv (.tup [])) [⟨0, .row 11 63 (List.map I.p (symL (Int.toNat a) (Int.toNat (IntKind.i64.wrap (a + s))) (Int.toNat b) xs)) false⟩]) ∧
 (∀ (j' : Nat → AV) (jr' : Nat → Row) (g' : Nat), LoopAtC E1 Tryz.f132 1 v rs 2 (slices_stableCmpFunc_api_Interval_S2 l n fu b (IntKind.i64.wrap (b + IntKind.i64.wrap ((2 : Int) * s))) s (List.map I.p (symL (Int.toNat a) (Int.toNat (IntKind.i64.wrap (a + s))) (Int.toNat b) xs)) j' jr' g'))) ∧
 ((decide (b ≤ (↑n : Int))) = false →
 ((decide (IntKind.i64.wrap (a + s) < (↑n : Int))) = true →
 ((0 : Nat) = 0) ∧
 (DenC E1 155 [.msl 0 0 0 0 n fu, intA a, intA (IntKind.i64.wrap (a + s)), intA ((↑n : Int)), .pv (.clo (.func 98) [] [])] [⟨0, .row 11 63 (List.map I.p xs) false⟩] (.pv (.tup [])) [⟨0, .row 11 63 (List.map I.p (symL (Int.toNat a) (Int.toNat (IntKind.i64.wrap (a + s))) (Int.toNat (↑n : Int)) xs)) false⟩]) ∧
 (∀ (j' : Nat → AV) (jr' : Nat → Row) (g' : Nat), LoopAtC E1 Tryz.f132 1 v rs 1 (slices_stableCmpFunc_api_Interval_S1 l n fu a b (IntKind.i64.wrap (s * (2 : Int))) (List.map I.p (symL (Int.toNat a) (Int.toNat (IntKind.i64.wrap (a + s))) (Int.toNat (↑n : Int)) xs)) j' jr' g'))) ∧
 ((decide (IntKind.i64.wrap (a + s) < (↑n : Int))) = false →
 ∀ (j' : Nat → AV) (jr' : Nat → Row) (g' : Nat), LoopAtC E1 Tryz.f132 1 v rs 1 (slices_stableCmpFunc_api_Interval_S1 l n fu a b (IntKind.i64.wrap (s * (2 : Int))) (List.map I.p xs) j' jr' g')))) := by kernel_rfl
theorem slices_SortStableFunc_api_Interval_api_Interval_go (l : List I) (n : Nat) (fu : Bool) (v : AV) (rs : List Row) : FnGoC E1 Tryz.f97 [.msl 0 0 0 0 n fu, .pv (.clo (.func 98) [] [])] [⟨0, .row 11 63 (List.map I.p l) false⟩] v rs 2000 (.resC (.pv (.tup [])) [⟨0, .row 11 63 (List.map I.p (sortN n l)) false⟩] (.hole 0)) =
  (((0 : Nat) = 0) ∧
 (DenC E1 132 [.msl 0 0 0 0 n fu, intA ((↑n : Int)), .pv (.clo (.func 98) [] [])] [⟨0, .row 11 63 (List.map I.p l) false⟩] (.pv (.tup [])) [⟨0, .row 11 63 (List.map I.p (sortN n l)) false⟩]) ∧
 ((0 : Nat) = 0) ∧
 ((.pv (.tup [])) = v) ∧
 [⟨0, .row 11 63 (List.map I.p (sortN n l)) false⟩] = rs) := by kernel_rfl
def span_join_S0 (l : List I) (k : Nat) (full : Bool) (i : Int) (ge : Nat) (z : Row) (j : Nat → AV) (jr : Nat → Row) (g : Nat) : St :=
  { t := [j 0, j 1, j 2, .pv (.sl 0 true true [])] ++ jj j 4 8 ++ [.msl 0 8 2 0 (delN l) false, intA ((↑(delN l) : Int)), intA i] ++ jj j 15 48, h := [[row0, row0, row0, row0, row0, jr 5, row0, row0, ⟨ge, .row 11 63 (List.map I.p (sortN (delN l) (delL l))) false⟩, row0, row0, row0, row0, row0, row0, row0, row0, row0, row0, row0, row0, row0, row0, row0, row0, row0, row0, row0, row0, row0, row0, row0, row0, row0, row0, row0, row0, row0, row0, row0, row0, row0, row0, row0, row0, row0, row0, row0, row0, row0, row0, row0, row0, row0, row0, row0, row0, row0, row0, jr 59, z, row0, row0]], g := g }
def span_join_S1 (l : List I) (k : Nat) (full : Bool) (i : Int) (ge : Nat) (gm : Nat) (m : Nat) (ysI : List PV) (j : Nat → AV) (jr : Nat → Row) (g : Nat) : St :=
  { t := [j 0, j 1, j 2, .msl 0 60 gm 0 m false] ++ jj j 4 8 ++ [.msl 0 8 2 0 (delN l) false, intA ((↑(delN l) : Int)), intA i] ++ jj j 15 48, h := [[row0, row0, row0, row0, row0, jr 5, row0, row0, ⟨ge, .row 11 63 (List.map I.p (sortN (delN l) (delL l))) false⟩, row0, row0, row0, row0, row0, row0, row0, row0, row0, row0, row0, row0, row0, row0, row0, row0, row0, row0, row0, row0, row0, row0, row0, row0, row0, row0, row0, row0, row0, row0, row0, row0, row0, row0, row0, row0, row0, row0, row0, row0, row0, row0, row0, row0, row0, row0, row0, row0, row0, row0, jr 59, ⟨gm, .row 11 63 ysI false⟩, row0, row0]], g := g }
theorem span_join_go (l : List I) (k : Nat) (full : Bool) (r : PV) : FnGo E1 Tryz.f54 [.sl k false full (List.map I.p l)] r 2000 (.resO 11 63 (List.map I.p l) 0 (List.length l) false (.resC (.msl 0 0 0 0 (delN l) false) [⟨0, .row 11 63 (List.map I.p (delL l)) false⟩] (.resC (.pv (.tup [])) [⟨0, .row 11 63 (List.map I.p (sortN (delN l) (delL l))) false⟩] (.mask (iv [(0, 2), (4, 11), (15, 62)]) [5, 59])))) =
  ((DenO E1 95 [.sl k false full (List.map I.p l)] 11 63 (List.map I.p l) 0 (List.length l) false) ∧
 ((2 : Nat) = 2) ∧
 (DenC E1 94 [.msl 0 0 0 0 (List.length l) false, .pv (.clo (.func 96) [] [])] [⟨0, .row 11 63 (List.map I.p l) false⟩] (.msl 0 0 0 0 (delN l) false) [⟨0, .row 11 63 (List.map I.p (delL l)) false⟩]) ∧
 ((2 : Nat) = 2) ∧
 (DenC E1 97 [.msl 0 0 0 0 (delN l) false, .pv (.clo (.func 98) [] [])] [⟨0, .row 11 63 (List.map I.p (delL l)) false⟩] (.pv (.tup [])) [⟨0, .row 11 63 (List.map I.p (sortN (delN l) (delL l))) false⟩]) ∧
 (AtAll Tryz.f54 r 0 (span_join_S0 l k full 0 2 row0))) := by kernel_rfl
theorem span_join_go_S0 (l : List I) (k : Nat) (full : Bool) (i : Int) (ge : Nat) (z : Row) (j : Nat → AV) (jr : Nat → Row) (g : Nat) (r : PV) : LoopGo E1 Tryz.f54 r 0 2000 (.fork (.val (I.p (List.getD (sortN (delN l) (delL l)) ((0 : Nat) + Int.toNat i) default)) (.lts 15 (.mask (iv [(0, 2), (4, 11), (15, 62)]) [5, 59]))) (.hole 0)) (span_join_S0 l k full i ge z j jr g) =
  (((decide (i < (↑(delN l) : Int))) = true →
 (ge = 2) ∧
 (((0 : Int) ≤ i) ∧ ((i < (↑(delN l) : Int)) ∧ ((11 : Nat) = 11))) ∧
 (ge = 2) ∧
 (((List.map I.p (sortN (delN l) (delL l)))[(0 : Nat) + Int.toNat i]?) = some (I.p (List.getD (sortN (delN l) (delL l)) ((0 : Nat) + Int.toNat i) default))) ∧
 ((g + 1 + 2) = g + 1 + 2) ∧
 ((g + 1 + 2) = g + 1 + 2) ∧
 ((g + 1 + 4 + 3 + 14 + 2) = g + 1 + 4 + 3 + 14 + 2) ∧
 (((11 : Nat) = 11) ∧ ((1 : Nat) ≤ (1 : Nat))) ∧
 (((0 : Nat) = 0) ∧ (true = true)) ∧
 (AtAll Tryz.f54 r 0 (span_join_S1 l k full (IntKind.i64.wrap (i + (1 : Int))) ge (g + 1 + 4 + 3 + 14 + 3) 1 [I.p (List.getD (sortN (delN l) (delL l)) ((0 : Nat) + Int.toNat i) default)]))) ∧
 ((decide (i < (↑(delN l) : Int))) = false →
 ((.sl 0 true true []) : PV) = r)) := by kernel_rfl
theorem span_join_go_S1 (l : List I) (k : Nat) (full : Bool) (i : Int) (ge : Nat) (gm : Nat) (m : Nat) (ys : List I) (j : Nat → AV) (jr : Nat → Row) (g : Nat) (r : PV) : LoopGo E1 Tryz.f54 r 0 2000 (.fork (.val (I.p (List.getD (sortN (delN l) (delL l)) ((0 : Nat) + Int.toNat i) default)) (.fork (.lts 5 (.val (I.p (List.getD ys ((0 : Nat) + Int.toNat (IntKind.i64.wrap ((↑m : Int) - (1 : Int)))) default)) (.lit (.res (Ed.p ⟨(I.hi (List.getD ys ((0 : Nat) + Int.toNat (IntKind.i64.wrap ((↑m : Int) - (1 : Int)))) default)), (!I.hopen (List.getD ys ((0 : Nat) + Int.toNat (IntKind.i64.wrap ((↑m : Int) - (1 : Int)))) default)), (I.less (List.getD ys ((0 : Nat) + Int.toNat (IntKind.i64.wrap ((↑m : Int) - (1 : Int)))) default))⟩) (.lit (.lit (.res (Ed.p ⟨(I.lo (List.getD (sortN (delN l) (delL l)) ((0 : Nat) + Int.toNat i) default)), (I.lopen (List.getD (sortN (delN l) (delL l)) ((0 : Nat) + Int.toNat i) default)), false⟩) (.lit (.res (intP (befE ⟨I.hi (List.getD ys ((0 : Nat) + Int.toNat (IntKind.i64.wrap ((↑m : Int) - (1 : Int)))) default), !I.hopen (List.getD ys ((0 : Nat) + Int.toNat (IntKind.i64.wrap ((↑m : Int) - (1 : Int)))) default), I.less (List.getD ys ((0 : Nat) + Int.toNat (IntKind.i64.wrap ((↑m : Int) - (1 : Int)))) default)⟩ ⟨I.lo (List.getD (sortN (delN l) (delL l)) ((0 : Nat) + Int.toNat i) default), I.lopen (List.getD (sortN (delN l) (delL l)) ((0 : Nat) + Int.toNat i) default), false⟩)) (.lit (.lit (.fork (.val (I.p (List.getD ys ((0 : Nat) + Int.toNat (IntKind.i64.wrap ((↑m : Int) - (1 : Int)))) default)) (.res (Ed.p ⟨(I.hi (List.getD ys ((0 : Nat) + Int.toNat (IntKind.i64.wrap ((↑m : Int) - (1 : Int)))) default)), (!I.hopen (List.getD ys ((0 : Nat) + Int.toNat (IntKind.i64.wrap ((↑m : Int) - (1 : Int)))) default)), (I.less (List.getD ys ((0 : Nat) + Int.toNat (IntKind.i64.wrap ((↑m : Int) - (1 : Int)))) default))⟩) (.res (Ed.p ⟨(I.hi (List.getD (sortN (delN l) (delL l)) ((0 : Nat) + Int.toNat i) default)), (!I.hopen (List.getD (sortN (delN l) (delL l)) ((0 : Nat) + Int.toNat i) default)), (I.less (List.getD (sortN (delN l) (delL l)) ((0 : Nat) + Int.toNat i) default))⟩) (.res (intP (befE ⟨I.hi (List.getD ys ((0 : Nat) + Int.toNat (IntKind.i64.wrap ((↑m : Int) - (1 : Int)))) default), !I.hopen (List.getD ys ((0 : Nat) + Int.toNat (IntKind.i64.wrap ((↑m : Int) - (1 : Int)))) default), I.less (List.getD ys ((0 : Nat) + Int.toNat (IntKind.i64.wrap ((↑m : Int) - (1 : Int)))) default)⟩ ⟨I.hi (List.getD (sortN (delN l) (delL l)) ((0 : Nat) + Int.toNat i) default), !I.hopen (List.getD (sortN (delN l) (delL l)) ((0 : Nat) + Int.toNat i) default), I.less (List.getD (sortN (delN l) (delL l)) ((0 : Nat) + Int.toNat i) default)⟩)) (.fork (.val (I.p (List.getD ys ((0 : Nat) + Int.toNat (IntKind.i64.wrap ((↑m : Int) - (1 : Int)))) default)) (.res (Ed.p ⟨(I.lo (List.getD ys ((0 : Nat) + Int.toNat (IntKind.i64.wrap ((↑m : Int) - (1 : Int)))) default)), (I.lopen (List.getD ys ((0 : Nat) + Int.toNat (IntKind.i64.wrap ((↑m : Int) - (1 : Int)))) default)), false⟩) (.res (Ed.p ⟨(I.hi (List.getD (sortN (delN l) (delL l)) ((0 : Nat) + Int.toNat i) default)), (!I.hopen (List.getD (sortN (delN l) (delL l)) ((0 : Nat) + Int.toNat i) default)), (I.less (List.getD (sortN (delN l) (delL l)) ((0 : Nat) + Int.toNat i) default))⟩) (.res (I.p ⟨(I.lo (List.getD ys ((0 : Nat) + Int.toNat (IntKind.i64.wrap ((↑m : Int) - (1 : Int)))) default)), (I.lopen (List.getD ys ((0 : Nat) + Int.toNat (IntKind.i64.wrap ((↑m : Int) - (1 : Int)))) default)), (if Ed.less ⟨I.hi (List.getD (sortN (delN l) (delL l)) ((0 : Nat) + Int.toNat i) default), !I.hopen (List.getD (sortN (delN l) (delL l)) ((0 : Nat) + Int.toNat i) default), I.less (List.getD (sortN (delN l) (delL l)) ((0 : Nat) + Int.toNat i) default)⟩ = true then zV else I.hi (List.getD (sortN (delN l) (delL l)) ((0 : Nat) + Int.toNat i) default)), (if Ed.less ⟨I.hi (List.getD (sortN (delN l) (delL l)) ((0 : Nat) + Int.toNat i) default), !I.hopen (List.getD (sortN (delN l) (delL l)) ((0 : Nat) + Int.toNat i) default), I.less (List.getD (sortN (delN l) (delL l)) ((0 : Nat) + Int.toNat i) default)⟩ = true then false else !!I.hopen (List.getD (sortN (delN l) (delL l)) ((0 : Nat) + Int.toNat i) default)), (I.less (List.getD (sortN (delN l) (delL l)) ((0 : Nat) + Int.toNat i) default))⟩) (.val (I.p (List.getD ys ((0 : Nat) + Int.toNat (IntKind.i64.wrap ((↑m : Int) - (1 : Int)))) default)) (.mask (iv [(0, 2), (4, 11), (15, 62)]) [5, 59])))))) (.mask (iv [(0, 2), (4, 11), (15, 62)]) [5, 59])))))) (.lit (.mask (iv [(0, 2), (4, 11), (15, 62)]) [5, 59])))))))))))))) (.lts 13 (.mask (iv [(0, 2), (4, 11), (15, 62)]) [5, 59])))) (.hole 0)) (span_join_S1 l k full i ge gm m (List.map I.p ys) j jr g) =
  (((decide (i < (↑(delN l) : Int))) = true →
 (ge = 2) ∧
 (((0 : Int) ≤ i) ∧ ((i < (↑(delN l) : Int)) ∧ ((11 : Nat) = 11))) ∧
 (ge = 2) ∧
 (((List.map I.p (sortN (delN l) (delL l)))[(0 : Nat) + Int.toNat i]?) = some (I.p (List.getD (sortN (delN l) (delL l)) ((0 : Nat) + Int.toNat i) default))) ∧
 ((g + 1 + 2) = g + 1 + 2) ∧
 ((decide ((↑m : Int) > (0 : Int))) = true →
 (gm = gm) ∧
 (((0 : Int) ≤ IntKind.i64.wrap ((↑m : Int) - (1 : Int))) ∧ ((IntKind.i64.wrap ((↑m : Int) - (1 : Int)) < (↑m : Int)) ∧ ((11 : Nat) = 11))) ∧
 (gm = gm) ∧
 (((List.map I.p ys)[(0 : Nat) + Int.toNat (IntKind.i64.wrap ((↑m : Int) - (1 : Int)))]?) = some (I.p (List.getD ys ((0 : Nat) + Int.toNat (IntKind.i64.wrap ((↑m : Int) - (1 : Int)))) default))) ∧
 (Den E1 38 [I.p (List.getD ys ((0 : Nat) + Int.toNat (IntKind.i64.wrap ((↑m : Int) - (1 : Int)))) default)] (Ed.p ⟨(I.hi (List.getD ys ((0 : Nat) + Int.toNat (IntKind.i64.wrap ((↑m : Int) - (1 : Int)))) default)), (!I.hopen (List.getD ys ((0 : Nat) + Int.toNat (IntKind.i64.wrap ((↑m : Int) - (1 : Int)))) default)), (I.less (List.getD ys ((0 : Nat) + Int.toNat (IntKind.i64.wrap ((↑m : Int) - (1 : Int)))) default))⟩)) ∧
 ((g + 1 + 2) = g + 1 + 2) ∧
 (Den E1 37 [I.p (List.getD (sortN (delN l) (delL l)) ((0 : Nat) + Int.toNat i) default)] (Ed.p ⟨(I.lo (List.getD (sortN (delN l) (delL l)) ((0 : Nat) + Int.toNat i) default)), (I.lopen (List.getD (sortN (delN l) (delL l)) ((0 : Nat) + Int.toNat i) default)), false⟩)) ∧
 (Den E1 36 [Ed.p ⟨(I.hi (List.getD ys ((0 : Nat) + Int.toNat (IntKind.i64.wrap ((↑m : Int) - (1 : Int)))) default)), (!I.hopen (List.getD ys ((0 : Nat) + Int.toNat (IntKind.i64.wrap ((↑m : Int) - (1 : Int)))) default)), (I.less (List.getD ys ((0 : Nat) + Int.toNat (IntKind.i64.wrap ((↑m : Int) - (1 : Int)))) default))⟩, Ed.p ⟨(I.lo (List.getD (sortN (delN l) (delL l)) ((0 : Nat) + Int.toNat i) default)), (I.lopen (List.getD (sortN (delN l) (delL l)) ((0 : Nat) + Int.toNat i) default)), false⟩] (intP (befE ⟨I.hi (List.getD ys ((0 : Nat) + Int.toNat (IntKind.i64.wrap ((↑m : Int) - (1 : Int)))) default), !I.hopen (List.getD ys ((0 : Nat) + Int.toNat (IntKind.i64.wrap ((↑m : Int) - (1 : Int)))) default), I.less (List.getD ys ((0 : Nat) + Int.toNat (IntKind.i64.wrap ((↑m : Int) - (1 : Int)))) default)⟩ ⟨I.lo (List.getD (sortN (delN l) (delL l)) ((0 : Nat) + Int.toNat i) default), I.lopen (List.getD (sortN (delN l) (delL l)) ((0 : Nat) + Int.toNat i) default), false⟩))) ∧
 ((decide (befE ⟨I.hi (List.getD ys ((0 : Nat) + Int.toNat (IntKind.i64.wrap ((↑m : Int) - (1 : Int)))) default), !I.hopen (List.getD ys ((0 : Nat) + Int.toNat (IntKind.i64.wrap ((↑m : Int) - (1 : Int)))) default), I.less (List.getD ys ((0 : Nat) + Int.toNat (IntKind.i64.wrap ((↑m : Int) - (1 : Int)))) default)⟩ ⟨I.lo (List.getD (sortN (delN l) (delL l)) ((0 : Nat) + Int.toNat i) default), I.lopen (List.getD (sortN (delN l) (delL l)) ((0 : Nat) + Int.toNat i) default), false⟩ ≥ (0 : Int))) = true →
 (gm = gm) ∧
 (((0 : Int) ≤ IntKind.i64.wrap ((↑m : Int) - (1 : Int))) ∧ ((IntKind.i64.wrap ((↑m : Int) - (1 : Int)) < (↑m : Int)) ∧ ((11 : Nat) = 11))) ∧
 (gm = gm) ∧
 (((List.map I.p ys)[(0 : Nat) + Int.toNat (IntKind.i64.wrap ((↑m : Int) - (1 : Int)))]?) = some (I.p (List.getD ys ((0 : Nat) + Int.toNat (IntKind.i64.wrap ((↑m : Int) - (1 : Int)))) default))) ∧
 (Den E1 38 [I.p (List.getD ys ((0 : Nat) + Int.toNat (IntKind.i64.wrap ((↑m : Int) - (1 : Int)))) default)] (Ed.p ⟨(I.hi (List.getD ys ((0 : Nat) + Int.toNat (IntKind.i64.wrap ((↑m : Int) - (1 : Int)))) default)), (!I.hopen (List.getD ys ((0 : Nat) + Int.toNat (IntKind.i64.wrap ((↑m : Int) - (1 : Int)))) default)), (I.less (List.getD ys ((0 : Nat) + Int.toNat (IntKind.i64.wrap ((↑m : Int) - (1 : Int)))) default))⟩)) ∧
 ((g + 1 + 2) = g + 1 + 2) ∧
 (Den E1 38 [I.p (List.getD (sortN (delN l) (delL l)) ((0 : Nat) + Int.toNat i) default)] (Ed.p ⟨(I.hi (List.getD (sortN (delN l) (delL l)) ((0 : Nat) + Int.toNat i) default)), (!I.hopen (List.getD (sortN (delN l) (delL l)) ((0 : Nat) + Int.toNat i) default)), (I.less (List.getD (sortN (delN l) (delL l)) ((0 : Nat) + Int.toNat i) default))⟩)) ∧
 (Den E1 36 [Ed.p ⟨(I.hi (List.getD ys ((0 : Nat) + Int.toNat (IntKind.i64.wrap ((↑m : Int) - (1 : Int)))) default)), (!I.hopen (List.getD ys ((0 : Nat) + Int.toNat (IntKind.i64.wrap ((↑m : Int) - (1 : Int)))) default)), (I.less (List.getD ys ((0 : Nat) + Int.toNat (IntKind.i64.wrap ((↑m : Int) - (1 : Int)))) default))⟩, Ed.p ⟨(I.hi (List.getD (sortN (delN l) (delL l)) ((0 : Nat) + Int.toNat i) default)), (!I.hopen (List.getD (sortN (delN l) (delL l)) ((0 : Nat) + Int.toNat i) default)), (I.less (List.getD (sortN (delN l) (delL l)) ((0 : Nat) + Int.toNat i) default))⟩] (intP (befE ⟨I.hi (List.getD ys ((0 : Nat) + Int.toNat (IntKind.i64.wrap ((↑m : Int) - (1 : Int)))) default), !I.hopen (List.getD ys ((0 : Nat) + Int.toNat (IntKind.i64.wrap ((↑m : Int) - (1 : Int)))) default), I.less (List.getD ys ((0 : Nat) + Int.toNat (IntKind.i64.wrap ((↑m : Int) - (1 : Int)))) default)⟩ ⟨I.hi (List.getD (sortN (delN l) (delL l)) ((0 : Nat) + Int.toNat i) default), !I.hopen (List.getD (sortN (delN l) (delL l)) ((0 : Nat) + Int.toNat i) default), I.less (List.getD (sortN (delN l) (delL l)) ((0 : Nat) + Int.toNat i) default)⟩))) ∧
 ((decide (befE ⟨I.hi (List.getD ys ((0 : Nat) + Int.toNat (IntKind.i64.wrap ((↑m : Int) - (1 : Int)))) default), !I.hopen (List.getD ys ((0 : Nat) + Int.toNat (IntKind.i64.wrap ((↑m : Int) - (1 : Int)))) default), I.less (List.getD ys ((0 : Nat) + Int.toNat (IntKind.i64.wrap ((↑m : Int) - (1 : Int)))) default)⟩ ⟨I.hi (List.getD (sortN (delN l) (delL l)) ((0 : Nat) + Int.toNat i) default), !I.hopen (List.getD (sortN (delN l) (delL l)) ((0 : Nat) + Int.toNat i) default), I.less (List.getD (sortN (delN l) (delL l)) ((0 : Nat) + Int.toNat i) default)⟩ < (0 : Int))) = true →
 (gm = gm) ∧
 (((0 : Int) ≤ IntKind.i64.wrap ((↑m : Int) - (1 : Int))) ∧ ((IntKind.i64.wrap ((↑m : Int) - (1 : Int)) < (↑m : Int)) ∧ ((11 : Nat) = 11))) ∧
 (gm = gm) ∧
 (((List.map I.p ys)[(0 : Nat) + Int.toNat (IntKind.i64.wrap ((↑m : Int) - (1 : Int)))]?) = some (I.p (List.getD ys ((0 : Nat) + Int.toNat (IntKind.i64.wrap ((↑m : Int) - (1 : Int)))) default))) ∧
 (Den E1 37 [I.p (List.getD ys ((0 : Nat) + Int.toNat (IntKind.i64.wrap ((↑m : Int) - (1 : Int)))) default)] (Ed.p ⟨(I.lo (List.getD ys ((0 : Nat) + Int.toNat (IntKind.i64.wrap ((↑m : Int) - (1 : Int)))) default)), (I.lopen (List.getD ys ((0 : Nat) + Int.toNat (IntKind.i64.wrap ((↑m : Int) - (1 : Int)))) default)), false⟩)) ∧
 ((g + 1 + 2) = g + 1 + 2) ∧
 (Den E1 38 [I.p (List.getD (sortN (delN l) (delL l)) ((0 : Nat) + Int.toNat i) default)] (Ed.p ⟨(I.hi (List.getD (sortN (delN l) (delL l)) ((0 : Nat) + Int.toNat i) default)), (!I.hopen (List.getD (sortN (delN l) (delL l)) ((0 : Nat) + Int.toNat i) default)), (I.less (List.getD (sortN (delN l) (delL l)) ((0 : Nat) + Int.toNat i) default))⟩)) ∧
 (Den E1 89 [Ed.p ⟨(I.lo (List.getD ys ((0 : Nat) + Int.toNat (IntKind.i64.wrap ((↑m : Int) - (1 : Int)))) default)), (I.lopen (List.getD ys ((0 : Nat) + Int.toNat (IntKind.i64.wrap ((↑m : Int) - (1 : Int)))) default)), false⟩, Ed.p ⟨(I.hi (List.getD (sortN (delN l) (delL l)) ((0 : Nat) + Int.toNat i) default)), (!I.hopen (List.getD (sortN (delN l) (delL l)) ((0 : Nat) + Int.toNat i) default)), (I.less (List.getD (sortN (delN l) (delL l)) ((0 : Nat) + Int.toNat i) default))⟩] (I.p ⟨(I.lo (List.getD ys ((0 : Nat) + Int.toNat (IntKind.i64.wrap ((↑m : Int) - (1 : Int)))) default)), (I.lopen (List.getD ys ((0 : Nat) + Int.toNat (IntKind.i64.wrap ((↑m : Int) - (1 : Int)))) default)), (if Ed.less ⟨I.hi (List.getD (sortN (delN l) (delL l)) ((0 : Nat) + Int.toNat i) default), !I.hopen (List.getD (sortN (delN l) (delL l)) ((0 : Nat) + Int.toNat i) default), I.less (List.getD (sortN (delN l) (delL l)) ((0 : Nat) + Int.toNat i) default)⟩ = true then zV else I.hi (List.getD (sortN (delN l) (delL l)) ((0 : Nat) + Int.toNat i) default)), (if Ed.less ⟨I.hi (List.getD (sortN (delN l) (delL l)) ((0 : Nat) + Int.toNat i) default), !I.hopen (List.getD (sortN (delN l) (delL l)) ((0 : Nat) + Int.toNat i) default), I.less (List.getD (sortN (delN l) (delL l)) ((0 : Nat) + Int.toNat i) default)⟩ = true then false else !!I.hopen (List.getD (sortN (delN l) (delL l)) ((0 : Nat) + Int.toNat i) default)), (I.less (List.getD (sortN (delN l) (delL l)) ((0 : Nat) + Int.toNat i) default))⟩)) ∧
 (gm = gm) ∧
 (((0 : Int) ≤ IntKind.i64.wrap ((↑m : Int) - (1 : Int))) ∧ ((IntKind.i64.wrap ((↑m : Int) - (1 : Int)) < (↑m : Int)) ∧ ((11 : Nat) = 11))) ∧
 (gm = gm) ∧
 (gm = gm) ∧
 (((List.map I.p ys)[(0 : Nat) + Int.toNat (IntKind.i64.wrap ((↑m : Int) - (1 : Int)))]?) = some (I.p (List.getD ys ((0 : Nat) + Int.toNat (IntKind.i64.wrap ((↑m : Int) - (1 : Int)))) default))) ∧
 (∀ (j' : Nat → AV) (jr' : Nat → Row) (g' : Nat), LoopAt E1 Tryz.f54 r 0 (span_join_S1 l k full (IntKind.i64.wrap (i + (1 : Int))) ge gm m (List.set (List.map I.p ys) ((0 : Nat) + Int.toNat (IntKind.i64.wrap ((↑m : Int) - (1 : Int)))) (PV.agg [PV.lit (Value.int IntKind.u32 (V.a (I.lo (List.getD ys ((0 : Nat) + Int.toNat (IntKind.i64.wrap ((↑m : Int) - (1 : Int)))) default)))), PV.lit (Value.int IntKind.u32 (V.b (I.lo (List.getD ys ((0 : Nat) + Int.toNat (IntKind.i64.wrap ((↑m : Int) - (1 : Int)))) default)))), PV.lit (Value.int IntKind.u32 (V.c (I.lo (List.getD ys ((0 : Nat) + Int.toNat (IntKind.i64.wrap ((↑m : Int) - (1 : Int)))) default)))), V.q (I.lo (List.getD ys ((0 : Nat) + Int.toNat (IntKind.i64.wrap ((↑m : Int) - (1 : Int)))) default)), PV.lit (Value.bool (I.lopen (List.getD ys ((0 : Nat) + Int.toNat (IntKind.i64.wrap ((↑m : Int) - (1 : Int)))) default))), PV.lit (Value.int IntKind.u32 (V.a (if Ed.less ⟨I.hi (List.getD (sortN (delN l) (delL l)) ((0 : Nat) + Int.toNat i) default), !I.hopen (List.getD (sortN (delN l) (delL l)) ((0 : Nat) + Int.toNat i) default), I.less (List.getD (sortN (delN l) (delL l)) ((0 : Nat) + Int.toNat i) default)⟩ = true then zV else I.hi (List.getD (sortN (delN l) (delL l)) ((0 : Nat) + Int.toNat i) default)))), PV.lit (Value.int IntKind.u32 (V.b (if Ed.less ⟨I.hi (List.getD (sortN (delN l) (delL l)) ((0 : Nat) + Int.toNat i) default), !I.hopen (List.getD (sortN (delN l) (delL l)) ((0 : Nat) + Int.toNat i) default), I.less (List.getD (sortN (delN l) (delL l)) ((0 : Nat) + Int.toNat i) default)⟩ = true then zV else I.hi (List.getD (sortN (delN l) (delL l)) ((0 : Nat) + Int.toNat i) default)))), PV.lit (Value.int IntKind.u32 (V.c (if Ed.less ⟨I.hi (List.getD (sortN (delN l) (delL l)) ((0 : Nat) + Int.toNat i) default), !I.hopen (List.getD (sortN (delN l) (delL l)) ((0 : Nat) + Int.toNat i) default), I.less (List.getD (sortN (delN l) (delL l)) ((0 : Nat) + Int.toNat i) default)⟩ = true then zV else I.hi (List.getD (sortN (delN l) (delL l)) ((0 : Nat) + Int.toNat i) default)))), V.q (if Ed.less ⟨I.hi (List.getD (sortN (delN l) (delL l)) ((0 : Nat) + Int.toNat i) default), !I.hopen (List.getD (sortN (delN l) (delL l)) ((0 : Nat) + Int.toNat i) default), I.less (List.getD (sortN (delN l) (delL l)) ((0 : Nat) + Int.toNat i) default)⟩ = true then zV else I.hi (List.getD (sortN (delN l) (delL l)) ((0 : Nat) + Int.toNat i) default)), PV.lit (Value.bool (if Ed.less ⟨I.hi (List.getD (sortN (delN l) (delL l)) ((0 : Nat) + Int.toNat i) default), !I.hopen (List.getD (sortN (delN l) (delL l)) ((0 : Nat) + Int.toNat i) default), I.less (List.getD (sortN (delN l) (delL l)) ((0 : Nat) + Int.toNat i) default)⟩ = true then false else !!I.hopen (List.getD (sortN (delN l) (delL l)) ((0 : Nat) + Int.toNat i) default))), PV.lit (Value.bool (I.less (List.getD (sortN (delN l) (delL l)) ((0 : Nat) + Int.toNat i) default)))])) j' jr' g'))) ∧
 ((decide (befE ⟨I.hi (List.getD ys ((0 : Nat) + Int.toNat (IntKind.i64.wrap ((↑m : Int) - (1 : Int)))) default), !I.hopen (List.getD ys ((0 : Nat) + Int.toNat (IntKind.i64.wrap ((↑m : Int) - (1 : Int)))) default), I.less (List.getD ys ((0 : Nat) + Int.toNat (IntKind.i64.wrap ((↑m : Int) - (1 : Int)))) default)⟩ ⟨I.hi (List.getD (sortN (delN l) (delL l)) ((0 : Nat) + Int.toNat i) default), !I.hopen (List.getD (sortN (delN l) (delL l)) ((0 : Nat) + Int.toNat i) default), I.less (List.getD (sortN (delN l) (delL l)) ((0 : Nat) + Int.toNat i) default)⟩ < (0 : Int))) = false →
 AtAll Tryz.f54 r 0 (span_join_S1 l k full (IntKind.i64.wrap (i + (1 : Int))) ge gm m (List.map I.p ys)))) ∧
 ((decide (befE ⟨I.hi (List.getD ys ((0 : Nat) + Int.toNat (IntKind.i64.wrap ((↑m : Int) - (1 : Int)))) default), !I.hopen (List.getD ys ((0 : Nat) + Int.toNat (IntKind.i64.wrap ((↑m : Int) - (1 : Int)))) default), I.less (List.getD ys ((0 : Nat) + Int.toNat (IntKind.i64.wrap ((↑m : Int) - (1 : Int)))) default)⟩ ⟨I.lo (List.getD (sortN (delN l) (delL l)) ((0 : Nat) + Int.toNat i) default), I.lopen (List.getD (sortN (delN l) (delL l)) ((0 : Nat) + Int.toNat i) default), false⟩ ≥ (0 : Int))) = false →
 ((g + 1 + 2) = g + 1 + 2) ∧
 ((g + 1 + 4 + 3 + 14 + 2) = g + 1 + 4 + 3 + 14 + 2) ∧
 (((11 : Nat) = 11) ∧ ((1 : Nat) ≤ (1 : Nat))) ∧
 (gm = gm) ∧
 ((false = false) ∧ (((11 : Nat) = 11) ∧ (((63 : Nat) = 63) ∧ ((((0 : Nat) + m) = List.length (List.map I.p ys)) ∧ ((fitsRow (m + 1) (104 : Nat)) = true))))) ∧
 (∀ (j' : Nat → AV) (jr' : Nat → Row) (g' : Nat), LoopAt E1 Tryz.f54 r 0 (span_join_S1 l k full (IntKind.i64.wrap (i + (1 : Int))) ge (g + 1 + 4 + 3 + 14 + 3) (m + 1) (List.drop (0 : Nat) (List.map I.p ys) ++ List.take (1 : Nat) (List.drop (0 : Nat) [PV.agg [PV.lit (Value.int IntKind.u32 (V.a (I.lo (List.getD (sortN (delN l) (delL l)) ((0 : Nat) + Int.toNat i) default)))), PV.lit (Value.int IntKind.u32 (V.b (I.lo (List.getD (sortN (delN l) (delL l)) ((0 : Nat) + Int.toNat i) default)))), PV.lit (Value.int IntKind.u32 (V.c (I.lo (List.getD (sortN (delN l) (delL l)) ((0 : Nat) + Int.toNat i) default)))), V.q (I.lo (List.getD (sortN (delN l) (delL l)) ((0 : Nat) + Int.toNat i) default)), PV.lit (Value.bool (I.lopen (List.getD (sortN (delN l) (delL l)) ((0 : Nat) + Int.toNat i) default))), PV.lit (Value.int IntKind.u32 (V.a (I.hi (List.getD (sortN (delN l) (delL l)) ((0 : Nat) + Int.toNat i) default)))), PV.lit (Value.int IntKind.u32 (V.b (I.hi (List.getD (sortN (delN l) (delL l)) ((0 : Nat) + Int.toNat i) default)))), PV.lit (Value.int IntKind.u32 (V.c (I.hi (List.getD (sortN (delN l) (delL l)) ((0 : Nat) + Int.toNat i) default)))), V.q (I.hi (List.getD (sortN (delN l) (delL l)) ((0 : Nat) + Int.toNat i) default)), PV.lit (Value.bool (I.hopen (List.getD (sortN (delN l) (delL l)) ((0 : Nat) + Int.toNat i) default))), PV.lit (Value.bool (I.less (List.getD (sortN (delN l) (delL l)) ((0 : Nat) + Int.toNat i) default)))]])) j' jr' g')))) ∧
 ((decide ((↑m : Int) > (0 : Int))) = false →
 ((g + 1 + 2) = g + 1 + 2) ∧
 ((g + 1 + 4 + 3 + 14 + 2) = g + 1 + 4 + 3 + 14 + 2) ∧
 (((11 : Nat) = 11) ∧ ((1 : Nat) ≤ (1 : Nat))) ∧
 (gm = gm) ∧
 ((false = false) ∧ (((11 : Nat) = 11) ∧ (((63 : Nat) = 63) ∧ ((((0 : Nat) + m) = List.length (List.map I.p ys)) ∧ ((fitsRow (m + 1) (104 : Nat)) = true))))) ∧
 (∀ (j' : Nat → AV) (jr' : Nat → Row) (g' : Nat), LoopAt E1 Tryz.f54 r 0 (span_join_S1 l k full (IntKind.i64.wrap (i + (1 : Int))) ge (g + 1 + 4 + 3 + 14 + 3) (m + 1) (List.drop (0 : Nat) (List.map I.p ys) ++ List.take (1 : Nat) (List.drop (0 : Nat) [PV.agg [PV.lit (Value.int IntKind.u32 (V.a (I.lo (List.getD (sortN (delN l) (delL l)) ((0 : Nat) + Int.toNat i) default)))), PV.lit (Value.int IntKind.u32 (V.b (I.lo (List.getD (sortN (delN l) (delL l)) ((0 : Nat) + Int.toNat i) default)))), PV.lit (Value.int IntKind.u32 (V.c (I.lo (List.getD (sortN (delN l) (delL l)) ((0 : Nat) + Int.toNat i) default)))), V.q (I.lo (List.getD (sortN (delN l) (delL l)) ((0 : Nat) + Int.toNat i) default)), PV.lit (Value.bool (I.lopen (List.getD (sortN (delN l) (delL l)) ((0 : Nat) + Int.toNat i) default))), PV.lit (Value.int IntKind.u32 (V.a (I.hi (List.getD (sortN (delN l) (delL l)) ((0 : Nat) + Int.toNat i) default)))), PV.lit (Value.int IntKind.u32 (V.b (I.hi (List.getD (sortN (delN l) (delL l)) ((0 : Nat) + Int.toNat i) default)))), PV.lit (Value.int IntKind.u32 (V.c (I.hi (List.getD (sortN (delN l) (delL l)) ((0 : Nat) + Int.toNat i) default)))), V.q (I.hi (List.getD (sortN (delN l) (delL l)) ((0 : Nat) + Int.toNat i) default)), PV.lit (Value.bool (I.hopen (List.getD (sortN (delN l) (delL l)) ((0 : Nat) + Int.toNat i) default))), PV.lit (Value.bool (I.less (List.getD (sortN (delN l) (delL l)) ((0 : Nat) + Int.toNat i) default)))]])) j' jr' g')))) ∧
 ((decide (i < (↑(delN l) : Int))) = false →
 ∃ hp, frz frzDepth (.msl 0 60 gm 0 m false) [[row0, row0, row0, row0, row0, jr 5, row0, row0, ⟨ge, .row 11 63 (List.map I.p (sortN (delN l) (delL l))) false⟩, row0, row0, row0, row0, row0, row0, row0, row0, row0, row0, row0, row0, row0, row0, row0, row0, row0, row0, row0, row0, row0, row0, row0, row0, row0, row0, row0, row0, row0, row0, row0, row0, row0, row0, row0, row0, row0, row0, row0, row0, row0, row0, row0, row0, row0, row0, row0, row0, row0, row0, jr 59, ⟨gm, .row 11 63 (List.map I.p ys) false⟩, row0, row0]] = some (r, hp))) := by kernel_rfl
theorem slices_DeleteFunc_api_Interval_api_Interval_N_go (k : Nat) (nl : Bool) (full : Bool) (v : AV) (rs : List Row) : FnGoC E1 Tryz.f94 [.pv (.sl k nl full []), .pv (.clo (.func 96) [] [])] [] v rs 2000 (.res (intP (-1)) (.lit (.hole 0))) =
  ((Den E1 121 [.sl k nl full [], .clo (.func 96) [] []] (intP (-1))) ∧
 ((.pv (.sl k nl full [])) = v) ∧
 [] = rs) := by kernel_rfl
theorem slices_insertionSortCmpFunc_api_Interval_N_go (k : Nat) (nl : Bool) (full : Bool) (v : AV) (rs : List Row) : FnGoC E1 Tryz.f154 [.pv (.sl k nl full []), intA 0, intA 0, .pv (.clo (.func 98) [] [])] [] v rs 2000 (.go (.lit (.hole 0))) =
  (((.pv (.tup [])) = v) ∧
 [] = rs) := by kernel_rfl
theorem slices_stableCmpFunc_api_Interval_N_go (k : Nat) (nl : Bool) (full : Bool) (v : AV) (rs : List Row) : FnGoC E1 Tryz.f132 [.pv (.sl k nl full []), intA 0, .pv (.clo (.func 98) [] [])] [] v rs 2000 (.go (.lit (.resC (.pv (.tup [])) [] (.go (.lit (.hole 0)))))) =
  ((DenC E1 154 [.pv (.sl k nl full []), intA 0, intA 0, .pv (.clo (.func 98) [] [])] [] (.pv (.tup [])) []) ∧
 ((.pv (.tup [])) = v) ∧
 [] = rs) := by kernel_rfl
theorem slices_SortStableFunc_api_Interval_api_Interval_N_go (k : Nat) (nl : Bool) (full : Bool) (v : AV) (rs : List Row) : FnGoC E1 Tryz.f97 [.pv (.sl k nl full []), .pv (.clo (.func 98) [] [])] [] v rs 2000 (.resC (.pv (.tup [])) [] (.hole 0)) =
  ((DenC E1 132 [.pv (.sl k nl full []), intA 0, .pv (.clo (.func 98) [] [])] [] (.pv (.tup [])) []) ∧
 ((.pv (.tup [])) = v) ∧
 [] = rs) := by kernel_rfl
theorem span_join_N_go (k : Nat) (full : Bool) (r : PV) : FnGo E1 Tryz.f54 [.sl k true full []] r 2000 (.res (.sl 0 true true []) (.resC (.pv (.sl 0 true true [])) [] (.resC (.pv (.tup [])) [] (.go (.lit (.hole 0)))))) =
  ((Den E1 95 [.sl k true full []] (.sl 0 true true [])) ∧
 (DenC E1 94 [.pv (.sl 0 true true []), .pv (.clo (.func 96) [] [])] [] (.pv (.sl 0 true true [])) []) ∧
 (DenC E1 97 [.pv (.sl 0 true true []), .pv (.clo (.func 98) [] [])] [] (.pv (.tup [])) []) ∧
 ((.sl 0 true true []) : PV) = r) := by kernel_rfl
theorem slices_Clone_api_Interval_api_Interval_E_P_go (k : Nat) (full : Bool) (r : PV) : FnGoP E1 Tryz.f95 [.sl k false full []] r 2000 (.lit (.lit (.hole 0))) =
  ((((false = true → ([] : List PV) = [])) ∧ ((false = false → k = 11))) ∧
 ((.sl 11 false true []) : PV) = r) := by kernel_rfl
theorem span_join_E_go (k : Nat) (full : Bool) (r : PV) : FnGo E1 Tryz.f54 [.sl k false full []] r 2000 (.res (.sl 11 false true []) (.resC (.pv (.sl 11 false true [])) [] (.resC (.pv (.tup [])) [] (.go (.lit (.hole 0)))))) =
  ((Den E1 95 [.sl k false full []] (.sl 11 false true [])) ∧
 (DenC E1 94 [.pv (.sl 11 false true []), .pv (.clo (.func 96) [] [])] [] (.pv (.sl 11 false true [])) []) ∧
 (DenC E1 97 [.pv (.sl 11 false true []), .pv (.clo (.func 98) [] [])] [] (.pv (.tup [])) []) ∧
 ((.sl 0 true true []) : PV) = r) := by kernel_rfl
end Go.Proofs.YtlhfgonjcpapnaaGreatDoor.Abs

namespace Go.Proofs.YtlhfgonjcpapnaaGreatDoor.Abs
open Go Go.Proofs
theorem den_dead (x : I) (hx : x.ok) : Den E1 96 [x.p] (bolP (deadI x)) :=
  den1 2000 _ rfl (by kernel_rfl) rfl rfl rfl (Eq.mpr (span_join_1_go x _) ⟨rfl, den_low x, rfl, den_high x, den_before x.low x.high hx.lo hx.hi, rfl⟩)
theorem den_ordS (x y : I) (hx : x.ok) (hy : y.ok) : Den E1 98 [x.p, y.p] (intP (befE x.low y.low)) :=
  den1 2000 _ rfl (by kernel_rfl) rfl rfl rfl (Eq.mpr (span_join_2_go x y _) ⟨rfl, den_low x, rfl, den_low y, den_before x.low y.low hx.lo hy.lo, rfl⟩)
theorem den_between (a b : Ed) : Den E1 89 [a.p, b.p] (betE a b).p := by
  refine den1 2000 _ rfl (by kernel_rfl) rfl rfl rfl (Eq.mpr (span_between_go a b _) ?_)
  refine ⟨rfl, rfl, rfl, rfl, rfl, fun h => ⟨rfl, rfl, rfl, rfl, rfl, ?_⟩, fun h => ⟨rfl, rfl, ?_⟩⟩
  · have h' : b.less = false := not_eq.1 h
    simp only [betE, I.p, h']
    rfl
  · have h' : b.less = true := not_eq.2 h
    simp only [betE, I.p, h']
    rfl
theorem den_IndexFuncD (l : List I) (k : Nat) (nl full : Bool) (hsl : slOk 11 k nl l.length) (hll : l.length < 1000000) (hok : ∀ x ∈ l, x.ok) :
    Den E1 121 [listP k nl full l, .clo (.func 96) [] []] (intP (idxI deadI l)) := by
  refine den1 2000 _ rfl (by kernel_rfl) rfl rfl rfl (Eq.mpr (slices_IndexFunc_api_Interval_api_Interval_D_go l k nl full _) fun j jr g => ?_)
  have H : ∀ (n i : Nat) j jr g, i + n = l.length → (l.findIdx deadI = i + (l.drop i).findIdx deadI) → LoopAt E1 Tryz.f121 (intP (idxI deadI l)) 0 (slices_IndexFunc_api_Interval_api_Interval_D_S0 l k nl full i j jr g) := by
    intro n
    induction n with
    | zero =>
      intro i j jr g hi hd
      refine loop_go 2000 _ (Eq.mpr (slices_IndexFunc_api_Interval_api_Interval_D_go_S0 l k nl full i j jr g _) ⟨fun h => ?_, fun h => ?_⟩)
      · simp only [decide_eq_true_eq, List.length_map] at h; omega
      · unfold idxI
        rw [if_neg (by rw [hd]; omega)]
    | succ n ih =>
      intro i j jr g hi hd
      have hil : i < l.length := by omega
      have hw1 : IntKind.wrap IntKind.i64 ((i : Int) + 1) = ((i + 1 : Nat) : Int) := wrap_i64 _ (by omega) (by omega)
      refine loop_go 2000 _ (Eq.mpr (slices_IndexFunc_api_Interval_api_Interval_D_go_S0 l k nl full i j jr g _) ⟨fun h => ?_, fun h => ?_⟩)
      · simp only [hw1, Int.toNat_natCast, gI_nat, gI_zero]
        rw [drop_get hil, List.findIdx_cons] at hd
        refine ⟨⟨by omega, sl_at hsl hil⟩, getI hil, den_dead _ (by rw [getD_lt hil]; exact hok _ (by simp)), fun he => ?_, fun he j jr g => ?_⟩
        · rw [he] at hd
          have hd' : l.findIdx deadI = i := hd
          unfold idxI
          rw [hd', if_pos hil]
        · rw [he] at hd
          exact ih (i + 1) j jr g (by omega) (by rw [hd]; simp only [cond_false]; omega)
      · simp only [decide_eq_false_iff_not, List.length_map] at h; omega
  exact H l.length 0 j jr g (by omega) (by simp)
theorem denO_CloneI (l : List I) (k : Nat) (full : Bool) (hsl : slOk 11 k false l.length) (hll : l.length < 1000000) (h0 : l ≠ []) : DenO E1 95 [listP k false full l] 11 63 (List.map I.p l) 0 l.length false := by
  refine denO_go 2000 _ rfl (by kernel_rfl) rfl rfl rfl rfl (Eq.mpr (slices_Clone_api_Interval_api_Interval_O_go l k full _ _ _ _ _ _) ⟨⟨fun h => (by cases h), fun _ => hsl.2 rfl⟩, fun h => ?_, fun h => ?_⟩)
  · have : l = [] := by simpa using h
    exact h0 this
  · refine ⟨⟨rfl, rfl, fits_104 (by simp; omega)⟩, ⟨rfl, by simp, rfl⟩, rfl, rfl, rfl, rfl⟩
theorem del_of_none {l : List I} (h : (idxI deadI l == (-1 : Int)) = true) : delN l = l.length ∧ delL l = l := by
  have h1 : l.filter (fun x => !deadI x) = l := by
    rw [List.filter_eq_self]
    intro x hx
    unfold idxI at h
    split at h
    · rename_i hh
      simp only [beq_iff_eq] at h
      omega
    · rename_i hh
      have : deadI x = false := by
        cases hd : deadI x with
        | false => rfl
        | true => exact absurd (List.findIdx_lt_length_of_exists ⟨x, hx, hd⟩) hh
      simp [this]
  unfold delN delL
  rw [h1]
  simp
theorem frzs_msl2 {h h1 : Heap} {d s g n k : Nat} {full fz : Bool} {e : TypeId} {xs : List PV} {p : PV} (hb : hget h d s = ⟨g, .row k e xs fz⟩) (hn : xs.length = n) (hm : marks [(d, s)] h = h1) : frzs frzDepth [.msl d s g 0 n full, .pv p] h = some ([.sl k false full xs, p], h1) := by
  have hp : pk h frzDepth (.msl d s g 0 n full) = some (.sl k false full xs, [(d, s)]) := pk_msl hb hn
  have hq : pk h frzDepth (.pv p) = some (p, []) := rfl
  simp only [frzs, pks, hp, hq, Option.bind_some, Option.map_some, List.append_nil]
  rw [hm]
theorem splice_end {l : List I} {q : Nat} (hq : q ≤ l.length) : splice (List.map I.p l) q (List.replicate (l.length - q) zI.p) = List.map I.p (l.take q ++ List.replicate (l.length - q) zI) := by
  unfold splice
  rw [List.length_replicate, List.drop_eq_nil_of_le (by simp; omega), List.append_nil, List.map_append, List.map_take, List.map_replicate]
theorem del_loop (l : List I) (fu : Bool) (hll : l.length < 1000000) (hok : ∀ x ∈ l, x.ok) : ∀ (n i q : Nat) (xs : List I) j jr g, i + n = l.length → xs.length = l.length → xs.take q = (l.take i).filter (fun x => !deadI x) → xs.drop i = l.drop i → q < i → q = ((l.take i).filter (fun x => !deadI x)).length →
    LoopAtC E1 Tryz.f94 1 (.msl 0 0 0 0 (delN l) (fu && delN l == l.length)) [⟨0, .row 11 63 (List.map I.p (delL l)) false⟩] 0 (slices_DeleteFunc_api_Interval_api_Interval_S0 l l.length fu i q (List.map I.p xs) j jr g) := by
  intro n
  induction n with
  | zero =>
    intro i q xs j jr g hi hxl hxt hxd hqi hq
    have hil : i = l.length := by omega
    rw [hil, List.take_length] at hxt hq
    have hdn : delN l = q := hq.symm
    have hdl : delL l = xs.take q ++ List.replicate (l.length - q) zI := by unfold delL; rw [hxt, ← hq]
    refine loopC_go 2000 _ (Eq.mpr (slices_DeleteFunc_api_Interval_api_Interval_go_S0 l l.length fu i q xs j jr g _ _) ⟨fun h => ?_, fun h => ?_⟩)
    · simp only [decide_eq_true_eq] at h; omega
    · simp only [Int.toNat_natCast, gI_nat, gI_zero, Nat.zero_add, Nat.sub_zero, eq_self, true_and, and_true]
      refine ⟨by omega, fun h0 => ?_, fun h0 => ⟨⟨by decide, by simp; omega⟩, by omega, by rw [hdn], ?_⟩⟩
      · simp only [beq_iff_eq] at h0; omega
      · rw [hdl]
        have := splice_end (l := xs) (q := q) (by omega)
        rw [hxl] at this
        rw [← this]
        rfl
  | succ n ih =>
    intro i q xs j0 jr0 g0 hi hxl hxt hxd hqi hq
    have hil : i < l.length := by omega
    have hw1 : IntKind.wrap IntKind.i64 ((i : Int) + 1) = ((i + 1 : Nat) : Int) := wrap_i64 _ (by omega) (by omega)
    have hw2 : IntKind.wrap IntKind.i64 ((q : Int) + 1) = ((q + 1 : Nat) : Int) := wrap_i64 _ (by omega) (by omega)
    have hxi : xs.getD i default = l.getD i default := by
      have h1 := drop_get (l := xs) (i := i) (by omega)
      have h2 := drop_get (l := l) (i := i) hil
      rw [h1, h2] at hxd
      exact (List.cons.inj hxd).1
    have hxd1 : xs.drop (i + 1) = l.drop (i + 1) := by
      have h1 := drop_get (l := xs) (i := i) (by omega)
      have h2 := drop_get (l := l) (i := i) hil
      rw [h1, h2] at hxd
      exact (List.cons.inj hxd).2
    have hokx : (l.getD i default).ok := by rw [getD_lt hil]; exact hok _ (by simp)
    have htk : (l.take (i + 1)).filter (fun x => !deadI x) = (l.take i).filter (fun x => !deadI x) ++ (if deadI (l.getD i default) then [] else [l.getD i default]) := by
      rw [List.take_succ_eq_append_getElem hil, List.filter_append, getD_lt hil]
      cases hdd : deadI l[i] <;> simp [List.filter, hdd]
    refine loopC_go 2000 _ (Eq.mpr (slices_DeleteFunc_api_Interval_api_Interval_go_S0 l l.length fu i q xs j0 jr0 g0 _ _) ⟨fun h => ?_, fun h => ?_⟩)
    · simp only [hw1, hw2, Int.toNat_natCast, gI_nat, gI_zero, Nat.zero_add, eq_self, true_and, and_true]
      refine ⟨by omega, getI (by omega), den_dead _ (by rw [hxi]; exact hokx), fun he => ⟨by omega, getI (by omega), fun j jr g => ?_⟩, fun he j jr g => ?_⟩
      · have he' : deadI (l.getD i default) = false := by rw [← hxi]; exact not_eq.1 he
        rw [he'] at htk
        have := ih (i + 1) (q + 1) (xs.set q (xs.getD i default)) j jr g (by omega) (by simpa using hxl) (by
          rw [htk, ← hxt, hxi, List.take_succ_eq_append_getElem (by simp; omega), List.take_set_of_le (Nat.le_refl _)]
          simp) (by rw [List.drop_set_of_lt (by omega), hxd1]) (by omega) (by rw [htk, hq]; simp)
        rw [List.map_set] at this
        exact this
      · have he' : deadI (l.getD i default) = true := by rw [← hxi]; exact not_eq.2 he
        rw [he'] at htk
        exact ih (i + 1) q xs j jr g (by omega) hxl (by rw [hxt, htk]; simp) hxd1 (by omega) (by rw [htk, hq]; simp)
    · simp only [decide_eq_false_iff_not] at h; omega
theorem denC_DeleteFunc (l : List I) (fu : Bool) (hll : l.length < 1000000) (hok : ∀ x ∈ l, x.ok) :
    DenC E1 94 [.msl 0 0 0 0 l.length fu, .pv (.clo (.func 96) [] [])] [⟨0, .row 11 63 (List.map I.p l) false⟩] (.msl 0 0 0 0 (delN l) (fu && delN l == l.length)) [⟨0, .row 11 63 (List.map I.p (delL l)) false⟩] := by
  refine denC_go 2000 _ (fn := Tryz.f94) (by kernel_rfl) rfl (Eq.mpr (slices_DeleteFunc_api_Interval_api_Interval_go l l.length fu _ _) ⟨?_, den_IndexFuncD l 11 false fu ⟨fun h => (by cases h), fun _ => rfl⟩ hll hok, fun h => ?_, fun h => ?_⟩)
  · exact frzs_msl2 rfl (by simp) rfl
  · obtain ⟨h1, h2⟩ := del_of_none h
    rw [h1, h2]
    exact ⟨rfl, rfl, by simp, rfl⟩
  · have hfi : l.findIdx deadI < l.length := by
      unfold idxI at h
      split at h
      · assumption
      · cases h
    have hid : idxI deadI l = ((l.findIdx deadI : Nat) : Int) := by unfold idxI; rw [if_pos hfi]
    have hw : IntKind.wrap IntKind.i64 (((l.findIdx deadI : Nat) : Int) + 1) = ((l.findIdx deadI + 1 : Nat) : Int) := wrap_i64 _ (by omega) (by omega)
    rw [hid, hw]
    intro j jr g
    have hft : (l.take (l.findIdx deadI + 1)).filter (fun x => !deadI x) = l.take (l.findIdx deadI) := by
      rw [List.take_succ_eq_append_getElem hfi, List.filter_append]
      have hd : deadI l[l.findIdx deadI] = true := List.findIdx_getElem (w := hfi)
      have e1 : (l.take (l.findIdx deadI)).filter (fun x => !deadI x) = l.take (l.findIdx deadI) := by
        rw [List.filter_eq_self]
        intro x hx
        obtain ⟨i, hi, rfl⟩ := List.mem_take_iff_getElem.1 hx
        have : deadI l[i] = false := List.not_of_lt_findIdx (p := deadI) (by omega)
        simp [this]
      rw [e1]
      simp [hd]
    exact del_loop l fu hll hok (l.length - (l.findIdx deadI + 1)) (l.findIdx deadI + 1) (l.findIdx deadI) l j jr g (by omega) rfl (by rw [hft]) rfl (by omega) (by rw [hft]; simp; omega)
theorem ins_down (s t p : List I) (x : I) : insDown p.length (p.length + s.length) (p ++ s ++ x :: t) = p ++ insS s x ++ t := by
  have H : ∀ (n : Nat) (s t : List I), s.length = n → insDown p.length (p.length + n) (p ++ s ++ x :: t) = p ++ (s.take (insPosS s x n) ++ x :: s.drop (insPosS s x n)) ++ t := by
    intro n
    induction n with
    | zero =>
      intro s t hs
      have : s = [] := List.length_eq_zero_iff.1 hs
      subst this
      cases p with
      | nil => rfl
      | cons y p =>
        have e : (y :: p).length + 0 = p.length + 1 := rfl
        rw [e]
        unfold insDown
        rw [if_neg (by simp)]
        simp [insPosS]
    | succ n ih =>
      intro s t hs
      obtain ⟨s, y, rfl⟩ : ∃ s' y, s = s' ++ [y] := ⟨s.dropLast, s.getLast (by intro e; rw [e] at hs; simp at hs), (List.dropLast_concat_getLast _).symm⟩
      have hsl : s.length = n := by simpa using hs
      have e : p.length + (n + 1) = (p.length + n) + 1 := by omega
      have hL : p ++ (s ++ [y]) ++ x :: t = (p ++ s) ++ y :: x :: t := by simp
      have g1 : ((p ++ s) ++ y :: x :: t).getD (p.length + n + 1) default = x := by
        rw [List.getD_eq_getElem?_getD, List.getElem?_append_right (by simp; omega)]
        have : p.length + n + 1 - (p ++ s).length = 1 := by simp; omega
        rw [this]; rfl
      have g0 : ((p ++ s) ++ y :: x :: t).getD (p.length + n) default = y := by
        rw [List.getD_eq_getElem?_getD, List.getElem?_append_right (by simp; omega)]
        have : p.length + n - (p ++ s).length = 0 := by simp; omega
        rw [this]; rfl
      have hset : (((p ++ s) ++ y :: x :: t).set (p.length + n + 1) y).set (p.length + n) x = p ++ s ++ x :: (y :: t) := by
        rw [List.set_append_right _ _ (by simp; omega)]
        have e1 : p.length + n + 1 - (p ++ s).length = 1 := by simp; omega
        rw [e1, List.set_append_right _ _ (by simp; omega)]
        have e2 : p.length + n - (p ++ s).length = 0 := by simp; omega
        rw [e2]; rfl
      have hpre : ∀ m, m ≤ n → insPosS (s ++ [y]) x m = insPosS s x m := by
        intro m
        induction m with
        | zero => intro _; rfl
        | succ m ihm =>
          intro hm
          have gd : (s ++ [y]).getD m default = s.getD m default := by
            rw [List.getD_eq_getElem?_getD, List.getElem?_append_left (by omega), List.getD_eq_getElem?_getD]
          simp only [insPosS, gd, ihm (by omega)]
      have hle : ∀ m, insPosS s x m ≤ m := by
        intro m
        induction m with
        | zero => exact Nat.le_refl _
        | succ m ihm =>
          unfold insPosS
          split
          · omega
          · exact Nat.le_refl _
      have gy : (s ++ [y]).getD n default = y := by
        rw [List.getD_eq_getElem?_getD, List.getElem?_append_right (by omega), hsl]
        simp
      rw [e, hL]
      unfold insDown
      rw [g1, g0]
      have hlt : p.length < p.length + n + 1 := by omega
      by_cases hc : befE x.low y.low < 0
      · rw [if_pos ⟨hlt, hc⟩, hset, ih s (y :: t) hsl]
        have : insPosS (s ++ [y]) x (n + 1) = insPosS s x n := by
          simp only [insPosS, gy, hc, if_true]
          exact hpre n (Nat.le_refl _)
        rw [this]
        have := hle n
        rw [List.take_append_of_le_length (by omega), List.drop_append_of_le_length (by omega)]
        simp
      · rw [if_neg (fun h => hc h.2)]
        have : insPosS (s ++ [y]) x (n + 1) = n + 1 := by
          simp only [insPosS, gy, hc, if_false]
        rw [this, List.take_of_length_le (by simp; omega), List.drop_of_length_le (by simp; omega)]
        simp
  exact H s.length s t rfl
theorem insS_len (s : List I) (x : I) : (insS s x).length = s.length + 1 := by
  have : ∀ m, insPosS s x m ≤ m := by
    intro m
    induction m with
    | zero => exact Nat.le_refl _
    | succ m ihm =>
      unfold insPosS
      split
      · omega
      · exact Nat.le_refl _
  have := this s.length
  unfold insS
  simp
  omega
theorem sortS_len (l : List I) : (sortS l).length = l.length := by
  have H : ∀ (l s : List I), (l.foldl insS s).length = s.length + l.length := by
    intro l
    induction l with
    | nil => intro s; rfl
    | cons x l ih => intro s; rw [List.foldl_cons, ih, insS_len, List.length_cons]; omega
  have := H l []
  unfold sortS
  simpa using this
theorem sortS_snoc (l : List I) (x : I) : sortS (l ++ [x]) = insS (sortS l) x := by simp [sortS, List.foldl_append]
theorem insRange_eq (p l t : List I) : insRange p.length (p.length + l.length) (p ++ l ++ t) = p ++ sortS l ++ t := by
  cases l with
  | nil =>
    have : p.length + ([] : List I).length - (p.length + 1) = 0 := by simp
    unfold insRange
    rw [this]
    rfl
  | cons x l =>
    have e : p.length + (x :: l).length - (p.length + 1) = l.length := by simp; omega
    unfold insRange
    rw [e]
    have H : ∀ (n : Nat), n ≤ l.length → (List.range n).foldl (fun l t => insDown p.length (p.length + 1 + t) l) (p ++ (x :: l) ++ t) = p ++ sortS (x :: l.take n) ++ (l.drop n ++ t) := by
      intro n
      induction n with
      | zero => intro _; simp [sortS, insS, insPosS]
      | succ n ih =>
        intro hn
        rw [List.range_succ, List.foldl_append, ih (by omega), List.foldl_cons, List.foldl_nil]
        have hd : l.drop n ++ t = l.getD n default :: (l.drop (n + 1) ++ t) := by rw [drop_get (by omega)]; rfl
        have hl : (sortS (x :: l.take n)).length = n + 1 := by rw [sortS_len]; simp; omega
        have hi := ins_down (sortS (x :: l.take n)) (l.drop (n + 1) ++ t) p (l.getD n default)
        rw [hl] at hi
        have e2 : p.length + 1 + n = p.length + (n + 1) := by omega
        rw [hd, e2, hi, ← sortS_snoc]
        have : x :: l.take n ++ [l.getD n default] = x :: l.take (n + 1) := by
          rw [List.take_succ_eq_append_getElem (by omega), getD_lt (by omega)]; rfl
        rw [this]
    have := H l.length (Nat.le_refl _)
    rw [this, List.take_length, List.drop_length]
    rfl
def insLoop (a : Nat) : Nat → Nat → List I → List I
  | _, 0, l => l
  | i, m + 1, l => insLoop a (i + 1) m (insDown a i l)
theorem range_loop (a : Nat) : ∀ (m i : Nat) (l : List I), (List.range m).foldl (fun l t => insDown a (i + t) l) l = insLoop a i m l := by
  intro m
  induction m with
  | zero => intro i l; rfl
  | succ m ih =>
    intro i l
    rw [List.range_succ_eq_map, List.foldl_cons, List.foldl_map]
    have : (fun (l : List I) (t : Nat) => insDown a (i + Nat.succ t) l) = fun l t => insDown a (i + 1 + t) l := by
      funext l t; rw [show i + Nat.succ t = i + 1 + t by omega]
    rw [this, ih (i + 1)]
    rfl
theorem insDown_len (a : Nat) : ∀ (j : Nat) (l : List I), (insDown a j l).length = l.length := by
  intro j
  induction j with
  | zero => intro l; rfl
  | succ j ih =>
    intro l
    unfold insDown
    split
    · rw [ih]; simp
    · rfl
theorem insDown_ok (a : Nat) : ∀ (j : Nat) (l : List I), j < l.length → (∀ x ∈ l, x.ok) → ∀ x ∈ insDown a j l, x.ok := by
  intro j
  induction j with
  | zero => intro l _ h; exact h
  | succ j ih =>
    intro l hj h
    unfold insDown
    split
    · refine ih _ (by simp; omega) fun x hx => ?_
      rcases List.mem_or_eq_of_mem_set hx with h1 | rfl
      · rcases List.mem_or_eq_of_mem_set h1 with h2 | rfl
        · exact h x h2
        · rw [getD_lt (by omega)]; exact h _ (by simp)
      · rw [getD_lt (by omega)]; exact h _ (by simp)
    · exact h
section
variable (l : List I) (fu : Bool) (a b : Nat)
theorem ins_S1 (n : Nat) (hn : n < 1000000) (i : Nat) (hi : i < n) {v : AV} {rs : List Row} : ∀ (q : Nat) (xs : List I) j jr g, q ≤ i → n ≤ xs.length → (∀ x ∈ xs, x.ok) →
    (∀ j jr g, LoopAtC E1 Tryz.f154 1 v rs 0 (slices_insertionSortCmpFunc_api_Interval_S0 l n fu a b (i + 1 : Nat) (List.map I.p (insDown a q xs)) j jr g)) →
    LoopAtC E1 Tryz.f154 1 v rs 1 (slices_insertionSortCmpFunc_api_Interval_S1 l n fu a b i q (List.map I.p xs) j jr g) := by
  have hw1 : IntKind.wrap IntKind.i64 ((i : Int) + 1) = ((i + 1 : Nat) : Int) := wrap_i64 _ (by omega) (by omega)
  intro q
  induction q with
  | zero =>
    intro xs j0 jr0 g0 hq hxl hok next
    refine loopC_go 2000 _ (Eq.mpr (slices_insertionSortCmpFunc_api_Interval_go_S1 l n fu a b i (0 : Nat) xs j0 jr0 g0 _ _) ⟨fun h => ?_, fun h j jr g => ?_⟩)
    · simp only [decide_eq_true_eq] at h; omega
    · rw [hw1]; exact next j jr g
  | succ q ih =>
    intro xs j0 jr0 g0 hq hxl hok next
    have hw2 : IntKind.wrap IntKind.i64 (((q + 1 : Nat) : Int) - 1) = (q : Int) := by rw [wrap_i64 _ (by omega) (by omega)]; omega
    have ok : ∀ m, m < n → (xs.getD m default).ok := fun m hm => by rw [getD_lt (by omega)]; exact hok _ (by simp)
    unfold insDown at next
    refine loopC_go 2000 _ (Eq.mpr (slices_insertionSortCmpFunc_api_Interval_go_S1 l n fu a b i (q + 1 : Nat) xs j0 jr0 g0 _ _) ⟨fun h => ?_, fun h j jr g => ?_⟩)
    · have ha : a < q + 1 := by simp only [decide_eq_true_eq] at h; omega
      simp only [hw1, hw2, Int.toNat_natCast, gI_nat, gI_zero, Nat.zero_add, eq_self, true_and, and_true]
      have k1 : (0 : Int) ≤ ((q + 1 : Nat) : Int) ∧ ((q + 1 : Nat) : Int) < (n : Int) := by omega
      have k2 : (0 : Int) ≤ (q : Int) ∧ (q : Int) < (n : Int) := by omega
      have m1 := getI (l := xs) (i := q + 1) (by omega)
      have m2 := getI (l := xs) (i := q) (by omega)
      refine ⟨k1, m1, k2, m2, den_ordS _ _ (ok _ (by omega)) (ok _ (by omega)), fun hc => ⟨k2, m2, k1, m1, k1, m1, k2, ?_, fun j jr g => ?_⟩, fun hc j jr g => ?_⟩
      · rw [List.getElem?_set_ne (by omega)]; exact m2
      · have hc' : befE (xs.getD (q + 1) default).low (xs.getD q default).low < 0 := of_decide_eq_true hc
        rw [if_pos ⟨ha, hc'⟩] at next
        have := ih ((xs.set (q + 1) (xs.getD q default)).set q (xs.getD (q + 1) default)) j jr g (by omega) (by simpa using hxl) (fun x hx => by
          rcases List.mem_or_eq_of_mem_set hx with h1 | rfl
          · rcases List.mem_or_eq_of_mem_set h1 with h2 | rfl
            · exact hok x h2
            · exact ok _ (by omega)
          · exact ok _ (by omega)) next
        rw [List.map_set, List.map_set] at this
        exact this
      · have hc' : ¬ befE (xs.getD (q + 1) default).low (xs.getD q default).low < 0 := of_decide_eq_false hc
        rw [if_neg (fun h => hc' h.2)] at next
        exact next j jr g
    · have ha : ¬ a < q + 1 := by simp only [decide_eq_false_iff_not] at h; omega
      rw [if_neg (fun h => ha h.1)] at next
      rw [hw1]; exact next j jr g
theorem ins_S0 (n : Nat) (hn : n < 1000000) (hb : b ≤ n) : ∀ (m i : Nat) (xs : List I) j jr g, (i + m = b ∨ (m = 0 ∧ b ≤ i)) → n ≤ xs.length → (∀ x ∈ xs, x.ok) →
    LoopAtC E1 Tryz.f154 1 (.pv (.tup [])) [⟨0, .row 11 63 (List.map I.p (insLoop a i m xs)) false⟩] 0 (slices_insertionSortCmpFunc_api_Interval_S0 l n fu a b i (List.map I.p xs) j jr g) := by
  intro m
  induction m with
  | zero =>
    intro i xs j0 jr0 g0 hi hxl hok
    refine loopC_go 2000 _ (Eq.mpr (slices_insertionSortCmpFunc_api_Interval_go_S0 l n fu a b i xs j0 jr0 g0 _ _) ⟨fun h => ?_, fun h => ⟨rfl, rfl, rfl⟩⟩)
    simp only [decide_eq_true_eq] at h; omega
  | succ m ih =>
    intro i xs j0 jr0 g0 hi hxl hok
    refine loopC_go 2000 _ (Eq.mpr (slices_insertionSortCmpFunc_api_Interval_go_S0 l n fu a b i xs j0 jr0 g0 _ _) ⟨fun h j jr g => ?_, fun h => ?_⟩)
    · exact ins_S1 l fu a b n hn i (by omega) i xs j jr g (Nat.le_refl _) hxl hok fun j jr g => ih (i + 1) _ j jr g (by omega) (by rw [insDown_len]; exact hxl) (insDown_ok a i xs (by omega) hok)
    · simp only [decide_eq_false_iff_not] at h; omega
theorem denC_insertion (n : Nat) (hn : n < 1000000) (hnl : n ≤ l.length) (hab : a ≤ b) (hb : b ≤ n) (hok : ∀ x ∈ l, x.ok) :
    DenC E1 154 [.msl 0 0 0 0 n fu, intA a, intA b, .pv (.clo (.func 98) [] [])] [⟨0, .row 11 63 (List.map I.p l) false⟩] (.pv (.tup [])) [⟨0, .row 11 63 (List.map I.p (insRange a b l)) false⟩] := by
  have hw : IntKind.wrap IntKind.i64 ((a : Int) + 1) = ((a + 1 : Nat) : Int) := wrap_i64 _ (by omega) (by omega)
  refine denC_go 2000 _ (fn := Tryz.f154) (by kernel_rfl) rfl (Eq.mpr (slices_insertionSortCmpFunc_api_Interval_go l n fu a b _ _) fun j jr g => ?_)
  have e : insRange a b l = insLoop a (a + 1) (b - (a + 1)) l := range_loop a _ _ _
  rw [hw, e]
  exact ins_S0 l fu a b n hn hb (b - (a + 1)) (a + 1) l j jr g (by omega) hnl hok
end
theorem sortN_of {l : List I} {n : Nat} (hn : n ≤ l.length) : insRange 0 n l = sortN n l := by
  have := insRange_eq [] (l.take n) (l.drop n)
  simp only [List.nil_append, List.length_nil, Nat.zero_add, List.length_take, List.take_append_drop, Nat.min_eq_left hn] at this
  exact this
theorem denC_stable20 (l : List I) (n : Nat) (fu : Bool) (hnl : n ≤ l.length) (hn : n < 20) (hok : ∀ x ∈ l, x.ok) :
    DenC E1 132 [.msl 0 0 0 0 n fu, intA n, .pv (.clo (.func 98) [] [])] [⟨0, .row 11 63 (List.map I.p l) false⟩] (.pv (.tup [])) [⟨0, .row 11 63 (List.map I.p (sortN n l)) false⟩] := by
  refine denC_go 2000 _ (fn := Tryz.f132) (by kernel_rfl) rfl (Eq.mpr (slices_stableCmpFunc_api_Interval_go l n fu _ _) fun j jr g => ?_)
  refine loopC_go 2000 _ (Eq.mpr (slices_stableCmpFunc_api_Interval_go_S0 l n fu 0 20 l j jr g _ _) ⟨fun h => ?_, fun h => ⟨rfl, denC_insertion l fu 0 n n (by omega) hnl (Nat.zero_le _) (Nat.le_refl _) hok, fun j jr g => ?_⟩⟩)
  · simp only [decide_eq_true_eq] at h; omega
  · refine loopC_go 2000 _ (Eq.mpr (slices_stableCmpFunc_api_Interval_go_S1 l n fu 0 20 20 _ j jr g _ _) ⟨fun h => ?_, fun h => ⟨rfl, rfl, ?_⟩⟩)
    · simp only [decide_eq_true_eq] at h; omega
    · rw [show Int.toNat 0 = 0 from rfl, Int.toNat_natCast, sortN_of hnl]
theorem denC_SortStable20 (l : List I) (n : Nat) (fu : Bool) (hnl : n ≤ l.length) (hn : n < 20) (hok : ∀ x ∈ l, x.ok) :
    DenC E1 97 [.msl 0 0 0 0 n fu, .pv (.clo (.func 98) [] [])] [⟨0, .row 11 63 (List.map I.p l) false⟩] (.pv (.tup [])) [⟨0, .row 11 63 (List.map I.p (sortN n l)) false⟩] :=
  denC_go 2000 _ (fn := Tryz.f97) (by kernel_rfl) rfl (Eq.mpr (slices_SortStableFunc_api_Interval_api_Interval_go l n fu _ _) ⟨rfl, denC_stable20 l n fu hnl hn hok, rfl, rfl, rfl⟩)
theorem bet_ok {a b : Ed} (ha : a.v.ok) (hb : b.v.ok) : (betE a b).ok := by
  refine ⟨ha, ?_⟩
  unfold betE
  simp only []
  split
  · exact ⟨⟨by decide, by decide⟩, ⟨by decide, by decide⟩, ⟨by decide, by decide⟩, ⟨fun _ => rfl, fun h => (by cases h)⟩, (by unfold small; decide), fun s hs => (by cases hs)⟩
  · exact hb
section
variable (l : List I) (k : Nat) (full : Bool)
theorem sjoin_S1 (S : List I) (hS : S = sortN (delN l) (delL l)) (hlS : delN l ≤ S.length) (hll : l.length < 1000000) (hdl : delN l ≤ l.length) (hokS : ∀ x ∈ S, x.ok) : ∀ (n i : Nat) (ys : List I) (gm : Nat) j jr g, i + n = delN l → ys ≠ [] → ys.length ≤ i → (∀ x ∈ ys, x.ok) →
    LoopAt E1 Tryz.f54 (resL (((S.take (delN l)).drop i).foldl stepS ys)) 0 (span_join_S1 l k full i 2 gm ys.length (List.map I.p ys) j jr g) := by
  intro n
  induction n with
  | zero =>
    intro i ys gm j jr g hi hy hle hoy
    refine loop_go 2000 _ (Eq.mpr (span_join_go_S1 l k full i 2 gm ys.length ys j jr g _) ⟨fun h => ?_, fun h => ?_⟩)
    · simp only [decide_eq_true_eq] at h; omega
    · rw [List.drop_eq_nil_of_le (by simp; omega), List.foldl_nil]
      exact frz_msl rfl (by simp) (resL_cons hy)
  | succ n ih =>
    intro i ys gm j0 jr0 g0 hi hy hle hoy
    have hyl : 1 ≤ ys.length := List.length_pos_iff.2 hy
    have hw1 : IntKind.wrap IntKind.i64 ((ys.length : Int) - 1) = ((ys.length - 1 : Nat) : Int) := by rw [wrap_i64 _ (by omega) (by omega)]; omega
    have hw2 : IntKind.wrap IntKind.i64 ((i : Int) + 1) = ((i + 1 : Nat) : Int) := wrap_i64 _ (by omega) (by omega)
    have hix : i < S.length := by omega
    have hox : (S.getD i default).ok := by rw [getD_lt hix]; exact hokS _ (by simp)
    have hoY : (ys.getD (ys.length - 1) default).ok := by rw [getD_lt (by omega)]; exact hoy _ (by simp)
    have hdy := getI (l := ys) (show ys.length - 1 < ys.length by omega)
    have hdx := getI (l := S) hix
    have hne : ys.isEmpty = false := by simpa using hy
    have hdr : (S.take (delN l)).drop i = S.getD i default :: (S.take (delN l)).drop (i + 1) := by
      rw [drop_get (by simp; omega)]
      congr 1
      rw [List.getD_eq_getElem?_getD, List.getElem?_take, if_pos (by omega), List.getD_eq_getElem?_getD]
    rw [hdr, List.foldl_cons]
    have hst : stepS ys (S.getD i default) = if befE (ys.getD (ys.length - 1) default).high (S.getD i default).low ≥ 0 then
        (if befE (ys.getD (ys.length - 1) default).high (S.getD i default).high < 0 then ys.set (ys.length - 1) (betE (ys.getD (ys.length - 1) default).low (S.getD i default).high) else ys) else ys ++ [S.getD i default] := by
      unfold stepS; rw [hne]; rfl
    rw [hS] at hdx hox hst
    refine loop_go 2000 _ (Eq.mpr (span_join_go_S1 l k full i 2 gm ys.length ys j0 jr0 g0 _) ⟨fun h => ?_, fun h => ?_⟩)
    · simp only [hw1, hw2, Int.toNat_natCast, gI_nat, gI_zero, Nat.zero_add, eq_self, true_and, and_true, Nat.le_refl]
      have k1 : (0 : Int) ≤ (i : Int) ∧ (i : Int) < (delN l : Int) := by omega
      have k2 : (0 : Int) ≤ ((ys.length - 1 : Nat) : Int) ∧ ((ys.length - 1 : Nat) : Int) < (ys.length : Int) := by omega
      refine ⟨k1, hdx, fun _ => ⟨k2, hdy, den_high _, den_low _, den_before (ys.getD (ys.length - 1) default).high ((sortN (delN l) (delL l)).getD i default).low hoY.hi hox.lo, fun ht => ⟨k2, hdy, den_high _, den_high _, den_before (ys.getD (ys.length - 1) default).high ((sortN (delN l) (delL l)).getD i default).high hoY.hi hox.hi,
        fun hh => ⟨k2, hdy, den_low _, den_high _, den_between (ys.getD (ys.length - 1) default).low ((sortN (delN l) (delL l)).getD i default).high, k2, hdy, fun j jr g => ?_⟩, fun hh j jr g => ?_⟩, fun ht => ⟨⟨by simp, fits_104 (by omega)⟩, fun j jr g => ?_⟩⟩, fun h0 => ?_⟩
      · have ht' : befE (ys.getD (ys.length - 1) default).high ((sortN (delN l) (delL l)).getD i default).low ≥ 0 := of_decide_eq_true ht
        have hh' : befE (ys.getD (ys.length - 1) default).high ((sortN (delN l) (delL l)).getD i default).high < 0 := of_decide_eq_true hh
        have e : stepS ys ((sortN (delN l) (delL l)).getD i default) = ys.set (ys.length - 1) (betE (ys.getD (ys.length - 1) default).low ((sortN (delN l) (delL l)).getD i default).high) := by
          rw [hst, if_pos ht', if_pos hh']
        rw [hS, e]
        rw [hS] at ih
        have := ih (i + 1) (ys.set (ys.length - 1) (betE (ys.getD (ys.length - 1) default).low ((sortN (delN l) (delL l)).getD i default).high)) gm j jr g (by omega) (by simpa using hy) (by simp; omega) (fun x hx => by
          rcases List.mem_or_eq_of_mem_set hx with h1 | rfl
          · exact hoy x h1
          · exact bet_ok hoY.lo hox.hi)
        rw [List.length_set, List.map_set] at this
        exact this
      · have ht' : befE (ys.getD (ys.length - 1) default).high ((sortN (delN l) (delL l)).getD i default).low ≥ 0 := of_decide_eq_true ht
        have hh' : ¬ befE (ys.getD (ys.length - 1) default).high ((sortN (delN l) (delL l)).getD i default).high < 0 := of_decide_eq_false hh
        have e : stepS ys ((sortN (delN l) (delL l)).getD i default) = ys := by
          rw [hst, if_pos ht', if_neg hh']
        rw [hS, e]
        rw [hS] at ih
        exact ih (i + 1) ys gm j jr g (by omega) hy (by omega) hoy
      · have ht' : ¬ befE (ys.getD (ys.length - 1) default).high ((sortN (delN l) (delL l)).getD i default).low ≥ 0 := of_decide_eq_false ht
        have e : stepS ys ((sortN (delN l) (delL l)).getD i default) = ys ++ [(sortN (delN l) (delL l)).getD i default] := by
          rw [hst, if_neg ht']
        rw [hS, e]
        rw [hS] at ih
        have := ih (i + 1) (ys ++ [(sortN (delN l) (delL l)).getD i default]) (g0 + 1 + 4 + 3 + 14 + 3) j jr g (by omega) (by simp) (by simp; omega) (fun x hx => by
          rcases List.mem_append.1 hx with h1 | h1
          · exact hoy x h1
          · simp at h1; subst h1; rw [← List.getD_eq_getElem?_getD]; exact hox)
        rw [List.length_append, List.map_append] at this
        exact this
      · simp only [decide_eq_false_iff_not] at h0; omega
    · simp only [decide_eq_false_iff_not] at h; omega
theorem sjoin_S0 (S : List I) (hS : S = sortN (delN l) (delL l)) (hlS : delN l ≤ S.length) (hll : l.length < 1000000) (hdl : delN l ≤ l.length) (hokS : ∀ x ∈ S, x.ok) (z : Row) (j0 : Nat → AV) (jr0 : Nat → Row) (g0 : Nat) :
    LoopAt E1 Tryz.f54 (resL ((S.take (delN l)).foldl stepS [])) 0 (span_join_S0 l k full 0 2 z j0 jr0 g0) := by
  have hz : Int.toNat 0 = 0 := rfl
  have hw2 : IntKind.wrap IntKind.i64 ((0 : Int) + 1) = ((1 : Nat) : Int) := rfl
  refine loop_go 2000 _ (Eq.mpr (span_join_go_S0 l k full 0 2 z j0 jr0 g0 _) ⟨fun h => ?_, fun h => ?_⟩)
  · have h1 : 0 < delN l := by simp only [decide_eq_true_eq] at h; omega
    have hix : 0 < S.length := by omega
    have hdx := getI (l := S) hix
    rw [hS] at hdx
    simp only [hw2, hz, Nat.zero_add, eq_self, true_and, and_true, Nat.le_refl]
    refine ⟨by omega, hdx, fun j jr g => ?_⟩
    have hox : (S.getD 0 default).ok := by rw [getD_lt hix]; exact hokS _ (by simp)
    have := sjoin_S1 l k full S hS hlS hll hdl hokS (delN l - 1) 1 [S.getD 0 default] (g0 + 1 + 4 + 3 + 14 + 3) j jr g (by omega) (by simp) (by simp) (fun x hx => by simp at hx; subst hx; rw [← List.getD_eq_getElem?_getD]; exact hox)
    have e : S.take (delN l) = S.getD 0 default :: (S.take (delN l)).drop 1 := by
      have hd := drop_get (l := S.take (delN l)) (i := 0) (by simp; omega)
      rw [List.drop_zero] at hd
      have h0 : (S.take (delN l)).getD 0 default = S.getD 0 default := by
        rw [List.getD_eq_getElem?_getD, List.getElem?_take, if_pos h1, List.getD_eq_getElem?_getD]
      rw [h0] at hd
      exact hd
    have e2 : (S.take (delN l)).foldl stepS [] = ((S.take (delN l)).drop 1).foldl stepS [S.getD 0 default] := by
      conv => lhs; rw [e]
      rfl
    rw [e2]
    rw [hS] at this ⊢
    exact this
  · have h1 : delN l = 0 := by simp only [decide_eq_false_iff_not] at h; omega
    rw [h1, List.take_zero]
    rfl
end
theorem delN_le (l : List I) : delN l ≤ l.length := List.length_filter_le _ _
theorem delL_len (l : List I) : (delL l).length = l.length := by
  have := delN_le l
  unfold delN at this
  unfold delL
  simp
  omega
theorem delL_ok {l : List I} (h : ∀ x ∈ l, x.ok) : ∀ x ∈ delL l, x.ok := by
  intro x hx
  unfold delL at hx
  rcases List.mem_append.1 hx with h1 | h1
  · exact h x (List.mem_filter.1 h1).1
  · rw [List.eq_of_mem_replicate h1]
    have hz : zV.ok := ⟨⟨by decide, by decide⟩, ⟨by decide, by decide⟩, ⟨by decide, by decide⟩, ⟨fun _ => rfl, fun h => (by cases h)⟩, (by unfold small; decide), fun s hs => (by cases hs)⟩
    exact ⟨hz, hz⟩
theorem insS_mem {s : List I} {x y : I} (h : y ∈ insS s x) : y = x ∨ y ∈ s := by
  unfold insS at h
  rcases List.mem_append.1 h with h1 | h1
  · exact .inr (List.mem_of_mem_take h1)
  · rcases List.mem_cons.1 h1 with rfl | h1
    · exact .inl rfl
    · exact .inr (List.mem_of_mem_drop h1)
theorem sortS_mem {l : List I} {y : I} (h : y ∈ sortS l) : y ∈ l := by
  have H : ∀ (l s : List I), y ∈ l.foldl insS s → y ∈ s ∨ y ∈ l := by
    intro l
    induction l with
    | nil => intro s h; exact .inl h
    | cons x l ih =>
      intro s h
      rcases ih _ h with h1 | h1
      · rcases insS_mem h1 with rfl | h2
        · exact .inr (by simp)
        · exact .inl h2
      · exact .inr (by simp [h1])
  rcases H l [] h with h1 | h1
  · cases h1
  · exact h1
theorem delL_take (l : List I) : (delL l).take (delN l) = l.filter fun x => !deadI x := by
  unfold delL delN
  rw [List.take_append_of_le_length (Nat.le_refl _), List.take_length]
theorem sortN_len {n : Nat} {l : List I} (hn : n ≤ l.length) : (sortN n l).length = l.length := by
  unfold sortN
  rw [List.length_append, sortS_len]
  simp
  omega
theorem sortN_take {n : Nat} {l : List I} (hn : n ≤ l.length) : (sortN n l).take n = sortS (l.take n) := by
  unfold sortN
  have : (sortS (l.take n)).length = n := by rw [sortS_len]; simp; omega
  rw [List.take_append_of_le_length (by omega), List.take_of_length_le (by omega)]
theorem sortN_ok {n : Nat} {l : List I} (h : ∀ x ∈ l, x.ok) : ∀ x ∈ sortN n l, x.ok := by
  intro x hx
  unfold sortN at hx
  rcases List.mem_append.1 hx with h1 | h1
  · exact h x (List.mem_of_mem_take (sortS_mem h1))
  · exact h x (List.mem_of_mem_drop h1)
theorem denC_del_nil (k : Nat) (nl full : Bool) (hsl : slOk 11 k nl 0) : DenC E1 94 [.pv (.sl k nl full []), .pv (.clo (.func 96) [] [])] [] (.pv (.sl k nl full [])) [] :=
  denC_go 2000 _ (fn := Tryz.f94) (by kernel_rfl) rfl (Eq.mpr (slices_DeleteFunc_api_Interval_api_Interval_N_go k nl full _ _) ⟨den_IndexFuncD [] k nl full hsl (by simp) (fun x hx => by cases hx), rfl, rfl⟩)
theorem denC_sort_nil (k : Nat) (nl full : Bool) : DenC E1 97 [.pv (.sl k nl full []), .pv (.clo (.func 98) [] [])] [] (.pv (.tup [])) [] :=
  denC_go 2000 _ (fn := Tryz.f97) (by kernel_rfl) rfl (Eq.mpr (slices_SortStableFunc_api_Interval_api_Interval_N_go k nl full _ _)
    ⟨denC_go 2000 _ (fn := Tryz.f132) (by kernel_rfl) rfl (Eq.mpr (slices_stableCmpFunc_api_Interval_N_go k nl full _ _)
      ⟨denC_go 2000 _ (fn := Tryz.f154) (by kernel_rfl) rfl (Eq.mpr (slices_insertionSortCmpFunc_api_Interval_N_go k nl full _ _) ⟨rfl, rfl⟩), rfl, rfl⟩), rfl, rfl⟩)
theorem den_join_of (l : List I) (k : Nat) (nl full : Bool) (hsl : slOk 11 k nl l.length) (hll : l.length < 1000000) (hok : ∀ x ∈ l, x.ok)
    (hsort : DenC E1 97 [.msl 0 0 0 0 (delN l) false, .pv (.clo (.func 98) [] [])] [⟨0, .row 11 63 (List.map I.p (delL l)) false⟩] (.pv (.tup [])) [⟨0, .row 11 63 (List.map I.p (sortN (delN l) (delL l))) false⟩]) :
    Den E1 54 [listP k nl full l] (resL (joinS l)) := by
  by_cases h0 : l = []
  · subst h0
    cases nl with
    | true =>
      refine den1 2000 _ rfl (by kernel_rfl) rfl rfl rfl (Eq.mpr (span_join_N_go k full _) ⟨?_, denC_del_nil 0 true true ⟨fun _ => rfl, fun h => (by cases h)⟩, denC_sort_nil 0 true true, rfl⟩)
      exact denP_go 2000 _ rfl (by kernel_rfl) rfl rfl rfl rfl (Eq.mpr (slices_Clone_api_Interval_api_Interval_P_go k full _) rfl)
    | false =>
      have hk := hsl.2 rfl
      refine den1 2000 _ rfl (by kernel_rfl) rfl rfl rfl (Eq.mpr (span_join_E_go k full _) ⟨?_, denC_del_nil 11 false true ⟨fun h => (by cases h), fun _ => rfl⟩, denC_sort_nil 11 false true, rfl⟩)
      exact denP_go 2000 _ rfl (by kernel_rfl) rfl rfl rfl rfl (Eq.mpr (slices_Clone_api_Interval_api_Interval_E_P_go k full _) ⟨⟨fun h => (by cases h), fun _ => hk⟩, rfl⟩)
  · have hnl : nl = false := by
      cases nl with
      | false => rfl
      | true => exact absurd (List.length_eq_zero_iff.1 (hsl.1 rfl)) h0
    subst hnl
    have hd := delN_le l
    have hdl := delL_len l
    refine den1 2000 _ rfl (by kernel_rfl) rfl rfl rfl (Eq.mpr (span_join_go l k full _) ⟨denO_CloneI l k full hsl hll h0, rfl, denC_DeleteFunc l false hll hok, rfl, hsort, fun j jr g => ?_⟩)
    have := sjoin_S0 l k full (sortN (delN l) (delL l)) rfl (by rw [sortN_len (by omega)]; omega) hll hd (sortN_ok (delL_ok hok)) row0 j jr g
    rw [sortN_take (by omega), delL_take] at this
    exact this
theorem den_join20 (l : List I) (k : Nat) (nl full : Bool) (hsl : slOk 11 k nl l.length) (hll : l.length < 1000000) (hfew : delN l < 20) (hok : ∀ x ∈ l, x.ok) : Den E1 54 [listP k nl full l] (resL (joinS l)) :=
  den_join_of l k nl full hsl hll hok (denC_SortStable20 (delL l) (delN l) false (by rw [delL_len]; exact delN_le l) hfew (delL_ok hok))
end Go.Proofs.YtlhfgonjcpapnaaGreatDoor.Abs

namespace Go.Proofs.YtlhfgonjcpapnaaGreatDoor.Abs
open Go Go.Proofs
abbrev spV (g : Nat) : AV := .clo (.func 88) [] [.mptr 1 2 (g + 0) 0 0, .mptr 1 3 (g + 1) 0 0]
abbrev spF (s b : List UInt8) (g : Nat) : List Row := [row0, row0, ⟨g + 0, .box (strA (bs s)) false⟩, ⟨g + 1, .box (strA (bs b)) false⟩, row0, row0]
theorem den_split (s b : List UInt8) : DenI E1 51 [strP s, strP b] (fun g => spV g) (fun g => spF s b g) 5 := by
  refine ⟨1, fun n hn ys d slot gen f0 g => ?_⟩
  obtain ⟨n, rfl⟩ : ∃ k, n = k + 1 := ⟨n - 1, by omega⟩
  kernel_rfl
def decV (s : List UInt8) : Nat := s.foldl (fun n b => 10 * n + (b.toNat - 48)) 0
def numOk (s : List UInt8) : Bool := digitsL s && plainL s && decide (s.length ≤ 10)
def numV (s : List UInt8) : Int := if numOk s then IntKind.wrap IntKind.u32 (decV s) else 0
def numB (s : List UInt8) : Bool := numOk s && decide (decV s ≤ 2147483647)
def wordsV (s : List UInt8) : List (List UInt8) := Lib.split (Lib.cut s [45]).1 [46]
def preV (s : List UInt8) : List (List UInt8) := if (Lib.cut s [45]).2.2 then Lib.split (Lib.cut s [45]).2.1 [46] else []
def rawV (fl : Bool) (s : List UInt8) : V :=
  ⟨numV ((wordsV s).getD 0 []), numV ((wordsV s).getD 1 []), numV ((wordsV s).getD 2 []), if (Lib.cut s [45]).2.2 then 1 else 0, !(Lib.cut s [45]).2.2, if (Lib.cut s [45]).2.2 then fl else true, preV s⟩
def rdOk0 (s : List UInt8) : Bool := decide (s.length ≤ 128) && (wordsV s).length == 3 && numB ((wordsV s).getD 0 []) && numB ((wordsV s).getD 1 []) && numB ((wordsV s).getD 2 []) && mayV (rawV true s)
noncomputable def shut {α : Type} (x : α) : α := Classical.choose (⟨x, rfl⟩ : ∃ y, y = x)
theorem shut_eq {α : Type} (x : α) : shut x = x := Classical.choose_spec (⟨x, rfl⟩ : ∃ y, y = x)
noncomputable def rdOk : List UInt8 → Bool := shut rdOk0
theorem rdOk_eq (s : List UInt8) : rdOk s = rdOk0 s := by rw [rdOk, shut_eq]
def rdV0 (fl : Bool) (s : List UInt8) : V := if rdOk0 s then rawV fl s else zV
noncomputable def rdV : Bool → List UInt8 → V := shut rdV0
theorem rdV_eq (fl : Bool) (s : List UInt8) : rdV fl s = rdV0 fl s := by rw [rdV, shut_eq]
def trimC (c : Int) : Bool := c == 60 || c == 62 || c == 61 || c == 126 || c == 94
def trimL (s : List UInt8) : List UInt8 := s.dropWhile fun b => trimC b.toNat
def signL (s : List UInt8) : List UInt8 := s.take (s.length - (trimL s).length)
def aSetP : PV := .agg ((List.range 256).map fun (c : Nat) => bolP (trimC c))
structure LF where
  k : Nat
  nl : Bool
  full : Bool
  l : List I
abbrev LF.p (x : LF) : PV := listP x.k x.nl x.full x.l
def lfR (l : List I) : LF := ⟨twK l, twN l, twN l, l⟩
def lf1 (x : I) : LF := ⟨11, false, true, [x]⟩
def lf0 : LF := ⟨0, true, true, []⟩
def nextOk (v : V) (n : Int) : Bool := mayV v && !(n == 0 && v.a == 2147483647) && !(n == 1 && v.b == 2147483647) && !(n == 2 && v.c == 2147483647)
def nextV (v : V) (n : Int) : V := if nextOk v n then (if n == 0 then ⟨IntKind.wrap IntKind.u32 (v.a + 1), 0, 0, 0, true, true, []⟩ else if n == 1 then ⟨v.a, IntKind.wrap IntKind.u32 (v.b + 1), 0, 0, true, true, []⟩ else ⟨v.a, v.b, IntKind.wrap IntKind.u32 (v.c + 1), 0, true, true, []⟩) else zV
def nextE (v : V) (n : Int) : Int := if mayV v then (if nextOk v n then 0 else 2) else 70
def leastV (v : V) : V := ⟨v.a, v.b, v.c, 1, false, true, [[48]]⟩
def kindV (v : V) : Int := if v.a > 0 then 0 else if v.b > 0 then 1 else 2
def fromI (v : V) (o : Bool) : I := ⟨v, o, zV, false, true⟩
def downI (v : V) (o : Bool) : I := ⟨bottomV, false, v, o, false⟩
def meet1S (x y : I) : I := betE (if befE x.low y.low < 0 then y.low else x.low) (if befE y.high x.high < 0 then y.high else x.high)
def meetS (a b : List I) : List I := joinS (a.flatMap fun x => b.map fun y => meet1S x y)
def uptoS (v : V) (n : Int) : LF := if nextOk v n then lfR (meetS [fromI v false] (joinS [downI (leastV (nextV v n)) true])) else lf1 (fromI v false)
noncomputable def cmprS (s : List UInt8) : LF × Bool :=
  if rdOk (trimL s) then
    let v := rdV true (trimL s)
    if signL s = [] ∨ signL s = [61] then (lfR (meetS [fromI v false] (joinS [downI v false])), true)
    else if signL s = [60] then (lfR (joinS [downI v true]), true)
    else if signL s = [60, 61] then (lfR (joinS [downI v false]), true)
    else if signL s = [62] then (lf1 (fromI v true), true)
    else if signL s = [62, 61] then (lf1 (fromI v false), true)
    else if signL s = [94] then (uptoS v (kindV v), true)
    else if signL s = [126] then (uptoS v 1, true)
    else (lf0, false)
  else (lf0, false)
noncomputable def altGoS : List (List UInt8) → LF → Nat → LF × Bool
  | [], cur, _ => (cur, true)
  | p :: ps, cur, n => if (cmprS p).2 = true ∧ n + 1 ≤ 16 then altGoS ps (lfR (meetS cur.l (cmprS p).1.l)) (n + 1) else (lf0, false)
def everyI : I := ⟨bottomV, false, zV, false, true⟩
noncomputable def altS (s : List UInt8) : LF × Bool := if s = [42] then (⟨11, false, true, [everyI]⟩, true) else if s = [33] then (lf0, true) else altGoS (Lib.split s [32]) (lf1 everyI) 0
def clV (v : V) : V := { v with k := cond v.nl 0 1, full := true }
def clI (x : I) : I := { x with lo := clV x.lo, hi := clV x.hi }
def limS (l : List I) : LF × Int := if l.length > 16 then (lf0, 80) else (⟨twK l, twN l, true, l.map clI⟩, 0)
def orB : List UInt8 := [32, 124, 124, 32]
noncomputable def readGoS : List (List UInt8) → List I → Nat → Option (List I)
  | [], acc, _ => some acc
  | p :: ps, acc, n => if (altS p).2 = true ∧ n + 1 ≤ 16 then readGoS ps (acc ++ (altS p).1.l) (n + 1) else none
noncomputable def readS (s : List UInt8) : LF × Int := if s.length > 128 then (lf0, 80) else match readGoS (Lib.split s orB) [] 0 with
  | some l => limS (joinS l)
  | none => (lf0, 80)
end Go.Proofs.YtlhfgonjcpapnaaGreatDoor.Abs

namespace Go.Proofs.YtlhfgonjcpapnaaGreatDoor.Abs
open Go Go.Proofs
def span_split_1_S0 (ys : Fam) (s : List UInt8) (b : List UInt8) (f0 : List Row) (sl : Nat) (gy : Nat) (g1 : Nat) (g2 : Nat) (j : Nat → AV) (jr : Nat → Row) (g : Nat) : St :=
  { t := [.yld 0 sl gy, .mptr 1 2 g1 0 0, .mptr 1 3 g2 0 0] ++ jj j 3 20, h := [f0, [row0, row0, ⟨g1, .box (strA (bs s)) false⟩, ⟨g2, .box (strA (bs b)) false⟩, row0, row0], List.replicate 23 row0], g := g }
theorem span_split_1_go (ys : Fam) (s : List UInt8) (b : List UInt8) (f0 : List Row) (sl : Nat) (gy : Nat) (g1 : Nat) (g2 : Nat) (gh : Nat) (R : AExit → St → Prop) : FnGoI E1 ys 2 Tryz.f88 [.yld 0 sl gy, .mptr 1 2 g1 0 0, .mptr 1 3 g2 0 0] [f0, [row0, row0, ⟨g1, .box (strA (bs s)) false⟩, ⟨g2, .box (strA (bs b)) false⟩, row0, row0], List.replicate 23 row0] gh R 2000 (.mask (iv [(3, 22)]) []) =
  (∀ (j' : Nat → AV) (jr' : Nat → Row) (g' : Nat), LoopAtI E1 ys 2 Tryz.f88 R 0 (span_split_1_S0 ys s b f0 sl gy g1 g2 j' jr' g')) := by kernel_rfl
theorem span_split_1_go_S0 (ys : Fam) (s : List UInt8) (b : List UInt8) (f0 : List Row) (sl : Nat) (gy : Nat) (g1 : Nat) (g2 : Nat) (j : Nat → AV) (jr : Nat → Row) (g : Nat) (R : AExit → St → Prop) : LoopGoI E1 ys 2 Tryz.f88 R 0 2000 (.res (.tup [strP (Prod.fst (Lib.cut s b)), strP (Prod.fst (Prod.snd (Lib.cut s b))), bolP (Prod.snd (Prod.snd (Lib.cut s b)))]) (.fork (.lts 4 (.hole 0)) (.lts 3 (.fork (.hole 0) (.mask (iv [(3, 22)]) []))))) (span_split_1_S0 ys s b f0 sl gy g1 g2 j jr g) =
  ((g1 = g1) ∧
 (g2 = g2) ∧
 (Den E1 68 [strP s, strP b] (.tup [strP (Prod.fst (Lib.cut s b)), strP (Prod.fst (Prod.snd (Lib.cut s b))), bolP (Prod.snd (Prod.snd (Lib.cut s b)))])) ∧
 (∃ (yb0 : Bool) (yf0 : List Row) (yg0 : Nat),
 (YTo ys gy [strA (bs (Prod.fst (Lib.cut s b)))] [f0, [row0, row0, ⟨g1, .box (strA (bs s)) false⟩, ⟨g2, .box (strA (bs b)) false⟩, row0, row0], List.replicate 23 row0] (g + 10 + 8) yb0 [yf0, [row0, row0, ⟨g1, .box (strA (bs s)) false⟩, ⟨g2, .box (strA (bs b)) false⟩, row0, row0], List.replicate 23 row0] yg0) ∧
 ((!yb0) = true →
 R .ret { t := [.yld 0 sl gy, .mptr 1 2 g1 0 0, .mptr 1 3 g2 0 0, j 3, strA (bs (Prod.fst (Lib.cut s b))), strA (bs (Prod.fst (Prod.snd (Lib.cut s b)))), bolA (Prod.snd (Prod.snd (Lib.cut s b))), .pv (.tup [strP (Prod.fst (Lib.cut s b)), strP (Prod.fst (Prod.snd (Lib.cut s b))), bolP (Prod.snd (Prod.snd (Lib.cut s b)))]), strA (bs s), strA (bs b), .pv (.tup [strP (Prod.fst (Lib.cut s b)), strP (Prod.fst (Prod.snd (Lib.cut s b))), bolP (Prod.snd (Prod.snd (Lib.cut s b)))]), strA (bs (Prod.fst (Lib.cut s b))), strA (bs (Prod.fst (Prod.snd (Lib.cut s b)))), bolA (Prod.snd (Prod.snd (Lib.cut s b))), .yld 0 sl gy, strA (bs (Prod.fst (Lib.cut s b))), bolA yb0, bolA (!yb0), bolA true, undefA, undefA, bolA true, j 22], h := [yf0, [row0, row0, ⟨g1, .box (strA (bs s)) false⟩, ⟨g2, .box (strA (bs b)) false⟩, row0, row0], List.replicate 23 row0], g := yg0 }) ∧
 ((!yb0) = false →
 ((!Prod.snd (Prod.snd (Lib.cut s b))) = true →
 R .ret { t := [.yld 0 sl gy, .mptr 1 2 g1 0 0, .mptr 1 3 g2 0 0, j 3, strA (bs (Prod.fst (Lib.cut s b))), strA (bs (Prod.fst (Prod.snd (Lib.cut s b)))), bolA (Prod.snd (Prod.snd (Lib.cut s b))), .pv (.tup [strP (Prod.fst (Lib.cut s b)), strP (Prod.fst (Prod.snd (Lib.cut s b))), bolP (Prod.snd (Prod.snd (Lib.cut s b)))]), strA (bs s), strA (bs b), .pv (.tup [strP (Prod.fst (Lib.cut s b)), strP (Prod.fst (Prod.snd (Lib.cut s b))), bolP (Prod.snd (Prod.snd (Lib.cut s b)))]), strA (bs (Prod.fst (Lib.cut s b))), strA (bs (Prod.fst (Prod.snd (Lib.cut s b)))), bolA (Prod.snd (Prod.snd (Lib.cut s b))), .yld 0 sl gy, strA (bs (Prod.fst (Lib.cut s b))), bolA yb0, bolA (!yb0), bolA false, bolA (Prod.snd (Prod.snd (Lib.cut s b))), bolA (!Prod.snd (Prod.snd (Lib.cut s b))), bolA (!Prod.snd (Prod.snd (Lib.cut s b))), j 22], h := [yf0, [row0, row0, ⟨g1, .box (strA (bs s)) false⟩, ⟨g2, .box (strA (bs b)) false⟩, row0, row0], List.replicate 23 row0], g := yg0 }) ∧
 ((!Prod.snd (Prod.snd (Lib.cut s b))) = false →
 (g1 = g1) ∧
 (∀ (j' : Nat → AV) (jr' : Nat → Row) (g' : Nat), LoopAtI E1 ys 2 Tryz.f88 R 0 (span_split_1_S0 ys (Prod.fst (Prod.snd (Lib.cut s b))) b yf0 sl gy g1 g2 j' jr' g')))))) := by kernel_rfl
end Go.Proofs.YtlhfgonjcpapnaaGreatDoor.Abs

set_option maxRecDepth 20000
namespace Go.Proofs.YtlhfgonjcpapnaaGreatDoor.Abs
open Go Go.Proofs
theorem split_cut (s sep : List UInt8) (hs : sep ≠ []) : Lib.split s sep = (Lib.cut s sep).1 :: (if (Lib.cut s sep).2.2 then Lib.split (Lib.cut s sep).2.1 sep else []) := by
  rcases Lib.index_spec s sep with ⟨h, _⟩ | ⟨i, h, hi, _, _⟩
  · have hc : Lib.cut s sep = (s, [], false) := by simp [Lib.cut, h]
    rw [hc]
    unfold Lib.split
    rw [Lib.count_miss h]
    rfl
  · have hc : Lib.cut s sep = (s.take i, s.drop (i + sep.length), true) := by simp [Lib.cut, h]
    have hb : (Lib.index s sep == -1) = false := by rw [h, beq_eq_false_iff_ne]; omega
    rw [hc]
    simp only [Lib.split, if_true]
    rw [Lib.count_hit hs h, Nat.add_comm 1]
    simp only [Lib.splitK, h, Int.toNat_natCast, gI_nat, gI_zero, Nat.add_zero]
    rw [h] at hb
    rw [hb]
    rfl
theorem cut_short (s sep : List UInt8) (hs : sep ≠ []) (h : (Lib.cut s sep).2.2 = true) : (Lib.cut s sep).2.1.length < s.length := by
  rcases Lib.index_spec s sep with ⟨h1, _⟩ | ⟨i, h1, hi, _, _⟩
  · have hc : Lib.cut s sep = (s, [], false) := by simp [Lib.cut, h1]
    rw [hc] at h; cases h
  · have hc : Lib.cut s sep = (s.take i, s.drop (i + sep.length), true) := by simp [Lib.cut, h1]
    have hr := Lib.index_room s sep (by omega)
    have hl : 0 < sep.length := List.length_pos_iff.2 hs
    rw [hc]
    simp only [List.length_drop]
    omega
theorem den_Cut (s b : List UInt8) (h : s.length < 4294967281) : Den E1 68 [strP s, strP b] (.tup [strP (Lib.cut s b).1, strP (Lib.cut s b).2.1, bolP (Lib.cut s b).2.2]) := by
  refine den_intr (F := cutP) rfl ?_
  show (if ByteArray.size (bs s) < 4294967281 then _ else _) = _
  rw [if_pos (show ByteArray.size (bs s) < 4294967281 by rw [size_bs]; exact h)]
theorem split_loop {ys : Fam} {R : AExit → St → Prop} {sl gy g1 g2 : Nat} (b : List UInt8) (hb : b ≠ []) (Inv : List (List UInt8) → List Row → Prop) (Fin : List Row → Prop)
    (hround : ∀ p ps f0 F1 FR g, Inv (p :: ps) f0 → ∃ c f0' g', YTo ys gy [strA (bs p)] [f0, F1, FR] g c [f0', F1, FR] g' ∧ (c = true → Inv ps f0') ∧ (c = false → Fin f0'))
    (hend : ∀ f0 F1 FR g t, Inv [] f0 ∨ Fin f0 → R .ret { t := t, h := [f0, F1, FR], g := g }) :
    ∀ (n : Nat) (s : List UInt8) (f0 : List Row) j jr g, s.length ≤ n → n < 4294967281 → Inv (Lib.split s b) f0 → LoopAtI E1 ys 2 Tryz.f88 R 0 (span_split_1_S0 ys s b f0 sl gy g1 g2 j jr g) := by
  intro n
  induction n with
  | zero =>
    intro s f0 j jr g hl hn hI
    rw [split_cut s b hb] at hI
    have hnf : (Lib.cut s b).2.2 = false := by
      cases h : (Lib.cut s b).2.2 with
      | false => rfl
      | true => have := cut_short s b hb h; omega
    rw [hnf] at hI
    refine loopI_go 2000 _ (Eq.mpr (span_split_1_go_S0 ys s b f0 sl gy g1 g2 j jr g R) ⟨rfl, rfl, den_Cut s b (Nat.lt_of_le_of_lt hl hn), ?_⟩)
    obtain ⟨c, f0', g', hy, h1, h2⟩ := hround _ _ f0 _ _ _ hI
    refine ⟨c, f0', g', hy, fun hc => ?_, fun hc => ⟨fun _ => ?_, fun h => ?_⟩⟩
    · exact hend _ _ _ _ _ (.inr (h2 (by simpa using hc)))
    · exact hend _ _ _ _ _ (.inl (h1 (by simpa using hc)))
    · rw [hnf] at h; simp at h
  | succ n ih =>
    intro s f0 j jr g hl hn hI
    rw [split_cut s b hb] at hI
    refine loopI_go 2000 _ (Eq.mpr (span_split_1_go_S0 ys s b f0 sl gy g1 g2 j jr g R) ⟨rfl, rfl, den_Cut s b (Nat.lt_of_le_of_lt hl hn), ?_⟩)
    obtain ⟨c, f0', g', hy, h1, h2⟩ := hround _ _ f0 _ _ _ hI
    refine ⟨c, f0', g', hy, fun hc => ?_, fun hc => ⟨fun hf => ?_, fun hf => ⟨rfl, fun j jr g => ?_⟩⟩⟩
    · exact hend _ _ _ _ _ (.inr (h2 (by simpa using hc)))
    · have hf' : (Lib.cut s b).2.2 = false := by simpa using hf
      rw [hf'] at h1
      exact hend _ _ _ _ _ (.inl (h1 (by simpa using hc)))
    · have hf' : (Lib.cut s b).2.2 = true := by simpa using hf
      have := cut_short s b hb hf'
      rw [hf'] at h1
      exact ih _ f0' j jr g (by omega) (Nat.lt_of_succ_lt hn) (h1 (by simpa using hc))
theorem range_split {f : Operand} {ps : Array Tmp} {a b : Code} {Q : AExit → St → Prop} {t : List AV} {f0 : List Row} {s sep : List UInt8} {g g1 g2 sl : Nat}
    (hev : evalA t f = .clo (.func 88) [] [.mptr 1 2 g1 0 0, .mptr 1 3 g2 0 0]) (hps : ps = #[sl]) (hsep : sep ≠ []) (hl : s.length < 4294967281)
    (Inv : List (List UInt8) → List Row → Prop) (Fin : AExit → List Row → Prop) (h0 : Inv (Lib.split s sep) (putL row0 f0 sl ⟨g, .lp .ready⟩))
    (hround : ∀ p rest f0 F1 FR g', Inv (p :: rest) f0 → live [f0, F1, FR] 0 sl g = .lp .ready ∧ Wp E1 noY 0 a (fun x s1 => x = .normal ∧ live s1.h 0 sl g = .lp .ready ∧
      Wp E1 noY 0 b (fun x s2 => live s2.h 0 sl g = .lp .busy ∧ ∃ f0', hput s2.h 0 sl ⟨g, .lp (if x = .normal then .ready else .done x)⟩ = [f0', F1, FR] ∧ (x = .normal → Inv rest f0') ∧ (x ≠ .normal → Fin x f0')) { s1 with h := hput s1.h 0 sl ⟨g, .lp .busy⟩ })
      { t := setTs [sl] [strA (bs p)] t, h := [f0, F1, FR], g := g' })
    (hend : ∀ f0 F1 g', Inv [] f0 → live [f0, F1] 0 sl g = .lp .ready ∧ Q .normal { t := t, h := hput [f0, F1] 0 sl row0, g := g' })
    (hfin : ∀ x f0 F1 g', Fin x f0 → x ≠ .normal ∧ live [f0, F1] 0 sl g = .lp (.done x) ∧ Q x { t := t, h := hput [f0, F1] 0 sl row0, g := g' }) :
    RangeAt E1 noY 0 f ps a b Q { t := t, h := [f0, [row0, row0, ⟨g1, .box (strA (bs s)) false⟩, ⟨g2, .box (strA (bs sep)) false⟩, row0, row0]], g := g } := by
  subst hps
  refine ⟨ev_range (fid := 88) (a := []) (b := [.mptr 1 2 g1 0 0, .mptr 1 3 g2 0 0]) (fn := Tryz.f88) (by show calleeOf (evalA t f) = _; rw [hev]; rfl) (by kernel_rfl) (by kernel_rfl) (by kernel_rfl) (by kernel_rfl) rfl (by kernel_rfl) ?_⟩
  refine fnI_go (h := [putL row0 f0 sl ⟨g, .lp .ready⟩, [row0, row0, ⟨g1, .box (strA (bs s)) false⟩, ⟨g2, .box (strA (bs sep)) false⟩, row0, row0], List.replicate 23 row0]) (args := [AV.yld 0 sl g, .mptr 1 2 g1 0 0, .mptr 1 3 g2 0 0]) 2000 _ rfl (Eq.mpr (span_split_1_go _ s sep _ sl g g1 g2 (g + 2) _) fun j jr g' => ?_)
  refine split_loop sep hsep Inv (fun f0 => ∃ x, Fin x f0) ?_ ?_ s.length s _ j jr g' (Nat.le_refl _) hl h0
  · intro p rest f0 F1 FR g' hI
    obtain ⟨h1, h2⟩ := hround p rest f0 F1 FR g' hI
    obtain ⟨x, s2, ⟨f0', he, hn, hd⟩, hy⟩ := yld_round (ys := noY) (ps := #[sl]) (slot := sl) rfl h1 h2
    rw [he] at hy
    refine ⟨decide (x = .normal), f0', _, hy, fun hc => hn (by simpa using hc), fun hc => ⟨x, hd (by simpa using hc)⟩⟩
  · intro f0 F1 FR g' t' h
    refine ⟨.inr rfl, ?_⟩
    rcases h with h | ⟨x, h⟩
    · obtain ⟨h1, h2⟩ := hend f0 F1 g' h
      show match live [f0, F1] 0 sl g with
        | .lp .ready => _
        | .lp (.done x') => _
        | _ => False
      rw [h1]
      exact h2
    · obtain ⟨h1, h2, h3⟩ := hfin x f0 F1 g' h
      show match live [f0, F1] 0 sl g with
        | .lp .ready => _
        | .lp (.done x') => _
        | _ => False
      rw [h2]
      exact ⟨h1, h3⟩
end Go.Proofs.YtlhfgonjcpapnaaGreatDoor.Abs

namespace Go.Proofs.YtlhfgonjcpapnaaGreatDoor.Abs
open Go Go.Proofs
theorem span_top_go (r : PV) : FnGo E1 Tryz.f90 [] r 2000 (.hole 0) =
  (((0 : Nat) = 0) ∧
 (edgP 0 0 0 (.sl 0 true true []) false true) = r) := by kernel_rfl
theorem span_from_go (v : V) (o : Bool) (r : PV) : FnGo E1 Tryz.f128 [V.p v, bolP o] r 2000 (.res (edgP 0 0 0 (.sl 0 true true []) false true) (.res (I.p ⟨v, o, zV, false, true⟩) (.hole 0))) =
  (((0 : Nat) = 0) ∧
 (Den E1 90 [] (edgP 0 0 0 (.sl 0 true true []) false true)) ∧
 (Den E1 89 [Ed.p ⟨v, o, false⟩, edgP 0 0 0 (.sl 0 true true []) false true] (I.p ⟨v, o, zV, false, true⟩)) ∧
 ∃ hp, frz frzDepth (.msl 0 10 7 0 1 true) [[row0, row0, ⟨0, .box (.pv (V.p v)) false⟩, row0, row0, row0, row0, row0, row0, row0, ⟨7, .row 11 63 [I.p ⟨v, o, zV, false, true⟩] false⟩]] = some (r, hp)) := by kernel_rfl
theorem span_below_go (v : V) (o : Bool) (r : PV) : FnGo E1 Tryz.f129 [V.p v, bolP o] r 2000 (.res (edgP 0 0 0 (.sl 1 false true [strP [48]]) false false) (.res (itvP 0 0 0 (.sl 1 false true [strP [48]]) false (V.a v) (V.b v) (V.c v) (V.q v) (!!o) false) (.ev (.res (resL (joinS [⟨bottomV, false, v, (!!o), false⟩])) (.hole 0))))) =
  ((Den E1 76 [] (edgP 0 0 0 (.sl 1 false true [strP [48]]) false false)) ∧
 ((0 : Nat) = 0) ∧
 (Den E1 89 [edgP 0 0 0 (.sl 1 false true [strP [48]]) false false, Ed.p ⟨v, (!o), false⟩] (itvP 0 0 0 (.sl 1 false true [strP [48]]) false (V.a v) (V.b v) (V.c v) (V.q v) (!!o) false)) ∧
 (Den E1 54 [.sl 11 false true [itvP 0 0 0 (.sl 1 false true [strP [48]]) false (V.a v) (V.b v) (V.c v) (V.q v) (!!o) false]] (resL (joinS [⟨bottomV, false, v, (!!o), false⟩]))) ∧
 ((resL (joinS [⟨bottomV, false, v, (!!o), false⟩])) : PV) = r) := by kernel_rfl
theorem version_Next_0_go (v : V) (r : PV) : FnGo E1 Tryz.f130 [V.p v, intP 0] r 2000 (.res (intP (errV (mayV v))) (.fork (.hole 0) (.lts 10 (.fork (.hole 0) (.hole 0))))) =
  (((0 : Nat) = 0) ∧
 (Den E1 59 [V.p v] (intP (errV (mayV v)))) ∧
 ((errV (mayV v) != (0 : Int)) = true →
 ((1 : Nat) = 1) ∧
 ((.tup [verP 0 0 0 (.sl 0 true true []), intP 70]) : PV) = r) ∧
 ((errV (mayV v) != (0 : Int)) = false →
 ((0 : Nat) = 0) ∧
 ((0 : Nat) = 0) ∧
 ((0 : Nat) = 0) ∧
 ((13 : Nat) = 13) ∧
 (((0 : Int) ≤ (0 : Int)) ∧ ((0 : Int) < (3 : Int))) ∧
 ((13 : Nat) = 13) ∧
 ((V.a v == (2147483647 : Int)) = true →
 ((1 : Nat) = 1) ∧
 ((.tup [verP 0 0 0 (.sl 0 true true []), intP 2]) : PV) = r) ∧
 ((V.a v == (2147483647 : Int)) = false →
 (((0 : Int) ≤ (0 : Int)) ∧ ((0 : Int) < (3 : Int))) ∧
 ((13 : Nat) = 13) ∧
 (((0 : Int) ≤ (0 : Int)) ∧ ((0 : Int) < (3 : Int))) ∧
 ((13 : Nat) = 13) ∧
 (((0 : Int) ≤ (1 : Int)) ∧ ((1 : Int) ≤ (3 : Int))) ∧
 ((13 : Nat) = 13) ∧
 (((0 : Nat) = 0) ∧ (((1 : Nat) = 1) ∧ ((3 : Nat) ≤ (3 : Nat)))) ∧
 ((13 : Nat) = 13) ∧
 (((0 : Int) ≤ (0 : Int)) ∧ ((0 : Int) < (3 : Int))) ∧
 ((13 : Nat) = 13) ∧
 (((0 : Int) ≤ (1 : Int)) ∧ ((1 : Int) < (3 : Int))) ∧
 ((13 : Nat) = 13) ∧
 (((0 : Int) ≤ (2 : Int)) ∧ ((2 : Int) < (3 : Int))) ∧
 ((13 : Nat) = 13) ∧
 ((1 : Nat) = 1) ∧
 ((.tup [verP (IntKind.u32.wrap (V.a v + (1 : Int))) 0 0 (.sl 0 true true []), intP 0]) : PV) = r))) := by kernel_rfl
theorem version_Next_1_go (v : V) (r : PV) : FnGo E1 Tryz.f130 [V.p v, intP 1] r 2000 (.res (intP (errV (mayV v))) (.fork (.hole 0) (.lts 10 (.fork (.hole 0) (.hole 0))))) =
  (((0 : Nat) = 0) ∧
 (Den E1 59 [V.p v] (intP (errV (mayV v)))) ∧
 ((errV (mayV v) != (0 : Int)) = true →
 ((1 : Nat) = 1) ∧
 ((.tup [verP 0 0 0 (.sl 0 true true []), intP 70]) : PV) = r) ∧
 ((errV (mayV v) != (0 : Int)) = false →
 ((0 : Nat) = 0) ∧
 ((0 : Nat) = 0) ∧
 ((0 : Nat) = 0) ∧
 ((13 : Nat) = 13) ∧
 (((0 : Int) ≤ (1 : Int)) ∧ ((1 : Int) < (3 : Int))) ∧
 ((13 : Nat) = 13) ∧
 ((V.b v == (2147483647 : Int)) = true →
 ((1 : Nat) = 1) ∧
 ((.tup [verP 0 0 0 (.sl 0 true true []), intP 2]) : PV) = r) ∧
 ((V.b v == (2147483647 : Int)) = false →
 (((0 : Int) ≤ (1 : Int)) ∧ ((1 : Int) < (3 : Int))) ∧
 ((13 : Nat) = 13) ∧
 (((0 : Int) ≤ (1 : Int)) ∧ ((1 : Int) < (3 : Int))) ∧
 ((13 : Nat) = 13) ∧
 (((0 : Int) ≤ (2 : Int)) ∧ ((2 : Int) ≤ (3 : Int))) ∧
 ((13 : Nat) = 13) ∧
 (((0 : Nat) = 0) ∧ (((1 : Nat) = 1) ∧ ((3 : Nat) ≤ (3 : Nat)))) ∧
 ((13 : Nat) = 13) ∧
 (((0 : Int) ≤ (0 : Int)) ∧ ((0 : Int) < (3 : Int))) ∧
 ((13 : Nat) = 13) ∧
 (((0 : Int) ≤ (1 : Int)) ∧ ((1 : Int) < (3 : Int))) ∧
 ((13 : Nat) = 13) ∧
 (((0 : Int) ≤ (2 : Int)) ∧ ((2 : Int) < (3 : Int))) ∧
 ((13 : Nat) = 13) ∧
 ((1 : Nat) = 1) ∧
 ((.tup [verP (V.a v) (IntKind.u32.wrap (V.b v + (1 : Int))) 0 (.sl 0 true true []), intP 0]) : PV) = r))) := by kernel_rfl
theorem version_Next_2_go (v : V) (r : PV) : FnGo E1 Tryz.f130 [V.p v, intP 2] r 2000 (.res (intP (errV (mayV v))) (.fork (.hole 0) (.lts 10 (.fork (.hole 0) (.hole 0))))) =
  (((0 : Nat) = 0) ∧
 (Den E1 59 [V.p v] (intP (errV (mayV v)))) ∧
 ((errV (mayV v) != (0 : Int)) = true →
 ((1 : Nat) = 1) ∧
 ((.tup [verP 0 0 0 (.sl 0 true true []), intP 70]) : PV) = r) ∧
 ((errV (mayV v) != (0 : Int)) = false →
 ((0 : Nat) = 0) ∧
 ((0 : Nat) = 0) ∧
 ((0 : Nat) = 0) ∧
 ((13 : Nat) = 13) ∧
 (((0 : Int) ≤ (2 : Int)) ∧ ((2 : Int) < (3 : Int))) ∧
 ((13 : Nat) = 13) ∧
 ((V.c v == (2147483647 : Int)) = true →
 ((1 : Nat) = 1) ∧
 ((.tup [verP 0 0 0 (.sl 0 true true []), intP 2]) : PV) = r) ∧
 ((V.c v == (2147483647 : Int)) = false →
 (((0 : Int) ≤ (2 : Int)) ∧ ((2 : Int) < (3 : Int))) ∧
 ((13 : Nat) = 13) ∧
 (((0 : Int) ≤ (2 : Int)) ∧ ((2 : Int) < (3 : Int))) ∧
 ((13 : Nat) = 13) ∧
 (((0 : Int) ≤ (3 : Int)) ∧ ((3 : Int) ≤ (3 : Int))) ∧
 ((13 : Nat) = 13) ∧
 (((0 : Nat) = 0) ∧ (((1 : Nat) = 1) ∧ ((3 : Nat) ≤ (3 : Nat)))) ∧
 ((13 : Nat) = 13) ∧
 (((0 : Int) ≤ (0 : Int)) ∧ ((0 : Int) < (3 : Int))) ∧
 ((13 : Nat) = 13) ∧
 (((0 : Int) ≤ (1 : Int)) ∧ ((1 : Int) < (3 : Int))) ∧
 ((13 : Nat) = 13) ∧
 (((0 : Int) ≤ (2 : Int)) ∧ ((2 : Int) < (3 : Int))) ∧
 ((13 : Nat) = 13) ∧
 ((1 : Nat) = 1) ∧
 ((.tup [verP (V.a v) (V.b v) (IntKind.u32.wrap (V.c v + (1 : Int))) (.sl 0 true true []), intP 0]) : PV) = r))) := by kernel_rfl
theorem slices_Clip_string_string_go (k : Nat) (nl : Bool) (full : Bool) (x : List (List UInt8)) (r : PV) : FnGo E1 Tryz.f71 [.sl k nl full (List.map strP x)] r 2000 (.hole 0) =
  ((((0 : Int) ≤ (↑(List.length (List.map strP x)) : Int)) ∧ ((↑(List.length (List.map strP x)) : Int) ≤ (↑(List.length (List.map strP x)) : Int))) ∧
 (((0 : Int) ≤ (↑(List.length (List.map strP x)) : Int)) ∧ ((↑(List.length (List.map strP x)) : Int) ≤ (↑(Int.toNat (↑(List.length (List.map strP x)) : Int)) : Int))) ∧
 ((nl = true) ∨ (k = 1)) ∧
 ((.sl k nl (Int.toNat (↑(List.length (List.map strP x)) : Int) == Int.toNat (↑(List.length (List.map strP x)) : Int)) (List.take (Int.toNat (↑(List.length (List.map strP x)) : Int) - (0 : Nat)) (List.drop (0 : Nat) (List.map strP x)))) : PV) = r) := by kernel_rfl
end Go.Proofs.YtlhfgonjcpapnaaGreatDoor.Abs

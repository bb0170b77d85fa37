/-
  The abstract machine over the model, its soundness, walks of the program's functions and what they compute. Conditions: the values are of their types.
-/
import Derived.Test.YtlhfgonjcpapnaaGreatDoorRows
import Derived.Test.YtlhfgonjcpapnaaGreatDoorNc
import Derived.Test.YtlhfgonjcpapnaaGreatDoorNi
import Derived.ProofKit
import Derived.SizedLaws
import Derived.Stop.LaidErr
import Derived.MakeChecks
import Derived.Shelf.Vars

set_option linter.all false
set_option linter.unnecessarySimpa false

namespace Go.Proofs.YtlhfgonjcpapnaaGreatDoor.Abs
open Go Go.Proofs Go.RowKit Go.ChangeShapes Go.WideShapes Go.ChangeAt
def inAll (w : World) : Blk := fun b => ∃ e n, w.shape? b = some (e, n)
theorem laidOut0 : laidOutB Tryz.prog = true := by kernel_rfl
theorem cell_shape {w : World} {b o : Nat} {v : Value} (h : w.cell? ⟨b, o, none⟩ = some v) : inAll w b := (cell_spot h).2
theorem pow10_tab : (YtlhfgonjcpapnaaGreatDoor.Rows.laid_internal_strconv_uint64pow10 : DataW Unit) = Lib.tabData .u64 Lib.pow10Tab := by kernel_rfl
theorem gl_of {W : World} {a b : String × DataW Unit} {rest : List (String × DataW Unit)} (hL : laidMet Tryz.prog (a :: b :: ("internal/strconv.uint64pow10", YtlhfgonjcpapnaaGreatDoor.Rows.laid_internal_strconv_uint64pow10) :: rest) W) (hsh : W.ShapedOpen Tryz.prog) : glE (inAll W) W := by
  have h1 := hL.tail.tail
  rw [pow10_tab] at h1
  have hg : Tryz.prog.globalNamed "internal/strconv.uint64pow10" = some 3 := by kernel_rfl
  have ht := Lib.tabIs_of_head (t := 200) (e := 125) (n := 20) hg (by kernel_rfl) Tryz.underlying200 Tryz.underlying125 (by kernel_rfl) (by kernel_rfl) h1
  obtain ⟨m, hm⟩ := Go.Proofs.cell_of_shapedOpen_int (g := 0) (zero := #[.int .i64 0]) (t := 3) hsh (of_decide_eq_true (by kernel_rfl)) (by kernel_rfl) rfl (by kernel_rfl) (by kernel_rfl) Tryz.underlying3
  refine ⟨⟨m, ?_⟩, ht, cell_shape (ht.cell hg 0 (by rw [Lib.pow10Tab_length]; omega))⟩
  refine .ptr _ 0 _ 0 (fun _ => .int .i64 m) (cell_shape hm) (fun j p hp => ?_) (fun j p hp => ?_)
  · cases j with
    | zero => exact ⟨hm, rfl⟩
    | succ j => simp [PV.cells] at hp
  · cases j with
    | zero => simp [PV.cells] at hp; subst hp; exact .lit _
    | succ j => simp [PV.cells] at hp
section
variable {H : Type} {enc : TypeId × Value → H}
theorem cells_one {P : Program} {W : World} {base : Nat} {t : TypeId} {v : Value} (hok : Value.okWide P W .any base t v) (hp : plainT P 9 t = true) (hs : isSt P t = false) : v.cells.toList = [v] := by
  unfold plainT at hp
  unfold isSt at hs
  unfold Value.okWide Cell.okWide Cell.ok at hok
  split at hp
  · rename_i he; rw [he] at hok; cases v <;> first | rfl | exact hok.elim | simp at hok
  · rename_i he; rw [he] at hok; cases v <;> first | rfl | exact hok.elim | simp at hok
  · rename_i he; rw [he] at hok; cases v <;> first | rfl | exact hok.elim | simp at hok
  · rename_i he; rw [he] at hok; cases v <;> first | rfl | exact hok.elim | simp at hok
  · rename_i he; rw [he] at hs; cases hs
  · cases hp
theorem arg_rep {P : Program} {W : World} {base : Nat} {t : TypeId} {v : Value} {d : DataW H} {ps : List MemPlace} (hok : Value.okWide P W .any base t v) (hd : DataW.Trod enc P W 0 (fun _ => true) true t v d ps)
    (hp : plainT P 9 t = true) (hw : ∀ n ∈ d.weights P t, n ≤ reachBytes) : ∃ n cs, wellP P n t cs ∧ PRep (inAll W) W (mkE (isSt P t) cs) v := by
  obtain ⟨fuel, h⟩ := hd
  obtain ⟨cs, hcs, hf⟩ := of_trod (I := inAll W) (fun b e n h => ⟨e, n, h⟩) fuel t _ _ 9 h hp hw
  refine ⟨fuel, cs, hcs, ?_⟩
  cases hs : isSt P t with
  | false =>
    have h1 := cells_one hok hp hs
    rw [h1] at hf
    obtain ⟨p, rfl, _, _⟩ := well_one hs hcs
    exact (hf.get (j := 0) rfl rfl).1
  | true =>
    have hv : ∃ a, v = .agg a := by
      unfold isSt at hs
      unfold Value.okWide at hok
      split at hs
      · rename_i he
        rw [he] at hok
        obtain ⟨a, ha, _⟩ := hok
        exact ⟨a, ha⟩
      · cases hs
    obtain ⟨a, rfl⟩ := hv
    have hf' : F2 (inAll W) W cs a.toList := hf
    have := PRep.agg (I := inAll W) (w := W) cs a.toList hf'.length.symm (fun x hx => ?_) (fun j p v hp hv => (hf'.get hp hv).1)
    · simpa [mkE] using this
    · obtain ⟨j, hj, rfl⟩ := List.getElem_of_mem hx
      have hj' : j < cs.length := by rw [hf'.length]; exact hj
      exact (hf'.get (List.getElem?_eq_getElem hj') (List.getElem?_eq_getElem hj)).2
def argsWell (P : Program) : List TypeId → List PV → Prop
  | [], ps => ps = []
  | t :: ts, ps => ∃ n cs qs, ps = mkE (isSt P t) cs :: qs ∧ wellP P n t cs ∧ argsWell P ts qs
structure OkAll (P : Program) (W : World) (base : Nat) (ts : Array TypeId) (args : Array Value) : Prop where
  val : ∀ (j : Nat) t v, ts[j]? = some t → args[j]? = some v → Value.okWide P W .any base t v
structure OkAllL (P : Program) (W : World) (base : Nat) (ts : List TypeId) (args : List Value) : Prop where
  val : ∀ (j : Nat) t v, ts[j]? = some t → args[j]? = some v → Value.okWide P W .any base t v
theorem args_rep {P : Program} {W : World} {base : Nat} : ∀ (ts : List TypeId) (vs : List Value) (ds : List (DataW H)) (ps : List MemPlace), DataW.TrodAll enc P W 0 (fun _ => true) true ts vs ds ps →
    OkAllL P W base ts vs → (ts.all fun t => plainT P 9 t) = true → (∀ n ∈ DataW.weightsEach P ts ds, n ≤ reachBytes) →
    ∃ qs, argsWell P ts qs ∧ vs.length = qs.length ∧ ∀ (j : Nat) (p : PV) (u : Value), qs[j]? = some p → vs[j]? = some u → PRep (inAll W) W p u
  | [], [], [], ps, _, _, _, _ => ⟨[], rfl, rfl, fun j p u h => by simp at h⟩
  | t :: ts, v :: vs, d :: ds, ps, h, hok, hp, hw => by
    obtain ⟨p, q, h1, h2, rfl⟩ := h
    simp only [List.all_cons, Bool.and_eq_true] at hp
    simp only [DataW.weightsEach, List.mem_append] at hw
    obtain ⟨n, cs, hcs, hr⟩ := arg_rep (hok.val 0 t v rfl rfl) h1 hp.1 (fun n hn => hw n (.inl hn))
    obtain ⟨qs, g1, g2, g3⟩ := args_rep ts vs ds q h2 ⟨fun j t v a b => hok.val (j + 1) t v (by simpa using a) (by simpa using b)⟩ hp.2 (fun n hn => hw n (.inr hn))
    refine ⟨_, ⟨n, cs, qs, rfl, hcs, g1⟩, by simp [g2], fun j p u a b => ?_⟩
    cases j with
    | zero => simp only [List.getElem?_cons_zero, Option.some.injEq] at a b; subst a; subst b; exact hr
    | succ j => exact g3 j p u (by simpa using a) (by simpa using b)
  | [], _ :: _, _, _, h, _, _, _ => h.elim
  | [], [], _ :: _, _, h, _, _, _ => h.elim
  | _ :: _, [], _, _, h, _, _, _ => h.elim
  | _ :: _, _ :: _, [], _, h, _, _, _ => h.elim
theorem args_carry {P : Program} (hlo : laidOutB P = true) {W W' : World} (hb : Below W.heap.size W W') : ∀ (ts : List TypeId) (vs : List Value) (ds : List (DataW H)) (ps : List MemPlace), DataW.TrodAll enc P W 0 (fun _ => true) true ts vs ds ps →
    (ts.all fun t => P.readableRec t && decide (t < P.types.size)) = true → (∀ x ∈ ps, x.block < W.heap.size) → DataW.TrodAll enc P W' 0 (fun b => decide (b < W.heap.size)) true ts vs ds ps
  | [], [], [], ps, h, _, _ => h
  | t :: ts, v :: vs, d :: ds, ps, h, hp, hlt => by
    obtain ⟨p, q, h1, h2, rfl⟩ := h
    simp only [List.all_cons, Bool.and_eq_true, decide_eq_true_eq] at hp
    exact ⟨p, q, Below.trod hlo hp.1.1 hp.1.2 h1 hb (fun x hx => hlt x (List.mem_append_left _ hx)), args_carry hlo hb ts vs ds q h2 hp.2 (fun x hx => hlt x (List.mem_append_right _ hx)), rfl⟩
  | [], _ :: _, _, _, h, _, _ => h.elim
  | [], [], _ :: _, _, h, _, _ => h.elim
  | _ :: _, [], _, _, h, _, _ => h.elim
  | _ :: _, _ :: _, [], _, h, _, _ => h.elim
theorem trod_len {P : Program} {W : World} : ∀ (ts : List TypeId) (vs : List Value) (ds : List (DataW H)) (ps : List MemPlace), DataW.TrodAll enc P W 0 (fun _ => true) true ts vs ds ps → ds.length = ts.length := by
  intro ts
  induction ts with
  | nil => intro vs ds ps h; cases vs <;> cases ds <;> first | rfl | exact h.elim
  | cons t ts ih =>
    intro vs ds ps h
    cases vs with
    | nil => exact h.elim
    | cons v vs =>
      cases ds with
      | nil => exact h.elim
      | cons d ds =>
        obtain ⟨_, _, _, h2, _⟩ := h
        simp [ih _ _ _ h2]
theorem weights_more {P : Program} {n : Nat} : ∀ (ts us : List TypeId) (ds : List (DataW H)), n ∈ DataW.weightsEach P ts ds → n ∈ DataW.weightsEach P (ts ++ us) ds := by
  intro ts us
  induction ts with
  | nil => intro ds h; cases ds <;> simp [DataW.weightsEach] at h
  | cons t ts ih =>
    intro ds h
    cases ds with
    | nil => simp [DataW.weightsEach] at h
    | cons d ds =>
      simp only [DataW.weightsEach, List.mem_append, List.cons_append] at h ⊢
      exact h.imp id (ih ds)
theorem val_list {P : Program} {W : World} {base : Nat} {ts : Array TypeId} {args : Array Value} (h : OkAll P W base ts args) : OkAllL P W base ts.toList args.toList := by
  refine ⟨?_⟩
  intro j t v a b
  rw [Array.getElem?_toList] at a b
  exact h.val j t v a b
theorem law_contract {f : FuncId} {fn : Func} {c : Code} {s : ChangeSpec} {W : World} {base : Nat} {args : Array Value} {ds gs : List (DataW H)} {before : List MemPlace} {us : List TypeId}
    (hfn : Tryz.prog.funcs[f]? = some fn) (hname : (fn.name == "runtime.NumGoroutine") = false) (hbody : fn.body = some c) (hres : fn.resultTypes = #[4]) (hvars : s.vars = []) (hplain : (fn.params.toList.all fun t => plainT Tryz.prog 9 t) = true)
    (hread : (fn.params.toList.all fun t => Tryz.prog.readableRec t && decide (t < Tryz.prog.types.size)) = true)
    (hspec : ∀ ds : List (DataW H), ds.length = fn.params.toList.length → s.fn H ds = { results := [.lit (.bool true)], args := ds })
    (den : ∀ ps, argsWell Tryz.prog fn.params.toList ps → Den E1 f ps (bolP true))
    (hval : OkAll Tryz.prog W base fn.params args)
    (hW : DataW.Whole enc Tryz.prog fn.params.toList s.vars false W args.toList ds gs before)
    (hz : (DataW.weightsEach Tryz.prog (fn.params.toList ++ us) (ds ++ gs)).all (· ≤ reachBytes) = true) (hgl : glE (inAll W) W) :
    Calls Tryz.prog f args W fun e W' => ∃ v, e = .returned v ∧ s.post enc Tryz.prog fn false true false false W args v W' := by
  have hlt := hW.lt
  have hW' := hW
  obtain ⟨p, q, hA, hV, rfl, _, _⟩ := hW
  have hV' := hV
  rw [hvars] at hV
  obtain ⟨rfl, rfl⟩ := trodVars_none hV
  simp only [List.append_nil] at hz hW' hlt
  have hwt : ∀ n ∈ DataW.weightsEach Tryz.prog fn.params.toList ds, n ≤ reachBytes := fun n hn => by
    have h1 : n ∈ DataW.weightsEach Tryz.prog (fn.params.toList ++ us) ds := by
      exact weights_more _ _ _ hn
    simpa using List.all_eq_true.1 hz n h1
  have hval' := val_list hval
  obtain ⟨qs, hq, hl, hr⟩ := args_rep fn.params.toList args.toList ds p hA hval' hplain hwt
  have hdl : ds.length = fn.params.toList.length := by
    exact trod_len _ _ _ _ hA
  have hgl' : Gl E1 (inAll W) W := hgl
  have hin : ∀ b, inAll W b → Solid W b := fun b ⟨e, n, h⟩ => .of_shape h
  have hpure : PureDoes E1.P f args.toList.toArray W (inAll W) (bolP true) := den_sound envOk1 (den qs hq) hgl' hl hr hin
  have hc : Calls Tryz.prog f args W fun e W' => ∃ I' v, e = .returned v ∧ PRep I' W' (bolP true) v ∧ Below W.heap.size W W' := by
    have hent := enters_of (P := Tryz.prog) hfn hname hbody args W
    rcases hpure with ⟨v, w', h1, h2⟩ | ⟨h1, h2⟩ | ⟨row, ax, w1, h1, h2⟩
    · have h3 := hent.symm.trans h1; cases h3
    · refine h2.mono fun e W' he => ?_
      split at he
      · rename_i v
        obtain ⟨I', k1, _, _, k2, _⟩ := he
        exact ⟨I', v, rfl, k1, k2⟩
      · exact he.elim
    · have h3 := hent.symm.trans h1; cases h3
  refine hc.mono ?_
  rintro e W' ⟨I', v, rfl, hv, hb⟩
  obtain rfl : v = .bool true := by cases hv; rfl
  refine ⟨_, rfl, ds, [], p, [], p, [], hW', ?_, ?_, ?_, hb.frame _, fun h => by cases h⟩
  · rw [List.append_nil, hspec ds hdl, hres]
    exact trodAll_mk1 (shut_bool Tryz.underlying4 _)
  · rw [List.append_nil, hspec ds hdl]
    exact args_carry laidOut0 hb _ _ _ _ hA hread (fun x hx => by simpa using hlt x hx)
  · rw [List.append_nil, hspec ds hdl, hvars]
    rfl
end
end Go.Proofs.YtlhfgonjcpapnaaGreatDoor.Abs

namespace Go.Proofs.YtlhfgonjcpapnaaGreatDoor.Abs
open Go Go.Proofs
def version_digits_S0 (l : List UInt8) (i : Int) (j : Nat → AV) (jr : Nat → Row) (g : Nat) : St :=
  { t := [strA (bs l), j 1, j 2, j 3, j 4, intA ((↑(ByteArray.size (bs l)) : Int)), intA i] ++ jj j 7 13 ++ [undefA, undefA], h := [List.replicate 22 row0], g := g }
theorem version_digits_go (l : List UInt8) (r : PV) : FnGo E1 Tryz.f108 [strP l] r 2000 (.mask (iv [(1, 4), (7, 19)]) []) =
  (∀ (j : Nat → AV) (jr : Nat → Row) (g : Nat), LoopAt E1 Tryz.f108 r 0 (version_digits_S0 l (0 : Int) j jr g)) := by kernel_rfl
theorem version_digits_go_S0 (l : List UInt8) (i : Int) (j : Nat → AV) (jr : Nat → Row) (g : Nat) (r : PV) : LoopGo E1 Tryz.f108 r 0 2000 (.fork (.fork (.lts 6 (.hole 0)) (.lts 5 (.fork (.hole 0) (.mask (iv [(1, 4), (7, 19)]) [])))) (.hole 0)) (version_digits_S0 l i j jr g) =
  (((decide (i < (↑(ByteArray.size (bs l)) : Int))) = true →
 (((0 : Int) ≤ i) ∧ (Int.toNat i < ByteArray.size (bs l))) ∧
 ((decide ((↑(UInt8.toNat (List.getD l (Int.toNat i) 0)) : Int) < (48 : Int))) = true →
 (bolP false) = r) ∧
 ((decide ((↑(UInt8.toNat (List.getD l (Int.toNat i) 0)) : Int) < (48 : Int))) = false →
 (((0 : Int) ≤ i) ∧ (Int.toNat i < ByteArray.size (bs l))) ∧
 ((decide ((↑(UInt8.toNat (List.getD l (Int.toNat i) 0)) : Int) > (57 : Int))) = true →
 (bolP false) = r) ∧
 ((decide ((↑(UInt8.toNat (List.getD l (Int.toNat i) 0)) : Int) > (57 : Int))) = false →
 ∀ (j : Nat → AV) (jr : Nat → Row) (g : Nat), LoopAt E1 Tryz.f108 r 0 (version_digits_S0 l (IntKind.i64.wrap (i + (1 : Int))) j jr g)))) ∧
 ((decide (i < (↑(ByteArray.size (bs l)) : Int))) = false →
 (bolP (!ByteArray.toList (bs l) == ByteArray.toList (bs []))) = r)) := by kernel_rfl
def ref07_digits_S0 (l : List UInt8) (i : Int) (j : Nat → AV) (jr : Nat → Row) (g : Nat) : St :=
  { t := [strA (bs l), j 1, j 2, intA i] ++ jj j 4 16 ++ [undefA, undefA], h := [List.replicate 22 row0], g := g }
theorem ref07_digits_go (l : List UInt8) (r : PV) : FnGo E1 Tryz.f104 [strP l] r 2000 (.mask (iv [(1, 2), (4, 19)]) []) =
  (∀ (j : Nat → AV) (jr : Nat → Row) (g : Nat), LoopAt E1 Tryz.f104 r 0 (ref07_digits_S0 l (0 : Int) j jr g)) := by kernel_rfl
theorem ref07_digits_go_S0 (l : List UInt8) (i : Int) (j : Nat → AV) (jr : Nat → Row) (g : Nat) (r : PV) : LoopGo E1 Tryz.f104 r 0 2000 (.fork (.fork (.lts 6 (.hole 0)) (.lts 5 (.fork (.hole 0) (.mask (iv [(1, 2), (4, 19)]) [])))) (.hole 0)) (ref07_digits_S0 l i j jr g) =
  (((decide (i < (↑(ByteArray.size (bs l)) : Int))) = true →
 (((0 : Int) ≤ i) ∧ (Int.toNat i < ByteArray.size (bs l))) ∧
 ((decide ((↑(UInt8.toNat (List.getD l (Int.toNat i) 0)) : Int) < (48 : Int))) = true →
 (bolP false) = r) ∧
 ((decide ((↑(UInt8.toNat (List.getD l (Int.toNat i) 0)) : Int) < (48 : Int))) = false →
 (((0 : Int) ≤ i) ∧ (Int.toNat i < ByteArray.size (bs l))) ∧
 ((decide ((↑(UInt8.toNat (List.getD l (Int.toNat i) 0)) : Int) > (57 : Int))) = true →
 (bolP false) = r) ∧
 ((decide ((↑(UInt8.toNat (List.getD l (Int.toNat i) 0)) : Int) > (57 : Int))) = false →
 ∀ (j : Nat → AV) (jr : Nat → Row) (g : Nat), LoopAt E1 Tryz.f104 r 0 (ref07_digits_S0 l (IntKind.i64.wrap (i + (1 : Int))) j jr g)))) ∧
 ((decide (i < (↑(ByteArray.size (bs l)) : Int))) = false →
 (bolP (!ByteArray.toList (bs l) == ByteArray.toList (bs []))) = r)) := by kernel_rfl
theorem version_plain_go (l : List UInt8) (r : PV) : FnGo E1 Tryz.f109 [strP l] r 2000 (.fork (.lts 4 (.hole 0)) (.lts 4 (.hole 0))) =
  ((((↑(ByteArray.size (bs l)) : Int) == (1 : Int)) = true →
 (bolP true) = r) ∧
 (((↑(ByteArray.size (bs l)) : Int) == (1 : Int)) = false →
 (((0 : Int) ≤ (0 : Int)) ∧ ((0 : Nat) < ByteArray.size (bs l))) ∧
 (bolP ((↑(UInt8.toNat (List.getD l (0 : Nat) 0)) : Int) != (48 : Int))) = r)) := by kernel_rfl
theorem ref07_cmp_go (x : Int) (y : Int) (r : PV) : FnGo E1 Tryz.f118 [.lit (.int .u32 x), .lit (.int .u32 y)] r 2000 (.fork (.hole 0) (.fork (.hole 0) (.hole 0))) =
  (((decide (x < y)) = true →
 (intP (-1)) = r) ∧
 ((decide (x < y)) = false →
 ((decide (x > y)) = true →
 (intP 1) = r) ∧
 ((decide (x > y)) = false →
 (intP 0) = r))) := by kernel_rfl
theorem cmp_isNaN_uint32_go (x : Int) (r : PV) : FnGo E1 Tryz.f147 [.lit (.int .u32 x)] r 2000 (.hole 0) =
  ((bolP (x != x)) = r) := by kernel_rfl
theorem cmp_isNaN_int_go (x : Int) (r : PV) : FnGo E1 Tryz.f148 [intP x] r 2000 (.hole 0) =
  ((bolP (x != x)) = r) := by kernel_rfl
theorem cmp_isNaN_string_go (l : List UInt8) (r : PV) : FnGo E1 Tryz.f175 [strP l] r 2000 (.hole 0) =
  ((bolP (!ByteArray.toList (bs l) == ByteArray.toList (bs l))) = r) := by kernel_rfl
theorem cmp_Or_int_go (x : Int) (y : Int) (z : Int) (r : PV) : FnGo E1 Tryz.f122 [.sl 1 false true [intP x, intP y, intP z]] r 2000 (.go (.lit (.val (intP x) (.fork (.hole 0) (.go (.lit (.val (intP y) (.fork (.hole 0) (.go (.lit (.val (intP z) (.fork (.hole 0) (.go (.lit (.hole 0))))))))))))))) =
  ((((0 : Int) ≤ (0 : Int)) ∧ ((false = false) ∧ ((1 : Nat) = 1))) ∧
 ((some (intP x)) = some (intP x)) ∧
 ((x != (0 : Int)) = true →
 (intP x) = r) ∧
 ((x != (0 : Int)) = false →
 (((0 : Int) ≤ (1 : Int)) ∧ ((false = false) ∧ ((1 : Nat) = 1))) ∧
 ((some (intP y)) = some (intP y)) ∧
 ((y != (0 : Int)) = true →
 (intP y) = r) ∧
 ((y != (0 : Int)) = false →
 (((0 : Int) ≤ (2 : Int)) ∧ ((false = false) ∧ ((1 : Nat) = 1))) ∧
 ((some (intP z)) = some (intP z)) ∧
 ((z != (0 : Int)) = true →
 (intP z) = r) ∧
 ((z != (0 : Int)) = false →
 (intP 0) = r)))) := by kernel_rfl
theorem span_low_go (x : I) (r : PV) : FnGo E1 Tryz.f37 [I.p x] r 2000 (.hole 0) =
  (((0 : Nat) = 0) ∧
 ((0 : Nat) = 0) ∧
 ((1 : Nat) = 1) ∧
 (Ed.p ⟨(I.lo x), (I.lopen x), false⟩) = r) := by kernel_rfl
theorem span_high_go (x : I) (r : PV) : FnGo E1 Tryz.f38 [I.p x] r 2000 (.hole 0) =
  (((0 : Nat) = 0) ∧
 ((0 : Nat) = 0) ∧
 ((0 : Nat) = 0) ∧
 ((1 : Nat) = 1) ∧
 (Ed.p ⟨(I.hi x), (!I.hopen x), (I.less x)⟩) = r) := by kernel_rfl
theorem span_bottom_go (r : PV) : FnGo E1 Tryz.f76 [] r 2000 (.hole 0) =
  (((0 : Nat) = 0) ∧
 ∃ hp, frz frzDepth (.agg [.pv (.lit (.int .u32 0)), .pv (.lit (.int .u32 0)), .pv (.lit (.int .u32 0)), .msl 0 1 1 0 1 true, bolA false, bolA false]) [[⟨0, .box (.agg [.pv (.lit (.int .u32 0)), .pv (.lit (.int .u32 0)), .pv (.lit (.int .u32 0)), .msl 0 1 1 0 1 true, bolA false, bolA false]) false⟩, ⟨1, .row 1 9 [strP [48]] false⟩, row0, row0]] = some (r, hp)) := by kernel_rfl
theorem ref08_Bottom_go (r : PV) : FnGo E1 Tryz.f81 [] r 2000 (.hole 0) =
  (((0 : Nat) = 0) ∧
 ∃ hp, frz frzDepth (.agg [.pv (.lit (.int .u32 0)), .pv (.lit (.int .u32 0)), .pv (.lit (.int .u32 0)), .msl 0 1 1 0 1 true]) [[⟨0, .box (.agg [.pv (.lit (.int .u32 0)), .pv (.lit (.int .u32 0)), .pv (.lit (.int .u32 0)), .msl 0 1 1 0 1 true]) false⟩, ⟨1, .row 1 9 [strP [48]] false⟩, row0]] = some (r, hp)) := by kernel_rfl
end Go.Proofs.YtlhfgonjcpapnaaGreatDoor.Abs

namespace Go.Proofs.YtlhfgonjcpapnaaGreatDoor.Abs
open Go Go.Proofs
theorem den1 {f : FuncId} {fn : Func} {ps : List PV} {r : PV} (n : Nat) (scr : Scr) (hi : E1.intr f = none) (hf : E1.P.funcs[f]? = some fn) (hb : fn.body.isSome = true) (hinl : E1.inl f = false) (hown : E1.own f = false) (h : FnGo E1 fn ps r n scr) (hok : E1.ok f = true := by rfl) (hlit : E1.rd f = false ∨ ∃ x, r = .lit x := by first | exact .inl rfl | exact .inr ⟨_, rfl⟩) : Den E1 f ps r :=
  den_go n scr hi hf hb hok hinl hown h hlit
def isDig (b : UInt8) : Bool := decide (48 ≤ b.toNat) && decide (b.toNat ≤ 57)
def digitsL (l : List UInt8) : Bool := l.all isDig && !l.isEmpty
theorem drop_all {l : List UInt8} {i : Nat} (h : i < l.length) (p : UInt8 → Bool) : (l.drop i).all p = (p l[i] && (l.drop (i + 1)).all p) := by
  rw [List.drop_eq_getElem_cons h, List.all_cons]
theorem getD_lt {α : Type} {l : List α} {i : Nat} (h : i < l.length) (d : α) : l.getD i d = l[i] := by
  simp [List.getD_eq_getElem?_getD, h]
theorem den_version_digits (l : List UInt8) (hl : small l.length) : Den E1 108 [strP l] (bolP (digitsL l)) := by
  refine den1 2000 _ rfl (by kernel_rfl) rfl rfl rfl (Eq.mpr (version_digits_go l _) fun j jr g => ?_)
  have H : ∀ (n i : Nat) j jr g, i + n = l.length → digitsL l = ((l.drop i).all isDig && !l.isEmpty) → LoopAt E1 Tryz.f108 (bolP (digitsL l)) 0 (version_digits_S0 l i j jr g) := by
    intro n
    induction n with
    | zero =>
      intro i j jr g hi hd
      refine loop_go 2000 _ (Eq.mpr (version_digits_go_S0 l i j jr g _) ⟨fun h => ?_, fun h => ?_⟩)
      · simp [size_bs] at h; omega
      · rw [hd, List.drop_eq_nil_of_le (by omega)]
        simp [toList_bs]
    | succ n ih =>
      intro i j jr g hi hd
      have hlt : i < l.length := by omega
      rw [drop_all hlt] at hd
      refine loop_go 2000 _ (Eq.mpr (version_digits_go_S0 l i j jr g _) ⟨fun h => ?_, fun h => ?_⟩)
      · simp only [Int.toNat_natCast, getD_lt hlt, size_bs]
        refine ⟨⟨by omega, hlt⟩, fun h1 => ?_, fun h1 => ⟨⟨by omega, hlt⟩, fun h2 => ?_, fun h2 j jr g => ?_⟩⟩
        · rw [hd]; simp only [decide_eq_true_eq] at h1; simp [isDig]; omega
        · rw [hd]; simp only [decide_eq_true_eq] at h2; simp [isDig]; omega
        · simp only [decide_eq_false_iff_not] at h1 h2
          have : isDig l[i] = true := by simp [isDig]; omega
          rw [this, Bool.true_and] at hd
          rw [wrap_i64 _ (by omega) (by unfold small at hl; omega)]
          exact ih (i + 1) j jr g (by omega) hd
      · simp [size_bs] at h; omega
  exact H l.length 0 j jr g (by omega) (by simp [digitsL])
theorem den_ref07_digits (l : List UInt8) (hl : small l.length) : Den E1 104 [strP l] (bolP (digitsL l)) := by
  refine den1 2000 _ rfl (by kernel_rfl) rfl rfl rfl (Eq.mpr (ref07_digits_go l _) fun j jr g => ?_)
  have H : ∀ (n i : Nat) j jr g, i + n = l.length → digitsL l = ((l.drop i).all isDig && !l.isEmpty) → LoopAt E1 Tryz.f104 (bolP (digitsL l)) 0 (ref07_digits_S0 l i j jr g) := by
    intro n
    induction n with
    | zero =>
      intro i j jr g hi hd
      refine loop_go 2000 _ (Eq.mpr (ref07_digits_go_S0 l i j jr g _) ⟨fun h => ?_, fun h => ?_⟩)
      · simp [size_bs] at h; omega
      · rw [hd, List.drop_eq_nil_of_le (by omega)]
        simp [toList_bs]
    | succ n ih =>
      intro i j jr g hi hd
      have hlt : i < l.length := by omega
      rw [drop_all hlt] at hd
      refine loop_go 2000 _ (Eq.mpr (ref07_digits_go_S0 l i j jr g _) ⟨fun h => ?_, fun h => ?_⟩)
      · simp only [Int.toNat_natCast, getD_lt hlt, size_bs]
        refine ⟨⟨by omega, hlt⟩, fun h1 => ?_, fun h1 => ⟨⟨by omega, hlt⟩, fun h2 => ?_, fun h2 j jr g => ?_⟩⟩
        · rw [hd]; simp only [decide_eq_true_eq] at h1; simp [isDig]; omega
        · rw [hd]; simp only [decide_eq_true_eq] at h2; simp [isDig]; omega
        · simp only [decide_eq_false_iff_not] at h1 h2
          have : isDig l[i] = true := by simp [isDig]; omega
          rw [this, Bool.true_and] at hd
          rw [wrap_i64 _ (by omega) (by unfold small at hl; omega)]
          exact ih (i + 1) j jr g (by omega) hd
      · simp [size_bs] at h; omega
  exact H l.length 0 j jr g (by omega) (by simp [digitsL])
def plainL (l : List UInt8) : Bool := l.length == 1 || (l.getD 0 0).toNat != 48
theorem den_version_plain (l : List UInt8) (h0 : l ≠ []) : Den E1 109 [strP l] (bolP (plainL l)) := by
  refine den1 2000 _ rfl (by kernel_rfl) rfl rfl rfl (Eq.mpr (version_plain_go l _) ⟨fun h => ?_, fun h => ?_⟩)
  · simp only [size_bs, beq_iff_eq] at h
    have : l.length = 1 := by omega
    simp [plainL, this]
  · have : 0 < l.length := List.length_pos_iff.2 h0
    refine ⟨⟨by omega, this⟩, ?_⟩
    simp only [size_bs, beq_eq_false_iff_ne, ne_eq] at h
    have h1 : (l.length == 1) = false := by simp; omega
    have h2 : (((l.getD 0 0).toNat : Int) != 48) = ((l.getD 0 0).toNat != 48) := by rw [Bool.eq_iff_iff]; simp; omega
    simp only [plainL, h1, Bool.false_or, ← h2]
def cmpI (x y : Int) : Int := if x < y then -1 else if x > y then 1 else 0
theorem den_ref07_cmp (x y : Int) : Den E1 118 [.lit (.int .u32 x), .lit (.int .u32 y)] (intP (cmpI x y)) := by
  refine den1 2000 _ rfl (by kernel_rfl) rfl rfl rfl (Eq.mpr (ref07_cmp_go x y _) ⟨fun h => ?_, fun h => ⟨fun h2 => ?_, fun h2 => ?_⟩⟩)
  · simp at h; simp [cmpI, h]
  · simp at h h2; simp [cmpI, h2, show ¬ x < y by omega]
  · simp at h h2; simp [cmpI, show ¬ x < y by omega, show ¬ y < x by omega]
theorem den_isNaN_uint32 (x : Int) : Den E1 147 [.lit (.int .u32 x)] (bolP false) :=
  den1 2000 _ rfl (by kernel_rfl) rfl rfl rfl (Eq.mpr (cmp_isNaN_uint32_go x _) (by simp))
theorem den_isNaN_int (x : Int) : Den E1 148 [intP x] (bolP false) :=
  den1 2000 _ rfl (by kernel_rfl) rfl rfl rfl (Eq.mpr (cmp_isNaN_int_go x _) (by simp))
theorem den_isNaN_string (l : List UInt8) : Den E1 175 [strP l] (bolP false) :=
  den1 2000 _ rfl (by kernel_rfl) rfl rfl rfl (Eq.mpr (cmp_isNaN_string_go l _) (by simp))
def or3 (x y z : Int) : Int := if x ≠ 0 then x else if y ≠ 0 then y else z
theorem den_Or (x y z : Int) : Den E1 122 [.sl 1 false true [intP x, intP y, intP z]] (intP (or3 x y z)) := by
  refine den1 2000 _ rfl (by kernel_rfl) rfl rfl rfl (Eq.mpr (cmp_Or_int_go x y z _) ?_)
  by_cases hx : x = 0
  · by_cases hy : y = 0
    · by_cases hz : z = 0 <;> simp [or3, hx, hy, hz]
    · simp [or3, hx, hy]
  · simp [or3, hx]
def I.low (x : I) : Ed := ⟨x.lo, x.lopen, false⟩
def I.high (x : I) : Ed := ⟨x.hi, !x.hopen, x.less⟩
theorem den_low (x : I) : Den E1 37 [x.p] (x.low.p) :=
  den1 2000 _ rfl (by kernel_rfl) rfl rfl rfl (Eq.mpr (span_low_go x _) ⟨rfl, rfl, rfl, rfl⟩)
theorem den_high (x : I) : Den E1 38 [x.p] (x.high.p) :=
  den1 2000 _ rfl (by kernel_rfl) rfl rfl rfl (Eq.mpr (span_high_go x _) ⟨rfl, rfl, rfl, rfl, rfl⟩)
theorem ex_frz {v : AV} {h : Heap} {r : PV} (h1 : (frz frzDepth v h).map (·.1) = some r) : ∃ hp, frz frzDepth v h = some (r, hp) := by
  simp only [Option.map_eq_some_iff] at h1
  obtain ⟨⟨p, hp⟩, h1, rfl⟩ := h1
  exact ⟨hp, h1⟩
def bottomV : V := ⟨0, 0, 0, 1, false, true, [[48]]⟩
def bottomE : Ed := ⟨bottomV, false, false⟩
theorem den_bottom : Den E1 76 [] bottomE.p := by
  have h := span_bottom_go bottomE.p
  refine den1 (fn := Tryz.f76) 2000 (.hole 0) rfl (by kernel_rfl) rfl rfl rfl ?_
  rw [h]
  exact ⟨rfl, ex_frz (by kernel_rfl)⟩
theorem den_ref08_Bottom : Den E1 81 [] bottomV.p := by
  have h := ref08_Bottom_go bottomV.p
  refine den1 (fn := Tryz.f81) 2000 (.hole 0) rfl (by kernel_rfl) rfl rfl rfl ?_
  rw [h]
  exact ⟨rfl, ex_frz (by kernel_rfl)⟩
end Go.Proofs.YtlhfgonjcpapnaaGreatDoor.Abs

namespace Go.Proofs.YtlhfgonjcpapnaaGreatDoor.Abs
open Go Go.Proofs
def cmpS (a b : List UInt8) : Int := if Op.bytesLess a b then -1 else if a == b then 0 else 1
def ordL (a b : List UInt8) : Int :=
  if digitsL a && !digitsL b then -1
  else if !digitsL a && digitsL b then 1
  else if digitsL a && digitsL b && cmpI a.length b.length != 0 then cmpI a.length b.length
  else cmpS a b
def cmpP : List (List UInt8) → List (List UInt8) → Int
  | [], [] => 0
  | [], _ :: _ => -1
  | _ :: _, [] => 1
  | a :: x, b :: y => if ordL a b ≠ 0 then ordL a b else cmpP x y
def cmpN (v w : V) : Int := or3 (cmpI v.a w.a) (cmpI v.b w.b) (cmpI v.c w.c)
def cmpV (v w : V) : Int :=
  if cmpN v w ≠ 0 then cmpN v w
  else if v.pre.length = 0 ∨ w.pre.length = 0 then cmpI w.pre.length v.pre.length
  else cmpP v.pre w.pre
def identC (b : UInt8) : Bool := isDig b || (decide (97 ≤ b.toNat) && decide (b.toNat ≤ 122)) || b.toNat == 45
def identL (s : List UInt8) : Bool := !s.isEmpty && decide (s.length ≤ 16) && s.all identC && (!digitsL s || plainL s)
def mayV (v : V) : Bool := decide (v.a ≤ 2147483647) && decide (v.b ≤ 2147483647) && decide (v.c ≤ 2147483647) && decide (v.pre.length ≤ 8) && v.pre.all identL
def firstI (p : List UInt8 → Bool) (l : List (List UInt8)) : Int := if l.findIdx p < l.length then (l.findIdx p : Int) else -1
def errV (b : Bool) : Int := if b then 0 else 70
end Go.Proofs.YtlhfgonjcpapnaaGreatDoor.Abs

namespace Go.Proofs.YtlhfgonjcpapnaaGreatDoor.Abs
open Go Go.Proofs
theorem cmp_Compare_uint32_go (x : Int) (y : Int) (r : PV) : FnGo E1 Tryz.f123 [.lit (.int .u32 x), .lit (.int .u32 y)] r 2000 (.res (bolP false) (.res (bolP false) (.lit (.lit (.fork (.hole 0) (.fork (.hole 0) (.hole 0))))))) =
  ((Den E1 147 [.lit (.int .u32 x)] (bolP false)) ∧
 (Den E1 147 [.lit (.int .u32 y)] (bolP false)) ∧
 ((decide (x < y)) = true →
 (intP (-1)) = r) ∧
 ((decide (x < y)) = false →
 ((decide (x > y)) = true →
 (intP 1) = r) ∧
 ((decide (x > y)) = false →
 (intP 0) = r))) := by kernel_rfl
theorem cmp_Compare_int_go (x : Int) (y : Int) (r : PV) : FnGo E1 Tryz.f124 [intP x, intP y] r 2000 (.res (bolP false) (.res (bolP false) (.lit (.lit (.fork (.hole 0) (.fork (.hole 0) (.hole 0))))))) =
  ((Den E1 148 [intP x] (bolP false)) ∧
 (Den E1 148 [intP y] (bolP false)) ∧
 ((decide (x < y)) = true →
 (intP (-1)) = r) ∧
 ((decide (x < y)) = false →
 ((decide (x > y)) = true →
 (intP 1) = r) ∧
 ((decide (x > y)) = false →
 (intP 0) = r))) := by kernel_rfl
theorem cmp_Compare_string_go (a : List UInt8) (b : List UInt8) (r : PV) : FnGo E1 Tryz.f149 [strP a, strP b] r 2000 (.res (bolP false) (.res (bolP false) (.lit (.lit (.fork (.hole 0) (.fork (.hole 0) (.hole 0))))))) =
  ((Den E1 175 [strP a] (bolP false)) ∧
 (Den E1 175 [strP b] (bolP false)) ∧
 ((Op.bytesLess (ByteArray.toList (bs a)) (ByteArray.toList (bs b))) = true →
 (intP (-1)) = r) ∧
 ((Op.bytesLess (ByteArray.toList (bs a)) (ByteArray.toList (bs b))) = false →
 ((!(Op.bytesLess (ByteArray.toList (bs a)) (ByteArray.toList (bs b)) || ByteArray.toList (bs a) == ByteArray.toList (bs b))) = true →
 (intP 1) = r) ∧
 ((!(Op.bytesLess (ByteArray.toList (bs a)) (ByteArray.toList (bs b)) || ByteArray.toList (bs a) == ByteArray.toList (bs b))) = false →
 (intP 0) = r))) := by kernel_rfl
theorem version_order_go (a : List UInt8) (b : List UInt8) (r : PV) : FnGo E1 Tryz.f126 [strP a, strP b] r 2000 (.resB (digitsL a) (.resB (digitsL b) (.lts 3 (.res (intP (cmpI (↑(ByteArray.size (bs a)) : Int) (↑(ByteArray.size (bs b)) : Int))) (.fork (.hole 0) (.res (intP (cmpS a b)) (.hole 0))))) (.lit (.hole 0))) (.resB (digitsL b) (.lit (.lit (.hole 0))) (.lts 3 (.res (intP (cmpS a b)) (.hole 0))))) =
  ((Den E1 108 [strP a] (bolP (digitsL a))) ∧
 ((digitsL a) = true →
 (Den E1 108 [strP b] (bolP (digitsL b))) ∧
 ((digitsL b) = true →
 ((6 : Nat) = 6) ∧
 ((6 : Nat) = 6) ∧
 ((6 : Nat) = 6) ∧
 ((6 : Nat) = 6) ∧
 (Den E1 124 [intP ((↑(ByteArray.size (bs a)) : Int)), intP ((↑(ByteArray.size (bs b)) : Int))] (intP (cmpI (↑(ByteArray.size (bs a)) : Int) (↑(ByteArray.size (bs b)) : Int)))) ∧
 ((cmpI (↑(ByteArray.size (bs a)) : Int) (↑(ByteArray.size (bs b)) : Int) != (0 : Int)) = true →
 (intP (cmpI (↑(ByteArray.size (bs a)) : Int) (↑(ByteArray.size (bs b)) : Int))) = r) ∧
 ((cmpI (↑(ByteArray.size (bs a)) : Int) (↑(ByteArray.size (bs b)) : Int) != (0 : Int)) = false →
 (Den E1 149 [strP a, strP b] (intP (cmpS a b))) ∧
 (intP (cmpS a b)) = r)) ∧
 ((digitsL b) = false →
 ((6 : Nat) = 6) ∧
 ((6 : Nat) = 6) ∧
 (intP (-1)) = r)) ∧
 ((digitsL a) = false →
 (Den E1 108 [strP b] (bolP (digitsL b))) ∧
 ((digitsL b) = true →
 ((6 : Nat) = 6) ∧
 ((6 : Nat) = 6) ∧
 ((6 : Nat) = 6) ∧
 (intP 1) = r) ∧
 ((digitsL b) = false →
 ((6 : Nat) = 6) ∧
 ((6 : Nat) = 6) ∧
 ((6 : Nat) = 6) ∧
 ((6 : Nat) = 6) ∧
 (Den E1 149 [strP a, strP b] (intP (cmpS a b))) ∧
 (intP (cmpS a b)) = r))) := by kernel_rfl
theorem ref07_order_go (a : List UInt8) (b : List UInt8) (r : PV) : FnGo E1 Tryz.f119 [strP a, strP b] r 2000 (.fork (.hole 0) (.resB (digitsL a) (.resB (digitsL b) (.lts 8 (.fork (.fork (.hole 0) (.hole 0)) (.fork (.hole 0) (.hole 0)))) (.lit (.lit (.hole 0)))) (.resB (digitsL b) (.lit (.lit (.hole 0))) (.lts 9 (.fork (.hole 0) (.hole 0)))))) =
  (((ByteArray.toList (bs a) == ByteArray.toList (bs b)) = true →
 (intP 0) = r) ∧
 ((ByteArray.toList (bs a) == ByteArray.toList (bs b)) = false →
 (Den E1 104 [strP a] (bolP (digitsL a))) ∧
 ((digitsL a) = true →
 (Den E1 104 [strP b] (bolP (digitsL b))) ∧
 ((digitsL b) = true →
 (((↑(ByteArray.size (bs a)) : Int) != (↑(ByteArray.size (bs b)) : Int)) = true →
 ((decide ((↑(ByteArray.size (bs a)) : Int) < (↑(ByteArray.size (bs b)) : Int))) = true →
 (intP (-1)) = r) ∧
 ((decide ((↑(ByteArray.size (bs a)) : Int) < (↑(ByteArray.size (bs b)) : Int))) = false →
 (intP 1) = r)) ∧
 (((↑(ByteArray.size (bs a)) : Int) != (↑(ByteArray.size (bs b)) : Int)) = false →
 ((Op.bytesLess (ByteArray.toList (bs a)) (ByteArray.toList (bs b))) = true →
 (intP (-1)) = r) ∧
 ((Op.bytesLess (ByteArray.toList (bs a)) (ByteArray.toList (bs b))) = false →
 (intP 1) = r))) ∧
 ((digitsL b) = false →
 (intP (-1)) = r)) ∧
 ((digitsL a) = false →
 (Den E1 104 [strP b] (bolP (digitsL b))) ∧
 ((digitsL b) = true →
 (intP 1) = r) ∧
 ((digitsL b) = false →
 ((Op.bytesLess (ByteArray.toList (bs a)) (ByteArray.toList (bs b))) = true →
 (intP (-1)) = r) ∧
 ((Op.bytesLess (ByteArray.toList (bs a)) (ByteArray.toList (bs b))) = false →
 (intP 1) = r))))) := by kernel_rfl
def slices_CompareFunc_string_string_string_string_S0 (x : List (List UInt8)) (y : List (List UInt8)) (k : Nat) (k' : Nat) (nl : Bool) (full : Bool) (nl' : Bool) (full' : Bool) (i : Int) (j : Nat → AV) (jr : Nat → Row) (g : Nat) : St :=
  { t := [.pv (.sl k nl full (List.map strP x)), .pv (.sl k' nl' full' (List.map strP y)), .pv (.clo (.func 126) [] [])] ++ jj j 3 8 ++ [.pv (.sl k nl full (List.map strP x)), intA ((↑(List.length (List.map strP x)) : Int)), intA i] ++ jj j 14 20 ++ [undefA, undefA, undefA, undefA, undefA], h := [List.replicate 39 row0], g := g }
theorem slices_CompareFunc_string_string_string_string_go (x : List (List UInt8)) (y : List (List UInt8)) (k : Nat) (k' : Nat) (nl : Bool) (full : Bool) (nl' : Bool) (full' : Bool) (r : PV) : FnGo E1 Tryz.f125 [.sl k nl full (List.map strP x), .sl k' nl' full' (List.map strP y), .clo (.func 126) [] []] r 2000 (.mask (iv [(3, 10), (14, 33)]) []) =
  (∀ (j : Nat → AV) (jr : Nat → Row) (g : Nat), LoopAt E1 Tryz.f125 r 0 (slices_CompareFunc_string_string_string_string_S0 x y k k' nl full nl' full' (0 : Int) j jr g)) := by kernel_rfl
theorem slices_CompareFunc_string_string_string_string_go_S0 (x : List (List UInt8)) (y : List (List UInt8)) (k : Nat) (k' : Nat) (nl : Bool) (full : Bool) (nl' : Bool) (full' : Bool) (i : Int) (j : Nat → AV) (jr : Nat → Row) (g : Nat) (r : PV) : LoopGo E1 Tryz.f125 r 0 2000 (.fork (.val (strP (List.getD x (Int.toNat i) default)) (.fork (.hole 0) (.val (strP (List.getD y (Int.toNat i) default)) (.res (intP (ordL (List.getD x (Int.toNat i) default) (List.getD y (Int.toNat i) default))) (.fork (.hole 0) (.mask (iv [(3, 10), (14, 33)]) [])))))) (.fork (.hole 0) (.hole 0))) (slices_CompareFunc_string_string_string_string_S0 x y k k' nl full nl' full' i j jr g) =
  (((decide (i < (↑(List.length (List.map strP x)) : Int))) = true →
 (((0 : Int) ≤ i) ∧ ((nl = false) ∧ (k = 1))) ∧
 (((List.map strP x)[Int.toNat i]?) = some (strP (List.getD x (Int.toNat i) default))) ∧
 ((decide (i ≥ (↑(List.length (List.map strP y)) : Int))) = true →
 (intP 1) = r) ∧
 ((decide (i ≥ (↑(List.length (List.map strP y)) : Int))) = false →
 (((0 : Int) ≤ i) ∧ ((nl' = false) ∧ (k' = 1))) ∧
 (((List.map strP y)[Int.toNat i]?) = some (strP (List.getD y (Int.toNat i) default))) ∧
 (Den E1 126 [strP (List.getD x (Int.toNat i) default), strP (List.getD y (Int.toNat i) default)] (intP (ordL (List.getD x (Int.toNat i) default) (List.getD y (Int.toNat i) default)))) ∧
 ((ordL (List.getD x (Int.toNat i) default) (List.getD y (Int.toNat i) default) != (0 : Int)) = true →
 (intP (ordL (List.getD x (Int.toNat i) default) (List.getD y (Int.toNat i) default))) = r) ∧
 ((ordL (List.getD x (Int.toNat i) default) (List.getD y (Int.toNat i) default) != (0 : Int)) = false →
 ∀ (j : Nat → AV) (jr : Nat → Row) (g : Nat), LoopAt E1 Tryz.f125 r 0 (slices_CompareFunc_string_string_string_string_S0 x y k k' nl full nl' full' (IntKind.i64.wrap (i + (1 : Int))) j jr g)))) ∧
 ((decide (i < (↑(List.length (List.map strP x)) : Int))) = false →
 ((decide ((↑(List.length (List.map strP x)) : Int) < (↑(List.length (List.map strP y)) : Int))) = true →
 (intP (-1)) = r) ∧
 ((decide ((↑(List.length (List.map strP x)) : Int) < (↑(List.length (List.map strP y)) : Int))) = false →
 (intP 0) = r))) := by kernel_rfl
theorem version_compare_go (v : V) (w : V) (r : PV) : FnGo E1 Tryz.f85 [V.p v, V.p w] r 2000 (.res (intP (cmpI (V.a v) (V.a w))) (.res (intP (cmpI (V.b v) (V.b w))) (.res (intP (cmpI (V.c v) (V.c w))) (.ev (.res (intP (or3 (cmpI (V.a v) (V.a w)) (cmpI (V.b v) (V.b w)) (cmpI (V.c v) (V.c w)))) (.fork (.hole 0) (.fork (.lts 6 (.res (intP (cmpI (↑(List.length (List.map strP (V.pre w))) : Int) (↑(List.length (List.map strP (V.pre v))) : Int))) (.hole 0))) (.lts 5 (.fork (.res (intP (cmpI (↑(List.length (List.map strP (V.pre w))) : Int) (↑(List.length (List.map strP (V.pre v))) : Int))) (.hole 0)) (.res (intP (cmpP (V.pre v) (V.pre w))) (.hole 0))))))))))) =
  (((0 : Nat) = 0) ∧
 ((1 : Nat) = 1) ∧
 (Den E1 123 [.lit (.int .u32 (V.a v)), .lit (.int .u32 (V.a w))] (intP (cmpI (V.a v) (V.a w)))) ∧
 ((0 : Nat) = 0) ∧
 ((1 : Nat) = 1) ∧
 (Den E1 123 [.lit (.int .u32 (V.b v)), .lit (.int .u32 (V.b w))] (intP (cmpI (V.b v) (V.b w)))) ∧
 ((0 : Nat) = 0) ∧
 ((1 : Nat) = 1) ∧
 (Den E1 123 [.lit (.int .u32 (V.c v)), .lit (.int .u32 (V.c w))] (intP (cmpI (V.c v) (V.c w)))) ∧
 (Den E1 122 [.sl 1 false true [intP (cmpI (V.a v) (V.a w)), intP (cmpI (V.b v) (V.b w)), intP (cmpI (V.c v) (V.c w))]] (intP (or3 (cmpI (V.a v) (V.a w)) (cmpI (V.b v) (V.b w)) (cmpI (V.c v) (V.c w))))) ∧
 ((or3 (cmpI (V.a v) (V.a w)) (cmpI (V.b v) (V.b w)) (cmpI (V.c v) (V.c w)) != (0 : Int)) = true →
 (intP (or3 (cmpI (V.a v) (V.a w)) (cmpI (V.b v) (V.b w)) (cmpI (V.c v) (V.c w)))) = r) ∧
 ((or3 (cmpI (V.a v) (V.a w)) (cmpI (V.b v) (V.b w)) (cmpI (V.c v) (V.c w)) != (0 : Int)) = false →
 ((0 : Nat) = 0) ∧
 (((↑(List.length (List.map strP (V.pre v))) : Int) == (0 : Int)) = true →
 ((1 : Nat) = 1) ∧
 ((0 : Nat) = 0) ∧
 (Den E1 124 [intP ((↑(List.length (List.map strP (V.pre w))) : Int)), intP ((↑(List.length (List.map strP (V.pre v))) : Int))] (intP (cmpI (↑(List.length (List.map strP (V.pre w))) : Int) (↑(List.length (List.map strP (V.pre v))) : Int)))) ∧
 (intP (cmpI (↑(List.length (List.map strP (V.pre w))) : Int) (↑(List.length (List.map strP (V.pre v))) : Int))) = r) ∧
 (((↑(List.length (List.map strP (V.pre v))) : Int) == (0 : Int)) = false →
 ((1 : Nat) = 1) ∧
 (((↑(List.length (List.map strP (V.pre w))) : Int) == (0 : Int)) = true →
 ((1 : Nat) = 1) ∧
 ((0 : Nat) = 0) ∧
 (Den E1 124 [intP ((↑(List.length (List.map strP (V.pre w))) : Int)), intP ((↑(List.length (List.map strP (V.pre v))) : Int))] (intP (cmpI (↑(List.length (List.map strP (V.pre w))) : Int) (↑(List.length (List.map strP (V.pre v))) : Int)))) ∧
 (intP (cmpI (↑(List.length (List.map strP (V.pre w))) : Int) (↑(List.length (List.map strP (V.pre v))) : Int))) = r) ∧
 (((↑(List.length (List.map strP (V.pre w))) : Int) == (0 : Int)) = false →
 ((0 : Nat) = 0) ∧
 ((1 : Nat) = 1) ∧
 (Den E1 125 [V.q v, V.q w, .clo (.func 126) [] []] (intP (cmpP (V.pre v) (V.pre w)))) ∧
 (intP (cmpP (V.pre v) (V.pre w))) = r)))) := by kernel_rfl
def ref07_Cmp_S0 (v : V) (w : V) (i : Int) (j : Nat → AV) (jr : Nat → Row) (g : Nat) : St :=
  { t := [j 0, j 1, .mptr 0 2 0 0 0, .mptr 0 3 1 0 0, j 4, j 5, intA i] ++ jj j 7 72 ++ [undefA, undefA, undefA, undefA, undefA, undefA, undefA, undefA, undefA], h := [[row0, row0, ⟨0, .box (.pv (V.p v)) false⟩, ⟨1, .box (.pv (V.p w)) false⟩] ++ List.replicate 84 row0], g := g }
theorem ref07_Cmp_go (v : V) (w : V) (r : PV) : FnGo E1 Tryz.f80 [V.p v, V.p w] r 2000 (.res (intP (cmpI (V.a v) (V.a w))) (.fork (.res (intP (cmpI (V.b v) (V.b w))) (.fork (.res (intP (cmpI (V.c v) (V.c w))) (.fork (.hole 0) (.fork (.lts 6 (.fork (.hole 0) (.fork (.hole 0) (.hole 0)))) (.lts 5 (.fork (.fork (.hole 0) (.fork (.hole 0) (.hole 0))) (.mask (iv [(0, 1), (4, 5), (7, 78)]) [])))))) (.br true (.hole 0)))) (.br false (.br true (.hole 0))))) =
  (((0 : Nat) = 0) ∧
 ((1 : Nat) = 1) ∧
 (Den E1 118 [.lit (.int .u32 (V.a v)), .lit (.int .u32 (V.a w))] (intP (cmpI (V.a v) (V.a w)))) ∧
 ((cmpI (V.a v) (V.a w) == (0 : Int)) = true →
 ((0 : Nat) = 0) ∧
 ((1 : Nat) = 1) ∧
 (Den E1 118 [.lit (.int .u32 (V.b v)), .lit (.int .u32 (V.b w))] (intP (cmpI (V.b v) (V.b w)))) ∧
 ((cmpI (V.b v) (V.b w) == (0 : Int)) = true →
 ((0 : Nat) = 0) ∧
 ((1 : Nat) = 1) ∧
 (Den E1 118 [.lit (.int .u32 (V.c v)), .lit (.int .u32 (V.c w))] (intP (cmpI (V.c v) (V.c w)))) ∧
 ((cmpI (V.c v) (V.c w) != (0 : Int)) = true →
 (intP (cmpI (V.c v) (V.c w))) = r) ∧
 ((cmpI (V.c v) (V.c w) != (0 : Int)) = false →
 ((0 : Nat) = 0) ∧
 (((↑(List.length (List.map strP (V.pre v))) : Int) == (0 : Int)) = true →
 ((0 : Nat) = 0) ∧
 ((1 : Nat) = 1) ∧
 (((↑(List.length (List.map strP (V.pre v))) : Int) == (↑(List.length (List.map strP (V.pre w))) : Int)) = true →
 (intP 0) = r) ∧
 (((↑(List.length (List.map strP (V.pre v))) : Int) == (↑(List.length (List.map strP (V.pre w))) : Int)) = false →
 ((0 : Nat) = 0) ∧
 ((decide ((↑(List.length (List.map strP (V.pre v))) : Int) > (0 : Int))) = true →
 (intP (-1)) = r) ∧
 ((decide ((↑(List.length (List.map strP (V.pre v))) : Int) > (0 : Int))) = false →
 (intP 1) = r))) ∧
 (((↑(List.length (List.map strP (V.pre v))) : Int) == (0 : Int)) = false →
 ((1 : Nat) = 1) ∧
 (((↑(List.length (List.map strP (V.pre w))) : Int) == (0 : Int)) = true →
 ((0 : Nat) = 0) ∧
 ((1 : Nat) = 1) ∧
 (((↑(List.length (List.map strP (V.pre v))) : Int) == (↑(List.length (List.map strP (V.pre w))) : Int)) = true →
 (intP 0) = r) ∧
 (((↑(List.length (List.map strP (V.pre v))) : Int) == (↑(List.length (List.map strP (V.pre w))) : Int)) = false →
 ((0 : Nat) = 0) ∧
 ((decide ((↑(List.length (List.map strP (V.pre v))) : Int) > (0 : Int))) = true →
 (intP (-1)) = r) ∧
 ((decide ((↑(List.length (List.map strP (V.pre v))) : Int) > (0 : Int))) = false →
 (intP 1) = r))) ∧
 (((↑(List.length (List.map strP (V.pre w))) : Int) == (0 : Int)) = false →
 ∀ (j : Nat → AV) (jr : Nat → Row) (g : Nat), LoopAt E1 Tryz.f80 r 0 (ref07_Cmp_S0 v w (0 : Int) j jr g))))) ∧
 ((cmpI (V.b v) (V.b w) == (0 : Int)) = false →
 ((cmpI (V.b v) (V.b w) != (0 : Int)) = true) ∧
 (intP (cmpI (V.b v) (V.b w))) = r)) ∧
 ((cmpI (V.a v) (V.a w) == (0 : Int)) = false →
 ((cmpI (V.a v) (V.a w) == (0 : Int)) = false) ∧
 ((cmpI (V.a v) (V.a w) != (0 : Int)) = true) ∧
 (intP (cmpI (V.a v) (V.a w))) = r)) := by kernel_rfl
theorem ref07_Cmp_go_S0 (v : V) (w : V) (i : Int) (j : Nat → AV) (jr : Nat → Row) (g : Nat) (r : PV) : LoopGo E1 Tryz.f80 r 0 2000 (.fork (.lts 6 (.fork (.val (strP (List.getD (V.pre v) (Int.toNat i) default)) (.val (strP (List.getD (V.pre w) (Int.toNat i) default)) (.res (intP (ordL (List.getD (V.pre v) (Int.toNat i) default) (List.getD (V.pre w) (Int.toNat i) default))) (.fork (.hole 0) (.mask (iv [(0, 1), (4, 5), (7, 78)]) []))))) (.res (intP (cmpI (↑(List.length (List.map strP (V.pre v)) % (4294967296 : Nat)) : Int) (↑(List.length (List.map strP (V.pre w)) % (4294967296 : Nat)) : Int))) (.hole 0)))) (.lts 7 (.res (intP (cmpI (↑(List.length (List.map strP (V.pre v)) % (4294967296 : Nat)) : Int) (↑(List.length (List.map strP (V.pre w)) % (4294967296 : Nat)) : Int))) (.hole 0)))) (ref07_Cmp_S0 v w i j jr g) =
  (((0 : Nat) = 0) ∧
 ((decide (i < (↑(List.length (List.map strP (V.pre v))) : Int))) = true →
 ((1 : Nat) = 1) ∧
 ((decide (i < (↑(List.length (List.map strP (V.pre w))) : Int))) = true →
 ((0 : Nat) = 0) ∧
 (((0 : Int) ≤ i) ∧ (((V.nl v) = false) ∧ ((V.k v) = 1))) ∧
 (((List.map strP (V.pre v))[Int.toNat i]?) = some (strP (List.getD (V.pre v) (Int.toNat i) default))) ∧
 ((1 : Nat) = 1) ∧
 (((0 : Int) ≤ i) ∧ (((V.nl w) = false) ∧ ((V.k w) = 1))) ∧
 (((List.map strP (V.pre w))[Int.toNat i]?) = some (strP (List.getD (V.pre w) (Int.toNat i) default))) ∧
 (Den E1 119 [strP (List.getD (V.pre v) (Int.toNat i) default), strP (List.getD (V.pre w) (Int.toNat i) default)] (intP (ordL (List.getD (V.pre v) (Int.toNat i) default) (List.getD (V.pre w) (Int.toNat i) default)))) ∧
 ((ordL (List.getD (V.pre v) (Int.toNat i) default) (List.getD (V.pre w) (Int.toNat i) default) != (0 : Int)) = true →
 (intP (ordL (List.getD (V.pre v) (Int.toNat i) default) (List.getD (V.pre w) (Int.toNat i) default))) = r) ∧
 ((ordL (List.getD (V.pre v) (Int.toNat i) default) (List.getD (V.pre w) (Int.toNat i) default) != (0 : Int)) = false →
 ∀ (j : Nat → AV) (jr : Nat → Row) (g : Nat), LoopAt E1 Tryz.f80 r 0 (ref07_Cmp_S0 v w (IntKind.i64.wrap (i + (1 : Int))) j jr g))) ∧
 ((decide (i < (↑(List.length (List.map strP (V.pre w))) : Int))) = false →
 ((0 : Nat) = 0) ∧
 ((1 : Nat) = 1) ∧
 (Den E1 118 [.lit (.int .u32 ((↑(List.length (List.map strP (V.pre v)) % (4294967296 : Nat)) : Int))), .lit (.int .u32 ((↑(List.length (List.map strP (V.pre w)) % (4294967296 : Nat)) : Int)))] (intP (cmpI (↑(List.length (List.map strP (V.pre v)) % (4294967296 : Nat)) : Int) (↑(List.length (List.map strP (V.pre w)) % (4294967296 : Nat)) : Int)))) ∧
 (intP (cmpI (↑(List.length (List.map strP (V.pre v)) % (4294967296 : Nat)) : Int) (↑(List.length (List.map strP (V.pre w)) % (4294967296 : Nat)) : Int))) = r)) ∧
 ((decide (i < (↑(List.length (List.map strP (V.pre v))) : Int))) = false →
 ((0 : Nat) = 0) ∧
 ((1 : Nat) = 1) ∧
 (Den E1 118 [.lit (.int .u32 ((↑(List.length (List.map strP (V.pre v)) % (4294967296 : Nat)) : Int))), .lit (.int .u32 ((↑(List.length (List.map strP (V.pre w)) % (4294967296 : Nat)) : Int)))] (intP (cmpI (↑(List.length (List.map strP (V.pre v)) % (4294967296 : Nat)) : Int) (↑(List.length (List.map strP (V.pre w)) % (4294967296 : Nat)) : Int)))) ∧
 (intP (cmpI (↑(List.length (List.map strP (V.pre v)) % (4294967296 : Nat)) : Int) (↑(List.length (List.map strP (V.pre w)) % (4294967296 : Nat)) : Int))) = r)) := by kernel_rfl
def version_ident_S0 (l : List UInt8) (i : Int) (j : Nat → AV) (jr : Nat → Row) (g : Nat) : St :=
  { t := [strA (bs l)] ++ jj j 1 12 ++ [intA ((↑(ByteArray.size (bs l)) : Int)), intA i] ++ jj j 15 21 ++ [undefA, undefA, undefA, undefA, undefA, undefA, undefA], h := [List.replicate 43 row0], g := g }
theorem version_ident_go (l : List UInt8) (r : PV) : FnGo E1 Tryz.f103 [strP l] r 2000 (.fork (.lts 5 (.hole 0)) (.lts 4 (.fork (.hole 0) (.mask (iv [(1, 12), (15, 35)]) [])))) =
  (((ByteArray.toList (bs l) == ByteArray.toList (bs [])) = true →
 (bolP false) = r) ∧
 ((ByteArray.toList (bs l) == ByteArray.toList (bs [])) = false →
 ((decide ((↑(ByteArray.size (bs l)) : Int) > (16 : Int))) = true →
 (bolP false) = r) ∧
 ((decide ((↑(ByteArray.size (bs l)) : Int) > (16 : Int))) = false →
 ∀ (j : Nat → AV) (jr : Nat → Row) (g : Nat), LoopAt E1 Tryz.f103 r 0 (version_ident_S0 l (0 : Int) j jr g)))) := by kernel_rfl
theorem version_ident_go_S0 (l : List UInt8) (i : Int) (j : Nat → AV) (jr : Nat → Row) (g : Nat) (r : PV) : LoopGo E1 Tryz.f103 r 0 2000 (.fork (.fork (.lts 3 (.fork (.br true (.mask (iv [(1, 12), (15, 35)]) [])) (.fork (.lts 3 (.fork (.br true (.mask (iv [(1, 12), (15, 35)]) [])) (.fork (.mask (iv [(1, 12), (15, 35)]) []) (.hole 0)))) (.lts 4 (.fork (.mask (iv [(1, 12), (15, 35)]) []) (.hole 0)))))) (.lts 4 (.fork (.lts 3 (.fork (.br true (.mask (iv [(1, 12), (15, 35)]) [])) (.fork (.mask (iv [(1, 12), (15, 35)]) []) (.hole 0)))) (.lts 4 (.fork (.mask (iv [(1, 12), (15, 35)]) []) (.hole 0)))))) (.resB (digitsL l) (.lts 3 (.res (bolP (plainL l)) (.lit (.hole 0)))) (.lts 4 (.hole 0)))) (version_ident_S0 l i j jr g) =
  (((decide (i < (↑(ByteArray.size (bs l)) : Int))) = true →
 (((0 : Int) ≤ i) ∧ (Int.toNat i < ByteArray.size (bs l))) ∧
 ((decide ((↑(UInt8.toNat (List.getD l (Int.toNat i) 0)) : Int) ≥ (48 : Int))) = true →
 ((decide ((↑(UInt8.toNat (List.getD l (Int.toNat i) 0)) : Int) ≤ (57 : Int))) = true →
 ((decide ((↑(UInt8.toNat (List.getD l (Int.toNat i) 0)) : Int) ≤ (57 : Int))) = true) ∧
 (∀ (j : Nat → AV) (jr : Nat → Row) (g : Nat), LoopAt E1 Tryz.f103 r 0 (version_ident_S0 l (IntKind.i64.wrap (i + (1 : Int))) j jr g))) ∧
 ((decide ((↑(UInt8.toNat (List.getD l (Int.toNat i) 0)) : Int) ≤ (57 : Int))) = false →
 ((decide ((↑(UInt8.toNat (List.getD l (Int.toNat i) 0)) : Int) ≥ (97 : Int))) = true →
 ((decide ((↑(UInt8.toNat (List.getD l (Int.toNat i) 0)) : Int) ≤ (122 : Int))) = true →
 ((decide ((↑(UInt8.toNat (List.getD l (Int.toNat i) 0)) : Int) ≤ (122 : Int))) = true) ∧
 (∀ (j : Nat → AV) (jr : Nat → Row) (g : Nat), LoopAt E1 Tryz.f103 r 0 (version_ident_S0 l (IntKind.i64.wrap (i + (1 : Int))) j jr g))) ∧
 ((decide ((↑(UInt8.toNat (List.getD l (Int.toNat i) 0)) : Int) ≤ (122 : Int))) = false →
 (((↑(UInt8.toNat (List.getD l (Int.toNat i) 0)) : Int) == (45 : Int)) = true →
 ∀ (j : Nat → AV) (jr : Nat → Row) (g : Nat), LoopAt E1 Tryz.f103 r 0 (version_ident_S0 l (IntKind.i64.wrap (i + (1 : Int))) j jr g)) ∧
 (((↑(UInt8.toNat (List.getD l (Int.toNat i) 0)) : Int) == (45 : Int)) = false →
 (bolP false) = r))) ∧
 ((decide ((↑(UInt8.toNat (List.getD l (Int.toNat i) 0)) : Int) ≥ (97 : Int))) = false →
 (((↑(UInt8.toNat (List.getD l (Int.toNat i) 0)) : Int) == (45 : Int)) = true →
 ∀ (j : Nat → AV) (jr : Nat → Row) (g : Nat), LoopAt E1 Tryz.f103 r 0 (version_ident_S0 l (IntKind.i64.wrap (i + (1 : Int))) j jr g)) ∧
 (((↑(UInt8.toNat (List.getD l (Int.toNat i) 0)) : Int) == (45 : Int)) = false →
 (bolP false) = r)))) ∧
 ((decide ((↑(UInt8.toNat (List.getD l (Int.toNat i) 0)) : Int) ≥ (48 : Int))) = false →
 ((decide ((↑(UInt8.toNat (List.getD l (Int.toNat i) 0)) : Int) ≥ (97 : Int))) = true →
 ((decide ((↑(UInt8.toNat (List.getD l (Int.toNat i) 0)) : Int) ≤ (122 : Int))) = true →
 ((decide ((↑(UInt8.toNat (List.getD l (Int.toNat i) 0)) : Int) ≤ (122 : Int))) = true) ∧
 (∀ (j : Nat → AV) (jr : Nat → Row) (g : Nat), LoopAt E1 Tryz.f103 r 0 (version_ident_S0 l (IntKind.i64.wrap (i + (1 : Int))) j jr g))) ∧
 ((decide ((↑(UInt8.toNat (List.getD l (Int.toNat i) 0)) : Int) ≤ (122 : Int))) = false →
 (((↑(UInt8.toNat (List.getD l (Int.toNat i) 0)) : Int) == (45 : Int)) = true →
 ∀ (j : Nat → AV) (jr : Nat → Row) (g : Nat), LoopAt E1 Tryz.f103 r 0 (version_ident_S0 l (IntKind.i64.wrap (i + (1 : Int))) j jr g)) ∧
 (((↑(UInt8.toNat (List.getD l (Int.toNat i) 0)) : Int) == (45 : Int)) = false →
 (bolP false) = r))) ∧
 ((decide ((↑(UInt8.toNat (List.getD l (Int.toNat i) 0)) : Int) ≥ (97 : Int))) = false →
 (((↑(UInt8.toNat (List.getD l (Int.toNat i) 0)) : Int) == (45 : Int)) = true →
 ∀ (j : Nat → AV) (jr : Nat → Row) (g : Nat), LoopAt E1 Tryz.f103 r 0 (version_ident_S0 l (IntKind.i64.wrap (i + (1 : Int))) j jr g)) ∧
 (((↑(UInt8.toNat (List.getD l (Int.toNat i) 0)) : Int) == (45 : Int)) = false →
 (bolP false) = r)))) ∧
 ((decide (i < (↑(ByteArray.size (bs l)) : Int))) = false →
 (Den E1 108 [strP l] (bolP (digitsL l))) ∧
 ((digitsL l) = true →
 (Den E1 109 [strP l] (bolP (plainL l))) ∧
 (bolP (plainL l)) = r) ∧
 ((digitsL l) = false →
 (bolP true) = r))) := by kernel_rfl
def ref07_ident_S0 (l : List UInt8) (i : Int) (j : Nat → AV) (jr : Nat → Row) (g : Nat) : St :=
  { t := [strA (bs l), j 1, j 2, intA i] ++ jj j 4 36 ++ [undefA, undefA, undefA, undefA, undefA, undefA, undefA, undefA, undefA, undefA, undefA, undefA], h := [List.replicate 52 row0], g := g }
theorem ref07_ident_go (l : List UInt8) (r : PV) : FnGo E1 Tryz.f60 [strP l] r 2000 (.fork (.lts 5 (.hole 0)) (.lts 4 (.fork (.hole 0) (.mask (iv [(1, 2), (4, 39)]) [])))) =
  (((decide ((↑(ByteArray.size (bs l)) : Int) < (1 : Int))) = true →
 (bolP false) = r) ∧
 ((decide ((↑(ByteArray.size (bs l)) : Int) < (1 : Int))) = false →
 ((decide ((↑(ByteArray.size (bs l)) : Int) > (16 : Int))) = true →
 (bolP false) = r) ∧
 ((decide ((↑(ByteArray.size (bs l)) : Int) > (16 : Int))) = false →
 ∀ (j : Nat → AV) (jr : Nat → Row) (g : Nat), LoopAt E1 Tryz.f60 r 0 (ref07_ident_S0 l (0 : Int) j jr g)))) := by kernel_rfl
theorem ref07_ident_go_S0 (l : List UInt8) (i : Int) (j : Nat → AV) (jr : Nat → Row) (g : Nat) (r : PV) : LoopGo E1 Tryz.f60 r 0 2000 (.fork (.fork (.lts 7 (.fork (.lts 9 (.fork (.hole 0) (.mask (iv [(1, 2), (4, 39)]) []))) (.lts 5 (.fork (.lts 3 (.fork (.hole 0) (.mask (iv [(1, 2), (4, 39)]) []))) (.lts 4 (.mask (iv [(1, 2), (4, 39)]) [])))))) (.lts 3 (.fork (.lts 3 (.fork (.lts 9 (.fork (.hole 0) (.mask (iv [(1, 2), (4, 39)]) []))) (.lts 5 (.fork (.lts 3 (.fork (.hole 0) (.mask (iv [(1, 2), (4, 39)]) []))) (.lts 4 (.mask (iv [(1, 2), (4, 39)]) [])))))) (.lts 10 (.mask (iv [(1, 2), (4, 39)]) []))))) (.resB (digitsL l) (.lts 4 (.fork (.lts 4 (.hole 0)) (.lts 4 (.hole 0)))) (.lts 9 (.hole 0)))) (ref07_ident_S0 l i j jr g) =
  (((decide (i < (↑(ByteArray.size (bs l)) : Int))) = true →
 (((0 : Int) ≤ i) ∧ (Int.toNat i < ByteArray.size (bs l))) ∧
 ((decide ((↑(UInt8.toNat (List.getD l (Int.toNat i) 0)) : Int) < (48 : Int))) = true →
 ((decide ((↑(UInt8.toNat (List.getD l (Int.toNat i) 0)) : Int) < (97 : Int))) = true →
 (((↑(UInt8.toNat (List.getD l (Int.toNat i) 0)) : Int) != (45 : Int)) = true →
 (bolP false) = r) ∧
 (((↑(UInt8.toNat (List.getD l (Int.toNat i) 0)) : Int) != (45 : Int)) = false →
 ∀ (j : Nat → AV) (jr : Nat → Row) (g : Nat), LoopAt E1 Tryz.f60 r 0 (ref07_ident_S0 l (IntKind.i64.wrap (i + (1 : Int))) j jr g))) ∧
 ((decide ((↑(UInt8.toNat (List.getD l (Int.toNat i) 0)) : Int) < (97 : Int))) = false →
 ((decide ((↑(UInt8.toNat (List.getD l (Int.toNat i) 0)) : Int) > (122 : Int))) = true →
 (((↑(UInt8.toNat (List.getD l (Int.toNat i) 0)) : Int) != (45 : Int)) = true →
 (bolP false) = r) ∧
 (((↑(UInt8.toNat (List.getD l (Int.toNat i) 0)) : Int) != (45 : Int)) = false →
 ∀ (j : Nat → AV) (jr : Nat → Row) (g : Nat), LoopAt E1 Tryz.f60 r 0 (ref07_ident_S0 l (IntKind.i64.wrap (i + (1 : Int))) j jr g))) ∧
 ((decide ((↑(UInt8.toNat (List.getD l (Int.toNat i) 0)) : Int) > (122 : Int))) = false →
 ∀ (j : Nat → AV) (jr : Nat → Row) (g : Nat), LoopAt E1 Tryz.f60 r 0 (ref07_ident_S0 l (IntKind.i64.wrap (i + (1 : Int))) j jr g)))) ∧
 ((decide ((↑(UInt8.toNat (List.getD l (Int.toNat i) 0)) : Int) < (48 : Int))) = false →
 ((decide ((↑(UInt8.toNat (List.getD l (Int.toNat i) 0)) : Int) > (57 : Int))) = true →
 ((decide ((↑(UInt8.toNat (List.getD l (Int.toNat i) 0)) : Int) < (97 : Int))) = true →
 (((↑(UInt8.toNat (List.getD l (Int.toNat i) 0)) : Int) != (45 : Int)) = true →
 (bolP false) = r) ∧
 (((↑(UInt8.toNat (List.getD l (Int.toNat i) 0)) : Int) != (45 : Int)) = false →
 ∀ (j : Nat → AV) (jr : Nat → Row) (g : Nat), LoopAt E1 Tryz.f60 r 0 (ref07_ident_S0 l (IntKind.i64.wrap (i + (1 : Int))) j jr g))) ∧
 ((decide ((↑(UInt8.toNat (List.getD l (Int.toNat i) 0)) : Int) < (97 : Int))) = false →
 ((decide ((↑(UInt8.toNat (List.getD l (Int.toNat i) 0)) : Int) > (122 : Int))) = true →
 (((↑(UInt8.toNat (List.getD l (Int.toNat i) 0)) : Int) != (45 : Int)) = true →
 (bolP false) = r) ∧
 (((↑(UInt8.toNat (List.getD l (Int.toNat i) 0)) : Int) != (45 : Int)) = false →
 ∀ (j : Nat → AV) (jr : Nat → Row) (g : Nat), LoopAt E1 Tryz.f60 r 0 (ref07_ident_S0 l (IntKind.i64.wrap (i + (1 : Int))) j jr g))) ∧
 ((decide ((↑(UInt8.toNat (List.getD l (Int.toNat i) 0)) : Int) > (122 : Int))) = false →
 ∀ (j : Nat → AV) (jr : Nat → Row) (g : Nat), LoopAt E1 Tryz.f60 r 0 (ref07_ident_S0 l (IntKind.i64.wrap (i + (1 : Int))) j jr g)))) ∧
 ((decide ((↑(UInt8.toNat (List.getD l (Int.toNat i) 0)) : Int) > (57 : Int))) = false →
 ∀ (j : Nat → AV) (jr : Nat → Row) (g : Nat), LoopAt E1 Tryz.f60 r 0 (ref07_ident_S0 l (IntKind.i64.wrap (i + (1 : Int))) j jr g)))) ∧
 ((decide (i < (↑(ByteArray.size (bs l)) : Int))) = false →
 (Den E1 104 [strP l] (bolP (digitsL l))) ∧
 ((digitsL l) = true →
 ((ByteArray.toList (bs l) == ByteArray.toList (bs [48])) = true →
 (bolP true) = r) ∧
 ((ByteArray.toList (bs l) == ByteArray.toList (bs [48])) = false →
 (((0 : Int) ≤ (0 : Int)) ∧ ((0 : Nat) < ByteArray.size (bs l))) ∧
 (bolP ((↑(UInt8.toNat (List.getD l (0 : Nat) 0)) : Int) != (48 : Int))) = r)) ∧
 ((digitsL l) = false →
 (bolP true) = r))) := by kernel_rfl
end Go.Proofs.YtlhfgonjcpapnaaGreatDoor.Abs

namespace Go.Proofs.YtlhfgonjcpapnaaGreatDoor.Abs
open Go Go.Proofs
theorem den_Compare_uint32 (x y : Int) : Den E1 123 [.lit (.int .u32 x), .lit (.int .u32 y)] (intP (cmpI x y)) := by
  refine den1 2000 _ rfl (by kernel_rfl) rfl rfl rfl (Eq.mpr (cmp_Compare_uint32_go x y _) ⟨den_isNaN_uint32 x, den_isNaN_uint32 y, fun h => ?_, fun h => ⟨fun h2 => ?_, fun h2 => ?_⟩⟩)
  · simp at h; simp [cmpI, h]
  · simp at h h2; simp [cmpI, h2, show ¬ x < y by omega]
  · simp at h h2; simp [cmpI, show ¬ x < y by omega, show ¬ y < x by omega]
theorem den_Compare_int (x y : Int) : Den E1 124 [intP x, intP y] (intP (cmpI x y)) := by
  refine den1 2000 _ rfl (by kernel_rfl) rfl rfl rfl (Eq.mpr (cmp_Compare_int_go x y _) ⟨den_isNaN_int x, den_isNaN_int y, fun h => ?_, fun h => ⟨fun h2 => ?_, fun h2 => ?_⟩⟩)
  · simp at h; simp [cmpI, h]
  · simp at h h2; simp [cmpI, h2, show ¬ x < y by omega]
  · simp at h h2; simp [cmpI, show ¬ x < y by omega, show ¬ y < x by omega]
theorem bytesLess_irrefl (a : List UInt8) : Op.bytesLess a a = false := by
  induction a with
  | nil => rfl
  | cons x a ih => simp [Op.bytesLess, ih]
theorem den_Compare_string (a b : List UInt8) : Den E1 149 [strP a, strP b] (intP (cmpS a b)) := by
  refine den1 2000 _ rfl (by kernel_rfl) rfl rfl rfl (Eq.mpr (cmp_Compare_string_go a b _) ⟨den_isNaN_string a, den_isNaN_string b, fun h => ?_, fun h => ⟨fun h2 => ?_, fun h2 => ?_⟩⟩)
  · rw [toList_bs, toList_bs] at h; simp [cmpS, h]
  · rw [toList_bs, toList_bs] at h h2; simp [h] at h2; simp [cmpS, h, h2]
  · rw [toList_bs, toList_bs] at h h2; simp [h] at h2; simp [cmpS, h2, bytesLess_irrefl]
theorem cmpI_self (x : Int) : cmpI x x = 0 := by simp [cmpI]
theorem cmpI_eq (x y : Int) : cmpI x y = 0 ↔ x = y := by
  unfold cmpI; split <;> (try split) <;> omega
theorem cmpS_self (a : List UInt8) : cmpS a a = 0 := by simp [cmpS, bytesLess_irrefl]
theorem ordL_self (a : List UInt8) : ordL a a = 0 := by
  simp [ordL, cmpI_self, cmpS_self]
theorem den_version_order (a b : List UInt8) (ha : small a.length) (hb : small b.length) : Den E1 126 [strP a, strP b] (intP (ordL a b)) := by
  refine den1 2000 _ rfl (by kernel_rfl) rfl rfl rfl (Eq.mpr (version_order_go a b _) ?_)
  refine ⟨den_version_digits a ha, fun h => ⟨den_version_digits b hb, fun h2 => ⟨rfl, rfl, rfl, rfl, den_Compare_int _ _, fun h3 => ?_, fun h3 => ⟨den_Compare_string _ _, ?_⟩⟩, fun h2 => ⟨rfl, rfl, ?_⟩⟩, fun h => ⟨den_version_digits b hb, fun h2 => ⟨rfl, rfl, rfl, ?_⟩, fun h2 => ⟨rfl, rfl, rfl, rfl, den_Compare_string _ _, ?_⟩⟩⟩
  · simp only [size_bs] at h3 ⊢; simp only [ordL, h, h2, h3]; rfl
  · simp only [size_bs] at h3; simp only [ordL, h, h2, h3]; rfl
  · simp only [ordL, h, h2]; rfl
  · simp only [ordL, h, h2]; rfl
  · simp only [ordL, h, h2]; rfl
theorem den_ref07_order (a b : List UInt8) (ha : small a.length) (hb : small b.length) : Den E1 119 [strP a, strP b] (intP (ordL a b)) := by
  refine den1 2000 _ rfl (by kernel_rfl) rfl rfl rfl (Eq.mpr (ref07_order_go a b _) ?_)
  simp only [toList_bs, size_bs]
  refine ⟨fun h => ?_, fun h => ⟨den_ref07_digits a ha, fun h1 => ⟨den_ref07_digits b hb, fun h2 => ⟨fun h3 => ⟨fun h4 => ?_, fun h4 => ?_⟩, fun h3 => ⟨fun h4 => ?_, fun h4 => ?_⟩⟩, fun h2 => ?_⟩, fun h1 => ⟨den_ref07_digits b hb, fun h2 => ?_, fun h2 => ⟨fun h4 => ?_, fun h4 => ?_⟩⟩⟩⟩
  · simp only [beq_iff_eq] at h; rw [h, ordL_self]
  · simp only [bne_iff_ne, decide_eq_true_eq] at h3 h4; simp [ordL, h1, h2, cmpI, h4]
  · simp only [bne_iff_ne, decide_eq_false_iff_not] at h3 h4
    have h5 : (b.length : Int) < a.length := by omega
    simp [ordL, h1, h2, cmpI, h4, h5]
  · simp only [bne_eq_false_iff_eq] at h3
    have h5 : a.length = b.length := by omega
    simp [ordL, h1, h2, h5, cmpI_self, cmpS, h4]
  · simp only [bne_eq_false_iff_eq] at h3
    have h5 : a.length = b.length := by omega
    simp [ordL, h1, h2, h5, cmpI_self, cmpS, h4, h]
  · simp only [ordL, h1, h2]; rfl
  · simp only [ordL, h1, h2]; rfl
  · simp [ordL, h1, h2, cmpS, h4]
  · simp [ordL, h1, h2, cmpS, h4, h]
theorem drop_nil {α : Type} {l : List α} {i : Nat} (h : l.length ≤ i) : l.drop i = [] := List.drop_eq_nil_of_le h
theorem den_CompareFunc (x y : List (List UInt8)) (k k' : Nat) (nl full nl' full' : Bool) (hx : slOk 1 k nl x.length) (hy : slOk 1 k' nl' y.length) (hlx : small x.length) (hly : small y.length) (hsx : ∀ s ∈ x, small s.length) (hsy : ∀ s ∈ y, small s.length) :
    Den E1 125 [preP k nl full x, preP k' nl' full' y, .clo (.func 126) [] []] (intP (cmpP x y)) := by
  refine den1 2000 _ rfl (by kernel_rfl) rfl rfl rfl (Eq.mpr (slices_CompareFunc_string_string_string_string_go x y k k' nl full nl' full' _) fun j jr g => ?_)
  have H : ∀ (n i : Nat) j jr g, i + n = x.length → cmpP x y = cmpP (x.drop i) (y.drop i) → i ≤ y.length → LoopAt E1 Tryz.f125 (intP (cmpP x y)) 0 (slices_CompareFunc_string_string_string_string_S0 x y k k' nl full nl' full' i j jr g) := by
    intro n
    induction n with
    | zero =>
      intro i j jr g hi hd hy'
      refine loop_go 2000 _ (Eq.mpr (slices_CompareFunc_string_string_string_string_go_S0 x y k k' nl full nl' full' i j jr g _) ⟨fun h => ?_, fun h => ⟨fun h2 => ?_, fun h2 => ?_⟩⟩)
      · simp at h; omega
      · simp at h2
        rw [hd, List.drop_eq_nil_of_le (by omega), List.drop_eq_getElem_cons (by omega)]; rfl
      · simp at h2
        rw [hd, List.drop_eq_nil_of_le (by omega), List.drop_eq_nil_of_le (by omega)]; rfl
    | succ n ih =>
      intro i j jr g hi hd hy'
      have h1 : i < x.length := by omega
      rw [List.drop_eq_getElem_cons h1] at hd
      refine loop_go 2000 _ (Eq.mpr (slices_CompareFunc_string_string_string_string_go_S0 x y k k' nl full nl' full' i j jr g _) ⟨fun h => ?_, fun h => ?_⟩)
      · simp only [Int.toNat_natCast, getD_lt h1]
        refine ⟨⟨by omega, sl_at hx h1⟩, by simp [h1, strP], fun h2 => ?_, fun h2 => ?_⟩
        · simp at h2
          rw [hd, drop_nil (l := y) (by omega)]; rfl
        · simp at h2
          have h3 : i < y.length := by omega
          rw [List.drop_eq_getElem_cons h3] at hd
          simp only [getD_lt h3]
          refine ⟨⟨by omega, sl_at hy h3⟩, by simp [h3, strP], den_version_order _ _ (hsx _ (by simp)) (hsy _ (by simp)), fun h4 => ?_, fun h4 j jr g => ?_⟩
          · rw [hd]; simp only [bne_iff_ne] at h4; simp only [cmpP, ne_eq, h4, not_false_eq_true, if_true]
          · simp only [bne_eq_false_iff_eq] at h4
            rw [wrap_i64 _ (by omega) (by unfold small at hlx; omega)]
            refine ih (i + 1) j jr g (by omega) ?_ (by omega)
            rw [hd]; simp only [cmpP, h4]; rfl
      · simp at h; omega
  exact H x.length 0 j jr g (by omega) rfl (by omega)
theorem den_compare (v w : V) (hv : v.ok) (hw : w.ok) : Den E1 85 [v.p, w.p] (intP (cmpV v w)) := by
  refine den1 2000 _ rfl (by kernel_rfl) rfl rfl rfl (Eq.mpr (version_compare_go v w _) ?_)
  refine ⟨rfl, rfl, den_Compare_uint32 _ _, rfl, rfl, den_Compare_uint32 _ _, rfl, rfl, den_Compare_uint32 _ _, den_Or _ _ _, fun h => ?_, fun h => ⟨rfl, fun h1 => ⟨rfl, rfl, den_Compare_int _ _, ?_⟩, fun h1 => ⟨rfl, fun h2 => ⟨rfl, rfl, den_Compare_int _ _, ?_⟩, fun h2 => ⟨rfl, rfl, den_CompareFunc _ _ _ _ _ _ _ _ hv.sl hw.sl hv.len hw.len hv.str hw.str, ?_⟩⟩⟩⟩
  · simp only [bne_iff_ne] at h; simp [cmpV, cmpN, h]
  · simp only [bne_eq_false_iff_eq, beq_iff_eq, List.length_map] at h h1 ⊢
    have h5 : v.pre.length = 0 := by omega
    simp only [cmpV, cmpN, h, h5, ne_eq, not_true, if_false, true_or, if_true]
  · simp only [bne_eq_false_iff_eq, beq_iff_eq, List.length_map] at h h2 ⊢
    have h5 : w.pre.length = 0 := by omega
    simp only [cmpV, cmpN, h, h5, ne_eq, not_true, if_false, or_true, if_true]
  · simp only [bne_eq_false_iff_eq, beq_eq_false_iff_ne, ne_eq, List.length_map] at h h1 h2
    have h5 : ¬ (v.pre.length = 0 ∨ w.pre.length = 0) := by omega
    simp only [cmpV, cmpN, h, h5, ne_eq, not_true, if_false]
theorem cmpI_nat (a b : Nat) : cmpI (a : Int) (b : Int) = if a < b then -1 else if b < a then 1 else 0 := by
  unfold cmpI
  by_cases h : a < b
  · simp [h]
  · by_cases h2 : b < a
    · simp [h, h2]
    · simp [h, h2]
theorem den_ref07_Cmp (v w : V) (hv : v.ok) (hw : w.ok) (hlv : v.pre.length < 4294967296) (hlw : w.pre.length < 4294967296) : Den E1 80 [v.p, w.p] (intP (cmpV v w)) := by
  refine den1 2000 _ rfl (by kernel_rfl) rfl rfl rfl (Eq.mpr (ref07_Cmp_go v w _) ?_)
  have hmv : v.pre.length % 4294967296 = v.pre.length := Nat.mod_eq_of_lt hlv
  have hmw : w.pre.length % 4294967296 = w.pre.length := Nat.mod_eq_of_lt hlw
  have H : ∀ (n i : Nat) j jr g, i + n = v.pre.length → cmpV v w = cmpP (v.pre.drop i) (w.pre.drop i) → i ≤ w.pre.length → LoopAt E1 Tryz.f80 (intP (cmpV v w)) 0 (ref07_Cmp_S0 v w i j jr g) := by
    intro n
    induction n with
    | zero =>
      intro i j jr g hi hd hy'
      refine loop_go 2000 _ (Eq.mpr (ref07_Cmp_go_S0 v w i j jr g _) ⟨rfl, fun h => ?_, fun h => ⟨rfl, rfl, den_ref07_cmp _ _, ?_⟩⟩)
      · simp at h; omega
      · simp only [List.length_map, hmv, hmw, cmpI_nat]
        rw [hd, drop_nil (l := v.pre) (by omega)]
        by_cases h5 : i < w.pre.length
        · rw [List.drop_eq_getElem_cons h5, if_pos (by omega)]; rfl
        · rw [drop_nil (l := w.pre) (by omega), if_neg (by omega), if_neg (by omega)]; rfl
    | succ n ih =>
      intro i j jr g hi hd hy'
      have h1 : i < v.pre.length := by omega
      rw [List.drop_eq_getElem_cons h1] at hd
      refine loop_go 2000 _ (Eq.mpr (ref07_Cmp_go_S0 v w i j jr g _) ⟨rfl, fun h => ⟨rfl, fun h2 => ?_, fun h2 => ⟨rfl, rfl, den_ref07_cmp _ _, ?_⟩⟩, fun h => ?_⟩)
      · simp at h2
        have h3 : i < w.pre.length := by omega
        rw [List.drop_eq_getElem_cons h3] at hd
        simp only [Int.toNat_natCast, getD_lt h1, getD_lt h3]
        refine ⟨trivial, ⟨by omega, sl_at hv.sl h1⟩, by simp [h1, strP], trivial, ⟨by omega, sl_at hw.sl h3⟩, by simp [h3, strP], den_ref07_order _ _ (hv.str _ (by simp)) (hw.str _ (by simp)), fun h4 => ?_, fun h4 j jr g => ?_⟩
        · rw [hd]; simp only [bne_iff_ne] at h4; simp only [cmpP, ne_eq, h4, not_false_eq_true, if_true]
        · simp only [bne_eq_false_iff_eq] at h4
          rw [wrap_i64 _ (by omega) (by omega)]
          refine ih (i + 1) j jr g (by omega) ?_ (by omega)
          rw [hd]; simp only [cmpP, h4]; rfl
      · simp at h2
        simp only [List.length_map, hmv, hmw, cmpI_nat]
        rw [hd, drop_nil (l := w.pre) (by omega), if_neg (by omega), if_pos (by omega)]; rfl
      · simp at h; omega
  have hz : ∀ (h0 : v.pre.length = 0 ∨ w.pre.length = 0), cmpN v w = 0 → cmpV v w = if v.pre.length = w.pre.length then 0 else if v.pre.length > 0 then -1 else 1 := by
    intro h0 hn
    simp only [cmpV, hn, h0, ne_eq, not_true, if_false, if_true, cmpI_nat]
    by_cases h1 : v.pre.length = w.pre.length
    · rw [if_neg (by omega), if_neg (by omega), if_pos h1]
    · by_cases h2 : v.pre.length > 0
      · rw [if_pos (by omega), if_neg h1, if_pos h2]
      · rw [if_neg (by omega), if_pos (by omega), if_neg h1, if_neg h2]
  refine ⟨rfl, rfl, den_ref07_cmp _ _, fun ha => ⟨rfl, rfl, den_ref07_cmp _ _, fun hb => ⟨rfl, rfl, den_ref07_cmp _ _, fun hc => ?_, fun hc => ?_⟩, fun hb => ⟨?_, ?_⟩⟩, fun ha => ⟨ha, ?_, ?_⟩⟩
  · simp at ha hb hc; simp [cmpV, cmpN, or3, ha, hb, hc]
  · simp only [beq_iff_eq, bne_eq_false_iff_eq] at ha hb hc
    have hn : cmpN v w = 0 := by simp [cmpN, or3, ha, hb, hc]
    refine ⟨rfl, fun h1 => ⟨rfl, rfl, fun h2 => ?_, fun h2 => ⟨rfl, fun h3 => ?_, fun h3 => ?_⟩⟩, fun h1 => ⟨rfl, fun h2 => ⟨rfl, rfl, fun h3 => ?_, fun h3 => ⟨rfl, fun h4 => ?_, fun h4 => ?_⟩⟩, fun h2 j jr g => ?_⟩⟩
    · simp at h1 h2; rw [hz (by simp [h1]) hn]; rw [if_pos (by omega)]
    · simp at h1 h3; simp [h1] at h3
    · simp only [List.length_map, beq_iff_eq, beq_eq_false_iff_ne, ne_eq, decide_eq_false_iff_not] at h1 h2 h3
      rw [hz (.inl (by omega)) hn, if_neg (by omega), if_neg (by omega)]
    · simp at h1 h2 h3; rw [hz (by simp [h2]) hn]; rw [if_pos (by omega)]
    · simp at h1 h2 h3 h4; rw [hz (by simp [h2]) hn]; rw [if_neg (by omega), if_pos (by omega)]
    · simp at h1 h2 h3 h4; rw [hz (by simp [h2]) hn]; exact absurd h4 h1
    · simp at h1 h2
      refine H v.pre.length 0 j jr g (by omega) ?_ (by omega)
      simp [cmpV, hn, h1, h2]
  · simp at ha hb; simp [hb]
  · simp at ha hb; simp [cmpV, cmpN, or3, ha, hb]
  · simp at ha; simp [ha]
  · simp at ha; simp [cmpV, cmpN, or3, ha]
end Go.Proofs.YtlhfgonjcpapnaaGreatDoor.Abs

namespace Go.Proofs.YtlhfgonjcpapnaaGreatDoor.Abs
open Go Go.Proofs
theorem version_May_1_go (l : List UInt8) (r : PV) : FnGo E1 Tryz.f102 [strP l] r 2000 (.res (bolP (identL l)) (.hole 0)) =
  ((Den E1 103 [strP l] (bolP (identL l))) ∧
 (bolP (!identL l)) = r) := by kernel_rfl
def slices_IndexFunc_string_string_S0 (x : List (List UInt8)) (k : Nat) (nl : Bool) (full : Bool) (i : Int) (j : Nat → AV) (jr : Nat → Row) (g : Nat) : St :=
  { t := [.pv (.sl k nl full (List.map strP x)), .pv (.clo (.func 102) [] [])] ++ jj j 2 5 ++ [intA ((↑(List.length (List.map strP x)) : Int)), intA i] ++ jj j 9 10, h := [List.replicate 19 row0], g := g }
theorem slices_IndexFunc_string_string_go (x : List (List UInt8)) (k : Nat) (nl : Bool) (full : Bool) (r : PV) : FnGo E1 Tryz.f134 [.sl k nl full (List.map strP x), .clo (.func 102) [] []] r 2000 (.mask (iv [(2, 6), (9, 18)]) []) =
  (∀ (j : Nat → AV) (jr : Nat → Row) (g : Nat), LoopAt E1 Tryz.f134 r 0 (slices_IndexFunc_string_string_S0 x k nl full (0 : Int) j jr g)) := by kernel_rfl
theorem slices_IndexFunc_string_string_go_S0 (x : List (List UInt8)) (k : Nat) (nl : Bool) (full : Bool) (i : Int) (j : Nat → AV) (jr : Nat → Row) (g : Nat) (r : PV) : LoopGo E1 Tryz.f134 r 0 2000 (.fork (.val (strP (List.getD x (Int.toNat i) default)) (.res (bolP (!identL (List.getD x (Int.toNat i) default))) (.fork (.hole 0) (.mask (iv [(2, 6), (9, 18)]) [])))) (.hole 0)) (slices_IndexFunc_string_string_S0 x k nl full i j jr g) =
  (((decide (i < (↑(List.length (List.map strP x)) : Int))) = true →
 (((0 : Int) ≤ i) ∧ ((nl = false) ∧ (k = 1))) ∧
 (((List.map strP x)[Int.toNat i]?) = some (strP (List.getD x (Int.toNat i) default))) ∧
 (Den E1 102 [strP (List.getD x (Int.toNat i) default)] (bolP (!identL (List.getD x (Int.toNat i) default)))) ∧
 ((!identL (List.getD x (Int.toNat i) default)) = true →
 (intP i) = r) ∧
 ((!identL (List.getD x (Int.toNat i) default)) = false →
 ∀ (j : Nat → AV) (jr : Nat → Row) (g : Nat), LoopAt E1 Tryz.f134 r 0 (slices_IndexFunc_string_string_S0 x k nl full (IntKind.i64.wrap (i + (1 : Int))) j jr g))) ∧
 ((decide (i < (↑(List.length (List.map strP x)) : Int))) = false →
 (intP (-1)) = r)) := by kernel_rfl
theorem slices_ContainsFunc_string_string_go (x : List (List UInt8)) (k : Nat) (nl : Bool) (full : Bool) (r : PV) : FnGo E1 Tryz.f101 [.sl k nl full (List.map strP x), .clo (.func 102) [] []] r 2000 (.res (intP (firstI (fun s => !identL s) x)) (.hole 0)) =
  ((Den E1 134 [.sl k nl full (List.map strP x), .clo (.func 102) [] []] (intP (firstI (fun s => !identL s) x))) ∧
 (bolP (decide (firstI (fun s => !identL s) x ≥ (0 : Int)))) = r) := by kernel_rfl
theorem version_May_go (v : V) (r : PV) : FnGo E1 Tryz.f59 [V.p v] r 2000 (.fork (.lts 11 (.hole 0)) (.lts 5 (.fork (.lts 5 (.hole 0)) (.lts 3 (.res (bolP (!List.all (V.pre v) identL)) (.lit (.fork (.hole 0) (.hole 0)))))))) =
  (((0 : Nat) = 0) ∧
 ((0 : Nat) = 0) ∧
 ((0 : Nat) = 0) ∧
 ((decide ((if V.c v > if V.b v > V.a v then V.b v else V.a v then V.c v else if V.b v > V.a v then V.b v else V.a v) > (2147483647 : Int))) = true →
 (intP 70) = r) ∧
 ((decide ((if V.c v > if V.b v > V.a v then V.b v else V.a v then V.c v else if V.b v > V.a v then V.b v else V.a v) > (2147483647 : Int))) = false →
 ((0 : Nat) = 0) ∧
 ((decide ((↑(List.length (List.map strP (V.pre v))) : Int) > (8 : Int))) = true →
 (intP 70) = r) ∧
 ((decide ((↑(List.length (List.map strP (V.pre v))) : Int) > (8 : Int))) = false →
 ((0 : Nat) = 0) ∧
 (Den E1 101 [V.q v, .clo (.func 102) [] []] (bolP (!List.all (V.pre v) identL))) ∧
 ((!List.all (V.pre v) identL) = true →
 (intP 70) = r) ∧
 ((!List.all (V.pre v) identL) = false →
 (intP 0) = r)))) := by kernel_rfl
def ref07_May_S0 (v : V) (i : Int) (j : Nat → AV) (jr : Nat → Row) (g : Nat) : St :=
  { t := [j 0, .mptr 0 1 0 0 0, j 2, intA i] ++ jj j 4 33, h := [[row0, ⟨0, .box (.pv (V.p v)) false⟩] ++ List.replicate 35 row0], g := g }
theorem ref07_May_go (v : V) (r : PV) : FnGo E1 Tryz.f26 [V.p v] r 2000 (.fork (.lts 16 (.hole 0)) (.lts 4 (.fork (.lts 11 (.hole 0)) (.lts 4 (.fork (.lts 6 (.hole 0)) (.lts 5 (.fork (.hole 0) (.mask (iv [(0, 0), (2, 2), (4, 36)]) [])))))))) =
  (((0 : Nat) = 0) ∧
 ((decide (V.a v > (2147483647 : Int))) = true →
 (bolP false) = r) ∧
 ((decide (V.a v > (2147483647 : Int))) = false →
 ((0 : Nat) = 0) ∧
 ((decide (V.b v > (2147483647 : Int))) = true →
 (bolP false) = r) ∧
 ((decide (V.b v > (2147483647 : Int))) = false →
 ((0 : Nat) = 0) ∧
 ((decide (V.c v > (2147483647 : Int))) = true →
 (bolP false) = r) ∧
 ((decide (V.c v > (2147483647 : Int))) = false →
 ((0 : Nat) = 0) ∧
 ((decide ((↑(List.length (List.map strP (V.pre v))) : Int) > (8 : Int))) = true →
 (bolP false) = r) ∧
 ((decide ((↑(List.length (List.map strP (V.pre v))) : Int) > (8 : Int))) = false →
 ∀ (j : Nat → AV) (jr : Nat → Row) (g : Nat), LoopAt E1 Tryz.f26 r 0 (ref07_May_S0 v (0 : Int) j jr g)))))) := by kernel_rfl
theorem ref07_May_go_S0 (v : V) (i : Int) (j : Nat → AV) (jr : Nat → Row) (g : Nat) (r : PV) : LoopGo E1 Tryz.f26 r 0 2000 (.fork (.val (strP (List.getD (V.pre v) (Int.toNat i) default)) (.res (bolP (identL (List.getD (V.pre v) (Int.toNat i) default))) (.fork (.hole 0) (.mask (iv [(0, 0), (2, 2), (4, 36)]) [])))) (.hole 0)) (ref07_May_S0 v i j jr g) =
  (((0 : Nat) = 0) ∧
 ((decide (i < (↑(List.length (List.map strP (V.pre v))) : Int))) = true →
 ((0 : Nat) = 0) ∧
 (((0 : Int) ≤ i) ∧ (((V.nl v) = false) ∧ ((V.k v) = 1))) ∧
 (((List.map strP (V.pre v))[Int.toNat i]?) = some (strP (List.getD (V.pre v) (Int.toNat i) default))) ∧
 (Den E1 60 [strP (List.getD (V.pre v) (Int.toNat i) default)] (bolP (identL (List.getD (V.pre v) (Int.toNat i) default)))) ∧
 ((!identL (List.getD (V.pre v) (Int.toNat i) default)) = true →
 (bolP false) = r) ∧
 ((!identL (List.getD (V.pre v) (Int.toNat i) default)) = false →
 ∀ (j : Nat → AV) (jr : Nat → Row) (g : Nat), LoopAt E1 Tryz.f26 r 0 (ref07_May_S0 v (IntKind.i64.wrap (i + (1 : Int))) j jr g))) ∧
 ((decide (i < (↑(List.length (List.map strP (V.pre v))) : Int))) = false →
 (bolP true) = r)) := by kernel_rfl
end Go.Proofs.YtlhfgonjcpapnaaGreatDoor.Abs

namespace Go.Proofs.YtlhfgonjcpapnaaGreatDoor.Abs
open Go Go.Proofs
theorem identC_iff (b : UInt8) : identC b = true ↔ (48 ≤ (b.toNat : Int) ∧ (b.toNat : Int) ≤ 57) ∨ (97 ≤ (b.toNat : Int) ∧ (b.toNat : Int) ≤ 122) ∨ (b.toNat : Int) = 45 := by
  simp [identC, isDig]
  omega
theorem beq_nil (l : List UInt8) : (l == []) = l.isEmpty := by cases l <;> rfl
theorem den_version_ident (l : List UInt8) : Den E1 103 [strP l] (bolP (identL l)) := by
  refine den1 2000 _ rfl (by kernel_rfl) rfl rfl rfl (Eq.mpr (version_ident_go l _) ?_)
  simp only [toList_bs, size_bs, beq_nil]
  refine ⟨fun h => by simp [identL, h], fun h0 => ⟨fun h => ?_, fun h1 j jr g => ?_⟩⟩
  · simp at h
    have : ¬ l.length ≤ 16 := by omega
    simp [identL, this]
  simp at h1
  have hne : l ≠ [] := by intro e; subst e; simp at h0
  have hsm : small l.length := by unfold small; omega
  have H : ∀ (n i : Nat) j jr g, i + n = l.length → identL l = ((l.drop i).all identC && (!digitsL l || plainL l)) → LoopAt E1 Tryz.f103 (bolP (identL l)) 0 (version_ident_S0 l i j jr g) := by
    intro n
    induction n with
    | zero =>
      intro i j jr g hi hd
      refine loop_go 2000 _ (Eq.mpr (version_ident_go_S0 l i j jr g _) ⟨fun h => ?_, fun h => ⟨den_version_digits l hsm, fun h2 => ⟨den_version_plain l hne, ?_⟩, fun h2 => ?_⟩⟩)
      · simp [size_bs] at h; omega
      · rw [hd, drop_nil (by omega)]; simp [h2]
      · rw [hd, drop_nil (by omega)]; simp [h2]
    | succ n ih =>
      intro i j jr g hi hd
      have hlt : i < l.length := by omega
      rw [drop_all hlt] at hd
      have hw : IntKind.wrap IntKind.i64 ((i : Int) + 1) = ((i + 1 : Nat) : Int) := wrap_i64 _ (by omega) (by omega)
      refine loop_go 2000 _ (Eq.mpr (version_ident_go_S0 l i j jr g _) ⟨fun h => ?_, fun h => ?_⟩)
      · simp only [Int.toNat_natCast, gI_nat, gI_zero, getD_lt hlt, size_bs, hw, decide_eq_true_eq, decide_eq_false_iff_not, beq_iff_eq, beq_eq_false_iff_ne, ne_eq]
        have hc := identC_iff l[i]
        cases hb : identC l[i] with
        | true =>
          rw [hb] at hc hd
          have hc := hc.1 rfl
          have hL := fun j jr g => ih (i + 1) j jr g (by omega) (by rw [hd]; simp)
          generalize (l[i].toNat : Int) = c at hc ⊢
          refine ⟨⟨by omega, hlt⟩, ?_⟩
          repeat' (first | exact hL | omega | refine ⟨?_, ?_⟩ | intro _)
        | false =>
          rw [hb] at hc hd
          have hc : ¬ _ := fun h => absurd (hc.2 h) (by simp)
          have hL : identL l = false := by rw [hd]; simp
          rw [hL]
          generalize (l[i].toNat : Int) = c at hc ⊢
          refine ⟨⟨by omega, hlt⟩, ?_⟩
          repeat' (first | rfl | (exfalso; apply hc; omega) | omega | refine ⟨?_, ?_⟩ | intro _)
      · simp [size_bs] at h; omega
  have h16 : l.length ≤ 16 := by omega
  exact H l.length 0 j jr g (by omega) (by simp [identL, h0, h16])
theorem den_ref07_ident (l : List UInt8) : Den E1 60 [strP l] (bolP (identL l)) := by
  refine den1 2000 _ rfl (by kernel_rfl) rfl rfl rfl (Eq.mpr (ref07_ident_go l _) ?_)
  simp only [size_bs]
  refine ⟨fun h => by simp at h; have : l = [] := List.length_eq_zero_iff.1 (by omega); simp [identL, this], fun h0 => ⟨fun h => ?_, fun h1 j jr g => ?_⟩⟩
  · simp at h
    have : ¬ l.length ≤ 16 := by omega
    simp [identL, this]
  simp at h1
  have hne : l ≠ [] := by intro e; subst e; simp at h0
  have h0 : l.isEmpty = false := by simpa using hne
  have hsm : small l.length := by unfold small; omega
  have H : ∀ (n i : Nat) j jr g, i + n = l.length → identL l = ((l.drop i).all identC && (!digitsL l || plainL l)) → LoopAt E1 Tryz.f60 (bolP (identL l)) 0 (ref07_ident_S0 l i j jr g) := by
    intro n
    induction n with
    | zero =>
      intro i j jr g hi hd
      refine loop_go 2000 _ (Eq.mpr (ref07_ident_go_S0 l i j jr g _) ⟨fun h => ?_, fun h => ⟨den_ref07_digits l hsm, fun h2 => ⟨fun h3 => ?_, fun h3 => ⟨⟨by omega, by have := List.length_pos_iff.2 hne; exact this⟩, ?_⟩⟩, fun h2 => ?_⟩⟩)
      · simp [size_bs] at h; omega
      · rw [toList_bs, toList_bs, beq_iff_eq] at h3; rw [hd, drop_nil (by omega), h3]; rfl
      · rw [toList_bs, toList_bs, beq_eq_false_iff_ne] at h3
        rw [hd, drop_nil (by omega)]
        have h4 : (((l.getD 0 0).toNat : Int) != 48) = ((l.getD 0 0).toNat != 48) := by rw [Bool.eq_iff_iff]; simp; omega
        have h5 : ((l.getD 0 0).toNat != 48) = plainL l := by
          unfold plainL
          by_cases h6 : l.length = 1
          · obtain ⟨a, rfl⟩ := List.length_eq_one_iff.1 h6
            have : ¬ a.toNat = 48 := fun e => h3 (by rw [show a = 48 from UInt8.toNat_inj.1 e])
            simp [this]
          · have : (l.length == 1) = false := by simpa using h6
            rw [this, Bool.false_or]
        rw [h4, h5]
        simp [h2]
      · rw [hd, drop_nil (by omega)]; simp [h2]
    | succ n ih =>
      intro i j jr g hi hd
      have hlt : i < l.length := by omega
      rw [drop_all hlt] at hd
      have hw : IntKind.wrap IntKind.i64 ((i : Int) + 1) = ((i + 1 : Nat) : Int) := wrap_i64 _ (by omega) (by omega)
      refine loop_go 2000 _ (Eq.mpr (ref07_ident_go_S0 l i j jr g _) ⟨fun h => ?_, fun h => ?_⟩)
      · simp only [Int.toNat_natCast, gI_nat, gI_zero, getD_lt hlt, size_bs, hw, decide_eq_true_eq, decide_eq_false_iff_not, bne_iff_ne, bne_eq_false_iff_eq, ne_eq]
        have hc := identC_iff l[i]
        cases hb : identC l[i] with
        | true =>
          rw [hb] at hc hd
          have hc := hc.1 rfl
          have hL := fun j jr g => ih (i + 1) j jr g (by omega) (by rw [hd]; simp)
          generalize (l[i].toNat : Int) = c at hc ⊢
          refine ⟨⟨by omega, hlt⟩, ?_⟩
          repeat' (first | exact hL | omega | refine ⟨?_, ?_⟩ | intro _)
        | false =>
          rw [hb] at hc hd
          have hc : ¬ _ := fun h => absurd (hc.2 h) (by simp)
          have hL : identL l = false := by rw [hd]; simp
          rw [hL]
          generalize (l[i].toNat : Int) = c at hc ⊢
          refine ⟨⟨by omega, hlt⟩, ?_⟩
          repeat' (first | rfl | (exfalso; apply hc; omega) | omega | refine ⟨?_, ?_⟩ | intro _)
      · simp [size_bs] at h; omega
  have h16 : l.length ≤ 16 := by omega
  exact H l.length 0 j jr g (by omega) (by simp [identL, h0, h16])
theorem den_May_1 (l : List UInt8) : Den E1 102 [strP l] (bolP (!identL l)) :=
  den1 2000 _ rfl (by kernel_rfl) rfl rfl rfl (Eq.mpr (version_May_1_go l _) ⟨den_version_ident l, rfl⟩)
theorem den_IndexFunc (x : List (List UInt8)) (k : Nat) (nl full : Bool) (hx : slOk 1 k nl x.length) (hl : small x.length) : Den E1 134 [preP k nl full x, .clo (.func 102) [] []] (intP (firstI (fun s => !identL s) x)) := by
  refine den1 2000 _ rfl (by kernel_rfl) rfl rfl rfl (Eq.mpr (slices_IndexFunc_string_string_go x k nl full _) fun j jr g => ?_)
  have H : ∀ (n i : Nat) j jr g, i + n = x.length → x.findIdx (fun s => !identL s) = i + (x.drop i).findIdx (fun s => !identL s) → LoopAt E1 Tryz.f134 (intP (firstI (fun s => !identL s) x)) 0 (slices_IndexFunc_string_string_S0 x k nl full i j jr g) := by
    intro n
    induction n with
    | zero =>
      intro i j jr g hi hd
      refine loop_go 2000 _ (Eq.mpr (slices_IndexFunc_string_string_go_S0 x k nl full i j jr g _) ⟨fun h => ?_, fun h => ?_⟩)
      · simp at h; omega
      · rw [drop_nil (by omega)] at hd
        simp only [List.findIdx_nil] at hd
        simp only [firstI]
        rw [hd, if_neg (by omega)]
    | succ n ih =>
      intro i j jr g hi hd
      have h1 : i < x.length := by omega
      rw [List.drop_eq_getElem_cons h1, List.findIdx_cons] at hd
      refine loop_go 2000 _ (Eq.mpr (slices_IndexFunc_string_string_go_S0 x k nl full i j jr g _) ⟨fun h => ?_, fun h => ?_⟩)
      · simp only [Int.toNat_natCast, gI_nat, gI_zero, getD_lt h1]
        refine ⟨⟨by omega, sl_at hx h1⟩, by simp [h1, strP], den_May_1 _, fun h2 => ?_, fun h2 j jr g => ?_⟩
        · rw [h2] at hd
          simp only [cond_true] at hd
          simp only [firstI]
          rw [hd, if_pos (by omega)]
          rfl
        · rw [h2] at hd
          simp only [cond_false] at hd
          rw [wrap_i64 _ (by omega) (by unfold small at hl; omega)]
          exact ih (i + 1) j jr g (by omega) (by rw [hd]; omega)
      · simp at h; omega
  exact H x.length 0 j jr g (by omega) (by simp)
theorem firstI_ge (x : List (List UInt8)) : decide (firstI (fun s => !identL s) x ≥ 0) = !x.all identL := by
  unfold firstI
  by_cases h : x.findIdx (fun s => !identL s) < x.length
  · rw [if_pos h]
    have h1 := List.findIdx_getElem (w := h)
    have h2 : x.all identL = false := by
      rw [List.all_eq_false]
      exact ⟨_, List.getElem_mem h, by simpa using h1⟩
    rw [h2]; simp
  · rw [if_neg h]
    have h2 : x.all identL = true := by
      rw [List.all_eq_true]
      intro s hs
      have h3 := List.findIdx_lt_length (p := fun s => !identL s) (xs := x)
      cases hc : identL s with
      | true => rfl
      | false => exact absurd (h3.2 ⟨s, hs, by simp [hc]⟩) h
    rw [h2]; rfl
theorem den_ContainsFunc (x : List (List UInt8)) (k : Nat) (nl full : Bool) (hx : slOk 1 k nl x.length) (hl : small x.length) : Den E1 101 [preP k nl full x, .clo (.func 102) [] []] (bolP (!x.all identL)) :=
  den1 2000 _ rfl (by kernel_rfl) rfl rfl rfl (Eq.mpr (slices_ContainsFunc_string_string_go x k nl full _) ⟨den_IndexFunc x k nl full hx hl, by rw [firstI_ge]⟩)
theorem max3 (a b c m : Int) : (if c > (if b > a then b else a) then c else (if b > a then b else a)) > m ↔ ¬ (a ≤ m ∧ b ≤ m ∧ c ≤ m) := by
  split <;> split <;> omega
theorem mayV_num (v : V) (h : ¬ (v.a ≤ 2147483647 ∧ v.b ≤ 2147483647 ∧ v.c ≤ 2147483647)) : mayV v = false := by
  simp [mayV]; omega
theorem den_version_May (v : V) (hv : v.ok) : Den E1 59 [v.p] (intP (errV (mayV v))) := by
  refine den1 2000 _ rfl (by kernel_rfl) rfl rfl rfl (Eq.mpr (version_May_go v _) ?_)
  simp only [decide_eq_true_eq, decide_eq_false_iff_not, max3, List.length_map]
  refine ⟨trivial, trivial, trivial, fun h => ?_, fun h => ⟨trivial, fun h1 => ?_, fun h1 => ⟨trivial, den_ContainsFunc _ _ _ _ hv.sl hv.len, fun h2 => ?_, fun h2 => ?_⟩⟩⟩
  · rw [mayV_num v h]; rfl
  · have : mayV v = false := by
      have h5 : ¬ v.pre.length ≤ 8 := by omega
      simp [mayV, h5]
    rw [this]; rfl
  · have : mayV v = false := by
      simp only [Bool.not_eq_true'] at h2
      simp [mayV, h2]
    rw [this]; rfl
  · have : mayV v = true := by
      simp only [Bool.not_eq_false'] at h2
      have h5 : v.pre.length ≤ 8 := by omega
      simp [mayV, h2, h5]; omega
    rw [this]; rfl
theorem den_ref07_May (v : V) (hv : v.ok) : Den E1 26 [v.p] (bolP (mayV v)) := by
  refine den1 2000 _ rfl (by kernel_rfl) rfl rfl rfl (Eq.mpr (ref07_May_go v _) ?_)
  refine ⟨rfl, fun h => ?_, fun h => ⟨rfl, fun h1 => ?_, fun h1 => ⟨rfl, fun h2 => ?_, fun h2 => ⟨rfl, fun h3 => ?_, fun h3 j jr g => ?_⟩⟩⟩⟩
  · simp only [decide_eq_true_eq] at h; rw [mayV_num v (by omega)]
  · simp only [decide_eq_true_eq] at h1; rw [mayV_num v (by omega)]
  · simp only [decide_eq_true_eq] at h2; rw [mayV_num v (by omega)]
  · simp only [decide_eq_true_eq, List.length_map] at h3
    have h5 : ¬ v.pre.length ≤ 8 := by omega
    simp [mayV, h5]
  simp only [decide_eq_false_iff_not, List.length_map] at h h1 h2 h3
  have H : ∀ (n i : Nat) j jr g, i + n = v.pre.length → mayV v = (v.pre.drop i).all identL → LoopAt E1 Tryz.f26 (bolP (mayV v)) 0 (ref07_May_S0 v i j jr g) := by
    intro n
    induction n with
    | zero =>
      intro i j jr g hi hd
      refine loop_go 2000 _ (Eq.mpr (ref07_May_go_S0 v i j jr g _) ⟨rfl, fun h => ?_, fun h => ?_⟩)
      · simp at h; omega
      · rw [hd, drop_nil (by omega)]; rfl
    | succ n ih =>
      intro i j jr g hi hd
      have h1 : i < v.pre.length := by omega
      rw [List.drop_eq_getElem_cons h1, List.all_cons] at hd
      refine loop_go 2000 _ (Eq.mpr (ref07_May_go_S0 v i j jr g _) ⟨rfl, fun h => ?_, fun h => ?_⟩)
      · simp only [Int.toNat_natCast, gI_nat, gI_zero, getD_lt h1]
        refine ⟨trivial, ⟨by omega, sl_at hv.sl h1⟩, by simp [h1, strP], den_ref07_ident _, fun h4 => ?_, fun h4 j jr g => ?_⟩
        · simp only [Bool.not_eq_true'] at h4; rw [hd, h4]; rfl
        · simp only [Bool.not_eq_false'] at h4
          rw [wrap_i64 _ (by omega) (by omega)]
          exact ih (i + 1) j jr g (by omega) (by rw [hd, h4]; rfl)
      · simp at h; omega
  have h5 : v.pre.length ≤ 8 := by omega
  exact H v.pre.length 0 j jr g (by omega) (by simp [mayV, h5]; omega)
end Go.Proofs.YtlhfgonjcpapnaaGreatDoor.Abs

namespace Go.Proofs.YtlhfgonjcpapnaaGreatDoor.Abs
open Go Go.Proofs
def ordV (v w : V) : Int := if mayV v && mayV w then cmpV v w else 0
def befE (a b : Ed) : Int :=
  if a.less && b.less then 0 else if a.less then 1 else if b.less then -1
  else if ordV a.v b.v != 0 then ordV a.v b.v
  else if a.behind == b.behind then 0 else if b.behind then -1 else 1
def emptyI (x : I) : Bool := !x.less && (decide (cmpV x.lo x.hi > 0) || (cmpV x.lo x.hi == 0 && (x.lopen || x.hopen)))
def lowB (x y : Bd) : Int := if cmpV x.v y.v != 0 || x.op == y.op then cmpV x.v y.v else if y.op then -1 else 1
def touchI (x y : I) : Bool := x.less || (decide (cmpV x.hi y.lo > 0) || (cmpV x.hi y.lo == 0 && !(x.hopen && y.lopen)))
def I.lb (x : I) : Bd := ⟨x.lo, x.lopen⟩
end Go.Proofs.YtlhfgonjcpapnaaGreatDoor.Abs

namespace Go.Proofs.YtlhfgonjcpapnaaGreatDoor.Abs
open Go Go.Proofs
theorem version_Cmp_go (v : V) (w : V) (r : PV) : FnGo E1 Tryz.f111 [V.p v, V.p w] r 2000 (.res (intP (errV (mayV v))) (.fork (.lts 5 (.hole 0)) (.lit (.lit (.res (intP (errV (mayV w))) (.lit (.lit (.fork (.hole 0) (.res (intP (cmpV v w)) (.hole 0)))))))))) =
  (((0 : Nat) = 0) ∧
 (Den E1 59 [V.p v] (intP (errV (mayV v)))) ∧
 ((errV (mayV v) != (0 : Int)) = true →
 ((.tup [intP 0, intP 70]) : PV) = r) ∧
 ((errV (mayV v) != (0 : Int)) = false →
 ((1 : Nat) = 1) ∧
 (Den E1 59 [V.p w] (intP (errV (mayV w)))) ∧
 ((errV (mayV w) != (0 : Int)) = true →
 ((.tup [intP 0, intP 70]) : PV) = r) ∧
 ((errV (mayV w) != (0 : Int)) = false →
 ((0 : Nat) = 0) ∧
 ((1 : Nat) = 1) ∧
 (Den E1 85 [V.p v, V.p w] (intP (cmpV v w))) ∧
 ((.tup [intP (cmpV v w), intP 0]) : PV) = r))) := by kernel_rfl
theorem span_order_go (v : V) (w : V) (r : PV) : FnGo E1 Tryz.f72 [V.p v, V.p w] r 2000 (.res (.tup [intP (ordV v w), intP (errV (mayV v && mayV w))]) (.hole 0)) =
  (((0 : Nat) = 0) ∧
 ((1 : Nat) = 1) ∧
 (Den E1 111 [V.p v, V.p w] (.tup [intP (ordV v w), intP (errV (mayV v && mayV w))])) ∧
 (intP (ordV v w)) = r) := by kernel_rfl
theorem span_before_go (x : Ed) (y : Ed) (r : PV) : FnGo E1 Tryz.f36 [Ed.p ⟨(Ed.v x), (Ed.behind x), (Ed.less x)⟩, Ed.p ⟨(Ed.v y), (Ed.behind y), (Ed.less y)⟩] r 2000 (.fork (.lts 3 (.fork (.hole 0) (.br true (.hole 0)))) (.lts 4 (.br false (.fork (.hole 0) (.res (intP (ordV (Ed.v x) (Ed.v y))) (.fork (.hole 0) (.fork (.hole 0) (.fork (.hole 0) (.hole 0))))))))) =
  (((0 : Nat) = 0) ∧
 ((Ed.less x) = true →
 ((1 : Nat) = 1) ∧
 ((Ed.less y) = true →
 (intP 0) = r) ∧
 ((Ed.less y) = false →
 ((0 : Nat) = 0) ∧
 ((Ed.less x) = true) ∧
 (intP 1) = r)) ∧
 ((Ed.less x) = false →
 ((0 : Nat) = 0) ∧
 ((Ed.less x) = false) ∧
 ((1 : Nat) = 1) ∧
 ((Ed.less y) = true →
 (intP (-1)) = r) ∧
 ((Ed.less y) = false →
 ((0 : Nat) = 0) ∧
 ((1 : Nat) = 1) ∧
 (Den E1 72 [V.p (Ed.v x), V.p (Ed.v y)] (intP (ordV (Ed.v x) (Ed.v y)))) ∧
 ((ordV (Ed.v x) (Ed.v y) != (0 : Int)) = true →
 (intP (ordV (Ed.v x) (Ed.v y))) = r) ∧
 ((ordV (Ed.v x) (Ed.v y) != (0 : Int)) = false →
 ((0 : Nat) = 0) ∧
 ((1 : Nat) = 1) ∧
 ((Ed.behind x == Ed.behind y) = true →
 (intP 0) = r) ∧
 ((Ed.behind x == Ed.behind y) = false →
 ((1 : Nat) = 1) ∧
 ((Ed.behind y) = true →
 (intP (-1)) = r) ∧
 ((Ed.behind y) = false →
 (intP 1) = r)))))) := by kernel_rfl
theorem ref08_empty_go (x : I) (r : PV) : FnGo E1 Tryz.f43 [I.p x] r 2000 (.fork (.hole 0) (.res (intP (cmpV (I.lo x) (I.hi x))) (.fork (.lts 5 (.hole 0)) (.lts 3 (.fork (.lts 4 (.fork (.lts 8 (.hole 0)) (.lts 8 (.hole 0)))) (.lts 8 (.hole 0))))))) =
  (((0 : Nat) = 0) ∧
 ((I.less x) = true →
 (bolP false) = r) ∧
 ((I.less x) = false →
 ((0 : Nat) = 0) ∧
 ((0 : Nat) = 0) ∧
 (Den E1 80 [V.p (I.lo x), V.p (I.hi x)] (intP (cmpV (I.lo x) (I.hi x)))) ∧
 ((decide (cmpV (I.lo x) (I.hi x) > (0 : Int))) = true →
 (bolP true) = r) ∧
 ((decide (cmpV (I.lo x) (I.hi x) > (0 : Int))) = false →
 ((cmpV (I.lo x) (I.hi x) == (0 : Int)) = true →
 ((0 : Nat) = 0) ∧
 ((I.lopen x) = true →
 (bolP true) = r) ∧
 ((I.lopen x) = false →
 ((0 : Nat) = 0) ∧
 (bolP (I.hopen x)) = r)) ∧
 ((cmpV (I.lo x) (I.hi x) == (0 : Int)) = false →
 (bolP false) = r)))) := by kernel_rfl
theorem ref08_low_go (x : Bd) (y : Bd) (r : PV) : FnGo E1 Tryz.f44 [Bd.p ⟨(Bd.v x), (Bd.op x)⟩, Bd.p ⟨(Bd.v y), (Bd.op y)⟩] r 2000 (.res (intP (cmpV (Bd.v x) (Bd.v y))) (.fork (.lts 7 (.hole 0)) (.lts 6 (.fork (.hole 0) (.fork (.hole 0) (.hole 0)))))) =
  (((0 : Nat) = 0) ∧
 ((1 : Nat) = 1) ∧
 (Den E1 80 [V.p (Bd.v x), V.p (Bd.v y)] (intP (cmpV (Bd.v x) (Bd.v y)))) ∧
 ((cmpV (Bd.v x) (Bd.v y) != (0 : Int)) = true →
 (intP (cmpV (Bd.v x) (Bd.v y))) = r) ∧
 ((cmpV (Bd.v x) (Bd.v y) != (0 : Int)) = false →
 ((0 : Nat) = 0) ∧
 ((1 : Nat) = 1) ∧
 ((Bd.op x == Bd.op y) = true →
 (intP (cmpV (Bd.v x) (Bd.v y))) = r) ∧
 ((Bd.op x == Bd.op y) = false →
 ((1 : Nat) = 1) ∧
 ((Bd.op y) = true →
 (intP (-1)) = r) ∧
 ((Bd.op y) = false →
 (intP 1) = r)))) := by kernel_rfl
theorem ref08_touch_go (x : I) (y : I) (r : PV) : FnGo E1 Tryz.f45 [I.p x, I.p y] r 2000 (.fork (.hole 0) (.res (intP (cmpV (I.hi x) (I.lo y))) (.fork (.lts 5 (.hole 0)) (.lts 3 (.fork (.lts 4 (.fork (.lts 9 (.hole 0)) (.lts 9 (.hole 0)))) (.lts 9 (.hole 0))))))) =
  (((0 : Nat) = 0) ∧
 ((I.less x) = true →
 (bolP true) = r) ∧
 ((I.less x) = false →
 ((0 : Nat) = 0) ∧
 ((1 : Nat) = 1) ∧
 (Den E1 80 [V.p (I.hi x), V.p (I.lo y)] (intP (cmpV (I.hi x) (I.lo y)))) ∧
 ((decide (cmpV (I.hi x) (I.lo y) > (0 : Int))) = true →
 (bolP true) = r) ∧
 ((decide (cmpV (I.hi x) (I.lo y) > (0 : Int))) = false →
 ((cmpV (I.hi x) (I.lo y) == (0 : Int)) = true →
 ((0 : Nat) = 0) ∧
 ((I.hopen x) = true →
 ((1 : Nat) = 1) ∧
 (bolP (!I.lopen y)) = r) ∧
 ((I.hopen x) = false →
 (bolP true) = r)) ∧
 ((cmpV (I.hi x) (I.lo y) == (0 : Int)) = false →
 (bolP false) = r)))) := by kernel_rfl
end Go.Proofs.YtlhfgonjcpapnaaGreatDoor.Abs

namespace Go.Proofs.YtlhfgonjcpapnaaGreatDoor.Abs
open Go Go.Proofs
theorem errV_ne (b : Bool) : (errV b != 0) = !b := by cases b <;> rfl
theorem den_version_Cmp (v w : V) (hv : v.ok) (hw : w.ok) : Den E1 111 [v.p, w.p] (.tup [intP (ordV v w), intP (errV (mayV v && mayV w))]) := by
  refine den1 2000 _ rfl (by kernel_rfl) rfl rfl rfl (Eq.mpr (version_Cmp_go v w _) ?_)
  simp only [errV_ne, Bool.not_eq_true', Bool.not_eq_false']
  refine ⟨trivial, den_version_May v hv, fun h => ?_, fun h => ⟨trivial, den_version_May w hw, fun h1 => ?_, fun h1 => ⟨trivial, trivial, den_compare v w hv hw, ?_⟩⟩⟩
  · simp [ordV, h, errV]
  · simp [ordV, h, h1, errV]
  · simp [ordV, h, h1, errV]
theorem den_span_order (v w : V) (hv : v.ok) (hw : w.ok) : Den E1 72 [v.p, w.p] (intP (ordV v w)) :=
  den1 2000 _ rfl (by kernel_rfl) rfl rfl rfl (Eq.mpr (span_order_go v w _) ⟨rfl, rfl, den_version_Cmp v w hv hw, rfl⟩)
theorem den_before (a b : Ed) (ha : a.v.ok) (hb : b.v.ok) : Den E1 36 [a.p, b.p] (intP (befE a b)) := by
  refine den1 2000 _ rfl (by kernel_rfl) rfl rfl rfl (Eq.mpr (span_before_go a b _) ?_)
  refine ⟨rfl, fun h => ⟨rfl, fun h1 => ?_, fun h1 => ⟨rfl, h, ?_⟩⟩, fun h => ⟨rfl, h, rfl, fun h1 => ?_, fun h1 => ⟨rfl, rfl, den_span_order _ _ ha hb, fun h2 => ?_, fun h2 => ⟨rfl, rfl, fun h3 => ?_, fun h3 => ⟨rfl, fun h4 => ?_, fun h4 => ?_⟩⟩⟩⟩⟩
  · simp [befE, h, h1]
  · simp [befE, h, h1]
  · simp [befE, h, h1]
  · simp [befE, h, h1, h2]
  · simp only [befE, h, h1, h2, h3]; rfl
  · simp only [befE, h, h1, h2, h3]; simp [h4]
  · simp only [befE, h, h1, h2, h3]; simp [h4]
theorem may_len {v : V} (h : mayV v = true) : v.pre.length < 4294967296 := by
  simp [mayV] at h; omega
theorem den_empty (x : I) (hx : x.ok) (h1 : mayV x.lo = true) (h2 : mayV x.hi = true) : Den E1 43 [x.p] (bolP (emptyI x)) := by
  refine den1 2000 _ rfl (by kernel_rfl) rfl rfl rfl (Eq.mpr (ref08_empty_go x _) ?_)
  refine ⟨rfl, fun h => ?_, fun h => ⟨rfl, rfl, den_ref07_Cmp _ _ hx.lo hx.hi (may_len h1) (may_len h2), fun h3 => ?_, fun h3 => ⟨fun h4 => ⟨rfl, fun h5 => ?_, fun h5 => ⟨rfl, ?_⟩⟩, fun h4 => ?_⟩⟩⟩
  · simp [emptyI, h]
  · simp only [emptyI, h, h3]; rfl
  · simp only [emptyI, h, h3, h4, h5]; rfl
  · simp only [emptyI, h, h3, h4, h5]; rfl
  · simp only [emptyI, h, h3, h4]; rfl
theorem den_ref08_low (x y : Bd) (hx : x.v.ok) (hy : y.v.ok) (h1 : mayV x.v = true) (h2 : mayV y.v = true) : Den E1 44 [x.p, y.p] (intP (lowB x y)) := by
  refine den1 2000 _ rfl (by kernel_rfl) rfl rfl rfl (Eq.mpr (ref08_low_go x y _) ?_)
  refine ⟨rfl, rfl, den_ref07_Cmp _ _ hx hy (may_len h1) (may_len h2), fun h3 => ?_, fun h3 => ⟨rfl, rfl, fun h4 => ?_, fun h4 => ⟨rfl, fun h5 => ?_, fun h5 => ?_⟩⟩⟩
  · simp only [lowB, h3]; rfl
  · simp only [lowB, h3, h4]; rfl
  · simp only [lowB, h3, h4]; simp [h5]
  · simp only [lowB, h3, h4]; simp [h5]
theorem den_touch (x y : I) (hx : x.ok) (hy : y.ok) (h1 : mayV x.hi = true) (h2 : mayV y.lo = true) : Den E1 45 [x.p, y.p] (bolP (touchI x y)) := by
  refine den1 2000 _ rfl (by kernel_rfl) rfl rfl rfl (Eq.mpr (ref08_touch_go x y _) ?_)
  refine ⟨rfl, fun h => ?_, fun h => ⟨rfl, rfl, den_ref07_Cmp _ _ hx.hi hy.lo (may_len h1) (may_len h2), fun h3 => ?_, fun h3 => ⟨fun h4 => ⟨rfl, fun h5 => ⟨rfl, ?_⟩, fun h5 => ?_⟩, fun h4 => ?_⟩⟩⟩
  · simp only [touchI, h]; rfl
  · simp only [touchI, h, h3]; rfl
  · simp only [touchI, h, h3, h4, h5]; rfl
  · simp only [touchI, h, h3, h4, h5]; rfl
  · simp only [touchI, h, h3, h4]; rfl
end Go.Proofs.YtlhfgonjcpapnaaGreatDoor.Abs

namespace Go.Proofs.YtlhfgonjcpapnaaGreatDoor.Abs
open Go Go.Proofs
theorem fits_small {n : Nat} (h : n ≤ 1000000) : fitsRow n 16 = true := by
  have h1 : n * 16 ≤ room47 := by unfold room47; omega
  have h2 : n ≤ maxInt := by unfold maxInt; omega
  simp [fitsRow, h1, h2]
end Go.Proofs.YtlhfgonjcpapnaaGreatDoor.Abs

namespace Go.Proofs.YtlhfgonjcpapnaaGreatDoor.Abs
open Go Go.Proofs
structure Tr {α : Type} (f : α → α → Int) : Prop where
  ll : ∀ a b c, f a b < 0 → f b c < 0 → f a c < 0
  le : ∀ a b c, f a b < 0 → f b c = 0 → f a c < 0
  el : ∀ a b c, f a b = 0 → f b c < 0 → f a c < 0
  ee : ∀ a b c, f a b = 0 → f b c = 0 → f a c = 0
def lex2 {α : Type} (f g : α → α → Int) (a b : α) : Int := if f a b ≠ 0 then f a b else g a b
theorem Tr.lex {α : Type} {f g : α → α → Int} (hf : Tr f) (hg : Tr g) : Tr (lex2 f g) := by
  have cases2 : ∀ a b, lex2 f g a b < 0 → f a b < 0 ∨ (f a b = 0 ∧ g a b < 0) := by
    intro a b h
    unfold lex2 at h
    split at h
    · exact .inl h
    · rename_i h0; exact .inr ⟨by simpa using h0, h⟩
  have cases0 : ∀ a b, lex2 f g a b = 0 → f a b = 0 ∧ g a b = 0 := by
    intro a b h
    unfold lex2 at h
    split at h
    · rename_i h0; exact absurd h h0
    · rename_i h0; exact ⟨by simpa using h0, h⟩
  have lt : ∀ a b, f a b < 0 → lex2 f g a b < 0 := fun a b h => by unfold lex2; rw [if_pos (by omega)]; exact h
  have eq : ∀ a b, f a b = 0 → lex2 f g a b = g a b := fun a b h => by unfold lex2; rw [if_neg (by omega)]
  refine ⟨fun a b c h1 h2 => ?_, fun a b c h1 h2 => ?_, fun a b c h1 h2 => ?_, fun a b c h1 h2 => ?_⟩
  · rcases cases2 a b h1 with h1 | ⟨h1, h1'⟩ <;> rcases cases2 b c h2 with h2 | ⟨h2, h2'⟩
    · exact lt _ _ (hf.ll _ _ _ h1 h2)
    · exact lt _ _ (hf.le _ _ _ h1 h2)
    · exact lt _ _ (hf.el _ _ _ h1 h2)
    · rw [eq _ _ (hf.ee _ _ _ h1 h2)]; exact hg.ll _ _ _ h1' h2'
  · obtain ⟨h2, h2'⟩ := cases0 b c h2
    rcases cases2 a b h1 with h1 | ⟨h1, h1'⟩
    · exact lt _ _ (hf.le _ _ _ h1 h2)
    · rw [eq _ _ (hf.ee _ _ _ h1 h2)]; exact hg.le _ _ _ h1' h2'
  · obtain ⟨h1, h1'⟩ := cases0 a b h1
    rcases cases2 b c h2 with h2 | ⟨h2, h2'⟩
    · exact lt _ _ (hf.el _ _ _ h1 h2)
    · rw [eq _ _ (hf.ee _ _ _ h1 h2)]; exact hg.el _ _ _ h1' h2'
  · obtain ⟨h1, h1'⟩ := cases0 a b h1
    obtain ⟨h2, h2'⟩ := cases0 b c h2
    rw [eq _ _ (hf.ee _ _ _ h1 h2)]; exact hg.ee _ _ _ h1' h2'
theorem cmpI_lt (x y : Int) : cmpI x y < 0 ↔ x < y := by unfold cmpI; split <;> (try split) <;> omega
theorem Tr.key {α : Type} (k : α → Int) : Tr (fun a b => cmpI (k a) (k b)) := by
  refine ⟨fun a b c h1 h2 => ?_, fun a b c h1 h2 => ?_, fun a b c h1 h2 => ?_, fun a b c h1 h2 => ?_⟩ <;> simp only [cmpI_lt, cmpI_eq] at * <;> omega
def lexL {α : Type} (f : α → α → Int) : List α → List α → Int
  | [], [] => 0
  | [], _ :: _ => -1
  | _ :: _, [] => 1
  | a :: x, b :: y => if f a b ≠ 0 then f a b else lexL f x y
theorem Tr.list {α : Type} {f : α → α → Int} (hf : Tr f) : Tr (lexL f) := by
  have c2 : ∀ (a b : α) (x y : List α), lexL f (a :: x) (b :: y) < 0 → f a b < 0 ∨ (f a b = 0 ∧ lexL f x y < 0) := by
    intro a b x y h
    simp only [lexL] at h
    split at h
    · exact .inl h
    · rename_i h0; exact .inr ⟨by simpa using h0, h⟩
  have c0 : ∀ (a b : α) (x y : List α), lexL f (a :: x) (b :: y) = 0 → f a b = 0 ∧ lexL f x y = 0 := by
    intro a b x y h
    simp only [lexL] at h
    split at h
    · rename_i h0; exact absurd h h0
    · rename_i h0; exact ⟨by simpa using h0, h⟩
  have lt : ∀ (a b : α) (x y : List α), f a b < 0 → lexL f (a :: x) (b :: y) < 0 := fun a b x y h => by simp only [lexL]; rw [if_pos (by omega)]; exact h
  have eq : ∀ (a b : α) (x y : List α), f a b = 0 → lexL f (a :: x) (b :: y) = lexL f x y := fun a b x y h => by simp only [lexL]; rw [if_neg (by omega)]
  have key : ∀ (x y z : List α), (lexL f x y < 0 → lexL f y z < 0 → lexL f x z < 0) ∧ (lexL f x y < 0 → lexL f y z = 0 → lexL f x z < 0) ∧ (lexL f x y = 0 → lexL f y z < 0 → lexL f x z < 0) ∧ (lexL f x y = 0 → lexL f y z = 0 → lexL f x z = 0) := by
    intro x
    induction x with
    | nil =>
      intro y z
      cases y with
      | nil => cases z <;> simp [lexL]
      | cons b y => cases z <;> simp [lexL]
    | cons a x ih =>
      intro y z
      cases y with
      | nil => simp [lexL]
      | cons b y => cases z with
        | nil => simp [lexL]
        | cons c z =>
          obtain ⟨i1, i2, i3, i4⟩ := ih y z
          refine ⟨fun h1 h2 => ?_, fun h1 h2 => ?_, fun h1 h2 => ?_, fun h1 h2 => ?_⟩
          · rcases c2 _ _ _ _ h1 with h1 | ⟨h1, h1'⟩ <;> rcases c2 _ _ _ _ h2 with h2 | ⟨h2, h2'⟩
            · exact lt _ _ _ _ (hf.ll _ _ _ h1 h2)
            · exact lt _ _ _ _ (hf.le _ _ _ h1 h2)
            · exact lt _ _ _ _ (hf.el _ _ _ h1 h2)
            · rw [eq _ _ _ _ (hf.ee _ _ _ h1 h2)]; exact i1 h1' h2'
          · obtain ⟨h2, h2'⟩ := c0 _ _ _ _ h2
            rcases c2 _ _ _ _ h1 with h1 | ⟨h1, h1'⟩
            · exact lt _ _ _ _ (hf.le _ _ _ h1 h2)
            · rw [eq _ _ _ _ (hf.ee _ _ _ h1 h2)]; exact i2 h1' h2'
          · obtain ⟨h1, h1'⟩ := c0 _ _ _ _ h1
            rcases c2 _ _ _ _ h2 with h2 | ⟨h2, h2'⟩
            · exact lt _ _ _ _ (hf.el _ _ _ h1 h2)
            · rw [eq _ _ _ _ (hf.ee _ _ _ h1 h2)]; exact i3 h1' h2'
          · obtain ⟨h1, h1'⟩ := c0 _ _ _ _ h1
            obtain ⟨h2, h2'⟩ := c0 _ _ _ _ h2
            rw [eq _ _ _ _ (hf.ee _ _ _ h1 h2)]; exact i4 h1' h2'
  exact ⟨fun a b c => (key a b c).1, fun a b c => (key a b c).2.1, fun a b c => (key a b c).2.2.1, fun a b c => (key a b c).2.2.2⟩
theorem cmpP_lex : ∀ x y, cmpP x y = lexL ordL x y
  | [], [] => rfl
  | [], _ :: _ => rfl
  | _ :: _, [] => rfl
  | a :: x, b :: y => by simp only [cmpP, lexL, cmpP_lex x y]
theorem cmpS_lex : ∀ x y : List UInt8, cmpS x y = lexL (fun a b => cmpI (a.toNat : Int) (b.toNat : Int)) x y
  | [], [] => rfl
  | [], _ :: _ => rfl
  | a :: x, [] => by simp [cmpS, lexL, Op.bytesLess]
  | a :: x, b :: y => by
    have ih := cmpS_lex x y
    simp only [lexL, ← ih]
    by_cases h : a.toNat < b.toNat
    · have h1 : a < b := h
      have h2 : cmpI (a.toNat : Int) (b.toNat : Int) = -1 := by unfold cmpI; rw [if_pos (by omega)]
      simp [cmpS, Op.bytesLess, h1, h2]
    · by_cases h3 : b.toNat < a.toNat
      · have h1 : ¬ a < b := h
        have h4 : ¬ a = b := fun e => by subst e; omega
        have h2 : cmpI (a.toNat : Int) (b.toNat : Int) = 1 := by unfold cmpI; rw [if_neg (by omega), if_pos (by omega)]
        simp [cmpS, Op.bytesLess, h1, h2, h4]
      · have h4 : a = b := UInt8.toNat_inj.1 (by omega)
        subst h4
        have h1 : ¬ a < a := h
        simp [cmpS, Op.bytesLess, h1, cmpI_self]
theorem Tr.congr {α : Type} {f g : α → α → Int} (h : ∀ a b, f a b = g a b) (hg : Tr g) : Tr f := by
  have : f = g := by funext a b; exact h a b
  rw [this]; exact hg
theorem tr_cmpS : Tr cmpS := Tr.congr cmpS_lex (Tr.list (Tr.key fun a : UInt8 => (a.toNat : Int)))
def rankL (a : List UInt8) : Int := if digitsL a then 0 else 1
def lenL (a : List UInt8) : Int := if digitsL a then a.length else 0
theorem ordL_lex (a b : List UInt8) : ordL a b = lex2 (fun a b => cmpI (rankL a) (rankL b)) (lex2 (fun a b => cmpI (lenL a) (lenL b)) cmpS) a b := by
  unfold ordL lex2 rankL lenL
  cases h1 : digitsL a <;> cases h2 : digitsL b
  · simp [h1, h2, cmpI_self]
  · simp [h1, h2, cmpI]
  · simp [h1, h2, cmpI]
  · simp [h1, h2, cmpI_self]
theorem tr_ordL : Tr ordL := Tr.congr ordL_lex (Tr.lex (Tr.key rankL) (Tr.lex (Tr.key lenL) tr_cmpS))
def relV (v : V) : Int := if v.pre.length = 0 then 1 else 0
theorem cmpV_lex (v w : V) : cmpV v w = lex2 (fun v w => cmpI v.a w.a) (lex2 (fun v w => cmpI v.b w.b) (lex2 (fun v w => cmpI v.c w.c) (lex2 (fun v w => cmpI (relV v) (relV w)) (fun v w => lexL ordL v.pre w.pre)))) v w := by
  unfold cmpV cmpN or3 lex2
  by_cases ha : cmpI v.a w.a = 0
  · by_cases hb : cmpI v.b w.b = 0
    · by_cases hc : cmpI v.c w.c = 0
      · simp only [ha, hb, hc, ne_eq, not_true, if_false]
        unfold relV
        by_cases h1 : v.pre.length = 0
        · by_cases h2 : w.pre.length = 0
          · have e1 : v.pre = [] := List.length_eq_zero_iff.1 h1
            have e2 : w.pre = [] := List.length_eq_zero_iff.1 h2
            simp [e1, e2, cmpI_self, lexL]
          · simp [h1, h2, cmpI] <;> omega
        · by_cases h2 : w.pre.length = 0
          · simp [h1, h2, cmpI] <;> omega
          · simp [h1, h2, cmpI_self, cmpP_lex]
      · simp [ha, hb, hc]
    · simp [ha, hb]
  · simp [ha]
theorem tr_cmpV : Tr cmpV := Tr.congr cmpV_lex (Tr.lex (Tr.key V.a) (Tr.lex (Tr.key V.b) (Tr.lex (Tr.key V.c) (Tr.lex (Tr.key relV) ⟨fun a b c => (Tr.list tr_ordL).ll _ _ _, fun a b c => (Tr.list tr_ordL).le _ _ _, fun a b c => (Tr.list tr_ordL).el _ _ _, fun a b c => (Tr.list tr_ordL).ee _ _ _⟩))))
theorem ordV_may {v w : V} (hv : mayV v = true) (hw : mayV w = true) : ordV v w = cmpV v w := by simp [ordV, hv, hw]
end Go.Proofs.YtlhfgonjcpapnaaGreatDoor.Abs

namespace Go.Proofs.YtlhfgonjcpapnaaGreatDoor.Abs
open Go Go.Proofs
theorem pk_msl {h : Heap} {d s g n m k : Nat} {full fz : Bool} {e : TypeId} {xs : List PV} (hb : hget h d s = ⟨g, .row k e xs fz⟩) (hn : xs.length = n) : pk h (m + 1) (.msl d s g 0 n full) = some (.sl k false full xs, [(d, s)]) := by
  have hl : live h d s g = .row k e xs fz := by unfold live; rw [hb]; simp
  simp only [pk, hl]
  rw [if_pos (by omega), ← hn]
  simp
theorem frz_msl {h : Heap} {d s g n k : Nat} {full fz : Bool} {e : TypeId} {xs : List PV} {p : PV} (hb : hget h d s = ⟨g, .row k e xs fz⟩) (hn : xs.length = n) (hp : p = .sl k false full xs) : ∃ h1, frz frzDepth (.msl d s g 0 n full) h = some (p, h1) := by
  refine ⟨marks [(d, s)] h, ?_⟩
  unfold frz
  rw [frzDepth, pk_msl hb hn, hp]
  rfl
end Go.Proofs.YtlhfgonjcpapnaaGreatDoor.Abs

namespace Go.Proofs.YtlhfgonjcpapnaaGreatDoor.Abs
open Go Go.Proofs
theorem reach_small {n : Nat} (h : n ≤ reachBytes) : small n := by
  have := reachBytes_lt
  unfold small
  omega
theorem well_str {n : Nat} {r : List PV} (h : wellP Tryz.prog n 9 r) : ∃ s : List UInt8, r = [strP s] ∧ s.length ≤ reachBytes := by
  have h := well_str0 Tryz.underlying9 h
  obtain ⟨s, h1, h2⟩ := h
  refine ⟨s.data.toList, h1, ?_⟩
  rw [Array.length_toList]
  exact h2
theorem well_strs {n : Nat} {r : List PV} (h : wellP Tryz.prog n 33 r) : ∃ k nl l, r = [preP k nl false l] ∧ slOk 1 k nl l.length ∧ l.length * 16 ≤ reachBytes ∧ ∀ s ∈ l, s.length ≤ reachBytes := by
  obtain ⟨n, h⟩ := well_sl0 Tryz.underlying33 h
  obtain ⟨k, nl, rs, rfl, h1, h2, h3⟩ := h
  have hc : Tryz.prog.cellsOf 9 = 1 := by kernel_rfl
  have hb : Tryz.prog.bytesOf 9 = 16 := by kernel_rfl
  have hs : isSt Tryz.prog 9 = false := isSt_str Tryz.underlying9
  rw [hc] at h1
  rw [hb] at h2
  rw [hs]
  have hx : ∀ rs : List (List PV), (∀ r ∈ rs, wellP Tryz.prog n 9 r) → ∃ l : List (List UInt8), rs.map (mkE false) = l.map strP ∧ l.length = rs.length ∧ ∀ s ∈ l, s.length ≤ reachBytes := by
    intro rs
    induction rs with
    | nil => intro _; exact ⟨[], rfl, rfl, fun s hs => absurd hs List.not_mem_nil⟩
    | cons r rs ih =>
      intro h
      obtain ⟨s, h1, h2⟩ := well_str (h r (by simp))
      obtain ⟨l, h3, h4, h5⟩ := ih (fun r hr => h r (by simp [hr]))
      refine ⟨s :: l, ?_, by simp [h4], fun t ht => ?_⟩
      · rw [List.map_cons, List.map_cons, h3, h1]; rfl
      · cases List.mem_cons.1 ht with
        | inl e => rw [e]; exact h2
        | inr e => exact h5 t e
  obtain ⟨l, h4, h5, h6⟩ := hx rs h3
  refine ⟨k, nl, l, ?_, ?_, ?_, h6⟩
  · rw [h4]
  · rw [h5]; exact h1
  · rw [h5]; exact h2
end Go.Proofs.YtlhfgonjcpapnaaGreatDoor.Abs

namespace Go.Proofs.YtlhfgonjcpapnaaGreatDoor.Abs
open Go Go.Proofs
def twK (l : List I) : Nat := if l.length = 0 then 0 else 11
def twN (l : List I) : Bool := decide (l.length = 0)
end Go.Proofs.YtlhfgonjcpapnaaGreatDoor.Abs

namespace Go.Proofs.YtlhfgonjcpapnaaGreatDoor.Abs
open Go Go.Proofs
theorem den_alive : Den E1 10 [] (bolP true) := den_intr (F := aliveP) rfl rfl
end Go.Proofs.YtlhfgonjcpapnaaGreatDoor.Abs

namespace Go.Proofs.YtlhfgonjcpapnaaGreatDoor.Abs
open Go Go.Proofs
def highI (x y : I) : Int :=
  if x.less then (if y.less then 0 else 1) else if y.less then -1
  else if cmpV x.hi y.hi != 0 then cmpV x.hi y.hi else if x.hopen == y.hopen then cmpV x.hi y.hi else if x.hopen then -1 else 1
def insPos (s : List I) (x : I) : Nat → Nat
  | 0 => 0
  | k + 1 => if lowB (s.getD k default).lb x.lb > 0 then insPos s x k else k + 1
def insR (s : List I) (x : I) : List I := s.take (insPos s x s.length) ++ x :: s.drop (insPos s x s.length)
def sortR (l s : List I) : List I := l.foldl (fun s x => if emptyI x then s else insR s x) s
def upR (y x : I) : I := { y with hi := x.hi, hopen := x.hopen, less := x.less }
def stepR (out : List I) (x : I) : List I :=
  if out.isEmpty then [x]
  else if touchI (out.getD (out.length - 1) default) x then
    (if highI (out.getD (out.length - 1) default) x < 0 then out.set (out.length - 1) (upR (out.getD (out.length - 1) default) x) else out)
  else out ++ [x]
def joinR (l : List I) : List I := (sortR l []).foldl stepR []
abbrev resL (l : List I) : PV := listP (twK l) (twN l) (twN l) l
def meet1 (x y : I) : I := 
  let x := if lowB x.lb y.lb < 0 then { x with lo := y.lo, lopen := y.lopen } else x
  if highI y x < 0 then upR x y else x
def meetR (a b : List I) : List I := joinR (a.flatMap fun x => b.map fun y => meet1 x y)
end Go.Proofs.YtlhfgonjcpapnaaGreatDoor.Abs

namespace Go.Proofs.YtlhfgonjcpapnaaGreatDoor.Abs
open Go Go.Proofs
theorem ref08_high_go (x : I) (y : I) (r : PV) : FnGo E1 Tryz.f100 [I.p x, I.p y] r 2000 (.fork (.lts 4 (.br true (.lts 3 (.fork (.hole 0) (.br true (.hole 0)))))) (.lts 3 (.fork (.br false (.lts 4 (.br false (.hole 0)))) (.res (intP (cmpV (I.hi x) (I.hi y))) (.fork (.lts 9 (.hole 0)) (.lts 8 (.fork (.hole 0) (.fork (.hole 0) (.hole 0))))))))) =
  (((0 : Nat) = 0) ∧
 ((I.less x) = true →
 ((0 : Nat) = 0) ∧
 ((I.less x) = true) ∧
 ((1 : Nat) = 1) ∧
 ((I.less y) = true →
 (intP 0) = r) ∧
 ((I.less y) = false →
 ((0 : Nat) = 0) ∧
 ((I.less x) = true) ∧
 (intP 1) = r)) ∧
 ((I.less x) = false →
 ((1 : Nat) = 1) ∧
 ((I.less y) = true →
 ((0 : Nat) = 0) ∧
 ((I.less x) = false) ∧
 ((0 : Nat) = 0) ∧
 ((I.less x) = false) ∧
 (intP (-1)) = r) ∧
 ((I.less y) = false →
 ((0 : Nat) = 0) ∧
 ((1 : Nat) = 1) ∧
 (Den E1 80 [V.p (I.hi x), V.p (I.hi y)] (intP (cmpV (I.hi x) (I.hi y)))) ∧
 ((cmpV (I.hi x) (I.hi y) != (0 : Int)) = true →
 (intP (cmpV (I.hi x) (I.hi y))) = r) ∧
 ((cmpV (I.hi x) (I.hi y) != (0 : Int)) = false →
 ((0 : Nat) = 0) ∧
 ((1 : Nat) = 1) ∧
 ((I.hopen x == I.hopen y) = true →
 (intP (cmpV (I.hi x) (I.hi y))) = r) ∧
 ((I.hopen x == I.hopen y) = false →
 ((0 : Nat) = 0) ∧
 ((I.hopen x) = true →
 (intP (-1)) = r) ∧
 ((I.hopen x) = false →
 (intP 1) = r)))))) := by kernel_rfl
def ref08_join_S0 (l : List I) (k : Nat) (nl : Bool) (full : Bool) (i : Int) (j : Nat → AV) (jr : Nat → Row) (g : Nat) : St :=
  { t := [.pv (.sl k nl full (List.map I.p l)), j 1, j 2, .pv (.sl 0 true true []), intA i] ++ jj j 5 125, h := [[row0, row0, row0, row0, row0, row0, row0, row0, row0, row0, row0, row0, row0, row0, row0, row0, row0, row0, row0, row0, row0, row0, row0, row0, row0, row0, row0, row0, row0, row0, row0, row0, row0, row0, row0, row0, row0, row0, row0, row0, row0, row0, row0, row0, jr 44, row0, row0, row0, row0, row0, row0, row0, row0, row0, row0, row0, row0, row0, row0, row0, row0, row0, row0, row0, row0, row0, row0, row0, row0, row0, row0, row0, row0, row0, row0, row0, row0, row0, row0, row0, row0, row0, row0, row0, row0, row0, row0, row0, row0, row0, row0, row0, row0, row0, row0, row0, row0, row0, row0, row0, row0, row0, row0, row0, row0, row0, row0, row0, row0, row0, row0, row0, row0, row0, row0, row0, row0, row0, row0, row0, row0, row0, row0, row0, row0, row0, row0, jr 127, jr 128, row0]], g := g }
def ref08_join_S1 (l : List I) (k : Nat) (nl : Bool) (full : Bool) (i : Int) (j : Nat → AV) (jr : Nat → Row) (g : Nat) : St :=
  { t := [.pv (.sl k nl full (List.map I.p l)), j 1, j 2, .pv (.sl 0 true true []), intA i, intA 0] ++ jj j 6 124, h := [[row0, row0, row0, row0, row0, row0, row0, row0, row0, row0, row0, row0, row0, row0, row0, row0, row0, row0, row0, row0, row0, row0, row0, row0, row0, row0, row0, row0, row0, row0, row0, row0, row0, row0, row0, row0, row0, row0, row0, row0, row0, row0, row0, row0, jr 44, row0, row0, row0, row0, row0, row0, row0, row0, row0, row0, row0, row0, row0, row0, row0, row0, row0, row0, row0, row0, row0, row0, row0, row0, row0, row0, row0, row0, row0, row0, row0, row0, row0, row0, row0, row0, row0, row0, row0, row0, row0, row0, row0, row0, row0, row0, row0, row0, row0, row0, row0, row0, row0, row0, row0, row0, row0, row0, row0, row0, row0, row0, row0, row0, row0, row0, row0, row0, row0, row0, row0, row0, row0, row0, row0, row0, row0, row0, row0, row0, row0, row0, jr 127, jr 128, row0]], g := g }
def ref08_join_S2 (l : List I) (k : Nat) (nl : Bool) (full : Bool) (i : Int) (p : Int) (q : Int) (gm : Nat) (n : Nat) (xsI : List PV) (j : Nat → AV) (jr : Nat → Row) (g : Nat) : St :=
  { t := [.pv (.sl k nl full (List.map I.p l)), j 1, j 2, .msl 0 45 gm 0 n false, intA i, intA p, intA q] ++ jj j 7 123, h := [[row0, row0, row0, row0, row0, row0, row0, row0, row0, row0, row0, row0, row0, row0, row0, row0, row0, row0, row0, row0, row0, row0, row0, row0, row0, row0, row0, row0, row0, row0, row0, row0, row0, row0, row0, row0, row0, row0, row0, row0, row0, row0, row0, row0, jr 44, ⟨gm, .row 11 63 xsI false⟩, row0, row0, row0, row0, row0, row0, row0, row0, row0, row0, row0, row0, row0, row0, row0, row0, row0, row0, row0, row0, row0, row0, row0, row0, row0, row0, row0, row0, row0, row0, row0, row0, row0, row0, row0, row0, row0, row0, row0, row0, row0, row0, row0, row0, row0, row0, row0, row0, row0, row0, row0, row0, row0, row0, row0, row0, row0, row0, row0, row0, row0, row0, row0, row0, row0, row0, row0, row0, row0, row0, row0, row0, row0, row0, row0, row0, row0, row0, row0, row0, row0, jr 127, jr 128, row0]], g := g }
def ref08_join_S3 (l : List I) (k : Nat) (nl : Bool) (full : Bool) (i : Int) (gm : Nat) (n : Nat) (xsI : List PV) (j : Nat → AV) (jr : Nat → Row) (g : Nat) : St :=
  { t := [.pv (.sl k nl full (List.map I.p l)), j 1, j 2, .msl 0 45 gm 0 n false, intA i] ++ jj j 5 125, h := [[row0, row0, row0, row0, row0, row0, row0, row0, row0, row0, row0, row0, row0, row0, row0, row0, row0, row0, row0, row0, row0, row0, row0, row0, row0, row0, row0, row0, row0, row0, row0, row0, row0, row0, row0, row0, row0, row0, row0, row0, row0, row0, row0, row0, jr 44, ⟨gm, .row 11 63 xsI false⟩, row0, row0, row0, row0, row0, row0, row0, row0, row0, row0, row0, row0, row0, row0, row0, row0, row0, row0, row0, row0, row0, row0, row0, row0, row0, row0, row0, row0, row0, row0, row0, row0, row0, row0, row0, row0, row0, row0, row0, row0, row0, row0, row0, row0, row0, row0, row0, row0, row0, row0, row0, row0, row0, row0, row0, row0, row0, row0, row0, row0, row0, row0, row0, row0, row0, row0, row0, row0, row0, row0, row0, row0, row0, row0, row0, row0, row0, row0, row0, row0, row0, jr 127, jr 128, row0]], g := g }
def ref08_join_S4 (l : List I) (k : Nat) (nl : Bool) (full : Bool) (i : Int) (p : Int) (gm : Nat) (n : Nat) (xsI : List PV) (j : Nat → AV) (jr : Nat → Row) (g : Nat) : St :=
  { t := [.pv (.sl k nl full (List.map I.p l)), j 1, j 2, .msl 0 45 gm 0 n false, intA i, intA p] ++ jj j 6 124, h := [[row0, row0, row0, row0, row0, row0, row0, row0, row0, row0, row0, row0, row0, row0, row0, row0, row0, row0, row0, row0, row0, row0, row0, row0, row0, row0, row0, row0, row0, row0, row0, row0, row0, row0, row0, row0, row0, row0, row0, row0, row0, row0, row0, row0, jr 44, ⟨gm, .row 11 63 xsI false⟩, row0, row0, row0, row0, row0, row0, row0, row0, row0, row0, row0, row0, row0, row0, row0, row0, row0, row0, row0, row0, row0, row0, row0, row0, row0, row0, row0, row0, row0, row0, row0, row0, row0, row0, row0, row0, row0, row0, row0, row0, row0, row0, row0, row0, row0, row0, row0, row0, row0, row0, row0, row0, row0, row0, row0, row0, row0, row0, row0, row0, row0, row0, row0, row0, row0, row0, row0, row0, row0, row0, row0, row0, row0, row0, row0, row0, row0, row0, row0, row0, row0, jr 127, jr 128, row0]], g := g }
def ref08_join_S5 (l : List I) (k : Nat) (nl : Bool) (full : Bool) (z : Row) (j : Nat → AV) (jr : Nat → Row) (g : Nat) : St :=
  { t := [j 0, j 1, j 2, .pv (.sl 0 true true []), j 4, j 5, j 6, .pv (.sl 0 true true []), intA 0] ++ jj j 9 121, h := [[row0, row0, row0, row0, row0, row0, row0, row0, row0, row0, row0, row0, row0, row0, row0, row0, row0, row0, row0, row0, row0, row0, row0, row0, row0, row0, row0, row0, row0, row0, row0, row0, row0, row0, row0, row0, row0, row0, row0, row0, row0, row0, row0, row0, jr 44, row0, row0, row0, row0, row0, row0, row0, row0, row0, row0, row0, row0, row0, row0, row0, row0, row0, row0, row0, row0, row0, row0, row0, row0, row0, row0, row0, row0, row0, row0, row0, row0, row0, row0, row0, row0, row0, row0, row0, row0, row0, row0, row0, row0, row0, row0, row0, row0, row0, row0, row0, row0, row0, row0, row0, row0, row0, row0, row0, row0, row0, row0, row0, row0, row0, row0, row0, row0, row0, row0, row0, row0, row0, row0, row0, row0, row0, row0, row0, row0, row0, row0, jr 127, z, row0]], g := g }
def ref08_join_S6 (l : List I) (k : Nat) (nl : Bool) (full : Bool) (i : Int) (gm : Nat) (n : Nat) (xsI : List PV) (z : Row) (j : Nat → AV) (jr : Nat → Row) (g : Nat) : St :=
  { t := [j 0, j 1, j 2, .msl 0 45 gm 0 n false, j 4, j 5, j 6, .pv (.sl 0 true true []), intA i] ++ jj j 9 121, h := [[row0, row0, row0, row0, row0, row0, row0, row0, row0, row0, row0, row0, row0, row0, row0, row0, row0, row0, row0, row0, row0, row0, row0, row0, row0, row0, row0, row0, row0, row0, row0, row0, row0, row0, row0, row0, row0, row0, row0, row0, row0, row0, row0, row0, jr 44, ⟨gm, .row 11 63 xsI false⟩, row0, row0, row0, row0, row0, row0, row0, row0, row0, row0, row0, row0, row0, row0, row0, row0, row0, row0, row0, row0, row0, row0, row0, row0, row0, row0, row0, row0, row0, row0, row0, row0, row0, row0, row0, row0, row0, row0, row0, row0, row0, row0, row0, row0, row0, row0, row0, row0, row0, row0, row0, row0, row0, row0, row0, row0, row0, row0, row0, row0, row0, row0, row0, row0, row0, row0, row0, row0, row0, row0, row0, row0, row0, row0, row0, row0, row0, row0, row0, row0, row0, jr 127, z, row0]], g := g }
def ref08_join_S7 (l : List I) (k : Nat) (nl : Bool) (full : Bool) (i : Int) (gm : Nat) (n : Nat) (go : Nat) (m : Nat) (xsI : List PV) (ysI : List PV) (j : Nat → AV) (jr : Nat → Row) (g : Nat) : St :=
  { t := [j 0, j 1, j 2, .msl 0 45 gm 0 n false, j 4, j 5, j 6, .msl 0 128 go 0 m false, intA i] ++ jj j 9 121, h := [[row0, row0, row0, row0, row0, row0, row0, row0, row0, row0, row0, row0, row0, row0, row0, row0, row0, row0, row0, row0, row0, row0, row0, row0, row0, row0, row0, row0, row0, row0, row0, row0, row0, row0, row0, row0, row0, row0, row0, row0, row0, row0, row0, row0, jr 44, ⟨gm, .row 11 63 xsI false⟩, row0, row0, row0, row0, row0, row0, row0, row0, row0, row0, row0, row0, row0, row0, row0, row0, row0, row0, row0, row0, row0, row0, row0, row0, row0, row0, row0, row0, row0, row0, row0, row0, row0, row0, row0, row0, row0, row0, row0, row0, row0, row0, row0, row0, row0, row0, row0, row0, row0, row0, row0, row0, row0, row0, row0, row0, row0, row0, row0, row0, row0, row0, row0, row0, row0, row0, row0, row0, row0, row0, row0, row0, row0, row0, row0, row0, row0, row0, row0, row0, row0, jr 127, ⟨go, .row 11 63 ysI false⟩, row0]], g := g }
theorem ref08_join_go (l : List I) (k : Nat) (nl : Bool) (full : Bool) (r : PV) : FnGo E1 Tryz.f58 [.sl k nl full (List.map I.p l)] r 2000 (.mask (iv [(1, 2), (5, 129)]) [44, 127, 128]) =
  (AtAll Tryz.f58 r 0 (ref08_join_S0 l k nl full 0)) := by kernel_rfl
theorem ref08_join_go_S0 (l : List I) (k : Nat) (nl : Bool) (full : Bool) (i : Int) (j : Nat → AV) (jr : Nat → Row) (g : Nat) (r : PV) : LoopGo E1 Tryz.f58 r 0 2000 (.fork (.val (I.p (gI l i)) (.res (bolP (emptyI (gI l i))) (.fork (.mask (iv [(1, 2), (5, 129)]) [44, 127, 128]) (.mask (iv [(1, 2), (6, 129)]) [44, 127, 128])))) (.mask (iv [(0, 2), (4, 6), (9, 129)]) [44, 127])) (ref08_join_S0 l k nl full i j jr g) =
  (((decide (i < (↑(List.length (List.map I.p l)) : Int))) = true →
 (((0 : Int) ≤ i) ∧ ((nl = false) ∧ (k = 11))) ∧
 (((List.map I.p l)[Int.toNat i]?) = some (I.p (gI l i))) ∧
 (Den E1 43 [I.p (gI l i)] (bolP (emptyI (gI l i)))) ∧
 ((emptyI (gI l i)) = true →
 AtAll Tryz.f58 r 0 (ref08_join_S0 l k nl full (IntKind.i64.wrap (i + (1 : Int))))) ∧
 ((emptyI (gI l i)) = false →
 AtAll Tryz.f58 r 1 (ref08_join_S1 l k nl full i))) ∧
 ((decide (i < (↑(List.length (List.map I.p l)) : Int))) = false →
 AtAll Tryz.f58 r 3 (ref08_join_S5 l k nl full (jr 128)))) := by kernel_rfl
theorem ref08_join_go_S1 (l : List I) (k : Nat) (nl : Bool) (full : Bool) (i : Int) (j : Nat → AV) (jr : Nat → Row) (g : Nat) (r : PV) : LoopGo E1 Tryz.f58 r 1 2000 (.lts 18 (.mask (iv [(1, 2), (7, 129)]) [44, 127, 128])) (ref08_join_S1 l k nl full i j jr g) =
  (((g + 17 + 2) = g + 17 + 2) ∧
 (((11 : Nat) = 11) ∧ ((1 : Nat) ≤ (1 : Nat))) ∧
 (((0 : Nat) = 0) ∧ (true = true)) ∧
 (AtAll Tryz.f58 r 2 (ref08_join_S2 l k nl full i 0 0 (g + 17 + 3) 1 [itvP 0 0 0 (.sl 0 true true []) false 0 0 0 (.sl 0 true true []) false false]))) := by kernel_rfl
theorem ref08_join_go_S2 (l : List I) (k : Nat) (nl : Bool) (full : Bool) (i : Int) (p : Int) (q : Int) (gm : Nat) (n : Nat) (xs : List I) (j : Nat → AV) (jr : Nat → Row) (g : Nat) (r : PV) : LoopGo E1 Tryz.f58 r 2 2000 (.fork (.val (I.p (List.getD xs ((0 : Nat) + Int.toNat (IntKind.i64.wrap (q - (1 : Int)))) default)) (.val (I.p (List.getD xs ((0 : Nat) + Int.toNat q) default)) (.mask (iv [(1, 2), (7, 129)]) [44, 127, 128]))) (.val (I.p (gI l i)) (.val (I.p (List.getD xs ((0 : Nat) + Int.toNat p) default)) (.mask (iv [(1, 2), (5, 129)]) [44, 127, 128])))) (ref08_join_S2 l k nl full i p q gm n (List.map I.p xs) j jr g) =
  (((decide (q > p)) = true →
 (gm = gm) ∧
 (((0 : Int) ≤ IntKind.i64.wrap (q - (1 : Int))) ∧ ((IntKind.i64.wrap (q - (1 : Int)) < (↑n : Int)) ∧ ((11 : Nat) = 11))) ∧
 (gm = gm) ∧
 (((List.map I.p xs)[(0 : Nat) + Int.toNat (IntKind.i64.wrap (q - (1 : Int)))]?) = some (I.p (List.getD xs ((0 : Nat) + Int.toNat (IntKind.i64.wrap (q - (1 : Int)))) default))) ∧
 (gm = gm) ∧
 (((0 : Int) ≤ q) ∧ ((q < (↑n : Int)) ∧ ((11 : Nat) = 11))) ∧
 (gm = gm) ∧
 (gm = gm) ∧
 (((List.map I.p xs)[(0 : Nat) + Int.toNat q]?) = some (I.p (List.getD xs ((0 : Nat) + Int.toNat q) default))) ∧
 (∀ (j' : Nat → AV) (jr' : Nat → Row) (g' : Nat), LoopAt E1 Tryz.f58 r 2 (ref08_join_S2 l k nl full i p (IntKind.i64.wrap (q - (1 : Int))) gm n (List.set (List.map I.p xs) ((0 : Nat) + Int.toNat q) (PV.agg [PV.lit (Value.int IntKind.u32 (V.a (I.lo (List.getD xs ((0 : Nat) + Int.toNat (IntKind.i64.wrap (q - (1 : Int)))) default)))), PV.lit (Value.int IntKind.u32 (V.b (I.lo (List.getD xs ((0 : Nat) + Int.toNat (IntKind.i64.wrap (q - (1 : Int)))) default)))), PV.lit (Value.int IntKind.u32 (V.c (I.lo (List.getD xs ((0 : Nat) + Int.toNat (IntKind.i64.wrap (q - (1 : Int)))) default)))), V.q (I.lo (List.getD xs ((0 : Nat) + Int.toNat (IntKind.i64.wrap (q - (1 : Int)))) default)), PV.lit (Value.bool (I.lopen (List.getD xs ((0 : Nat) + Int.toNat (IntKind.i64.wrap (q - (1 : Int)))) default))), PV.lit (Value.int IntKind.u32 (V.a (I.hi (List.getD xs ((0 : Nat) + Int.toNat (IntKind.i64.wrap (q - (1 : Int)))) default)))), PV.lit (Value.int IntKind.u32 (V.b (I.hi (List.getD xs ((0 : Nat) + Int.toNat (IntKind.i64.wrap (q - (1 : Int)))) default)))), PV.lit (Value.int IntKind.u32 (V.c (I.hi (List.getD xs ((0 : Nat) + Int.toNat (IntKind.i64.wrap (q - (1 : Int)))) default)))), V.q (I.hi (List.getD xs ((0 : Nat) + Int.toNat (IntKind.i64.wrap (q - (1 : Int)))) default)), PV.lit (Value.bool (I.hopen (List.getD xs ((0 : Nat) + Int.toNat (IntKind.i64.wrap (q - (1 : Int)))) default))), PV.lit (Value.bool (I.less (List.getD xs ((0 : Nat) + Int.toNat (IntKind.i64.wrap (q - (1 : Int)))) default)))])) j' jr' g'))) ∧
 ((decide (q > p)) = false →
 (((0 : Int) ≤ i) ∧ ((nl = false) ∧ (k = 11))) ∧
 (((List.map I.p l)[Int.toNat i]?) = some (I.p (gI l i))) ∧
 (gm = gm) ∧
 (((0 : Int) ≤ p) ∧ ((p < (↑n : Int)) ∧ ((11 : Nat) = 11))) ∧
 (gm = gm) ∧
 (gm = gm) ∧
 (((List.map I.p xs)[(0 : Nat) + Int.toNat p]?) = some (I.p (List.getD xs ((0 : Nat) + Int.toNat p) default))) ∧
 (∀ (j' : Nat → AV) (jr' : Nat → Row) (g' : Nat), LoopAt E1 Tryz.f58 r 0 (ref08_join_S3 l k nl full (IntKind.i64.wrap (i + (1 : Int))) gm n (List.set (List.map I.p xs) ((0 : Nat) + Int.toNat p) (PV.agg [PV.lit (Value.int IntKind.u32 (V.a (I.lo (gI l i)))), PV.lit (Value.int IntKind.u32 (V.b (I.lo (gI l i)))), PV.lit (Value.int IntKind.u32 (V.c (I.lo (gI l i)))), V.q (I.lo (gI l i)), PV.lit (Value.bool (I.lopen (gI l i))), PV.lit (Value.int IntKind.u32 (V.a (I.hi (gI l i)))), PV.lit (Value.int IntKind.u32 (V.b (I.hi (gI l i)))), PV.lit (Value.int IntKind.u32 (V.c (I.hi (gI l i)))), V.q (I.hi (gI l i)), PV.lit (Value.bool (I.hopen (gI l i))), PV.lit (Value.bool (I.less (gI l i)))])) j' jr' g')))) := by kernel_rfl
theorem ref08_join_go_S3 (l : List I) (k : Nat) (nl : Bool) (full : Bool) (i : Int) (gm : Nat) (n : Nat) (xs : List I) (j : Nat → AV) (jr : Nat → Row) (g : Nat) (r : PV) : LoopGo E1 Tryz.f58 r 0 2000 (.fork (.val (I.p (gI l i)) (.res (bolP (emptyI (gI l i))) (.fork (.mask (iv [(1, 2), (5, 129)]) [44, 127, 128]) (.mask (iv [(1, 2), (6, 129)]) [44, 127, 128])))) (.mask (iv [(0, 2), (4, 6), (9, 129)]) [44, 127])) (ref08_join_S3 l k nl full i gm n (List.map I.p xs) j jr g) =
  (((decide (i < (↑(List.length (List.map I.p l)) : Int))) = true →
 (((0 : Int) ≤ i) ∧ ((nl = false) ∧ (k = 11))) ∧
 (((List.map I.p l)[Int.toNat i]?) = some (I.p (gI l i))) ∧
 (Den E1 43 [I.p (gI l i)] (bolP (emptyI (gI l i)))) ∧
 ((emptyI (gI l i)) = true →
 AtAll Tryz.f58 r 0 (ref08_join_S3 l k nl full (IntKind.i64.wrap (i + (1 : Int))) gm n (List.map I.p xs))) ∧
 ((emptyI (gI l i)) = false →
 AtAll Tryz.f58 r 1 (ref08_join_S4 l k nl full i ((↑n : Int)) gm n (List.map I.p xs)))) ∧
 ((decide (i < (↑(List.length (List.map I.p l)) : Int))) = false →
 AtAll Tryz.f58 r 3 (ref08_join_S6 l k nl full 0 gm n (List.map I.p xs) (jr 128)))) := by kernel_rfl
theorem ref08_join_go_S4 (l : List I) (k : Nat) (nl : Bool) (full : Bool) (i : Int) (p : Int) (gm : Nat) (n : Nat) (xs : List I) (j : Nat → AV) (jr : Nat → Row) (g : Nat) (r : PV) : LoopGo E1 Tryz.f58 r 1 2000 (.fork (.lts 6 (.val (I.p (List.getD xs ((0 : Nat) + Int.toNat (IntKind.i64.wrap (p - (1 : Int)))) default)) (.lts 3 (.val (I.p (gI l i)) (.lts 3 (.res (intP (lowB { v := I.lo (List.getD xs ((0 : Nat) + Int.toNat (IntKind.i64.wrap (p - (1 : Int)))) default), op := I.lopen (List.getD xs ((0 : Nat) + Int.toNat (IntKind.i64.wrap (p - (1 : Int)))) default) } { v := I.lo (gI l i), op := I.lopen (gI l i) })) (.lit (.lit (.fork (.mask (iv [(1, 2), (6, 129)]) [44, 127, 128]) (.lit (.mask (iv [(1, 2), (7, 129)]) [44, 127, 128]))))))))))) (.lts 16 (.mask (iv [(1, 2), (7, 129)]) [44, 127, 128]))) (ref08_join_S4 l k nl full i p gm n (List.map I.p xs) j jr g) =
  (((decide (p > (0 : Int))) = true →
 (gm = gm) ∧
 (((0 : Int) ≤ IntKind.i64.wrap (p - (1 : Int))) ∧ ((IntKind.i64.wrap (p - (1 : Int)) < (↑n : Int)) ∧ ((11 : Nat) = 11))) ∧
 (gm = gm) ∧
 (((List.map I.p xs)[(0 : Nat) + Int.toNat (IntKind.i64.wrap (p - (1 : Int)))]?) = some (I.p (List.getD xs ((0 : Nat) + Int.toNat (IntKind.i64.wrap (p - (1 : Int)))) default))) ∧
 (((0 : Int) ≤ i) ∧ ((nl = false) ∧ (k = 11))) ∧
 (((List.map I.p l)[Int.toNat i]?) = some (I.p (gI l i))) ∧
 (Den E1 44 [Bd.p ⟨(I.lo (List.getD xs ((0 : Nat) + Int.toNat (IntKind.i64.wrap (p - (1 : Int)))) default)), (I.lopen (List.getD xs ((0 : Nat) + Int.toNat (IntKind.i64.wrap (p - (1 : Int)))) default))⟩, Bd.p ⟨(I.lo (gI l i)), (I.lopen (gI l i))⟩] (intP (lowB { v := I.lo (List.getD xs ((0 : Nat) + Int.toNat (IntKind.i64.wrap (p - (1 : Int)))) default), op := I.lopen (List.getD xs ((0 : Nat) + Int.toNat (IntKind.i64.wrap (p - (1 : Int)))) default) } { v := I.lo (gI l i), op := I.lopen (gI l i) }))) ∧
 ((decide (lowB { v := I.lo (List.getD xs ((0 : Nat) + Int.toNat (IntKind.i64.wrap (p - (1 : Int)))) default), op := I.lopen (List.getD xs ((0 : Nat) + Int.toNat (IntKind.i64.wrap (p - (1 : Int)))) default) } { v := I.lo (gI l i), op := I.lopen (gI l i) } > (0 : Int))) = true →
 AtAll Tryz.f58 r 1 (ref08_join_S4 l k nl full i (IntKind.i64.wrap (p - (1 : Int))) gm n (List.map I.p xs))) ∧
 ((decide (lowB { v := I.lo (List.getD xs ((0 : Nat) + Int.toNat (IntKind.i64.wrap (p - (1 : Int)))) default), op := I.lopen (List.getD xs ((0 : Nat) + Int.toNat (IntKind.i64.wrap (p - (1 : Int)))) default) } { v := I.lo (gI l i), op := I.lopen (gI l i) } > (0 : Int))) = false →
 ((g + 17 + 2) = g + 17 + 2) ∧
 (((11 : Nat) = 11) ∧ ((1 : Nat) ≤ (1 : Nat))) ∧
 (gm = gm) ∧
 ((false = false) ∧ (((11 : Nat) = 11) ∧ (((63 : Nat) = 63) ∧ ((((0 : Nat) + n) = List.length (List.map I.p xs)) ∧ ((fitsRow (n + 1) (104 : Nat)) = true))))) ∧
 (AtAll Tryz.f58 r 2 (ref08_join_S2 l k nl full i p (IntKind.i64.wrap ((↑(n + 1) : Int) - (1 : Int))) (g + 17 + 3) (n + 1) (List.drop (0 : Nat) (List.map I.p xs) ++ List.take (1 : Nat) (List.drop (0 : Nat) [PV.agg [PV.lit (Value.int IntKind.u32 (0 : Int)), PV.lit (Value.int IntKind.u32 (0 : Int)), PV.lit (Value.int IntKind.u32 (0 : Int)), PV.sl (0 : Nat) true true [], PV.lit (Value.bool false), PV.lit (Value.int IntKind.u32 (0 : Int)), PV.lit (Value.int IntKind.u32 (0 : Int)), PV.lit (Value.int IntKind.u32 (0 : Int)), PV.sl (0 : Nat) true true [], PV.lit (Value.bool false), PV.lit (Value.bool false)]])))))) ∧
 ((decide (p > (0 : Int))) = false →
 ((g + 17 + 2) = g + 17 + 2) ∧
 (((11 : Nat) = 11) ∧ ((1 : Nat) ≤ (1 : Nat))) ∧
 (gm = gm) ∧
 ((false = false) ∧ (((11 : Nat) = 11) ∧ (((63 : Nat) = 63) ∧ ((((0 : Nat) + n) = List.length (List.map I.p xs)) ∧ ((fitsRow (n + 1) (104 : Nat)) = true))))) ∧
 (AtAll Tryz.f58 r 2 (ref08_join_S2 l k nl full i p (IntKind.i64.wrap ((↑(n + 1) : Int) - (1 : Int))) (g + 17 + 3) (n + 1) (List.drop (0 : Nat) (List.map I.p xs) ++ List.take (1 : Nat) (List.drop (0 : Nat) [PV.agg [PV.lit (Value.int IntKind.u32 (0 : Int)), PV.lit (Value.int IntKind.u32 (0 : Int)), PV.lit (Value.int IntKind.u32 (0 : Int)), PV.sl (0 : Nat) true true [], PV.lit (Value.bool false), PV.lit (Value.int IntKind.u32 (0 : Int)), PV.lit (Value.int IntKind.u32 (0 : Int)), PV.lit (Value.int IntKind.u32 (0 : Int)), PV.sl (0 : Nat) true true [], PV.lit (Value.bool false), PV.lit (Value.bool false)]])))))) := by kernel_rfl
theorem ref08_join_go_S5 (l : List I) (k : Nat) (nl : Bool) (full : Bool) (z : Row) (j : Nat → AV) (jr : Nat → Row) (g : Nat) (r : PV) : LoopGo E1 Tryz.f58 r 3 2000 (.lit (.hole 0)) (ref08_join_S5 l k nl full z j jr g) =
  (((.sl 0 true true []) : PV) = r) := by kernel_rfl
theorem ref08_join_go_S6 (l : List I) (k : Nat) (nl : Bool) (full : Bool) (i : Int) (gm : Nat) (n : Nat) (xs : List I) (z : Row) (j : Nat → AV) (jr : Nat → Row) (g : Nat) (r : PV) : LoopGo E1 Tryz.f58 r 3 2000 (.fork (.lts 13 (.val (I.p (List.getD xs ((0 : Nat) + Int.toNat i) default)) (.lit (.lit (.mask (iv [(0, 2), (4, 6), (9, 129)]) [44, 127]))))) (.hole 0)) (ref08_join_S6 l k nl full i gm n (List.map I.p xs) z j jr g) =
  (((decide (i < (↑n : Int))) = true →
 (gm = gm) ∧
 (((0 : Int) ≤ i) ∧ ((i < (↑n : Int)) ∧ ((11 : Nat) = 11))) ∧
 (gm = gm) ∧
 (((List.map I.p xs)[(0 : Nat) + Int.toNat i]?) = some (I.p (List.getD xs ((0 : Nat) + Int.toNat i) default))) ∧
 ((g + 4 + 3 + 14 + 5) = g + 4 + 3 + 14 + 5) ∧
 (((11 : Nat) = 11) ∧ ((1 : Nat) ≤ (1 : Nat))) ∧
 (((0 : Nat) = 0) ∧ (true = true)) ∧
 (AtAll Tryz.f58 r 3 (ref08_join_S7 l k nl full (IntKind.i64.wrap (i + (1 : Int))) gm n (g + 4 + 3 + 14 + 6) 1 (List.map I.p xs) [I.p (List.getD xs ((0 : Nat) + Int.toNat i) default)]))) ∧
 ((decide (i < (↑n : Int))) = false →
 ((.sl 0 true true []) : PV) = r)) := by kernel_rfl
theorem ref08_join_go_S7 (l : List I) (k : Nat) (nl : Bool) (full : Bool) (i : Int) (gm : Nat) (n : Nat) (go : Nat) (m : Nat) (xs : List I) (ys : List I) (j : Nat → AV) (jr : Nat → Row) (g : Nat) (r : PV) : LoopGo E1 Tryz.f58 r 3 2000 (.fork (.fork (.lts 5 (.val (I.p (List.getD ys ((0 : Nat) + Int.toNat (IntKind.i64.wrap ((↑m : Int) - (1 : Int)))) default)) (.lts 4 (.val (I.p (List.getD xs ((0 : Nat) + Int.toNat i) default)) (.lit (.res (bolP (touchI (List.getD ys ((0 : Nat) + Int.toNat (IntKind.i64.wrap ((↑m : Int) - (1 : Int)))) default) (List.getD xs ((0 : Nat) + Int.toNat i) default))) (.lit (.fork (.val (I.p (List.getD ys ((0 : Nat) + Int.toNat (IntKind.i64.wrap ((↑m : Int) - (1 : Int)))) default)) (.val (I.p (List.getD xs ((0 : Nat) + Int.toNat i) default)) (.res (intP (highI (List.getD ys ((0 : Nat) + Int.toNat (IntKind.i64.wrap ((↑m : Int) - (1 : Int)))) default) (List.getD xs ((0 : Nat) + Int.toNat i) default))) (.fork (.val (I.p (List.getD xs ((0 : Nat) + Int.toNat i) default)) (.val (I.p (List.getD ys ((0 : Nat) + Int.toNat (IntKind.i64.wrap ((↑m : Int) - (1 : Int)))) default)) (.val (I.p (List.getD xs ((0 : Nat) + Int.toNat i) default)) (.val (I.p ⟨(I.lo (List.getD ys ((0 : Nat) + Int.toNat (IntKind.i64.wrap ((↑m : Int) - (1 : Int)))) default)), (I.lopen (List.getD ys ((0 : Nat) + Int.toNat (IntKind.i64.wrap ((↑m : Int) - (1 : Int)))) default)), (I.hi (List.getD xs ((0 : Nat) + Int.toNat i) default)), (I.hopen (List.getD xs ((0 : Nat) + Int.toNat i) default)), (I.less (List.getD ys ((0 : Nat) + Int.toNat (IntKind.i64.wrap ((↑m : Int) - (1 : Int)))) default))⟩) (.mask (iv [(0, 2), (4, 6), (9, 129)]) [44, 127]))))) (.mask (iv [(0, 2), (4, 6), (9, 129)]) [44, 127]))))) (.val (I.p (List.getD xs ((0 : Nat) + Int.toNat i) default)) (.lit (.mask (iv [(0, 2), (4, 6), (9, 129)]) [44, 127]))))))))))) (.lts 12 (.val (I.p (List.getD xs ((0 : Nat) + Int.toNat i) default)) (.lit (.mask (iv [(0, 2), (4, 6), (9, 129)]) [44, 127]))))) (.hole 0)) (ref08_join_S7 l k nl full i gm n go m (List.map I.p xs) (List.map I.p ys) j jr g) =
  (((decide (i < (↑n : Int))) = true →
 ((decide ((↑m : Int) > (0 : Int))) = true →
 (go = go) ∧
 (((0 : Int) ≤ IntKind.i64.wrap ((↑m : Int) - (1 : Int))) ∧ ((IntKind.i64.wrap ((↑m : Int) - (1 : Int)) < (↑m : Int)) ∧ ((11 : Nat) = 11))) ∧
 (go = go) ∧
 (((List.map I.p ys)[(0 : Nat) + Int.toNat (IntKind.i64.wrap ((↑m : Int) - (1 : Int)))]?) = some (I.p (List.getD ys ((0 : Nat) + Int.toNat (IntKind.i64.wrap ((↑m : Int) - (1 : Int)))) default))) ∧
 (gm = gm) ∧
 (((0 : Int) ≤ i) ∧ ((i < (↑n : Int)) ∧ ((11 : Nat) = 11))) ∧
 (gm = gm) ∧
 (((List.map I.p xs)[(0 : Nat) + Int.toNat i]?) = some (I.p (List.getD xs ((0 : Nat) + Int.toNat i) default))) ∧
 (Den E1 45 [I.p (List.getD ys ((0 : Nat) + Int.toNat (IntKind.i64.wrap ((↑m : Int) - (1 : Int)))) default), I.p (List.getD xs ((0 : Nat) + Int.toNat i) default)] (bolP (touchI (List.getD ys ((0 : Nat) + Int.toNat (IntKind.i64.wrap ((↑m : Int) - (1 : Int)))) default) (List.getD xs ((0 : Nat) + Int.toNat i) default)))) ∧
 ((touchI (List.getD ys ((0 : Nat) + Int.toNat (IntKind.i64.wrap ((↑m : Int) - (1 : Int)))) default) (List.getD xs ((0 : Nat) + Int.toNat i) default)) = true →
 (go = go) ∧
 (((0 : Int) ≤ IntKind.i64.wrap ((↑m : Int) - (1 : Int))) ∧ ((IntKind.i64.wrap ((↑m : Int) - (1 : Int)) < (↑m : Int)) ∧ ((11 : Nat) = 11))) ∧
 (go = go) ∧
 (((List.map I.p ys)[(0 : Nat) + Int.toNat (IntKind.i64.wrap ((↑m : Int) - (1 : Int)))]?) = some (I.p (List.getD ys ((0 : Nat) + Int.toNat (IntKind.i64.wrap ((↑m : Int) - (1 : Int)))) default))) ∧
 (gm = gm) ∧
 (((0 : Int) ≤ i) ∧ ((i < (↑n : Int)) ∧ ((11 : Nat) = 11))) ∧
 (gm = gm) ∧
 (((List.map I.p xs)[(0 : Nat) + Int.toNat i]?) = some (I.p (List.getD xs ((0 : Nat) + Int.toNat i) default))) ∧
 (Den E1 100 [I.p (List.getD ys ((0 : Nat) + Int.toNat (IntKind.i64.wrap ((↑m : Int) - (1 : Int)))) default), I.p (List.getD xs ((0 : Nat) + Int.toNat i) default)] (intP (highI (List.getD ys ((0 : Nat) + Int.toNat (IntKind.i64.wrap ((↑m : Int) - (1 : Int)))) default) (List.getD xs ((0 : Nat) + Int.toNat i) default)))) ∧
 ((decide (highI (List.getD ys ((0 : Nat) + Int.toNat (IntKind.i64.wrap ((↑m : Int) - (1 : Int)))) default) (List.getD xs ((0 : Nat) + Int.toNat i) default) < (0 : Int))) = true →
 (gm = gm) ∧
 (((0 : Int) ≤ i) ∧ ((i < (↑n : Int)) ∧ ((11 : Nat) = 11))) ∧
 (gm = gm) ∧
 (((List.map I.p xs)[(0 : Nat) + Int.toNat i]?) = some (I.p (List.getD xs ((0 : Nat) + Int.toNat i) default))) ∧
 (go = go) ∧
 (((0 : Int) ≤ IntKind.i64.wrap ((↑m : Int) - (1 : Int))) ∧ ((IntKind.i64.wrap ((↑m : Int) - (1 : Int)) < (↑m : Int)) ∧ ((11 : Nat) = 11))) ∧
 (go = go) ∧
 (go = go) ∧
 (((List.map I.p ys)[(0 : Nat) + Int.toNat (IntKind.i64.wrap ((↑m : Int) - (1 : Int)))]?) = some (I.p (List.getD ys ((0 : Nat) + Int.toNat (IntKind.i64.wrap ((↑m : Int) - (1 : Int)))) default))) ∧
 (gm = gm) ∧
 (((0 : Int) ≤ i) ∧ ((i < (↑n : Int)) ∧ ((11 : Nat) = 11))) ∧
 (gm = gm) ∧
 (((List.map I.p xs)[(0 : Nat) + Int.toNat i]?) = some (I.p (List.getD xs ((0 : Nat) + Int.toNat i) default))) ∧
 (go = go) ∧
 (((0 : Int) ≤ IntKind.i64.wrap ((↑m : Int) - (1 : Int))) ∧ ((IntKind.i64.wrap ((↑m : Int) - (1 : Int)) < (↑m : Int)) ∧ ((11 : Nat) = 11))) ∧
 (go = go) ∧
 (go = go) ∧
 (((List.set (List.map I.p ys) ((0 : Nat) + Int.toNat (IntKind.i64.wrap ((↑m : Int) - (1 : Int)))) (PV.agg [PV.lit (Value.int IntKind.u32 (V.a (I.lo (List.getD ys ((0 : Nat) + Int.toNat (IntKind.i64.wrap ((↑m : Int) - (1 : Int)))) default)))), PV.lit (Value.int IntKind.u32 (V.b (I.lo (List.getD ys ((0 : Nat) + Int.toNat (IntKind.i64.wrap ((↑m : Int) - (1 : Int)))) default)))), PV.lit (Value.int IntKind.u32 (V.c (I.lo (List.getD ys ((0 : Nat) + Int.toNat (IntKind.i64.wrap ((↑m : Int) - (1 : Int)))) default)))), V.q (I.lo (List.getD ys ((0 : Nat) + Int.toNat (IntKind.i64.wrap ((↑m : Int) - (1 : Int)))) default)), PV.lit (Value.bool (I.lopen (List.getD ys ((0 : Nat) + Int.toNat (IntKind.i64.wrap ((↑m : Int) - (1 : Int)))) default))), PV.lit (Value.int IntKind.u32 (V.a (I.hi (List.getD xs ((0 : Nat) + Int.toNat i) default)))), PV.lit (Value.int IntKind.u32 (V.b (I.hi (List.getD xs ((0 : Nat) + Int.toNat i) default)))), PV.lit (Value.int IntKind.u32 (V.c (I.hi (List.getD xs ((0 : Nat) + Int.toNat i) default)))), V.q (I.hi (List.getD xs ((0 : Nat) + Int.toNat i) default)), PV.lit (Value.bool (I.hopen (List.getD xs ((0 : Nat) + Int.toNat i) default))), PV.lit (Value.bool (I.less (List.getD ys ((0 : Nat) + Int.toNat (IntKind.i64.wrap ((↑m : Int) - (1 : Int)))) default)))]))[(0 : Nat) + Int.toNat (IntKind.i64.wrap ((↑m : Int) - (1 : Int)))]?) = some (I.p ⟨(I.lo (List.getD ys ((0 : Nat) + Int.toNat (IntKind.i64.wrap ((↑m : Int) - (1 : Int)))) default)), (I.lopen (List.getD ys ((0 : Nat) + Int.toNat (IntKind.i64.wrap ((↑m : Int) - (1 : Int)))) default)), (I.hi (List.getD xs ((0 : Nat) + Int.toNat i) default)), (I.hopen (List.getD xs ((0 : Nat) + Int.toNat i) default)), (I.less (List.getD ys ((0 : Nat) + Int.toNat (IntKind.i64.wrap ((↑m : Int) - (1 : Int)))) default))⟩)) ∧
 (∀ (j' : Nat → AV) (jr' : Nat → Row) (g' : Nat), LoopAt E1 Tryz.f58 r 3 (ref08_join_S7 l k nl full (IntKind.i64.wrap (i + (1 : Int))) gm n go m (List.map I.p xs) (List.set (List.set (List.map I.p ys) ((0 : Nat) + Int.toNat (IntKind.i64.wrap ((↑m : Int) - (1 : Int)))) (PV.agg [PV.lit (Value.int IntKind.u32 (V.a (I.lo (List.getD ys ((0 : Nat) + Int.toNat (IntKind.i64.wrap ((↑m : Int) - (1 : Int)))) default)))), PV.lit (Value.int IntKind.u32 (V.b (I.lo (List.getD ys ((0 : Nat) + Int.toNat (IntKind.i64.wrap ((↑m : Int) - (1 : Int)))) default)))), PV.lit (Value.int IntKind.u32 (V.c (I.lo (List.getD ys ((0 : Nat) + Int.toNat (IntKind.i64.wrap ((↑m : Int) - (1 : Int)))) default)))), V.q (I.lo (List.getD ys ((0 : Nat) + Int.toNat (IntKind.i64.wrap ((↑m : Int) - (1 : Int)))) default)), PV.lit (Value.bool (I.lopen (List.getD ys ((0 : Nat) + Int.toNat (IntKind.i64.wrap ((↑m : Int) - (1 : Int)))) default))), PV.lit (Value.int IntKind.u32 (V.a (I.hi (List.getD xs ((0 : Nat) + Int.toNat i) default)))), PV.lit (Value.int IntKind.u32 (V.b (I.hi (List.getD xs ((0 : Nat) + Int.toNat i) default)))), PV.lit (Value.int IntKind.u32 (V.c (I.hi (List.getD xs ((0 : Nat) + Int.toNat i) default)))), V.q (I.hi (List.getD xs ((0 : Nat) + Int.toNat i) default)), PV.lit (Value.bool (I.hopen (List.getD xs ((0 : Nat) + Int.toNat i) default))), PV.lit (Value.bool (I.less (List.getD ys ((0 : Nat) + Int.toNat (IntKind.i64.wrap ((↑m : Int) - (1 : Int)))) default)))])) ((0 : Nat) + Int.toNat (IntKind.i64.wrap ((↑m : Int) - (1 : Int)))) (PV.agg [PV.lit (Value.int IntKind.u32 (V.a (I.lo (List.getD ys ((0 : Nat) + Int.toNat (IntKind.i64.wrap ((↑m : Int) - (1 : Int)))) default)))), PV.lit (Value.int IntKind.u32 (V.b (I.lo (List.getD ys ((0 : Nat) + Int.toNat (IntKind.i64.wrap ((↑m : Int) - (1 : Int)))) default)))), PV.lit (Value.int IntKind.u32 (V.c (I.lo (List.getD ys ((0 : Nat) + Int.toNat (IntKind.i64.wrap ((↑m : Int) - (1 : Int)))) default)))), V.q (I.lo (List.getD ys ((0 : Nat) + Int.toNat (IntKind.i64.wrap ((↑m : Int) - (1 : Int)))) default)), PV.lit (Value.bool (I.lopen (List.getD ys ((0 : Nat) + Int.toNat (IntKind.i64.wrap ((↑m : Int) - (1 : Int)))) default))), PV.lit (Value.int IntKind.u32 (V.a (I.hi (List.getD xs ((0 : Nat) + Int.toNat i) default)))), PV.lit (Value.int IntKind.u32 (V.b (I.hi (List.getD xs ((0 : Nat) + Int.toNat i) default)))), PV.lit (Value.int IntKind.u32 (V.c (I.hi (List.getD xs ((0 : Nat) + Int.toNat i) default)))), V.q (I.hi (List.getD xs ((0 : Nat) + Int.toNat i) default)), PV.lit (Value.bool (I.hopen (List.getD xs ((0 : Nat) + Int.toNat i) default))), PV.lit (Value.bool (I.less (List.getD xs ((0 : Nat) + Int.toNat i) default)))])) j' jr' g'))) ∧
 ((decide (highI (List.getD ys ((0 : Nat) + Int.toNat (IntKind.i64.wrap ((↑m : Int) - (1 : Int)))) default) (List.getD xs ((0 : Nat) + Int.toNat i) default) < (0 : Int))) = false →
 AtAll Tryz.f58 r 3 (ref08_join_S7 l k nl full (IntKind.i64.wrap (i + (1 : Int))) gm n go m (List.map I.p xs) (List.map I.p ys)))) ∧
 ((touchI (List.getD ys ((0 : Nat) + Int.toNat (IntKind.i64.wrap ((↑m : Int) - (1 : Int)))) default) (List.getD xs ((0 : Nat) + Int.toNat i) default)) = false →
 (gm = gm) ∧
 (((0 : Int) ≤ i) ∧ ((i < (↑n : Int)) ∧ ((11 : Nat) = 11))) ∧
 (gm = gm) ∧
 (((List.map I.p xs)[(0 : Nat) + Int.toNat i]?) = some (I.p (List.getD xs ((0 : Nat) + Int.toNat i) default))) ∧
 ((g + 4 + 3 + 14 + 5) = g + 4 + 3 + 14 + 5) ∧
 (((11 : Nat) = 11) ∧ ((1 : Nat) ≤ (1 : Nat))) ∧
 (go = go) ∧
 ((false = false) ∧ (((11 : Nat) = 11) ∧ (((63 : Nat) = 63) ∧ ((((0 : Nat) + m) = List.length (List.map I.p ys)) ∧ ((fitsRow (m + 1) (104 : Nat)) = true))))) ∧
 (∀ (j' : Nat → AV) (jr' : Nat → Row) (g' : Nat), LoopAt E1 Tryz.f58 r 3 (ref08_join_S7 l k nl full (IntKind.i64.wrap (i + (1 : Int))) gm n (g + 4 + 3 + 14 + 6) (m + 1) (List.map I.p xs) (List.drop (0 : Nat) (List.map I.p ys) ++ List.take (1 : Nat) (List.drop (0 : Nat) [PV.agg [PV.lit (Value.int IntKind.u32 (V.a (I.lo (List.getD xs ((0 : Nat) + Int.toNat i) default)))), PV.lit (Value.int IntKind.u32 (V.b (I.lo (List.getD xs ((0 : Nat) + Int.toNat i) default)))), PV.lit (Value.int IntKind.u32 (V.c (I.lo (List.getD xs ((0 : Nat) + Int.toNat i) default)))), V.q (I.lo (List.getD xs ((0 : Nat) + Int.toNat i) default)), PV.lit (Value.bool (I.lopen (List.getD xs ((0 : Nat) + Int.toNat i) default))), PV.lit (Value.int IntKind.u32 (V.a (I.hi (List.getD xs ((0 : Nat) + Int.toNat i) default)))), PV.lit (Value.int IntKind.u32 (V.b (I.hi (List.getD xs ((0 : Nat) + Int.toNat i) default)))), PV.lit (Value.int IntKind.u32 (V.c (I.hi (List.getD xs ((0 : Nat) + Int.toNat i) default)))), V.q (I.hi (List.getD xs ((0 : Nat) + Int.toNat i) default)), PV.lit (Value.bool (I.hopen (List.getD xs ((0 : Nat) + Int.toNat i) default))), PV.lit (Value.bool (I.less (List.getD xs ((0 : Nat) + Int.toNat i) default)))]])) j' jr' g')))) ∧
 ((decide ((↑m : Int) > (0 : Int))) = false →
 (gm = gm) ∧
 (((0 : Int) ≤ i) ∧ ((i < (↑n : Int)) ∧ ((11 : Nat) = 11))) ∧
 (gm = gm) ∧
 (((List.map I.p xs)[(0 : Nat) + Int.toNat i]?) = some (I.p (List.getD xs ((0 : Nat) + Int.toNat i) default))) ∧
 ((g + 4 + 3 + 14 + 5) = g + 4 + 3 + 14 + 5) ∧
 (((11 : Nat) = 11) ∧ ((1 : Nat) ≤ (1 : Nat))) ∧
 (go = go) ∧
 ((false = false) ∧ (((11 : Nat) = 11) ∧ (((63 : Nat) = 63) ∧ ((((0 : Nat) + m) = List.length (List.map I.p ys)) ∧ ((fitsRow (m + 1) (104 : Nat)) = true))))) ∧
 (∀ (j' : Nat → AV) (jr' : Nat → Row) (g' : Nat), LoopAt E1 Tryz.f58 r 3 (ref08_join_S7 l k nl full (IntKind.i64.wrap (i + (1 : Int))) gm n (g + 4 + 3 + 14 + 6) (m + 1) (List.map I.p xs) (List.drop (0 : Nat) (List.map I.p ys) ++ List.take (1 : Nat) (List.drop (0 : Nat) [PV.agg [PV.lit (Value.int IntKind.u32 (V.a (I.lo (List.getD xs ((0 : Nat) + Int.toNat i) default)))), PV.lit (Value.int IntKind.u32 (V.b (I.lo (List.getD xs ((0 : Nat) + Int.toNat i) default)))), PV.lit (Value.int IntKind.u32 (V.c (I.lo (List.getD xs ((0 : Nat) + Int.toNat i) default)))), V.q (I.lo (List.getD xs ((0 : Nat) + Int.toNat i) default)), PV.lit (Value.bool (I.lopen (List.getD xs ((0 : Nat) + Int.toNat i) default))), PV.lit (Value.int IntKind.u32 (V.a (I.hi (List.getD xs ((0 : Nat) + Int.toNat i) default)))), PV.lit (Value.int IntKind.u32 (V.b (I.hi (List.getD xs ((0 : Nat) + Int.toNat i) default)))), PV.lit (Value.int IntKind.u32 (V.c (I.hi (List.getD xs ((0 : Nat) + Int.toNat i) default)))), V.q (I.hi (List.getD xs ((0 : Nat) + Int.toNat i) default)), PV.lit (Value.bool (I.hopen (List.getD xs ((0 : Nat) + Int.toNat i) default))), PV.lit (Value.bool (I.less (List.getD xs ((0 : Nat) + Int.toNat i) default)))]])) j' jr' g')))) ∧
 ((decide (i < (↑n : Int))) = false →
 ∃ hp, frz frzDepth (.msl 0 128 go 0 m false) [[row0, row0, row0, row0, row0, row0, row0, row0, row0, row0, row0, row0, row0, row0, row0, row0, row0, row0, row0, row0, row0, row0, row0, row0, row0, row0, row0, row0, row0, row0, row0, row0, row0, row0, row0, row0, row0, row0, row0, row0, row0, row0, row0, row0, jr 44, ⟨gm, .row 11 63 (List.map I.p xs) false⟩, row0, row0, row0, row0, row0, row0, row0, row0, row0, row0, row0, row0, row0, row0, row0, row0, row0, row0, row0, row0, row0, row0, row0, row0, row0, row0, row0, row0, row0, row0, row0, row0, row0, row0, row0, row0, row0, row0, row0, row0, row0, row0, row0, row0, row0, row0, row0, row0, row0, row0, row0, row0, row0, row0, row0, row0, row0, row0, row0, row0, row0, row0, row0, row0, row0, row0, row0, row0, row0, row0, row0, row0, row0, row0, row0, row0, row0, row0, row0, row0, row0, jr 127, ⟨go, .row 11 63 (List.map I.p ys) false⟩, row0]] = some (r, hp))) := by kernel_rfl
end Go.Proofs.YtlhfgonjcpapnaaGreatDoor.Abs

namespace Go.Proofs.YtlhfgonjcpapnaaGreatDoor.Abs
open Go Go.Proofs
structure good (x : I) : Prop where
  ok : x.ok
  lo : mayV x.lo = true
  hi : mayV x.hi = true
def goods (l : List I) : Prop := ∀ x ∈ l, good x
theorem den_ref08_high (x y : I) (hx : good x) (hy : good y) : Den E1 100 [x.p, y.p] (intP (highI x y)) := by
  refine den1 2000 _ rfl (by kernel_rfl) rfl rfl rfl (Eq.mpr (ref08_high_go x y _) ?_)
  refine ⟨rfl, fun h => ⟨rfl, h, rfl, fun h2 => ?_, fun h2 => ⟨rfl, h, ?_⟩⟩, fun h => ⟨rfl, fun h2 => ⟨rfl, h, rfl, h, ?_⟩, fun h2 => ⟨rfl, rfl, den_ref07_Cmp _ _ hx.ok.hi hy.ok.hi (may_len hx.hi) (may_len hy.hi), fun h3 => ?_, fun h3 => ⟨rfl, rfl, fun h4 => ?_, fun h4 => ⟨rfl, fun h5 => ?_, fun h5 => ?_⟩⟩⟩⟩⟩
  · simp [highI, h, h2]
  · simp [highI, h, h2]
  · simp [highI, h, h2]
  · simp only [highI, h, h2, h3]; rfl
  · simp only [highI, h, h2, h3, h4]; rfl
  · rw [h5] at h4; simp only [highI, h, h2, h3, h4, h5]; rfl
  · rw [h5] at h4; simp only [highI, h, h2, h3, h4, h5]; rfl
theorem getI {l : List I} {i : Nat} (h : i < l.length) : (List.map I.p l)[i]? = some (I.p (l.getD i default)) := by
  simp [h]
theorem goods_get {l : List I} {i : Nat} (h : goods l) (hi : i < l.length) : good (l.getD i default) := by
  rw [getD_lt hi]; exact h _ (by simp)
theorem drop_get {l : List I} {i : Nat} (h : i < l.length) : l.drop i = l.getD i default :: l.drop (i + 1) := by
  rw [List.drop_eq_getElem_cons h, getD_lt h]
theorem set_map {l : List I} {i : Nat} (x : I) : List.set (List.map I.p l) i (I.p x) = List.map I.p (l.set i x) := by
  rw [List.map_set]
theorem goods_set {l : List I} {i : Nat} {x : I} (h : goods l) (hx : good x) : goods (l.set i x) := by
  intro y hy
  rcases List.mem_or_eq_of_mem_set hy with h1 | rfl
  · exact h y h1
  · exact hx
theorem goods_snoc {l : List I} {x : I} (h : goods l) (hx : good x) : goods (l ++ [x]) := by
  intro y hy
  rcases List.mem_append.1 hy with h1 | h1
  · exact h y h1
  · simp at h1; subst h1; exact hx
theorem good_up {y x : I} (hy : good y) (hx : good x) : good (upR y x) := ⟨⟨hy.ok.lo, hx.ok.hi⟩, hy.lo, hx.hi⟩
theorem fits_104 {n : Nat} (h : n ≤ 1000000) : fitsRow n 104 = true := by
  unfold fitsRow room47 maxInt
  simp only [Bool.and_eq_true, decide_eq_true_eq]
  omega
theorem resL_cons {l : List I} (h : l ≠ []) : resL l = .sl 11 false false (List.map I.p l) := by
  have : l.length ≠ 0 := fun e => h (List.length_eq_zero_iff.1 e)
  simp [resL, listP, twK, twN, this]
theorem shift_back {s xs : List I} {q : Nat} (h0 : 0 < q) (hq : q ≤ s.length) (hx : ∀ x, xs.set q x = s.take q ++ x :: s.drop q) (x : I) : (xs.set q (xs.getD (q - 1) default)).set (q - 1) x = s.take (q - 1) ++ x :: s.drop (q - 1) := by
  obtain ⟨q, rfl⟩ : ∃ n, q = n + 1 := ⟨q - 1, by omega⟩
  simp only [Nat.add_sub_cancel]
  have hql : q < s.length := by omega
  have ha : xs.getD q default = s.getD q default := by
    have h1 : (xs.set (q + 1) default)[q]? = (s.take (q + 1) ++ default :: s.drop (q + 1))[q]? := by rw [hx]
    rw [List.getElem?_set_ne (by omega), List.getElem?_append_left (by simp; omega), List.getElem?_take, if_pos (by omega)] at h1
    simp only [List.getD_eq_getElem?_getD, h1]
  have ht : s.take (q + 1) = s.take q ++ [s.getD q default] := by rw [List.take_succ_eq_append_getElem hql, getD_lt hql]
  rw [ha, hx, ht, List.append_assoc, List.set_append_right _ _ (by simp; omega)]
  have e : q - (s.take q).length = 0 := by simp; omega
  rw [e, drop_get hql]
  rfl
section
variable (l : List I) (k : Nat) (nl full : Bool)
theorem join_S7 (xs : List I) (hgx : goods xs) (hlx : xs.length < 1000000) : ∀ (n i : Nat) (ys : List I) (gm go : Nat) j jr g, i + n = xs.length → ys ≠ [] → ys.length ≤ i → goods ys →
    LoopAt E1 Tryz.f58 (resL ((xs.drop i).foldl stepR ys)) 3 (ref08_join_S7 l k nl full i gm xs.length go ys.length (List.map I.p xs) (List.map I.p ys) j jr g) := by
  intro n
  induction n with
  | zero =>
    intro i ys gm go j jr g hi hy hle hgy
    refine loop_go 2000 _ (Eq.mpr (ref08_join_go_S7 l k nl full i gm xs.length go ys.length xs ys j jr g _) ⟨fun h => ?_, fun h => ?_⟩)
    · simp only [decide_eq_true_eq] at h; omega
    · rw [List.drop_eq_nil_of_le (by omega), List.foldl_nil]
      exact frz_msl rfl (by simp) (resL_cons hy)
  | succ n ih =>
    intro i ys gm go j0 jr0 g0 hi hy hle hgy
    have hix : i < xs.length := by omega
    have hyl : 1 ≤ ys.length := List.length_pos_iff.2 hy
    have hw1 : IntKind.wrap IntKind.i64 ((ys.length : Int) - 1) = ((ys.length - 1 : Nat) : Int) := by rw [wrap_i64 _ (by omega) (by omega)]; omega
    have hw2 : IntKind.wrap IntKind.i64 ((i : Int) + 1) = ((i + 1 : Nat) : Int) := wrap_i64 _ (by omega) (by omega)
    have hgx' := goods_get hgx hix
    have hgy' := goods_get hgy (show ys.length - 1 < ys.length by omega)
    have hdy := getI (l := ys) (show ys.length - 1 < ys.length by omega)
    have hdx := getI (l := xs) hix
    have hne : ys.isEmpty = false := by simpa using hy
    rw [drop_get hix, List.foldl_cons]
    have hst : stepR ys (xs.getD i default) = if touchI (ys.getD (ys.length - 1) default) (xs.getD i default) then
        (if highI (ys.getD (ys.length - 1) default) (xs.getD i default) < 0 then ys.set (ys.length - 1) (upR (ys.getD (ys.length - 1) default) (xs.getD i default)) else ys) else ys ++ [xs.getD i default] := by
      unfold stepR; rw [hne]; rfl
    refine loop_go 2000 _ (Eq.mpr (ref08_join_go_S7 l k nl full i gm xs.length go ys.length xs ys j0 jr0 g0 _) ⟨fun h => ?_, fun h => ?_⟩)
    · simp only [hw1, hw2, Int.toNat_natCast, gI_nat, gI_zero, Nat.zero_add, eq_self, true_and, and_true]
      refine ⟨fun _ => ⟨by omega, hdy, by omega, hdx, den_touch _ _ hgy'.ok hgx'.ok hgy'.hi hgx'.lo, fun ht => ⟨by omega, hdy, by omega, hdx, den_ref08_high _ _ hgy' hgx', fun hh => ⟨by omega, hdx, by omega, hdy, by omega, hdx, by omega, ?_, fun j jr g => ?_⟩, fun hh j jr g => ?_⟩, fun ht => ⟨by omega, hdx, by omega, ?_, fun j jr g => ?_⟩⟩, fun h0 => ?_⟩
      · rw [List.getElem?_set_self (by simp; omega)]
      · have e : stepR ys (xs.getD i default) = ys.set (ys.length - 1) (upR (ys.getD (ys.length - 1) default) (xs.getD i default)) := by
          rw [hst, if_pos ht, if_pos (by simpa using hh)]
        rw [e]
        have hs2 : ∀ v : PV, List.set (List.set (List.map I.p ys) (ys.length - 1) v) (ys.length - 1) (I.p (upR (ys.getD (ys.length - 1) default) (xs.getD i default))) = List.map I.p (ys.set (ys.length - 1) (upR (ys.getD (ys.length - 1) default) (xs.getD i default))) := by
          intro v; rw [List.set_set, set_map]
        have := ih (i + 1) (ys.set (ys.length - 1) (upR (ys.getD (ys.length - 1) default) (xs.getD i default))) gm go j jr g (by omega) (by simpa using hy) (by simp; omega) (goods_set hgy (good_up hgy' hgx'))
        rw [List.length_set] at this
        rw [← hs2] at this
        exact this
      · have e : stepR ys (xs.getD i default) = ys := by
          rw [hst, if_pos ht, if_neg (by simpa using hh)]
        rw [e]
        exact ih (i + 1) ys gm go j jr g (by omega) hy (by omega) hgy
      · exact ⟨by simp, fits_104 (by omega)⟩
      · have e : stepR ys (xs.getD i default) = ys ++ [xs.getD i default] := by
          rw [hst, ht]; rfl
        rw [e]
        have := ih (i + 1) (ys ++ [xs.getD i default]) gm (g0 + 4 + 3 + 14 + 6) j jr g (by omega) (by simp) (by simp; omega) (goods_snoc hgy hgx')
        rw [List.length_append, List.map_append] at this
        exact this
      · simp only [decide_eq_false_iff_not] at h0; omega
    · simp only [decide_eq_false_iff_not] at h; omega
theorem join_S6 (xs : List I) (hgx : goods xs) (hlx : xs.length < 1000000) (h0 : xs ≠ []) (gm : Nat) (z : Row) (j0 : Nat → AV) (jr0 : Nat → Row) (g0 : Nat) :
    LoopAt E1 Tryz.f58 (resL (xs.foldl stepR [])) 3 (ref08_join_S6 l k nl full 0 gm xs.length (List.map I.p xs) z j0 jr0 g0) := by
  have hix : 0 < xs.length := List.length_pos_iff.2 h0
  have hw2 : IntKind.wrap IntKind.i64 ((0 : Int) + 1) = ((1 : Nat) : Int) := rfl
  have hz : Int.toNat 0 = 0 := rfl
  refine loop_go 2000 _ (Eq.mpr (ref08_join_go_S6 l k nl full 0 gm xs.length xs z j0 jr0 g0 _) ⟨fun h => ?_, fun h => ?_⟩)
  · simp only [hw2, hz, Nat.zero_add, eq_self, true_and, and_true]
    refine ⟨by omega, getI hix, by omega, fun j jr g => ?_⟩
    have := join_S7 l k nl full xs hgx hlx (xs.length - 1) 1 [xs.getD 0 default] gm (g0 + 4 + 3 + 14 + 6) j jr g (by omega) (by simp) (by simp) (fun y hy => by simp at hy; subst hy; rw [← List.getD_eq_getElem?_getD]; exact goods_get hgx hix)
    have e : xs.foldl stepR [] = (xs.drop 1).foldl stepR [xs.getD 0 default] := by
      cases xs with
      | nil => exact absurd rfl h0
      | cons x xs => rfl
    rw [e]
    exact this
  · simp only [decide_eq_false_iff_not] at h; omega
theorem join_S2 (i : Nat) (hll : l.length < 1000000) (hil : i < l.length) (hsl : slOk 11 k nl l.length) {r : PV} {s : List I} {p : Nat} (hp : p ≤ s.length) (hls : s.length < 1000000)
    (next : ∀ gm j jr g, LoopAt E1 Tryz.f58 r 0 (ref08_join_S3 l k nl full (i + 1 : Nat) gm (s.length + 1) (List.map I.p (s.take p ++ l.getD i default :: s.drop p)) j jr g)) :
    ∀ (n q : Nat) (xs : List I) (gm : Nat) j jr g, p + n = q → q ≤ s.length → xs.length = s.length + 1 → (∀ x, xs.set q x = s.take q ++ x :: s.drop q) →
    LoopAt E1 Tryz.f58 r 2 (ref08_join_S2 l k nl full i p q gm (s.length + 1) (List.map I.p xs) j jr g) := by
  have hw1 : IntKind.wrap IntKind.i64 ((i : Int) + 1) = ((i + 1 : Nat) : Int) := wrap_i64 _ (by omega) (by omega)
  intro n
  induction n with
  | zero =>
    intro q xs gm j jr g hq hqs hxl hx
    have hpq : p = q := by omega
    subst hpq
    refine loop_go 2000 _ (Eq.mpr (ref08_join_go_S2 l k nl full i p p gm (s.length + 1) xs j jr g _) ⟨fun h => ?_, fun h => ?_⟩)
    · simp at h
    · simp only [hw1, Int.toNat_natCast, gI_nat, gI_zero, Nat.zero_add, eq_self, true_and, and_true]
      refine ⟨⟨by omega, sl_at hsl hil⟩, getI hil, by omega, getI (by omega), fun j jr g => ?_⟩
      have := next gm j jr g
      rw [← hx, List.map_set] at this
      exact this
  | succ n ih =>
    intro q xs gm j jr g hq hqs hxl hx
    have hw2 : IntKind.wrap IntKind.i64 ((q : Int) - 1) = ((q - 1 : Nat) : Int) := by rw [wrap_i64 _ (by omega) (by omega)]; omega
    refine loop_go 2000 _ (Eq.mpr (ref08_join_go_S2 l k nl full i p q gm (s.length + 1) xs j jr g _) ⟨fun h => ?_, fun h => ?_⟩)
    · simp only [hw2, Int.toNat_natCast, gI_nat, gI_zero, Nat.zero_add, eq_self, true_and, and_true]
      refine ⟨by omega, getI (by omega), by omega, getI (by omega), fun j jr g => ?_⟩
      have := ih (q - 1) (xs.set q (xs.getD (q - 1) default)) gm j jr g (by omega) (by omega) (by simpa using hxl) fun x => ?_
      · rw [List.map_set] at this
        exact this
      · exact shift_back (by omega) hqs hx x
    · simp only [decide_eq_false_iff_not] at h; omega
theorem insPos_le (s : List I) (x : I) : ∀ p, insPos s x p ≤ p
  | 0 => Nat.le_refl _
  | p + 1 => by
    unfold insPos
    split
    · exact Nat.le_succ_of_le (insPos_le s x p)
    · exact Nat.le_refl _
theorem insR_len (s : List I) (x : I) : (insR s x).length = s.length + 1 := by
  have := insPos_le s x s.length
  unfold insR
  simp
  omega
theorem goods_ins {s : List I} {x : I} (hs : goods s) (hx : good x) : goods (insR s x) := by
  intro y hy
  unfold insR at hy
  rcases List.mem_append.1 hy with h | h
  · exact hs y (List.mem_of_mem_take h)
  · rcases List.mem_cons.1 h with rfl | h
    · exact hx
    · exact hs y (List.mem_of_mem_drop h)
def zI : I := ⟨⟨0, 0, 0, 0, true, true, []⟩, false, ⟨0, 0, 0, 0, true, true, []⟩, false, false⟩
theorem snoc_set (s : List I) (x : I) : (s ++ [zI]).set s.length x = s.take s.length ++ x :: s.drop s.length := by
  simp
theorem join_S4 (i : Nat) (hll : l.length < 1000000) (hil : i < l.length) (hsl : slOk 11 k nl l.length) (hgl : goods l) {r : PV} {s : List I} (hgs : goods s) (hls : s.length < 1000000) : ∀ (p : Nat) (gm : Nat) j jr g, p ≤ s.length →
    (∀ gm j jr g, LoopAt E1 Tryz.f58 r 0 (ref08_join_S3 l k nl full (i + 1 : Nat) gm (s.length + 1) (List.map I.p (s.take (insPos s (l.getD i default) p) ++ l.getD i default :: s.drop (insPos s (l.getD i default) p))) j jr g)) →
    LoopAt E1 Tryz.f58 r 1 (ref08_join_S4 l k nl full i p gm s.length (List.map I.p s) j jr g) := by
  have hx := goods_get hgl hil
  have hwn : IntKind.wrap IntKind.i64 (((s.length + 1 : Nat) : Int) - 1) = (s.length : Int) := by rw [wrap_i64 _ (by omega) (by omega)]; omega
  intro p
  induction p with
  | zero =>
    intro gm j0 jr0 g0 hp next
    refine loop_go 2000 _ (Eq.mpr (ref08_join_go_S4 l k nl full i (0 : Nat) gm s.length s j0 jr0 g0 _) ⟨fun h => ?_, fun h => ?_⟩)
    · simp at h
    · simp only [hwn, Nat.zero_add, eq_self, true_and, and_true]
      refine ⟨by omega, ⟨by simp, fits_104 (by omega)⟩, fun j jr g => ?_⟩
      have := join_S2 l k nl full i hll hil hsl (r := r) (s := s) (p := 0) hp hls next s.length s.length (s ++ [zI]) (g0 + 17 + 3) j jr g (by omega) (Nat.le_refl _) (by simp) (snoc_set s)
      rw [List.map_append] at this
      exact this
  | succ p ih =>
    intro gm j0 jr0 g0 hp next
    have hw2 : IntKind.wrap IntKind.i64 (((p + 1 : Nat) : Int) - 1) = (p : Int) := by rw [wrap_i64 _ (by omega) (by omega)]; omega
    have hs := goods_get hgs (show p < s.length by omega)
    unfold insPos at next
    refine loop_go 2000 _ (Eq.mpr (ref08_join_go_S4 l k nl full i (p + 1 : Nat) gm s.length s j0 jr0 g0 _) ⟨fun h => ?_, fun h => ?_⟩)
    · simp only [hw2, hwn, Int.toNat_natCast, gI_nat, gI_zero, Nat.zero_add, eq_self, true_and, and_true]
      refine ⟨by omega, getI (by omega), ⟨by omega, sl_at hsl hil⟩, getI hil, den_ref08_low ⟨_, _⟩ ⟨_, _⟩ hs.ok.lo hx.ok.lo hs.lo hx.lo, fun hh j jr g => ?_, fun hh => ⟨by omega, ⟨by simp, fits_104 (by omega)⟩, fun j jr g => ?_⟩⟩
      · rw [if_pos (by simpa [I.lb] using hh)] at next
        exact ih gm j jr g (by omega) next
      · rw [if_neg (by simpa [I.lb] using hh)] at next
        have := join_S2 l k nl full i hll hil hsl (r := r) (s := s) (p := p + 1) hp hls next (s.length - (p + 1)) s.length (s ++ [zI]) (g0 + 17 + 3) j jr g (by omega) (Nat.le_refl _) (by simp) (snoc_set s)
        rw [List.map_append] at this
        exact this
    · simp only [decide_eq_false_iff_not] at h; omega
theorem join_S3 (hll : l.length < 1000000) (hsl : slOk 11 k nl l.length) (hgl : goods l) : ∀ (n i : Nat) (s : List I) (gm : Nat) j jr g, i + n = l.length → s ≠ [] → s.length ≤ i → goods s →
    LoopAt E1 Tryz.f58 (resL ((sortR (l.drop i) s).foldl stepR [])) 0 (ref08_join_S3 l k nl full i gm s.length (List.map I.p s) j jr g) := by
  intro n
  induction n with
  | zero =>
    intro i s gm j0 jr0 g0 hi h0 hs hgs
    refine loop_go 2000 _ (Eq.mpr (ref08_join_go_S3 l k nl full i gm s.length s j0 jr0 g0 _) ⟨fun h => ?_, fun h j jr g => ?_⟩)
    · simp only [decide_eq_true_eq, List.length_map] at h; omega
    · rw [List.drop_eq_nil_of_le (by omega)]
      exact join_S6 l k nl full s hgs (by omega) h0 gm _ j jr g
  | succ n ih =>
    intro i s gm j0 jr0 g0 hi h0 hs hgs
    have hil : i < l.length := by omega
    have hx := goods_get hgl hil
    have hw1 : IntKind.wrap IntKind.i64 ((i : Int) + 1) = ((i + 1 : Nat) : Int) := wrap_i64 _ (by omega) (by omega)
    have hst : sortR (l.drop i) s = sortR (l.drop (i + 1)) (if emptyI (l.getD i default) then s else insR s (l.getD i default)) := by
      rw [drop_get hil]; rfl
    rw [hst]
    refine loop_go 2000 _ (Eq.mpr (ref08_join_go_S3 l k nl full i gm s.length s j0 jr0 g0 _) ⟨fun h => ?_, fun h => ?_⟩)
    · simp only [hw1, Int.toNat_natCast, gI_nat, gI_zero]
      refine ⟨⟨by omega, sl_at hsl hil⟩, getI hil, den_empty _ hx.ok hx.lo hx.hi, fun he j jr g => ?_, fun he j jr g => ?_⟩
      · rw [if_pos he]
        exact ih (i + 1) s gm j jr g (by omega) h0 (by omega) hgs
      · rw [he]
        refine join_S4 l k nl full i hll hil hsl hgl hgs (by omega) s.length gm j jr g (Nat.le_refl _) fun gm j jr g => ?_
        have := ih (i + 1) (insR s (l.getD i default)) gm j jr g (by omega) (by unfold insR; simp) (by rw [insR_len]; omega) (goods_ins hgs hx)
        rw [insR_len] at this
        exact this
    · simp only [decide_eq_false_iff_not, List.length_map] at h; omega
theorem join_S0 (hll : l.length < 1000000) (hsl : slOk 11 k nl l.length) (hgl : goods l) : ∀ (n i : Nat) j jr g, i + n = l.length →
    LoopAt E1 Tryz.f58 (resL ((sortR (l.drop i) []).foldl stepR [])) 0 (ref08_join_S0 l k nl full i j jr g) := by
  intro n
  induction n with
  | zero =>
    intro i j0 jr0 g0 hi
    refine loop_go 2000 _ (Eq.mpr (ref08_join_go_S0 l k nl full i j0 jr0 g0 _) ⟨fun h => ?_, fun h j jr g => ?_⟩)
    · simp only [decide_eq_true_eq, List.length_map] at h; omega
    · rw [List.drop_eq_nil_of_le (by omega)]
      exact loop_go 2000 _ (Eq.mpr (ref08_join_go_S5 l k nl full _ j jr g _) rfl)
  | succ n ih =>
    intro i j0 jr0 g0 hi
    have hil : i < l.length := by omega
    have hx := goods_get hgl hil
    have hw1 : IntKind.wrap IntKind.i64 ((i : Int) + 1) = ((i + 1 : Nat) : Int) := wrap_i64 _ (by omega) (by omega)
    have hst : sortR (l.drop i) [] = sortR (l.drop (i + 1)) (if emptyI (l.getD i default) then [] else [l.getD i default]) := by
      rw [drop_get hil]; rfl
    rw [hst]
    refine loop_go 2000 _ (Eq.mpr (ref08_join_go_S0 l k nl full i j0 jr0 g0 _) ⟨fun h => ?_, fun h => ?_⟩)
    · simp only [hw1, Int.toNat_natCast, gI_nat, gI_zero]
      refine ⟨⟨by omega, sl_at hsl hil⟩, getI hil, den_empty _ hx.ok hx.lo hx.hi, fun he j jr g => ?_, fun he j jr g => ?_⟩
      · rw [if_pos he]
        exact ih (i + 1) j jr g (by omega)
      · rw [he]
        refine loop_go 2000 _ (Eq.mpr (ref08_join_go_S1 l k nl full i j jr g _) ⟨rfl, ⟨rfl, Nat.le_refl _⟩, ⟨rfl, rfl⟩, fun j jr g1 => ?_⟩)
        refine join_S2 l k nl full i hll hil hsl (s := []) (p := 0) (Nat.le_refl _) (by simp) (fun gm j jr g => ?_) 0 0 [zI] _ j jr g1 rfl (Nat.le_refl _) rfl (fun x => rfl)
        exact join_S3 l k nl full hll hsl hgl n (i + 1) [l.getD i default] gm j jr g (by omega) (by simp) (by simp) (fun y hy => by simp at hy; subst hy; rw [← List.getD_eq_getElem?_getD]; exact hx)
    · simp only [decide_eq_false_iff_not, List.length_map] at h; omega
theorem den_ref08_join (hll : l.length < 1000000) (hsl : slOk 11 k nl l.length) (hgl : goods l) : Den E1 58 [listP k nl full l] (resL (joinR l)) :=
  den1 2000 _ rfl (by kernel_rfl) rfl rfl rfl (Eq.mpr (ref08_join_go l k nl full _) fun j jr g => join_S0 l k nl full hll hsl hgl l.length 0 j jr g (by omega))
end
end Go.Proofs.YtlhfgonjcpapnaaGreatDoor.Abs

namespace Go.Proofs.YtlhfgonjcpapnaaGreatDoor.Abs
open Go Go.Proofs
def inI (x : I) (v : V) : Bool := decide (befE x.low ⟨v, false, false⟩ ≤ 0) && decide (befE ⟨v, true, false⟩ x.high ≤ 0)
def idxI (p : I → Bool) (l : List I) : Int := if l.findIdx p < l.length then (l.findIdx p : Int) else -1
def hasR (l : List I) (v : V) : Bool := !(meetR l [⟨v, false, v, false, false⟩]).isEmpty
end Go.Proofs.YtlhfgonjcpapnaaGreatDoor.Abs

namespace Go.Proofs.YtlhfgonjcpapnaaGreatDoor.Abs
open Go Go.Proofs
def ref08_meet_S0 (l : List I) (m : List I) (k : Nat) (k' : Nat) (nl : Bool) (full : Bool) (nl' : Bool) (full' : Bool) (i : Int) (j : Nat → AV) (jr : Nat → Row) (g : Nat) : St :=
  { t := [.pv (.sl k nl full (List.map I.p l)), .pv (.sl k' nl' full' (List.map I.p m)), j 2, j 3, j 4, .pv (.sl 0 true true []), intA i] ++ jj j 7 58, h := [[row0, row0, row0, row0, row0, row0, row0, row0, jr 8, row0, row0, row0, row0, row0, row0, row0, row0, row0, row0, row0, row0, row0, row0, row0, row0, row0, row0, row0, row0, row0, row0, row0, row0, row0, row0, row0, row0, row0, row0, row0, row0, row0, row0, row0, row0, row0, row0, row0, row0, row0, row0, row0, row0, row0, row0, row0, row0, row0, row0, row0, row0, jr 61, row0, row0, row0]], g := g }
def ref08_meet_S1 (l : List I) (m : List I) (k : Nat) (k' : Nat) (nl : Bool) (full : Bool) (nl' : Bool) (full' : Bool) (i : Int) (q : Int) (j : Nat → AV) (jr : Nat → Row) (g : Nat) : St :=
  { t := [.pv (.sl k nl full (List.map I.p l)), .pv (.sl k' nl' full' (List.map I.p m)), j 2, j 3, j 4, .pv (.sl 0 true true []), intA i, intA q] ++ jj j 8 57, h := [[row0, row0, row0, row0, row0, row0, row0, row0, jr 8, row0, row0, row0, row0, row0, row0, row0, row0, row0, row0, row0, row0, row0, row0, row0, row0, row0, row0, row0, row0, row0, row0, row0, row0, row0, row0, row0, row0, row0, row0, row0, row0, row0, row0, row0, row0, row0, row0, row0, row0, row0, row0, row0, row0, row0, row0, row0, row0, row0, row0, row0, row0, jr 61, row0, row0, row0]], g := g }
def ref08_meet_S2 (l : List I) (m : List I) (k : Nat) (k' : Nat) (nl : Bool) (full : Bool) (nl' : Bool) (full' : Bool) (i : Int) (q : Int) (gm : Nat) (n : Nat) (xsI : List PV) (j : Nat → AV) (jr : Nat → Row) (g : Nat) : St :=
  { t := [.pv (.sl k nl full (List.map I.p l)), .pv (.sl k' nl' full' (List.map I.p m)), j 2, j 3, j 4, .msl 0 62 gm 0 n false, intA i, intA q] ++ jj j 8 57, h := [[row0, row0, row0, row0, row0, row0, row0, row0, jr 8, row0, row0, row0, row0, row0, row0, row0, row0, row0, row0, row0, row0, row0, row0, row0, row0, row0, row0, row0, row0, row0, row0, row0, row0, row0, row0, row0, row0, row0, row0, row0, row0, row0, row0, row0, row0, row0, row0, row0, row0, row0, row0, row0, row0, row0, row0, row0, row0, row0, row0, row0, row0, jr 61, ⟨gm, .row 11 63 xsI false⟩, row0, row0]], g := g }
def ref08_meet_S3 (l : List I) (m : List I) (k : Nat) (k' : Nat) (nl : Bool) (full : Bool) (nl' : Bool) (full' : Bool) (i : Int) (gm : Nat) (n : Nat) (xsI : List PV) (j : Nat → AV) (jr : Nat → Row) (g : Nat) : St :=
  { t := [.pv (.sl k nl full (List.map I.p l)), .pv (.sl k' nl' full' (List.map I.p m)), j 2, j 3, j 4, .msl 0 62 gm 0 n false, intA i] ++ jj j 7 58, h := [[row0, row0, row0, row0, row0, row0, row0, row0, jr 8, row0, row0, row0, row0, row0, row0, row0, row0, row0, row0, row0, row0, row0, row0, row0, row0, row0, row0, row0, row0, row0, row0, row0, row0, row0, row0, row0, row0, row0, row0, row0, row0, row0, row0, row0, row0, row0, row0, row0, row0, row0, row0, row0, row0, row0, row0, row0, row0, row0, row0, row0, row0, jr 61, ⟨gm, .row 11 63 xsI false⟩, row0, row0]], g := g }
theorem ref08_meet_go (l : List I) (m : List I) (k : Nat) (k' : Nat) (nl : Bool) (full : Bool) (nl' : Bool) (full' : Bool) (r : PV) : FnGo E1 Tryz.f61 [.sl k nl full (List.map I.p l), .sl k' nl' full' (List.map I.p m)] r 2000 (.mask (iv [(2, 4), (7, 64)]) [8, 61]) =
  (AtAll Tryz.f61 r 0 (ref08_meet_S0 l m k k' nl full nl' full' 0)) := by kernel_rfl
theorem ref08_meet_go_S0 (l : List I) (m : List I) (k : Nat) (k' : Nat) (nl : Bool) (full : Bool) (nl' : Bool) (full' : Bool) (i : Int) (j : Nat → AV) (jr : Nat → Row) (g : Nat) (r : PV) : LoopGo E1 Tryz.f61 r 0 2000 (.fork (.mask (iv [(2, 4), (8, 64)]) [8, 61]) (.res (.sl 0 true true []) (.hole 0))) (ref08_meet_S0 l m k k' nl full nl' full' i j jr g) =
  (((decide (i < (↑(List.length (List.map I.p l)) : Int))) = true →
 AtAll Tryz.f61 r 1 (ref08_meet_S1 l m k k' nl full nl' full' i 0)) ∧
 ((decide (i < (↑(List.length (List.map I.p l)) : Int))) = false →
 (Den E1 58 [.sl 0 true true []] (.sl 0 true true [])) ∧
 ((.sl 0 true true []) : PV) = r)) := by kernel_rfl
theorem ref08_meet_go_S1 (l : List I) (m : List I) (k : Nat) (k' : Nat) (nl : Bool) (full : Bool) (nl' : Bool) (full' : Bool) (i : Int) (q : Int) (j : Nat → AV) (jr : Nat → Row) (g : Nat) (r : PV) : LoopGo E1 Tryz.f61 r 1 2000 (.fork (.val (I.p (gI l i)) (.val (I.p (gI m q)) (.res (intP (lowB { v := I.lo (gI l i), op := I.lopen (gI l i) } { v := I.lo (gI m q), op := I.lopen (gI m q) })) (.fork (.val (I.p (gI m q)) (.val (I.p (gI m q)) (.res (intP (highI (gI m q) ⟨I.lo (gI m q), I.lopen (gI m q), I.hi (gI l i), I.hopen (gI l i), I.less (gI l i)⟩)) (.fork (.val (I.p (gI m q)) (.val (I.p (gI m q)) (.lit (.lit (.mask (iv [(2, 4), (8, 64)]) [8, 61]))))) (.lit (.lit (.mask (iv [(2, 4), (8, 64)]) [8, 61]))))))) (.val (I.p (gI m q)) (.res (intP (highI (gI m q) (gI l i))) (.fork (.val (I.p (gI m q)) (.val (I.p (gI m q)) (.lit (.lit (.mask (iv [(2, 4), (8, 64)]) [8, 61]))))) (.lit (.lit (.mask (iv [(2, 4), (8, 64)]) [8, 61])))))))))) (.mask (iv [(2, 4), (7, 64)]) [8, 61])) (ref08_meet_S1 l m k k' nl full nl' full' i q j jr g) =
  (((decide (q < (↑(List.length (List.map I.p m)) : Int))) = true →
 (((0 : Int) ≤ i) ∧ ((nl = false) ∧ (k = 11))) ∧
 (((List.map I.p l)[Int.toNat i]?) = some (I.p (gI l i))) ∧
 ((g + 4 + 4) = g + 4 + 4) ∧
 ((g + 4 + 4) = g + 4 + 4) ∧
 (((0 : Int) ≤ q) ∧ ((nl' = false) ∧ (k' = 11))) ∧
 (((List.map I.p m)[Int.toNat q]?) = some (I.p (gI m q))) ∧
 (Den E1 44 [Bd.p ⟨(I.lo (gI l i)), (I.lopen (gI l i))⟩, Bd.p ⟨(I.lo (gI m q)), (I.lopen (gI m q))⟩] (intP (lowB { v := I.lo (gI l i), op := I.lopen (gI l i) } { v := I.lo (gI m q), op := I.lopen (gI m q) }))) ∧
 ((decide (lowB { v := I.lo (gI l i), op := I.lopen (gI l i) } { v := I.lo (gI m q), op := I.lopen (gI m q) } < (0 : Int))) = true →
 (((0 : Int) ≤ q) ∧ ((nl' = false) ∧ (k' = 11))) ∧
 (((List.map I.p m)[Int.toNat q]?) = some (I.p (gI m q))) ∧
 ((g + 4 + 4) = g + 4 + 4) ∧
 (((0 : Int) ≤ q) ∧ ((nl' = false) ∧ (k' = 11))) ∧
 (((List.map I.p m)[Int.toNat q]?) = some (I.p (gI m q))) ∧
 ((g + 4 + 4) = g + 4 + 4) ∧
 (Den E1 100 [I.p (gI m q), I.p ⟨(I.lo (gI m q)), (I.lopen (gI m q)), (I.hi (gI l i)), (I.hopen (gI l i)), (I.less (gI l i))⟩] (intP (highI (gI m q) ⟨I.lo (gI m q), I.lopen (gI m q), I.hi (gI l i), I.hopen (gI l i), I.less (gI l i)⟩))) ∧
 ((decide (highI (gI m q) ⟨I.lo (gI m q), I.lopen (gI m q), I.hi (gI l i), I.hopen (gI l i), I.less (gI l i)⟩ < (0 : Int))) = true →
 (((0 : Int) ≤ q) ∧ ((nl' = false) ∧ (k' = 11))) ∧
 (((List.map I.p m)[Int.toNat q]?) = some (I.p (gI m q))) ∧
 ((g + 4 + 4) = g + 4 + 4) ∧
 (((0 : Int) ≤ q) ∧ ((nl' = false) ∧ (k' = 11))) ∧
 (((List.map I.p m)[Int.toNat q]?) = some (I.p (gI m q))) ∧
 ((g + 4 + 4) = g + 4 + 4) ∧
 ((g + 4 + 4) = g + 4 + 4) ∧
 ((g + 4 + 6 + 9 + 7 + 7 + 7 + 7 + 2) = g + 4 + 6 + 9 + 7 + 7 + 7 + 7 + 2) ∧
 (((11 : Nat) = 11) ∧ ((1 : Nat) ≤ (1 : Nat))) ∧
 (((0 : Nat) = 0) ∧ (true = true)) ∧
 (AtAll Tryz.f61 r 1 (ref08_meet_S2 l m k k' nl full nl' full' i (IntKind.i64.wrap (q + (1 : Int))) (g + 4 + 6 + 9 + 7 + 7 + 7 + 7 + 3) 1 [I.p (gI m q)]))) ∧
 ((decide (highI (gI m q) ⟨I.lo (gI m q), I.lopen (gI m q), I.hi (gI l i), I.hopen (gI l i), I.less (gI l i)⟩ < (0 : Int))) = false →
 ((g + 4 + 4) = g + 4 + 4) ∧
 ((g + 4 + 6 + 9 + 7 + 7 + 2) = g + 4 + 6 + 9 + 7 + 7 + 2) ∧
 (((11 : Nat) = 11) ∧ ((1 : Nat) ≤ (1 : Nat))) ∧
 (((0 : Nat) = 0) ∧ (true = true)) ∧
 (AtAll Tryz.f61 r 1 (ref08_meet_S2 l m k k' nl full nl' full' i (IntKind.i64.wrap (q + (1 : Int))) (g + 4 + 6 + 9 + 7 + 7 + 3) 1 [I.p ⟨(I.lo (gI m q)), (I.lopen (gI m q)), (I.hi (gI l i)), (I.hopen (gI l i)), (I.less (gI l i))⟩])))) ∧
 ((decide (lowB { v := I.lo (gI l i), op := I.lopen (gI l i) } { v := I.lo (gI m q), op := I.lopen (gI m q) } < (0 : Int))) = false →
 (((0 : Int) ≤ q) ∧ ((nl' = false) ∧ (k' = 11))) ∧
 (((List.map I.p m)[Int.toNat q]?) = some (I.p (gI m q))) ∧
 ((g + 4 + 4) = g + 4 + 4) ∧
 (Den E1 100 [I.p (gI m q), I.p (gI l i)] (intP (highI (gI m q) (gI l i)))) ∧
 ((decide (highI (gI m q) (gI l i) < (0 : Int))) = true →
 (((0 : Int) ≤ q) ∧ ((nl' = false) ∧ (k' = 11))) ∧
 (((List.map I.p m)[Int.toNat q]?) = some (I.p (gI m q))) ∧
 ((g + 4 + 4) = g + 4 + 4) ∧
 (((0 : Int) ≤ q) ∧ ((nl' = false) ∧ (k' = 11))) ∧
 (((List.map I.p m)[Int.toNat q]?) = some (I.p (gI m q))) ∧
 ((g + 4 + 4) = g + 4 + 4) ∧
 ((g + 4 + 4) = g + 4 + 4) ∧
 ((g + 4 + 6 + 9 + 7 + 7 + 7 + 2) = g + 4 + 6 + 9 + 7 + 7 + 7 + 2) ∧
 (((11 : Nat) = 11) ∧ ((1 : Nat) ≤ (1 : Nat))) ∧
 (((0 : Nat) = 0) ∧ (true = true)) ∧
 (AtAll Tryz.f61 r 1 (ref08_meet_S2 l m k k' nl full nl' full' i (IntKind.i64.wrap (q + (1 : Int))) (g + 4 + 6 + 9 + 7 + 7 + 7 + 3) 1 [I.p ⟨(I.lo (gI l i)), (I.lopen (gI l i)), (I.hi (gI m q)), (I.hopen (gI m q)), (I.less (gI m q))⟩]))) ∧
 ((decide (highI (gI m q) (gI l i) < (0 : Int))) = false →
 ((g + 4 + 4) = g + 4 + 4) ∧
 ((g + 4 + 6 + 9 + 7 + 2) = g + 4 + 6 + 9 + 7 + 2) ∧
 (((11 : Nat) = 11) ∧ ((1 : Nat) ≤ (1 : Nat))) ∧
 (((0 : Nat) = 0) ∧ (true = true)) ∧
 (AtAll Tryz.f61 r 1 (ref08_meet_S2 l m k k' nl full nl' full' i (IntKind.i64.wrap (q + (1 : Int))) (g + 4 + 6 + 9 + 7 + 3) 1 [I.p (gI l i)]))))) ∧
 ((decide (q < (↑(List.length (List.map I.p m)) : Int))) = false →
 AtAll Tryz.f61 r 0 (ref08_meet_S0 l m k k' nl full nl' full' (IntKind.i64.wrap (i + (1 : Int)))))) := by kernel_rfl
theorem ref08_meet_go_S2 (l : List I) (m : List I) (k : Nat) (k' : Nat) (nl : Bool) (full : Bool) (nl' : Bool) (full' : Bool) (i : Int) (q : Int) (gm : Nat) (n : Nat) (xs : List I) (j : Nat → AV) (jr : Nat → Row) (g : Nat) (r : PV) : LoopGo E1 Tryz.f61 r 1 2000 (.fork (.val (I.p (gI l i)) (.val (I.p (gI m q)) (.res (intP (lowB { v := I.lo (gI l i), op := I.lopen (gI l i) } { v := I.lo (gI m q), op := I.lopen (gI m q) })) (.fork (.val (I.p (gI m q)) (.val (I.p (gI m q)) (.res (intP (highI (gI m q) ⟨I.lo (gI m q), I.lopen (gI m q), I.hi (gI l i), I.hopen (gI l i), I.less (gI l i)⟩)) (.fork (.val (I.p (gI m q)) (.val (I.p (gI m q)) (.lit (.mask (iv [(2, 4), (8, 64)]) [8, 61])))) (.lit (.mask (iv [(2, 4), (8, 64)]) [8, 61])))))) (.val (I.p (gI m q)) (.res (intP (highI (gI m q) (gI l i))) (.fork (.val (I.p (gI m q)) (.val (I.p (gI m q)) (.lit (.mask (iv [(2, 4), (8, 64)]) [8, 61])))) (.lit (.mask (iv [(2, 4), (8, 64)]) [8, 61]))))))))) (.mask (iv [(2, 4), (7, 64)]) [8, 61])) (ref08_meet_S2 l m k k' nl full nl' full' i q gm n (List.map I.p xs) j jr g) =
  (((decide (q < (↑(List.length (List.map I.p m)) : Int))) = true →
 (((0 : Int) ≤ i) ∧ ((nl = false) ∧ (k = 11))) ∧
 (((List.map I.p l)[Int.toNat i]?) = some (I.p (gI l i))) ∧
 ((g + 4 + 4) = g + 4 + 4) ∧
 ((g + 4 + 4) = g + 4 + 4) ∧
 (((0 : Int) ≤ q) ∧ ((nl' = false) ∧ (k' = 11))) ∧
 (((List.map I.p m)[Int.toNat q]?) = some (I.p (gI m q))) ∧
 (Den E1 44 [Bd.p ⟨(I.lo (gI l i)), (I.lopen (gI l i))⟩, Bd.p ⟨(I.lo (gI m q)), (I.lopen (gI m q))⟩] (intP (lowB { v := I.lo (gI l i), op := I.lopen (gI l i) } { v := I.lo (gI m q), op := I.lopen (gI m q) }))) ∧
 ((decide (lowB { v := I.lo (gI l i), op := I.lopen (gI l i) } { v := I.lo (gI m q), op := I.lopen (gI m q) } < (0 : Int))) = true →
 (((0 : Int) ≤ q) ∧ ((nl' = false) ∧ (k' = 11))) ∧
 (((List.map I.p m)[Int.toNat q]?) = some (I.p (gI m q))) ∧
 ((g + 4 + 4) = g + 4 + 4) ∧
 (((0 : Int) ≤ q) ∧ ((nl' = false) ∧ (k' = 11))) ∧
 (((List.map I.p m)[Int.toNat q]?) = some (I.p (gI m q))) ∧
 ((g + 4 + 4) = g + 4 + 4) ∧
 (Den E1 100 [I.p (gI m q), I.p ⟨(I.lo (gI m q)), (I.lopen (gI m q)), (I.hi (gI l i)), (I.hopen (gI l i)), (I.less (gI l i))⟩] (intP (highI (gI m q) ⟨I.lo (gI m q), I.lopen (gI m q), I.hi (gI l i), I.hopen (gI l i), I.less (gI l i)⟩))) ∧
 ((decide (highI (gI m q) ⟨I.lo (gI m q), I.lopen (gI m q), I.hi (gI l i), I.hopen (gI l i), I.less (gI l i)⟩ < (0 : Int))) = true →
 (((0 : Int) ≤ q) ∧ ((nl' = false) ∧ (k' = 11))) ∧
 (((List.map I.p m)[Int.toNat q]?) = some (I.p (gI m q))) ∧
 ((g + 4 + 4) = g + 4 + 4) ∧
 (((0 : Int) ≤ q) ∧ ((nl' = false) ∧ (k' = 11))) ∧
 (((List.map I.p m)[Int.toNat q]?) = some (I.p (gI m q))) ∧
 ((g + 4 + 4) = g + 4 + 4) ∧
 ((g + 4 + 4) = g + 4 + 4) ∧
 ((g + 4 + 6 + 9 + 7 + 7 + 7 + 7 + 2) = g + 4 + 6 + 9 + 7 + 7 + 7 + 7 + 2) ∧
 (((11 : Nat) = 11) ∧ ((1 : Nat) ≤ (1 : Nat))) ∧
 (gm = gm) ∧
 ((false = false) ∧ (((11 : Nat) = 11) ∧ (((63 : Nat) = 63) ∧ ((((0 : Nat) + n) = List.length (List.map I.p xs)) ∧ ((fitsRow (n + 1) (104 : Nat)) = true))))) ∧
 (∀ (j' : Nat → AV) (jr' : Nat → Row) (g' : Nat), LoopAt E1 Tryz.f61 r 1 (ref08_meet_S2 l m k k' nl full nl' full' i (IntKind.i64.wrap (q + (1 : Int))) (g + 4 + 6 + 9 + 7 + 7 + 7 + 7 + 3) (n + 1) (List.drop (0 : Nat) (List.map I.p xs) ++ List.take (1 : Nat) (List.drop (0 : Nat) [PV.agg [PV.lit (Value.int IntKind.u32 (V.a (I.lo (gI m q)))), PV.lit (Value.int IntKind.u32 (V.b (I.lo (gI m q)))), PV.lit (Value.int IntKind.u32 (V.c (I.lo (gI m q)))), V.q (I.lo (gI m q)), PV.lit (Value.bool (I.lopen (gI m q))), PV.lit (Value.int IntKind.u32 (V.a (I.hi (gI m q)))), PV.lit (Value.int IntKind.u32 (V.b (I.hi (gI m q)))), PV.lit (Value.int IntKind.u32 (V.c (I.hi (gI m q)))), V.q (I.hi (gI m q)), PV.lit (Value.bool (I.hopen (gI m q))), PV.lit (Value.bool (I.less (gI m q)))]])) j' jr' g'))) ∧
 ((decide (highI (gI m q) ⟨I.lo (gI m q), I.lopen (gI m q), I.hi (gI l i), I.hopen (gI l i), I.less (gI l i)⟩ < (0 : Int))) = false →
 ((g + 4 + 4) = g + 4 + 4) ∧
 ((g + 4 + 6 + 9 + 7 + 7 + 2) = g + 4 + 6 + 9 + 7 + 7 + 2) ∧
 (((11 : Nat) = 11) ∧ ((1 : Nat) ≤ (1 : Nat))) ∧
 (gm = gm) ∧
 ((false = false) ∧ (((11 : Nat) = 11) ∧ (((63 : Nat) = 63) ∧ ((((0 : Nat) + n) = List.length (List.map I.p xs)) ∧ ((fitsRow (n + 1) (104 : Nat)) = true))))) ∧
 (∀ (j' : Nat → AV) (jr' : Nat → Row) (g' : Nat), LoopAt E1 Tryz.f61 r 1 (ref08_meet_S2 l m k k' nl full nl' full' i (IntKind.i64.wrap (q + (1 : Int))) (g + 4 + 6 + 9 + 7 + 7 + 3) (n + 1) (List.drop (0 : Nat) (List.map I.p xs) ++ List.take (1 : Nat) (List.drop (0 : Nat) [PV.agg [PV.lit (Value.int IntKind.u32 (V.a (I.lo (gI m q)))), PV.lit (Value.int IntKind.u32 (V.b (I.lo (gI m q)))), PV.lit (Value.int IntKind.u32 (V.c (I.lo (gI m q)))), V.q (I.lo (gI m q)), PV.lit (Value.bool (I.lopen (gI m q))), PV.lit (Value.int IntKind.u32 (V.a (I.hi (gI l i)))), PV.lit (Value.int IntKind.u32 (V.b (I.hi (gI l i)))), PV.lit (Value.int IntKind.u32 (V.c (I.hi (gI l i)))), V.q (I.hi (gI l i)), PV.lit (Value.bool (I.hopen (gI l i))), PV.lit (Value.bool (I.less (gI l i)))]])) j' jr' g')))) ∧
 ((decide (lowB { v := I.lo (gI l i), op := I.lopen (gI l i) } { v := I.lo (gI m q), op := I.lopen (gI m q) } < (0 : Int))) = false →
 (((0 : Int) ≤ q) ∧ ((nl' = false) ∧ (k' = 11))) ∧
 (((List.map I.p m)[Int.toNat q]?) = some (I.p (gI m q))) ∧
 ((g + 4 + 4) = g + 4 + 4) ∧
 (Den E1 100 [I.p (gI m q), I.p (gI l i)] (intP (highI (gI m q) (gI l i)))) ∧
 ((decide (highI (gI m q) (gI l i) < (0 : Int))) = true →
 (((0 : Int) ≤ q) ∧ ((nl' = false) ∧ (k' = 11))) ∧
 (((List.map I.p m)[Int.toNat q]?) = some (I.p (gI m q))) ∧
 ((g + 4 + 4) = g + 4 + 4) ∧
 (((0 : Int) ≤ q) ∧ ((nl' = false) ∧ (k' = 11))) ∧
 (((List.map I.p m)[Int.toNat q]?) = some (I.p (gI m q))) ∧
 ((g + 4 + 4) = g + 4 + 4) ∧
 ((g + 4 + 4) = g + 4 + 4) ∧
 ((g + 4 + 6 + 9 + 7 + 7 + 7 + 2) = g + 4 + 6 + 9 + 7 + 7 + 7 + 2) ∧
 (((11 : Nat) = 11) ∧ ((1 : Nat) ≤ (1 : Nat))) ∧
 (gm = gm) ∧
 ((false = false) ∧ (((11 : Nat) = 11) ∧ (((63 : Nat) = 63) ∧ ((((0 : Nat) + n) = List.length (List.map I.p xs)) ∧ ((fitsRow (n + 1) (104 : Nat)) = true))))) ∧
 (∀ (j' : Nat → AV) (jr' : Nat → Row) (g' : Nat), LoopAt E1 Tryz.f61 r 1 (ref08_meet_S2 l m k k' nl full nl' full' i (IntKind.i64.wrap (q + (1 : Int))) (g + 4 + 6 + 9 + 7 + 7 + 7 + 3) (n + 1) (List.drop (0 : Nat) (List.map I.p xs) ++ List.take (1 : Nat) (List.drop (0 : Nat) [PV.agg [PV.lit (Value.int IntKind.u32 (V.a (I.lo (gI l i)))), PV.lit (Value.int IntKind.u32 (V.b (I.lo (gI l i)))), PV.lit (Value.int IntKind.u32 (V.c (I.lo (gI l i)))), V.q (I.lo (gI l i)), PV.lit (Value.bool (I.lopen (gI l i))), PV.lit (Value.int IntKind.u32 (V.a (I.hi (gI m q)))), PV.lit (Value.int IntKind.u32 (V.b (I.hi (gI m q)))), PV.lit (Value.int IntKind.u32 (V.c (I.hi (gI m q)))), V.q (I.hi (gI m q)), PV.lit (Value.bool (I.hopen (gI m q))), PV.lit (Value.bool (I.less (gI m q)))]])) j' jr' g'))) ∧
 ((decide (highI (gI m q) (gI l i) < (0 : Int))) = false →
 ((g + 4 + 4) = g + 4 + 4) ∧
 ((g + 4 + 6 + 9 + 7 + 2) = g + 4 + 6 + 9 + 7 + 2) ∧
 (((11 : Nat) = 11) ∧ ((1 : Nat) ≤ (1 : Nat))) ∧
 (gm = gm) ∧
 ((false = false) ∧ (((11 : Nat) = 11) ∧ (((63 : Nat) = 63) ∧ ((((0 : Nat) + n) = List.length (List.map I.p xs)) ∧ ((fitsRow (n + 1) (104 : Nat)) = true))))) ∧
 (∀ (j' : Nat → AV) (jr' : Nat → Row) (g' : Nat), LoopAt E1 Tryz.f61 r 1 (ref08_meet_S2 l m k k' nl full nl' full' i (IntKind.i64.wrap (q + (1 : Int))) (g + 4 + 6 + 9 + 7 + 3) (n + 1) (List.drop (0 : Nat) (List.map I.p xs) ++ List.take (1 : Nat) (List.drop (0 : Nat) [PV.agg [PV.lit (Value.int IntKind.u32 (V.a (I.lo (gI l i)))), PV.lit (Value.int IntKind.u32 (V.b (I.lo (gI l i)))), PV.lit (Value.int IntKind.u32 (V.c (I.lo (gI l i)))), V.q (I.lo (gI l i)), PV.lit (Value.bool (I.lopen (gI l i))), PV.lit (Value.int IntKind.u32 (V.a (I.hi (gI l i)))), PV.lit (Value.int IntKind.u32 (V.b (I.hi (gI l i)))), PV.lit (Value.int IntKind.u32 (V.c (I.hi (gI l i)))), V.q (I.hi (gI l i)), PV.lit (Value.bool (I.hopen (gI l i))), PV.lit (Value.bool (I.less (gI l i)))]])) j' jr' g'))))) ∧
 ((decide (q < (↑(List.length (List.map I.p m)) : Int))) = false →
 AtAll Tryz.f61 r 0 (ref08_meet_S3 l m k k' nl full nl' full' (IntKind.i64.wrap (i + (1 : Int))) gm n (List.map I.p xs)))) := by kernel_rfl
theorem ref08_meet_go_S3 (l : List I) (m : List I) (k : Nat) (k' : Nat) (nl : Bool) (full : Bool) (nl' : Bool) (full' : Bool) (i : Int) (gm : Nat) (n : Nat) (xs : List I) (j : Nat → AV) (jr : Nat → Row) (g : Nat) (r : PV) : LoopGo E1 Tryz.f61 r 0 2000 (.fork (.mask (iv [(2, 4), (8, 64)]) [8, 61]) (.frz [.sl 11 false false (List.map I.p xs)] [[row0, row0, row0, row0, row0, row0, row0, row0, jr 8, row0, row0, row0, row0, row0, row0, row0, row0, row0, row0, row0, row0, row0, row0, row0, row0, row0, row0, row0, row0, row0, row0, row0, row0, row0, row0, row0, row0, row0, row0, row0, row0, row0, row0, row0, row0, row0, row0, row0, row0, row0, row0, row0, row0, row0, row0, row0, row0, row0, row0, row0, row0, jr 61, ⟨gm, .row 11 63 (List.map I.p xs) true⟩, row0, row0]] (.res (resL (joinR xs)) (.hole 0)))) (ref08_meet_S3 l m k k' nl full nl' full' i gm n (List.map I.p xs) j jr g) =
  (((decide (i < (↑(List.length (List.map I.p l)) : Int))) = true →
 AtAll Tryz.f61 r 1 (ref08_meet_S2 l m k k' nl full nl' full' i 0 gm n (List.map I.p xs))) ∧
 ((decide (i < (↑(List.length (List.map I.p l)) : Int))) = false →
 (frzs frzDepth [.msl 0 62 gm 0 n false] [[row0, row0, row0, row0, row0, row0, row0, row0, jr 8, row0, row0, row0, row0, row0, row0, row0, row0, row0, row0, row0, row0, row0, row0, row0, row0, row0, row0, row0, row0, row0, row0, row0, row0, row0, row0, row0, row0, row0, row0, row0, row0, row0, row0, row0, row0, row0, row0, row0, row0, row0, row0, row0, row0, row0, row0, row0, row0, row0, row0, row0, row0, jr 61, ⟨gm, .row 11 63 (List.map I.p xs) false⟩, row0, row0]] = some ([.sl 11 false false (List.map I.p xs)], [[row0, row0, row0, row0, row0, row0, row0, row0, jr 8, row0, row0, row0, row0, row0, row0, row0, row0, row0, row0, row0, row0, row0, row0, row0, row0, row0, row0, row0, row0, row0, row0, row0, row0, row0, row0, row0, row0, row0, row0, row0, row0, row0, row0, row0, row0, row0, row0, row0, row0, row0, row0, row0, row0, row0, row0, row0, row0, row0, row0, row0, row0, jr 61, ⟨gm, .row 11 63 (List.map I.p xs) true⟩, row0, row0]])) ∧
 (Den E1 58 [.sl 11 false false (List.map I.p xs)] (resL (joinR xs))) ∧
 ((resL (joinR xs)) : PV) = r)) := by kernel_rfl
theorem ref08_Has_go (l : List I) (k : Nat) (nl : Bool) (full : Bool) (v : V) (r : PV) : FnGo E1 Tryz.f27 [.sl k nl full (List.map I.p l), V.p v] r 2000 (.ev (.res (resL (meetR l [⟨v, false, v, false, false⟩])) (.hole 0))) =
  (((0 : Nat) = 0) ∧
 ((0 : Nat) = 0) ∧
 (Den E1 61 [.sl k nl full (List.map I.p l), .sl 11 false true [I.p ⟨v, false, v, false, false⟩]] (resL (meetR l [⟨v, false, v, false, false⟩]))) ∧
 (bolP (decide ((↑(List.length (List.map I.p (meetR l [⟨v, false, v, false, false⟩]))) : Int) > (0 : Int)))) = r) := by kernel_rfl
theorem span_has_1_go (x : I) (v : V) (r : PV) : FnGo E1 Tryz.f84 [I.p x, .ptr (V.p v) 0] r 2000 (.res (Ed.p ⟨(I.lo x), (I.lopen x), false⟩) (.res (intP (befE ⟨I.lo x, I.lopen x, false⟩ ⟨v, false, false⟩)) (.fork (.lts 4 (.res (Ed.p ⟨(I.hi x), (!I.hopen x), (I.less x)⟩) (.lit (.res (intP (befE ⟨v, true, false⟩ ⟨I.hi x, !I.hopen x, I.less x⟩)) (.lit (.lit (.hole 0))))))) (.lts 7 (.hole 0))))) =
  (((0 : Nat) = 0) ∧
 (Den E1 37 [I.p x] (Ed.p ⟨(I.lo x), (I.lopen x), false⟩)) ∧
 (Den E1 36 [Ed.p ⟨(I.lo x), (I.lopen x), false⟩, Ed.p ⟨v, false, false⟩] (intP (befE ⟨I.lo x, I.lopen x, false⟩ ⟨v, false, false⟩))) ∧
 ((decide (befE ⟨I.lo x, I.lopen x, false⟩ ⟨v, false, false⟩ ≤ (0 : Int))) = true →
 ((0 : Nat) = 0) ∧
 (Den E1 38 [I.p x] (Ed.p ⟨(I.hi x), (!I.hopen x), (I.less x)⟩)) ∧
 (Den E1 36 [Ed.p ⟨v, true, false⟩, Ed.p ⟨(I.hi x), (!I.hopen x), (I.less x)⟩] (intP (befE ⟨v, true, false⟩ ⟨I.hi x, !I.hopen x, I.less x⟩))) ∧
 (bolP (decide (befE ⟨v, true, false⟩ ⟨I.hi x, !I.hopen x, I.less x⟩ ≤ (0 : Int)))) = r) ∧
 ((decide (befE ⟨I.lo x, I.lopen x, false⟩ ⟨v, false, false⟩ ≤ (0 : Int))) = false →
 (bolP false) = r)) := by kernel_rfl
def slices_IndexFunc_api_Interval_api_Interval_S0 (l : List I) (k : Nat) (nl : Bool) (full : Bool) (v : V) (i : Int) (j : Nat → AV) (jr : Nat → Row) (g : Nat) : St :=
  { t := [.pv (.sl k nl full (List.map I.p l)), .pv (.clo (.func 84) [] [.ptr (V.p v) 0])] ++ jj j 2 5 ++ [intA ((↑(List.length (List.map I.p l)) : Int)), intA i] ++ jj j 9 10, h := [List.replicate 19 row0], g := g }
theorem slices_IndexFunc_api_Interval_api_Interval_go (l : List I) (k : Nat) (nl : Bool) (full : Bool) (v : V) (r : PV) : FnGo E1 Tryz.f121 [.sl k nl full (List.map I.p l), .clo (.func 84) [] [.ptr (V.p v) 0]] r 2000 (.mask (iv [(2, 6), (9, 18)]) []) =
  (AtAll Tryz.f121 r 0 (slices_IndexFunc_api_Interval_api_Interval_S0 l k nl full v 0)) := by kernel_rfl
theorem slices_IndexFunc_api_Interval_api_Interval_go_S0 (l : List I) (k : Nat) (nl : Bool) (full : Bool) (v : V) (i : Int) (j : Nat → AV) (jr : Nat → Row) (g : Nat) (r : PV) : LoopGo E1 Tryz.f121 r 0 2000 (.fork (.val (I.p (gI l i)) (.res (bolP (inI (gI l i) v)) (.fork (.hole 0) (.mask (iv [(2, 6), (9, 18)]) [])))) (.hole 0)) (slices_IndexFunc_api_Interval_api_Interval_S0 l k nl full v i j jr g) =
  (((decide (i < (↑(List.length (List.map I.p l)) : Int))) = true →
 (((0 : Int) ≤ i) ∧ ((nl = false) ∧ (k = 11))) ∧
 (((List.map I.p l)[Int.toNat i]?) = some (I.p (gI l i))) ∧
 (Den E1 84 [I.p (gI l i), .ptr (V.p v) 0] (bolP (inI (gI l i) v))) ∧
 ((inI (gI l i) v) = true →
 (intP i) = r) ∧
 ((inI (gI l i) v) = false →
 AtAll Tryz.f121 r 0 (slices_IndexFunc_api_Interval_api_Interval_S0 l k nl full v (IntKind.i64.wrap (i + (1 : Int)))))) ∧
 ((decide (i < (↑(List.length (List.map I.p l)) : Int))) = false →
 (intP (-1)) = r)) := by kernel_rfl
theorem slices_ContainsFunc_api_Interval_api_Interval_go (l : List I) (k : Nat) (nl : Bool) (full : Bool) (v : V) (r : PV) : FnGo E1 Tryz.f83 [.sl k nl full (List.map I.p l), .clo (.func 84) [] [.ptr (V.p v) 0]] r 2000 (.res (intP (idxI (fun x => inI x v) l)) (.hole 0)) =
  ((Den E1 121 [.sl k nl full (List.map I.p l), .clo (.func 84) [] [.ptr (V.p v) 0]] (intP (idxI (fun x => inI x v) l))) ∧
 (bolP (decide (idxI (fun x => inI x v) l ≥ (0 : Int)))) = r) := by kernel_rfl
theorem span_has_go (l : List I) (k : Nat) (nl : Bool) (full : Bool) (v : V) (r : PV) : FnGo E1 Tryz.f47 [.sl k nl full (List.map I.p l), V.p v] r 2000 (.ev (.res (bolP (List.any l fun x => inI x v)) (.hole 0))) =
  ((Den E1 83 [.sl k nl full (List.map I.p l), .clo (.func 84) [] [.ptr (V.p v) 0]] (bolP (List.any l fun x => inI x v))) ∧
 (bolP (List.any l fun x => inI x v)) = r) := by kernel_rfl
end Go.Proofs.YtlhfgonjcpapnaaGreatDoor.Abs

namespace Go.Proofs.YtlhfgonjcpapnaaGreatDoor.Abs
open Go Go.Proofs
theorem frzs_msl {h h1 : Heap} {d s g n k : Nat} {full fz : Bool} {e : TypeId} {xs : List PV} (hb : hget h d s = ⟨g, .row k e xs fz⟩) (hn : xs.length = n) (hm : marks [(d, s)] h = h1) : frzs frzDepth [.msl d s g 0 n full] h = some ([.sl k false full xs], h1) := by
  have hp : pk h frzDepth (.msl d s g 0 n full) = some (.sl k false full xs, [(d, s)]) := pk_msl hb hn
  simp only [frzs, pks, hp, Option.bind_some, Option.map_some, List.append_nil]
  rw [hm]
theorem good_meet1 {x y : I} (hx : good x) (hy : good y) : good (meet1 x y) := by
  unfold meet1
  simp only []
  split
  · split
    · exact ⟨⟨hy.ok.lo, hy.ok.hi⟩, hy.lo, hy.hi⟩
    · exact ⟨⟨hy.ok.lo, hx.ok.hi⟩, hy.lo, hx.hi⟩
  · split
    · exact ⟨⟨hx.ok.lo, hy.ok.hi⟩, hx.lo, hy.hi⟩
    · exact hx
def mixL (x y : I) : I := ⟨y.lo, y.lopen, x.hi, x.hopen, x.less⟩
theorem good_mix {x y : I} (hx : good x) (hy : good y) : good (mixL x y) := ⟨⟨hy.ok.lo, hx.ok.hi⟩, hy.lo, hx.hi⟩
theorem meet1_a {x y : I} (h1 : decide (lowB x.lb y.lb < 0) = true) (h2 : decide (highI y (mixL x y) < 0) = true) : meet1 x y = y := by
  simp only [decide_eq_true_eq] at h1 h2
  unfold meet1
  simp only [h1, if_true]
  exact if_pos h2
theorem meet1_b {x y : I} (h1 : decide (lowB x.lb y.lb < 0) = true) (h2 : decide (highI y (mixL x y) < 0) = false) : meet1 x y = mixL x y := by
  simp only [decide_eq_true_eq, decide_eq_false_iff_not] at h1 h2
  unfold meet1
  simp only [h1, if_true]
  exact if_neg h2
theorem meet1_c {x y : I} (h1 : decide (lowB x.lb y.lb < 0) = false) (h2 : decide (highI y x < 0) = true) : meet1 x y = mixL y x := by
  simp only [decide_eq_true_eq, decide_eq_false_iff_not] at h1 h2
  unfold meet1
  simp only [h1, if_false]
  exact if_pos h2
theorem meet1_d {x y : I} (h1 : decide (lowB x.lb y.lb < 0) = false) (h2 : decide (highI y x < 0) = false) : meet1 x y = x := by
  simp only [decide_eq_false_iff_not] at h1 h2
  unfold meet1
  simp only [h1, if_false]
  exact if_neg h2
section
variable (l m : List I) (k k' : Nat) (nl full nl' full' : Bool)
theorem meet_S2 (hll : l.length < 1000000) (hlm : m.length < 1000000) (hsl : slOk 11 k nl l.length) (hsm : slOk 11 k' nl' m.length) (hgl : goods l) (hgm : goods m) (i : Nat) (hil : i < l.length) {r : PV} : ∀ (n q : Nat) (xs : List I) (gm : Nat) j jr g, q + n = m.length → xs.length + n < 1000000 →
    (∀ gm j jr g, LoopAt E1 Tryz.f61 r 0 (ref08_meet_S3 l m k k' nl full nl' full' (i + 1 : Nat) gm (xs.length + n) (List.map I.p (xs ++ (m.drop q).map fun y => meet1 (l.getD i default) y)) j jr g)) →
    LoopAt E1 Tryz.f61 r 1 (ref08_meet_S2 l m k k' nl full nl' full' i q gm xs.length (List.map I.p xs) j jr g) := by
  have hw1 : IntKind.wrap IntKind.i64 ((i : Int) + 1) = ((i + 1 : Nat) : Int) := wrap_i64 _ (by omega) (by omega)
  have hx := goods_get hgl hil
  have hi0 : (0 : Int) ≤ (i : Int) ∧ nl = false ∧ k = 11 := ⟨by omega, sl_at hsl hil⟩
  have hgi := getI hil
  intro n
  induction n with
  | zero =>
    intro q xs gm j0 jr0 g0 hq hb next
    refine loop_go 2000 _ (Eq.mpr (ref08_meet_go_S2 l m k k' nl full nl' full' i q gm xs.length xs j0 jr0 g0 _) ⟨fun h => ?_, fun h j jr g => ?_⟩)
    · simp only [decide_eq_true_eq, List.length_map] at h; omega
    · rw [hw1]
      have := next gm j jr g
      rw [List.drop_eq_nil_of_le (by omega), List.map_nil, List.append_nil] at this
      exact this
  | succ n ih =>
    intro q xs gm j0 jr0 g0 hq hb next
    have hql : q < m.length := by omega
    have hy := goods_get hgm hql
    have hq0 : (0 : Int) ≤ (q : Int) ∧ nl' = false ∧ k' = 11 := ⟨by omega, sl_at hsm hql⟩
    have hgq := getI hql
    have hw2 : IntKind.wrap IntKind.i64 ((q : Int) + 1) = ((q + 1 : Nat) : Int) := wrap_i64 _ (by omega) (by omega)
    have hf : xs.length = (List.map I.p xs).length ∧ fitsRow (xs.length + 1) 104 = true := ⟨by simp, fits_104 (by omega)⟩
    have fin : ∀ (z : I) gm j jr g, meet1 (l.getD i default) (m.getD q default) = z → LoopAt E1 Tryz.f61 r 1 (ref08_meet_S2 l m k k' nl full nl' full' i (q + 1 : Nat) gm (xs.length + 1) (List.map I.p xs ++ [I.p z]) j jr g) := by
      intro z gm j jr g hz
      have := ih (q + 1) (xs ++ [z]) gm j jr g (by omega) (by simp; omega) fun gm j jr g => by
        have := next gm j jr g
        rw [drop_get hql, List.map_cons, hz] at this
        have e : (xs ++ [z]).length + n = xs.length + (n + 1) := by simp; omega
        rw [e, List.append_assoc]
        exact this
      rw [List.length_append, List.map_append] at this
      exact this
    refine loop_go 2000 _ (Eq.mpr (ref08_meet_go_S2 l m k k' nl full nl' full' i q gm xs.length xs j0 jr0 g0 _) ⟨fun h => ?_, fun h => ?_⟩)
    · simp only [hw2, Int.toNat_natCast, gI_nat, gI_zero, Nat.zero_add, eq_self, true_and, and_true, Nat.le_refl]
      exact ⟨hi0, hgi, hq0, hgq, den_ref08_low ⟨_, _⟩ ⟨_, _⟩ hx.ok.lo hy.ok.lo hx.lo hy.lo, fun h1 => ⟨hq0, hgq, hq0, hgq, den_ref08_high _ (mixL (l.getD i default) (m.getD q default)) hy (good_mix hx hy), fun h2 => ⟨hq0, hgq, hq0, hgq, hf, fun j jr g => fin _ _ j jr g (meet1_a h1 h2)⟩, fun h2 => ⟨hf, fun j jr g => fin (mixL (l.getD i default) (m.getD q default)) _ j jr g (meet1_b h1 h2)⟩⟩,
        fun h1 => ⟨hq0, hgq, den_ref08_high _ _ hy hx, fun h2 => ⟨hq0, hgq, hq0, hgq, hf, fun j jr g => fin (mixL (m.getD q default) (l.getD i default)) _ j jr g (meet1_c h1 h2)⟩, fun h2 => ⟨hf, fun j jr g => fin _ _ j jr g (meet1_d h1 h2)⟩⟩⟩
    · simp only [decide_eq_false_iff_not, List.length_map] at h; omega
theorem meet_S1 (hll : l.length < 1000000) (hlm : m.length < 1000000) (hsl : slOk 11 k nl l.length) (hsm : slOk 11 k' nl' m.length) (hgl : goods l) (hgm : goods m) (i : Nat) (hil : i < l.length) {r : PV} (j0 : Nat → AV) (jr0 : Nat → Row) (g0 : Nat) (hm0 : 0 < m.length)
    (next : ∀ gm j jr g, LoopAt E1 Tryz.f61 r 0 (ref08_meet_S3 l m k k' nl full nl' full' (i + 1 : Nat) gm m.length (List.map I.p (m.map fun y => meet1 (l.getD i default) y)) j jr g)) :
    LoopAt E1 Tryz.f61 r 1 (ref08_meet_S1 l m k k' nl full nl' full' i 0 j0 jr0 g0) := by
  have hx := goods_get hgl hil
  have hi0 : (0 : Int) ≤ (i : Int) ∧ nl = false ∧ k = 11 := ⟨by omega, sl_at hsl hil⟩
  have hgi := getI hil
  have hy := goods_get hgm hm0
  have hq0 : (0 : Int) ≤ (0 : Int) ∧ nl' = false ∧ k' = 11 := ⟨by omega, sl_at hsm hm0⟩
  have hgq := getI hm0
  have hz : Int.toNat 0 = 0 := rfl
  have hw2 : IntKind.wrap IntKind.i64 ((0 : Int) + 1) = ((1 : Nat) : Int) := rfl
  have fin : ∀ (z : I) gm j jr g, meet1 (l.getD i default) (m.getD 0 default) = z → LoopAt E1 Tryz.f61 r 1 (ref08_meet_S2 l m k k' nl full nl' full' i (1 : Nat) gm 1 [I.p z] j jr g) := by
    intro z gm j jr g hzz
    refine meet_S2 l m k k' nl full nl' full' hll hlm hsl hsm hgl hgm i hil (m.length - 1) 1 [z] gm j jr g (by omega) (by simp; omega) fun gm j jr g => ?_
    have := next gm j jr g
    have e : m = m.getD 0 default :: m.drop 1 := by rw [← drop_get hm0]; rfl
    have e2 : (m.map fun y => meet1 (l.getD i default) y) = [z] ++ (m.drop 1).map fun y => meet1 (l.getD i default) y := by
      conv => lhs; rw [e]
      rw [List.map_cons, hzz]; rfl
    have e3 : [z].length + (m.length - 1) = m.length := by simp; omega
    rw [e2] at this
    rw [e3]
    exact this
  refine loop_go 2000 _ (Eq.mpr (ref08_meet_go_S1 l m k k' nl full nl' full' i 0 j0 jr0 g0 _) ⟨fun h => ?_, fun h => ?_⟩)
  · simp only [hw2, hz, Int.toNat_natCast, gI_nat, gI_zero, Nat.zero_add, eq_self, true_and, and_true, Nat.le_refl]
    exact ⟨hi0, hgi, hq0, hgq, den_ref08_low ⟨_, _⟩ ⟨_, _⟩ hx.ok.lo hy.ok.lo hx.lo hy.lo, fun h1 => ⟨hq0, hgq, hq0, hgq, den_ref08_high _ (mixL (l.getD i default) (m.getD 0 default)) hy (good_mix hx hy), fun h2 => ⟨hq0, hgq, hq0, hgq, fun j jr g => fin _ _ j jr g (meet1_a h1 h2)⟩, fun h2 j jr g => fin (mixL (l.getD i default) (m.getD 0 default)) _ j jr g (meet1_b h1 h2)⟩,
      fun h1 => ⟨hq0, hgq, den_ref08_high _ _ hy hx, fun h2 => ⟨hq0, hgq, hq0, hgq, fun j jr g => fin (mixL (m.getD 0 default) (l.getD i default)) _ j jr g (meet1_c h1 h2)⟩, fun h2 j jr g => fin _ _ j jr g (meet1_d h1 h2)⟩⟩
  · simp only [decide_eq_false_iff_not, List.length_map] at h; omega
theorem meet_S3 (hll : l.length < 1000000) (hlm : m.length < 1000000) (hb : l.length * m.length < 1000000) (hsl : slOk 11 k nl l.length) (hsm : slOk 11 k' nl' m.length) (hgl : goods l) (hgm : goods m) (hm0 : 0 < m.length) : ∀ (n i : Nat) (xs : List I) (gm : Nat) j jr g, i + n = l.length → xs.length = i * m.length → goods xs →
    LoopAt E1 Tryz.f61 (resL (joinR (xs ++ (l.drop i).flatMap fun x => m.map fun y => meet1 x y))) 0 (ref08_meet_S3 l m k k' nl full nl' full' i gm xs.length (List.map I.p xs) j jr g) := by
  intro n
  induction n with
  | zero =>
    intro i xs gm j0 jr0 g0 hi hxl hgx
    have hxb : xs.length < 1000000 := by
      rw [hxl, show i = l.length by omega]; exact hb
    refine loop_go 2000 _ (Eq.mpr (ref08_meet_go_S3 l m k k' nl full nl' full' i gm xs.length xs j0 jr0 g0 _) ⟨fun h => ?_, fun h => ?_⟩)
    · simp only [decide_eq_true_eq, List.length_map] at h; omega
    · rw [List.drop_eq_nil_of_le (by omega), List.flatMap_nil, List.append_nil]
      exact ⟨frzs_msl rfl (by simp) rfl, den_ref08_join xs 11 false false hxb ⟨by simp, fun _ => rfl⟩ hgx, rfl⟩
  | succ n ih =>
    intro i xs gm j0 jr0 g0 hi hxl hgx
    have hil : i < l.length := by omega
    have hmul : (i + 1) * m.length ≤ l.length * m.length := Nat.mul_le_mul_right _ (by omega)
    rw [Nat.add_mul, Nat.one_mul] at hmul
    have hst : (l.drop i).flatMap (fun x => m.map fun y => meet1 x y) = (m.map fun y => meet1 (l.getD i default) y) ++ (l.drop (i + 1)).flatMap fun x => m.map fun y => meet1 x y := by
      rw [drop_get hil, List.flatMap_cons]
    rw [hst, ← List.append_assoc]
    refine loop_go 2000 _ (Eq.mpr (ref08_meet_go_S3 l m k k' nl full nl' full' i gm xs.length xs j0 jr0 g0 _) ⟨fun h j jr g => ?_, fun h => ?_⟩)
    · refine meet_S2 l m k k' nl full nl' full' hll hlm hsl hsm hgl hgm i hil m.length 0 xs gm j jr g (by omega) (by omega) fun gm j jr g => ?_
      have hlen : (xs ++ m.map fun y => meet1 (l.getD i default) y).length = xs.length + m.length := by simp
      have := ih (i + 1) (xs ++ m.map fun y => meet1 (l.getD i default) y) gm j jr g (by omega) (by rw [hlen, hxl, Nat.add_mul, Nat.one_mul]) (fun z hz => ?_)
      · rw [hlen] at this
        exact this
      · rcases List.mem_append.1 hz with hz | hz
        · exact hgx z hz
        · obtain ⟨y, hy, rfl⟩ := List.mem_map.1 hz
          exact good_meet1 (goods_get hgl hil) (hgm y hy)
    · simp only [decide_eq_false_iff_not, List.length_map] at h; omega
theorem meet_S0 (hll : l.length < 1000000) (hlm : m.length < 1000000) (hb : l.length * m.length < 1000000) (hsl : slOk 11 k nl l.length) (hsm : slOk 11 k' nl' m.length) (hgl : goods l) (hgm : goods m) : ∀ (n i : Nat) j jr g, i + n = l.length → (m.length = 0 ∨ i = 0) →
    LoopAt E1 Tryz.f61 (resL (joinR ((l.drop i).flatMap fun x => m.map fun y => meet1 x y))) 0 (ref08_meet_S0 l m k k' nl full nl' full' i j jr g) := by
  have hdj : Den E1 58 [.sl 0 true true []] (.sl 0 true true []) := den_ref08_join [] 0 true true (by simp) ⟨fun _ => rfl, fun h => by cases h⟩ (fun x hx => by simp at hx)
  intro n
  induction n with
  | zero =>
    intro i j0 jr0 g0 hi h0
    refine loop_go 2000 _ (Eq.mpr (ref08_meet_go_S0 l m k k' nl full nl' full' i j0 jr0 g0 _) ⟨fun h => ?_, fun h => ?_⟩)
    · simp only [decide_eq_true_eq, List.length_map] at h; omega
    · rw [List.drop_eq_nil_of_le (by omega)]
      exact ⟨hdj, rfl⟩
  | succ n ih =>
    intro i j0 jr0 g0 hi h0
    have hil : i < l.length := by omega
    have hw1 : IntKind.wrap IntKind.i64 ((i : Int) + 1) = ((i + 1 : Nat) : Int) := wrap_i64 _ (by omega) (by omega)
    have hst : (l.drop i).flatMap (fun x => m.map fun y => meet1 x y) = (m.map fun y => meet1 (l.getD i default) y) ++ (l.drop (i + 1)).flatMap fun x => m.map fun y => meet1 x y := by
      rw [drop_get hil, List.flatMap_cons]
    rw [hst]
    refine loop_go 2000 _ (Eq.mpr (ref08_meet_go_S0 l m k k' nl full nl' full' i j0 jr0 g0 _) ⟨fun h j jr g => ?_, fun h => ?_⟩)
    · rcases Nat.eq_zero_or_pos m.length with hm | hm
      · have hm' : m = [] := List.length_eq_zero_iff.1 hm
        refine loop_go 2000 _ (Eq.mpr (ref08_meet_go_S1 l m k k' nl full nl' full' i 0 j jr g _) ⟨fun h => ?_, fun h j jr g => ?_⟩)
        · simp only [decide_eq_true_eq, List.length_map, hm] at h; omega
        · rw [hw1, hm']
          rw [hm'] at ih
          exact ih (i + 1) j jr g (by omega) (.inl rfl)
      · have hi0 : i = 0 := by omega
        subst hi0
        refine meet_S1 l m k k' nl full nl' full' hll hlm hsl hsm hgl hgm 0 hil j jr g hm fun gm j jr g => ?_
        have hlen : (m.map fun y => meet1 (l.getD 0 default) y).length = m.length := by simp
        have := meet_S3 l m k k' nl full nl' full' hll hlm hb hsl hsm hgl hgm hm n 1 (m.map fun y => meet1 (l.getD 0 default) y) gm j jr g (by omega) (by rw [hlen, Nat.one_mul]) (fun z hz => by
          obtain ⟨y, hy, rfl⟩ := List.mem_map.1 hz
          exact good_meet1 (goods_get hgl hil) (hgm y hy))
        rw [hlen] at this
        exact this
    · simp only [decide_eq_false_iff_not, List.length_map] at h; omega
theorem den_ref08_meet (hll : l.length < 1000000) (hlm : m.length < 1000000) (hb : l.length * m.length < 1000000) (hsl : slOk 11 k nl l.length) (hsm : slOk 11 k' nl' m.length) (hgl : goods l) (hgm : goods m) :
    Den E1 61 [listP k nl full l, listP k' nl' full' m] (resL (meetR l m)) :=
  den1 2000 _ rfl (by kernel_rfl) rfl rfl rfl (Eq.mpr (ref08_meet_go l m k k' nl full nl' full' _) fun j jr g => meet_S0 l m k k' nl full nl' full' hll hlm hb hsl hsm hgl hgm l.length 0 j jr g (by omega) (.inr rfl))
end
theorem den_inI (x : I) (v : V) (hx : x.ok) (hv : v.ok) : Den E1 84 [x.p, .ptr v.p 0] (bolP (inI x v)) := by
  refine den1 2000 _ rfl (by kernel_rfl) rfl rfl rfl (Eq.mpr (span_has_1_go x v _) ?_)
  refine ⟨rfl, den_low x, den_before x.low ⟨v, false, false⟩ hx.lo hv, fun h => ⟨rfl, den_high x, den_before ⟨v, true, false⟩ x.high hv hx.hi, ?_⟩, fun h => ?_⟩
  · have h' : decide (befE x.low ⟨v, false, false⟩ ≤ 0) = true := h
    simp only [inI, h']; rfl
  · have h' : decide (befE x.low ⟨v, false, false⟩ ≤ 0) = false := h
    simp only [inI, h']; rfl
theorem den_IndexFuncI (l : List I) (k : Nat) (nl full : Bool) (v : V) (hsl : slOk 11 k nl l.length) (hll : l.length < 1000000) (hok : ∀ x ∈ l, x.ok) (hv : v.ok) :
    Den E1 121 [listP k nl full l, .clo (.func 84) [] [.ptr v.p 0]] (intP (idxI (fun x => inI x v) l)) := by
  refine den1 2000 _ rfl (by kernel_rfl) rfl rfl rfl (Eq.mpr (slices_IndexFunc_api_Interval_api_Interval_go l k nl full v _) fun j jr g => ?_)
  have H : ∀ (n i : Nat) j jr g, i + n = l.length → (l.findIdx (fun x => inI x v) = i + (l.drop i).findIdx (fun x => inI x v)) → LoopAt E1 Tryz.f121 (intP (idxI (fun x => inI x v) l)) 0 (slices_IndexFunc_api_Interval_api_Interval_S0 l k nl full v i j jr g) := by
    intro n
    induction n with
    | zero =>
      intro i j jr g hi hd
      refine loop_go 2000 _ (Eq.mpr (slices_IndexFunc_api_Interval_api_Interval_go_S0 l k nl full v i j jr g _) ⟨fun h => ?_, fun h => ?_⟩)
      · simp only [decide_eq_true_eq, List.length_map] at h; omega
      · unfold idxI
        rw [if_neg (by rw [hd]; omega)]
    | succ n ih =>
      intro i j jr g hi hd
      have hil : i < l.length := by omega
      have hw1 : IntKind.wrap IntKind.i64 ((i : Int) + 1) = ((i + 1 : Nat) : Int) := wrap_i64 _ (by omega) (by omega)
      refine loop_go 2000 _ (Eq.mpr (slices_IndexFunc_api_Interval_api_Interval_go_S0 l k nl full v i j jr g _) ⟨fun h => ?_, fun h => ?_⟩)
      · simp only [hw1, Int.toNat_natCast, gI_nat, gI_zero]
        rw [drop_get hil, List.findIdx_cons] at hd
        refine ⟨⟨by omega, sl_at hsl hil⟩, getI hil, den_inI _ v (by rw [getD_lt hil]; exact hok _ (by simp)) hv, fun he => ?_, fun he j jr g => ?_⟩
        · rw [he] at hd
          have hd' : l.findIdx (fun x => inI x v) = i := hd
          unfold idxI
          rw [hd', if_pos hil]
        · rw [he] at hd
          exact ih (i + 1) j jr g (by omega) (by rw [hd]; simp only [cond_false]; omega)
      · simp only [decide_eq_false_iff_not, List.length_map] at h; omega
  exact H l.length 0 j jr g (by omega) (by simp)
theorem idx_any (p : I → Bool) (l : List I) : decide (idxI p l ≥ 0) = l.any p := by
  unfold idxI
  by_cases h : l.findIdx p < l.length
  · rw [if_pos h]
    have : l.any p = true := List.any_eq_true.2 ⟨l[l.findIdx p], by simp, List.findIdx_getElem (w := h)⟩
    rw [this]; simp
  · rw [if_neg h]
    have h2 : l.any p = false := by
      rw [List.any_eq_false]
      intro x hx hp
      exact h (List.findIdx_lt_length_of_exists ⟨x, hx, hp⟩)
    rw [h2]; rfl
theorem den_has (l : List I) (k : Nat) (nl full : Bool) (v : V) (hsl : slOk 11 k nl l.length) (hll : l.length < 1000000) (hok : ∀ x ∈ l, x.ok) (hv : v.ok) : Den E1 47 [listP k nl full l, v.p] (bolP (l.any fun x => inI x v)) := by
  refine den1 2000 _ rfl (by kernel_rfl) rfl rfl rfl (Eq.mpr (span_has_go l k nl full v _) ⟨?_, rfl⟩)
  refine den_go 2000 _ rfl (by kernel_rfl) rfl rfl rfl rfl (Eq.mpr (slices_ContainsFunc_api_Interval_api_Interval_go l k nl full v _) ⟨den_IndexFuncI l k nl full v hsl hll hok hv, ?_⟩)
  rw [idx_any]
theorem den_ref08_Has (l : List I) (k : Nat) (nl full : Bool) (v : V) (hsl : slOk 11 k nl l.length) (hll : l.length < 1000000) (hgl : goods l) (hv : v.ok) (hm : mayV v = true) : Den E1 27 [listP k nl full l, v.p] (bolP (hasR l v)) := by
  have hg1 : goods [(⟨v, false, v, false, false⟩ : I)] := fun x hx => by simp at hx; subst hx; exact ⟨⟨hv, hv⟩, hm, hm⟩
  refine den1 2000 _ rfl (by kernel_rfl) rfl rfl rfl (Eq.mpr (ref08_Has_go l k nl full v _) ⟨rfl, rfl, den_ref08_meet l [⟨v, false, v, false, false⟩] k 11 nl full false true hll (by simp) (by simpa using hll) hsl ⟨by simp, fun _ => rfl⟩ hgl hg1, ?_⟩)
  unfold hasR
  cases meetR l [⟨v, false, v, false, false⟩] <;> simp
end Go.Proofs.YtlhfgonjcpapnaaGreatDoor.Abs

namespace Go.Proofs.YtlhfgonjcpapnaaGreatDoor.Abs
open Go Go.Proofs
def An {α : Type} (f : α → α → Int) : Prop := ∀ a b, f b a = - f a b
theorem An.lex {α : Type} {f g : α → α → Int} (hf : An f) (hg : An g) : An (lex2 f g) := by
  intro a b
  unfold lex2
  rw [hf a b, hg a b]
  by_cases h : f a b = 0
  · simp [h]
  · rw [if_pos (by omega), if_pos h]
theorem cmpI_neg (x y : Int) : cmpI y x = - cmpI x y := by
  unfold cmpI
  by_cases h1 : x < y
  · rw [if_neg (by omega), if_pos (by omega), if_pos h1]; rfl
  · by_cases h2 : x > y
    · rw [if_pos (by omega), if_neg h1, if_pos h2]
    · rw [if_neg (by omega), if_neg (by omega), if_neg h1, if_neg h2]; rfl
theorem An.key {α : Type} (k : α → Int) : An (fun a b => cmpI (k a) (k b)) := fun a b => cmpI_neg _ _
theorem An.list {α : Type} {f : α → α → Int} (hf : An f) : An (lexL f) := by
  intro x
  induction x with
  | nil => intro y; cases y <;> rfl
  | cons a x ih =>
    intro y
    cases y with
    | nil => rfl
    | cons b y =>
      simp only [lexL]
      rw [hf a b, ih y]
      by_cases h : f a b = 0
      · simp [h]
      · rw [if_pos (by omega), if_pos h]
theorem An.congr {α : Type} {f g : α → α → Int} (h : ∀ a b, f a b = g a b) (hg : An g) : An f := by
  have : f = g := by funext a b; exact h a b
  rw [this]; exact hg
theorem an_cmpV : An cmpV := An.congr cmpV_lex (An.lex (An.key V.a) (An.lex (An.key V.b) (An.lex (An.key V.c) (An.lex (An.key relV) fun v w => An.list (An.congr ordL_lex (An.lex (An.key rankL) (An.lex (An.key lenL) (An.congr cmpS_lex (An.list (An.key fun a : UInt8 => (a.toNat : Int))))))) v.pre w.pre))))
theorem cmpV_self (v : V) : cmpV v v = 0 := by
  have := an_cmpV v v
  omega
theorem stepR_ne (out : List I) (x : I) : stepR out x ≠ [] := by
  unfold stepR
  split
  · simp
  · rename_i h
    have h0 : out ≠ [] := fun e => h (by rw [e]; rfl)
    split
    · split
      · intro e
        have := congrArg List.length e
        simp at this
        exact h0 (List.length_eq_zero_iff.1 (by simpa using this))
      · exact h0
    · simp
theorem foldl_stepR_ne : ∀ (s : List I) (out : List I), (s.foldl stepR out).isEmpty = (out.isEmpty && s.isEmpty)
  | [], out => by simp
  | x :: s, out => by
    rw [List.foldl_cons, foldl_stepR_ne s]
    have := stepR_ne out x
    cases h : stepR out x with
    | nil => exact absurd h this
    | cons y l => simp
theorem sortR_ne : ∀ (l s : List I), (sortR l s).isEmpty = (s.isEmpty && l.all emptyI)
  | [], s => by simp [sortR]
  | x :: l, s => by
    have h := sortR_ne l (if emptyI x then s else insR s x)
    have e : sortR (x :: l) s = sortR l (if emptyI x then s else insR s x) := rfl
    rw [e, h]
    cases he : emptyI x with
    | true => simp [he]
    | false =>
      have : (insR s x).isEmpty = false := by unfold insR; simp
      simp [he, this]
theorem joinR_ne (l : List I) : (joinR l).isEmpty = l.all emptyI := by
  unfold joinR
  rw [foldl_stepR_ne, sortR_ne]
  simp
def oneI (v : V) : I := ⟨v, false, v, false, false⟩
theorem hasR_eq (l : List I) (v : V) : hasR l v = l.any fun x => !emptyI (meet1 x (oneI v)) := by
  have e : meetR l [oneI v] = joinR (l.map fun x => meet1 x (oneI v)) := by
    unfold meetR
    congr 1
    induction l with
    | nil => rfl
    | cons x l ih =>
      rw [List.flatMap_cons, ih]; rfl
  have : hasR l v = !(meetR l [oneI v]).isEmpty := rfl
  rw [this, e, joinR_ne, List.all_map]
  clear this e
  induction l with
  | nil => rfl
  | cons x l ih =>
    simp only [List.all_cons, List.any_cons, Bool.not_and]
    rw [ih]
    rfl
theorem inI_iff {x : I} {v : V} (hl : mayV x.lo = true) (hh : mayV x.hi = true) (hv : mayV v = true) : inI x v = true ↔ (cmpV x.lo v < 0 ∨ (cmpV x.lo v = 0 ∧ x.lopen = false)) ∧ (x.less = true ∨ cmpV v x.hi < 0 ∨ (cmpV v x.hi = 0 ∧ x.hopen = false)) := by
  have h1 : befE x.low ⟨v, false, false⟩ ≤ 0 ↔ (cmpV x.lo v < 0 ∨ (cmpV x.lo v = 0 ∧ x.lopen = false)) := by
    simp only [befE, I.low, ordV_may hl hv]
    by_cases h : cmpV x.lo v = 0
    · rcases Bool.eq_false_or_eq_true x.lopen with h9 | h9 <;> simp [h, h9]
    · simp [h]; omega
  have h2 : befE ⟨v, true, false⟩ x.high ≤ 0 ↔ (x.less = true ∨ cmpV v x.hi < 0 ∨ (cmpV v x.hi = 0 ∧ x.hopen = false)) := by
    simp only [befE, I.high, ordV_may hv hh]
    cases x.less with
    | true => simp
    | false =>
      by_cases h : cmpV v x.hi = 0
      · rcases Bool.eq_false_or_eq_true x.hopen with h9 | h9 <;> simp [h, h9]
      · simp [h]; omega
  unfold inI
  simp only [Bool.and_eq_true, decide_eq_true_eq, h1, h2]
theorem meet_one {x : I} {v : V} (hl : mayV x.lo = true) (hh : mayV x.hi = true) (hv : mayV v = true) (he : emptyI x = false) : (!emptyI (meet1 x (oneI v))) = inI x v := by
  rw [Bool.eq_iff_iff, inI_iff hl hh hv]
  have hlow : lowB x.lb (oneI v).lb < 0 ↔ cmpV x.lo v < 0 := by
    simp only [lowB, I.lb, oneI]
    by_cases h : cmpV x.lo v = 0
    · rcases Bool.eq_false_or_eq_true x.lopen with h9 | h9 <;> simp [h, h9]
    · simp [h]
  have hhi : ∀ y : I, y.less = x.less → y.hi = x.hi → y.hopen = x.hopen → (highI (oneI v) y < 0 ↔ x.less = true ∨ cmpV v x.hi < 0) := by
    intro y h1 h2 h3
    simp only [highI, oneI, h1, h2, h3]
    cases x.less with
    | true => simp
    | false =>
      by_cases h : cmpV v x.hi = 0
      · rcases Bool.eq_false_or_eq_true x.hopen with h9 | h9 <;> simp [h, h9]
      · simp [h]
  have hself := cmpV_self v
  by_cases h1 : cmpV x.lo v < 0
  · by_cases h2 : x.less = true ∨ cmpV v x.hi < 0
    · have e : meet1 x (oneI v) = oneI v := meet1_a (by simpa using hlow.2 h1) (by simpa using (hhi (mixL x (oneI v)) rfl rfl rfl).2 h2)
      rw [e]
      simp only [emptyI, oneI, hself]
      simp [h1, h2]
      rcases h2 with h2 | h2
      · exact .inl h2
      · exact .inr (.inl h2)
    · have e : meet1 x (oneI v) = mixL x (oneI v) := meet1_b (by simpa using hlow.2 h1) (by simpa using fun hh => h2 ((hhi (mixL x (oneI v)) rfl rfl rfl).1 hh))
      rw [e]
      have h3 : x.less = false := by simpa using fun h => h2 (.inl h)
      have h4 : ¬ cmpV v x.hi < 0 := fun h => h2 (.inr h)
      simp only [emptyI, mixL, oneI, h3]
      by_cases h5 : cmpV v x.hi = 0
      · simp [h1, h5]
      · simp [h1, h5, h4]; omega
  · by_cases h2 : x.less = true ∨ cmpV v x.hi < 0
    · have e : meet1 x (oneI v) = mixL (oneI v) x := meet1_c (by simpa using fun h => h1 (hlow.1 h)) (by simpa using (hhi x rfl rfl rfl).2 h2)
      rw [e]
      simp only [emptyI, mixL, oneI]
      by_cases h5 : cmpV x.lo v = 0
      · rcases Bool.eq_false_or_eq_true x.lopen with h9 | h9 <;> simp [h5, h9] <;> (rcases h2 with h2 | h2 <;> simp [h2])
      · simp [h1, h5]; omega
    · have e : meet1 x (oneI v) = x := meet1_d (by simpa using fun h => h1 (hlow.1 h)) (by simpa using fun hh => h2 ((hhi x rfl rfl rfl).1 hh))
      rw [e, he]
      have h3 : x.less = false := by simpa using fun h => h2 (.inl h)
      have h4 : ¬ cmpV v x.hi < 0 := fun h => h2 (.inr h)
      simp only [emptyI, h3, Bool.not_false, Bool.true_and, Bool.or_eq_false_iff, decide_eq_false_iff_not, Bool.and_eq_false_iff] at he
      have a1 := an_cmpV x.lo v
      have a2 := an_cmpV v x.hi
      have a3 := an_cmpV x.lo x.hi
      have T := tr_cmpV
      have c1 : cmpV x.lo v = 0 := by
        rcases Int.lt_trichotomy (cmpV x.lo v) 0 with h | h | h
        · exact absurd h h1
        · exact h
        · have k1 : cmpV v x.lo < 0 := by omega
          have k2 : cmpV x.hi x.lo < 0 := by
            rcases Int.lt_trichotomy (cmpV x.hi v) 0 with h' | h' | h'
            · exact T.ll _ _ _ h' k1
            · exact T.el _ _ _ h' k1
            · omega
          omega
      have c2 : cmpV v x.hi = 0 := by
        rcases Int.lt_trichotomy (cmpV v x.hi) 0 with h | h | h
        · exact absurd h h4
        · exact h
        · have k1 : cmpV x.hi v < 0 := by omega
          have k3 : cmpV v x.lo = 0 := by omega
          have k2 : cmpV x.hi x.lo < 0 := T.le _ _ _ k1 k3
          omega
      have c3 : cmpV x.lo x.hi = 0 := T.ee _ _ _ c1 c2
      have ho := he.2
      simp only [c3, beq_self_eq_true, Bool.true_eq_false, false_or, Bool.or_eq_false_iff] at ho
      simp [c1, c2, ho.1, ho.2]
theorem not_eq {b : Bool} : ((!b) = true → b = false) ∧ ((!b) = false → b = true) := by cases b <;> simp
end Go.Proofs.YtlhfgonjcpapnaaGreatDoor.Abs

namespace Go.Proofs.YtlhfgonjcpapnaaGreatDoor.Abs
open Go Go.Proofs
def deadI (x : I) : Bool := decide (befE x.low x.high ≥ 0)
def zV : V := ⟨0, 0, 0, 0, true, true, []⟩
def betE (a b : Ed) : I := ⟨a.v, a.behind, if b.less then zV else b.v, if b.less then false else !b.behind, b.less⟩
def delL (l : List I) : List I := l.filter (fun x => !deadI x) ++ List.replicate (l.length - (l.filter (fun x => !deadI x)).length) zI
def delN (l : List I) : Nat := (l.filter (fun x => !deadI x)).length
def insPosS (s : List I) (x : I) : Nat → Nat
  | 0 => 0
  | k + 1 => if befE x.low (s.getD k default).low < 0 then insPosS s x k else k + 1
def insS (s : List I) (x : I) : List I := s.take (insPosS s x s.length) ++ x :: s.drop (insPosS s x s.length)
def sortS (l : List I) : List I := l.foldl insS []
def stepS (out : List I) (x : I) : List I :=
  if out.isEmpty then [x]
  else if befE (out.getD (out.length - 1) default).high x.low ≥ 0 then
    (if befE (out.getD (out.length - 1) default).high x.high < 0 then out.set (out.length - 1) (betE (out.getD (out.length - 1) default).low x.high) else out)
  else out ++ [x]
def joinS (l : List I) : List I := (sortS (l.filter fun x => !deadI x)).foldl stepS []
def insDown (a : Nat) : Nat → List I → List I
  | 0, l => l
  | j + 1, l => if a < j + 1 ∧ befE (l.getD (j + 1) default).low (l.getD j default).low < 0 then insDown a j ((l.set (j + 1) (l.getD j default)).set j (l.getD (j + 1) default)) else l
def insRange (a b : Nat) (l : List I) : List I := (List.range (b - (a + 1))).foldl (fun l t => insDown a (a + 1 + t) l) l
def sortN (n : Nat) (l : List I) : List I := sortS (l.take n) ++ l.drop n
end Go.Proofs.YtlhfgonjcpapnaaGreatDoor.Abs

/-
  The abstract machine over the model, its soundness, walks of the program's functions and what they compute. Conditions: the values are of their types.
-/
import Derived.Test.YtlhfgonjcpapnaaGreatDoorRows
import Derived.Test.YtlhfgonjcpapnaaGreatDoorNc
import Derived.Test.YtlhfgonjcpapnaaGreatDoorNi
import Derived.ProofKit
import Derived.SizedLaws
import Derived.Stop.LaidErr
import Derived.MakeChecks
import Derived.Shelf.Vars

set_option linter.all false
set_option linter.unnecessarySimpa false

namespace Go.Proofs.YtlhfgonjcpapnaaGreatDoor.Abs
open Go Go.Proofs Go.RowKit Go.ChangeShapes Go.WideShapes Go.ChangeAt
def inAll (w : World) : Blk := fun b => ∃ e n, w.shape? b = some (e, n)
theorem laidOut0 : laidOutB Tryz.prog = true := by kernel_rfl
theorem cell_shape {w : World} {b o : Nat} {v : Value} (h : w.cell? ⟨b, o, none⟩ = some v) : inAll w b := (cell_spot h).2
theorem pow10_tab : (YtlhfgonjcpapnaaGreatDoor.Rows.laid_internal_strconv_uint64pow10 : DataW Unit) = Lib.tabData .u64 Lib.pow10Tab := by kernel_rfl
theorem gl_of {W : World} {a b : String × DataW Unit} {rest : List (String × DataW Unit)} (hL : laidMet Tryz.prog (a :: b :: ("internal/strconv.uint64pow10", YtlhfgonjcpapnaaGreatDoor.Rows.laid_internal_strconv_uint64pow10) :: rest) W) (hsh : W.ShapedOpen Tryz.prog) : glE (inAll W) W := by
  have h1 := hL.tail.tail
  rw [pow10_tab] at h1
  have hg : Tryz.prog.globalNamed "internal/strconv.uint64pow10" = some 3 := by kernel_rfl
  have ht := Lib.tabIs_of_head (t := 200) (e := 125) (n := 20) hg (by kernel_rfl) Tryz.underlying200 Tryz.underlying125 (by kernel_rfl) (by kernel_rfl) h1
  obtain ⟨m, hm⟩ := Go.Proofs.cell_of_shapedOpen_int (g := 0) (zero := #[.int .i64 0]) (t := 3) hsh (of_decide_eq_true (by kernel_rfl)) (by kernel_rfl) rfl (by kernel_rfl) (by kernel_rfl) Tryz.underlying3
  refine ⟨⟨m, ?_⟩, ht, cell_shape (ht.cell hg 0 (by rw [Lib.pow10Tab_length]; omega))⟩
  refine .ptr _ 0 _ 0 (fun _ => .int .i64 m) (cell_shape hm) (fun j p hp => ?_) (fun j p hp => ?_)
  · cases j with
    | zero => exact ⟨hm, rfl⟩
    | succ j => simp [PV.cells] at hp
  · cases j with
    | zero => simp [PV.cells] at hp; subst hp; exact .lit _
    | succ j => simp [PV.cells] at hp
section
variable {H : Type} {enc : TypeId × Value → H}
theorem cells_one {P : Program} {W : World} {base : Nat} {t : TypeId} {v : Value} (hok : Value.okWide P W .any base t v) (hp : plainT P 9 t = true) (hs : isSt P t = false) : v.cells.toList = [v] := by
  unfold plainT at hp
  unfold isSt at hs
  unfold Value.okWide Cell.okWide Cell.ok at hok
  split at hp
  · rename_i he; rw [he] at hok; cases v <;> first | rfl | exact hok.elim | simp at hok
  · rename_i he; rw [he] at hok; cases v <;> first | rfl | exact hok.elim | simp at hok
  · rename_i he; rw [he] at hok; cases v <;> first | rfl | exact hok.elim | simp at hok
  · rename_i he; rw [he] at hok; cases v <;> first | rfl | exact hok.elim | simp at hok
  · rename_i he; rw [he] at hs; cases hs
  · cases hp
theorem arg_rep {P : Program} {W : World} {base : Nat} {t : TypeId} {v : Value} {d : DataW H} {ps : List MemPlace} (hok : Value.okWide P W .any base t v) (hd : DataW.Trod enc P W 0 (fun _ => true) true t v d ps)
    (hp : plainT P 9 t = true) (hw : ∀ n ∈ d.weights P t, n ≤ reachBytes) : ∃ n cs, wellP P n t cs ∧ PRep (inAll W) W (mkE (isSt P t) cs) v := by
  obtain ⟨fuel, h⟩ := hd
  obtain ⟨cs, hcs, hf⟩ := of_trod (I := inAll W) (fun b e n h => ⟨e, n, h⟩) fuel t _ _ 9 h hp hw
  refine ⟨fuel, cs, hcs, ?_⟩
  cases hs : isSt P t with
  | false =>
    have h1 := cells_one hok hp hs
    rw [h1] at hf
    obtain ⟨p, rfl, _, _⟩ := well_one hs hcs
    exact (hf.get (j := 0) rfl rfl).1
  | true =>
    have hv : ∃ a, v = .agg a := by
      unfold isSt at hs
      unfold Value.okWide at hok
      split at hs
      · rename_i he
        rw [he] at hok
        obtain ⟨a, ha, _⟩ := hok
        exact ⟨a, ha⟩
      · cases hs
    obtain ⟨a, rfl⟩ := hv
    have hf' : F2 (inAll W) W cs a.toList := hf
    have := PRep.agg (I := inAll W) (w := W) cs a.toList hf'.length.symm (fun x hx => ?_) (fun j p v hp hv => (hf'.get hp hv).1)
    · simpa [mkE] using this
    · obtain ⟨j, hj, rfl⟩ := List.getElem_of_mem hx
      have hj' : j < cs.length := by rw [hf'.length]; exact hj
      exact (hf'.get (List.getElem?_eq_getElem hj') (List.getElem?_eq_getElem hj)).2
def argsWell (P : Program) : List TypeId → List PV → Prop
  | [], ps => ps = []
  | t :: ts, ps => ∃ n cs qs, ps = mkE (isSt P t) cs :: qs ∧ wellP P n t cs ∧ argsWell P ts qs
structure OkAll (P : Program) (W : World) (base : Nat) (ts : Array TypeId) (args : Array Value) : Prop where
  val : ∀ (j : Nat) t v, ts[j]? = some t → args[j]? = some v → Value.okWide P W .any base t v
structure OkAllL (P : Program) (W : World) (base : Nat) (ts : List TypeId) (args : List Value) : Prop where
  val : ∀ (j : Nat) t v, ts[j]? = some t → args[j]? = some v → Value.okWide P W .any base t v
theorem args_rep {P : Program} {W : World} {base : Nat} : ∀ (ts : List TypeId) (vs : List Value) (ds : List (DataW H)) (ps : List MemPlace), DataW.TrodAll enc P W 0 (fun _ => true) true ts vs ds ps →
    OkAllL P W base ts vs → (ts.all fun t => plainT P 9 t) = true → (∀ n ∈ DataW.weightsEach P ts ds, n ≤ reachBytes) →
    ∃ qs, argsWell P ts qs ∧ vs.length = qs.length ∧ ∀ (j : Nat) (p : PV) (u : Value), qs[j]? = some p → vs[j]? = some u → PRep (inAll W) W p u
  | [], [], [], ps, _, _, _, _ => ⟨[], rfl, rfl, fun j p u h => by simp at h⟩
  | t :: ts, v :: vs, d :: ds, ps, h, hok, hp, hw => by
    obtain ⟨p, q, h1, h2, rfl⟩ := h
    simp only [List.all_cons, Bool.and_eq_true] at hp
    simp only [DataW.weightsEach, List.mem_append] at hw
    obtain ⟨n, cs, hcs, hr⟩ := arg_rep (hok.val 0 t v rfl rfl) h1 hp.1 (fun n hn => hw n (.inl hn))
    obtain ⟨qs, g1, g2, g3⟩ := args_rep ts vs ds q h2 ⟨fun j t v a b => hok.val (j + 1) t v (by simpa using a) (by simpa using b)⟩ hp.2 (fun n hn => hw n (.inr hn))
    refine ⟨_, ⟨n, cs, qs, rfl, hcs, g1⟩, by simp [g2], fun j p u a b => ?_⟩
    cases j with
    | zero => simp only [List.getElem?_cons_zero, Option.some.injEq] at a b; subst a; subst b; exact hr
    | succ j => exact g3 j p u (by simpa using a) (by simpa using b)
  | [], _ :: _, _, _, h, _, _, _ => h.elim
  | [], [], _ :: _, _, h, _, _, _ => h.elim
  | _ :: _, [], _, _, h, _, _, _ => h.elim
  | _ :: _, _ :: _, [], _, h, _, _, _ => h.elim
theorem args_carry {P : Program} (hlo : laidOutB P = true) {W W' : World} (hb : Below W.heap.size W W') : ∀ (ts : List TypeId) (vs : List Value) (ds : List (DataW H)) (ps : List MemPlace), DataW.TrodAll enc P W 0 (fun _ => true) true ts vs ds ps →
    (ts.all fun t => P.readableRec t && decide (t < P.types.size)) = true → (∀ x ∈ ps, x.block < W.heap.size) → DataW.TrodAll enc P W' 0 (fun b => decide (b < W.heap.size)) true ts vs ds ps
  | [], [], [], ps, h, _, _ => h
  | t :: ts, v :: vs, d :: ds, ps, h, hp, hlt => by
    obtain ⟨p, q, h1, h2, rfl⟩ := h
    simp only [List.all_cons, Bool.and_eq_true, decide_eq_true_eq] at hp
    exact ⟨p, q, Below.trod hlo hp.1.1 hp.1.2 h1 hb (fun x hx => hlt x (List.mem_append_left _ hx)), args_carry hlo hb ts vs ds q h2 hp.2 (fun x hx => hlt x (List.mem_append_right _ hx)), rfl⟩
  | [], _ :: _, _, _, h, _, _ => h.elim
  | [], [], _ :: _, _, h, _, _ => h.elim
  | _ :: _, [], _, _, h, _, _ => h.elim
  | _ :: _, _ :: _, [], _, h, _, _ => h.elim
theorem trod_len {P : Program} {W : World} : ∀ (ts : List TypeId) (vs : List Value) (ds : List (DataW H)) (ps : List MemPlace), DataW.TrodAll enc P W 0 (fun _ => true) true ts vs ds ps → ds.length = ts.length := by
  intro ts
  induction ts with
  | nil => intro vs ds ps h; cases vs <;> cases ds <;> first | rfl | exact h.elim
  | cons t ts ih =>
    intro vs ds ps h
    cases vs with
    | nil => exact h.elim
    | cons v vs =>
      cases ds with
      | nil => exact h.elim
      | cons d ds =>
        obtain ⟨_, _, _, h2, _⟩ := h
        simp [ih _ _ _ h2]
theorem weights_more {P : Program} {n : Nat} : ∀ (ts us : List TypeId) (ds : List (DataW H)), n ∈ DataW.weightsEach P ts ds → n ∈ DataW.weightsEach P (ts ++ us) ds := by
  intro ts us
  induction ts with
  | nil => intro ds h; cases ds <;> simp [DataW.weightsEach] at h
  | cons t ts ih =>
    intro ds h
    cases ds with
    | nil => simp [DataW.weightsEach] at h
    | cons d ds =>
      simp only [DataW.weightsEach, List.mem_append, List.cons_append] at h ⊢
      exact h.imp id (ih ds)
theorem val_list {P : Program} {W : World} {base : Nat} {ts : Array TypeId} {args : Array Value} (h : OkAll P W base ts args) : OkAllL P W base ts.toList args.toList := by
  refine ⟨?_⟩
  intro j t v a b
  rw [Array.getElem?_toList] at a b
  exact h.val j t v a b
theorem law_contract {f : FuncId} {fn : Func} {c : Code} {s : ChangeSpec} {W : World} {base : Nat} {args : Array Value} {ds gs : List (DataW H)} {before : List MemPlace} {us : List TypeId}
    (hfn : Tryz.prog.funcs[f]? = some fn) (hname : (fn.name == "runtime.NumGoroutine") = false) (hbody : fn.body = some c) (hres : fn.resultTypes = #[4]) (hvars : s.vars = []) (hplain : (fn.params.toList.all fun t => plainT Tryz.prog 9 t) = true)
    (hread : (fn.params.toList.all fun t => Tryz.prog.readableRec t && decide (t < Tryz.prog.types.size)) = true)
    (hspec : ∀ ds : List (DataW H), ds.length = fn.params.toList.length → s.fn H ds = { results := [.lit (.bool true)], args := ds })
    (den : ∀ ps, argsWell Tryz.prog fn.params.toList ps → Den E1 f ps (bolP true))
    (hval : OkAll Tryz.prog W base fn.params args)
    (hW : DataW.Whole enc Tryz.prog fn.params.toList s.vars false W args.toList ds gs before)
    (hz : (DataW.weightsEach Tryz.prog (fn.params.toList ++ us) (ds ++ gs)).all (· ≤ reachBytes) = true) (hgl : glE (inAll W) W) :
    Calls Tryz.prog f args W fun e W' => ∃ v, e = .returned v ∧ s.post enc Tryz.prog fn false true false false W args v W' := by
  have hlt := hW.lt
  have hW' := hW
  obtain ⟨p, q, hA, hV, rfl, _, _⟩ := hW
  have hV' := hV
  rw [hvars] at hV
  obtain ⟨rfl, rfl⟩ := trodVars_none hV
  simp only [List.append_nil] at hz hW' hlt
  have hwt : ∀ n ∈ DataW.weightsEach Tryz.prog fn.params.toList ds, n ≤ reachBytes := fun n hn => by
    have h1 : n ∈ DataW.weightsEach Tryz.prog (fn.params.toList ++ us) ds := by
      exact weights_more _ _ _ hn
    simpa using List.all_eq_true.1 hz n h1
  have hval' := val_list hval
  obtain ⟨qs, hq, hl, hr⟩ := args_rep fn.params.toList args.toList ds p hA hval' hplain hwt
  have hdl : ds.length = fn.params.toList.length := by
    exact trod_len _ _ _ _ hA
  have hgl' : Gl E1 (inAll W) W := hgl
  have hin : ∀ b, inAll W b → Solid W b := fun b ⟨e, n, h⟩ => .of_shape h
  have hpure : PureDoes E1.P f args.toList.toArray W (inAll W) (bolP true) := den_sound envOk1 (den qs hq) hgl' hl hr hin
  have hc : Calls Tryz.prog f args W fun e W' => ∃ I' v, e = .returned v ∧ PRep I' W' (bolP true) v ∧ Below W.heap.size W W' := by
    have hent := enters_of (P := Tryz.prog) hfn hname hbody args W
    rcases hpure with ⟨v, w', h1, h2⟩ | ⟨h1, h2⟩ | ⟨row, ax, w1, h1, h2⟩
    · have h3 := hent.symm.trans h1; cases h3
    · refine h2.mono fun e W' he => ?_
      split at he
      · rename_i v
        obtain ⟨I', k1, _, _, k2, _⟩ := he
        exact ⟨I', v, rfl, k1, k2⟩
      · exact he.elim
    · have h3 := hent.symm.trans h1; cases h3
  refine hc.mono ?_
  rintro e W' ⟨I', v, rfl, hv, hb⟩
  obtain rfl : v = .bool true := by cases hv; rfl
  refine ⟨_, rfl, ds, [], p, [], p, [], hW', ?_, ?_, ?_, hb.frame _, fun h => by cases h⟩
  · rw [List.append_nil, hspec ds hdl, hres]
    exact trodAll_mk1 (shut_bool Tryz.underlying4 _)
  · rw [List.append_nil, hspec ds hdl]
    exact args_carry laidOut0 hb _ _ _ _ hA hread (fun x hx => by simpa using hlt x hx)
  · rw [List.append_nil, hspec ds hdl, hvars]
    rfl
end
end Go.Proofs.YtlhfgonjcpapnaaGreatDoor.Abs

namespace Go.Proofs.YtlhfgonjcpapnaaGreatDoor.Abs
open Go Go.Proofs
def version_digits_S0 (l : List UInt8) (i : Int) (j : Nat → AV) (jr : Nat → Row) (g : Nat) : St :=
  { t := [strA (bs l), j 1, j 2, j 3, j 4, intA ((↑(ByteArray.size (bs l)) : Int)), intA i] ++ jj j 7 13 ++ [undefA, undefA], h := [List.replicate 22 row0], g := g }
theorem version_digits_go (l : List UInt8) (r : PV) : FnGo E1 Tryz.f108 [strP l] r 2000 (.mask (iv [(1, 4), (7, 19)]) []) =
  (∀ (j : Nat → AV) (jr : Nat → Row) (g : Nat), LoopAt E1 Tryz.f108 r 0 (version_digits_S0 l (0 : Int) j jr g)) := by kernel_rfl
theorem version_digits_go_S0 (l : List UInt8) (i : Int) (j : Nat → AV) (jr : Nat → Row) (g : Nat) (r : PV) : LoopGo E1 Tryz.f108 r 0 2000 (.fork (.fork (.lts 6 (.hole 0)) (.lts 5 (.fork (.hole 0) (.mask (iv [(1, 4), (7, 19)]) [])))) (.hole 0)) (version_digits_S0 l i j jr g) =
  (((decide (i < (↑(ByteArray.size (bs l)) : Int))) = true →
 (((0 : Int) ≤ i) ∧ (Int.toNat i < ByteArray.size (bs l))) ∧
 ((decide ((↑(UInt8.toNat (List.getD l (Int.toNat i) 0)) : Int) < (48 : Int))) = true →
 (bolP false) = r) ∧
 ((decide ((↑(UInt8.toNat (List.getD l (Int.toNat i) 0)) : Int) < (48 : Int))) = false →
 (((0 : Int) ≤ i) ∧ (Int.toNat i < ByteArray.size (bs l))) ∧
 ((decide ((↑(UInt8.toNat (List.getD l (Int.toNat i) 0)) : Int) > (57 : Int))) = true →
 (bolP false) = r) ∧
 ((decide ((↑(UInt8.toNat (List.getD l (Int.toNat i) 0)) : Int) > (57 : Int))) = false →
 ∀ (j : Nat → AV) (jr : Nat → Row) (g : Nat), LoopAt E1 Tryz.f108 r 0 (version_digits_S0 l (IntKind.i64.wrap (i + (1 : Int))) j jr g)))) ∧
 ((decide (i < (↑(ByteArray.size (bs l)) : Int))) = false →
 (bolP (!ByteArray.toList (bs l) == ByteArray.toList (bs []))) = r)) := by kernel_rfl
def ref07_digits_S0 (l : List UInt8) (i : Int) (j : Nat → AV) (jr : Nat → Row) (g : Nat) : St :=
  { t := [strA (bs l), j 1, j 2, intA i] ++ jj j 4 16 ++ [undefA, undefA], h := [List.replicate 22 row0], g := g }
theorem ref07_digits_go (l : List UInt8) (r : PV) : FnGo E1 Tryz.f104 [strP l] r 2000 (.mask (iv [(1, 2), (4, 19)]) []) =
  (∀ (j : Nat → AV) (jr : Nat → Row) (g : Nat), LoopAt E1 Tryz.f104 r 0 (ref07_digits_S0 l (0 : Int) j jr g)) := by kernel_rfl
theorem ref07_digits_go_S0 (l : List UInt8) (i : Int) (j : Nat → AV) (jr : Nat → Row) (g : Nat) (r : PV) : LoopGo E1 Tryz.f104 r 0 2000 (.fork (.fork (.lts 6 (.hole 0)) (.lts 5 (.fork (.hole 0) (.mask (iv [(1, 2), (4, 19)]) [])))) (.hole 0)) (ref07_digits_S0 l i j jr g) =
  (((decide (i < (↑(ByteArray.size (bs l)) : Int))) = true →
 (((0 : Int) ≤ i) ∧ (Int.toNat i < ByteArray.size (bs l))) ∧
 ((decide ((↑(UInt8.toNat (List.getD l (Int.toNat i) 0)) : Int) < (48 : Int))) = true →
 (bolP false) = r) ∧
 ((decide ((↑(UInt8.toNat (List.getD l (Int.toNat i) 0)) : Int) < (48 : Int))) = false →
 (((0 : Int) ≤ i) ∧ (Int.toNat i < ByteArray.size (bs l))) ∧
 ((decide ((↑(UInt8.toNat (List.getD l (Int.toNat i) 0)) : Int) > (57 : Int))) = true →
 (bolP false) = r) ∧
 ((decide ((↑(UInt8.toNat (List.getD l (Int.toNat i) 0)) : Int) > (57 : Int))) = false →
 ∀ (j : Nat → AV) (jr : Nat → Row) (g : Nat), LoopAt E1 Tryz.f104 r 0 (ref07_digits_S0 l (IntKind.i64.wrap (i + (1 : Int))) j jr g)))) ∧
 ((decide (i < (↑(ByteArray.size (bs l)) : Int))) = false →
 (bolP (!ByteArray.toList (bs l) == ByteArray.toList (bs []))) = r)) := by kernel_rfl
theorem version_plain_go (l : List UInt8) (r : PV) : FnGo E1 Tryz.f109 [strP l] r 2000 (.fork (.lts 4 (.hole 0)) (.lts 4 (.hole 0))) =
  ((((↑(ByteArray.size (bs l)) : Int) == (1 : Int)) = true →
 (bolP true) = r) ∧
 (((↑(ByteArray.size (bs l)) : Int) == (1 : Int)) = false →
 (((0 : Int) ≤ (0 : Int)) ∧ ((0 : Nat) < ByteArray.size (bs l))) ∧
 (bolP ((↑(UInt8.toNat (List.getD l (0 : Nat) 0)) : Int) != (48 : Int))) = r)) := by kernel_rfl
theorem ref07_cmp_go (x : Int) (y : Int) (r : PV) : FnGo E1 Tryz.f118 [.lit (.int .u32 x), .lit (.int .u32 y)] r 2000 (.fork (.hole 0) (.fork (.hole 0) (.hole 0))) =
  (((decide (x < y)) = true →
 (intP (-1)) = r) ∧
 ((decide (x < y)) = false →
 ((decide (x > y)) = true →
 (intP 1) = r) ∧
 ((decide (x > y)) = false →
 (intP 0) = r))) := by kernel_rfl
theorem cmp_isNaN_uint32_go (x : Int) (r : PV) : FnGo E1 Tryz.f147 [.lit (.int .u32 x)] r 2000 (.hole 0) =
  ((bolP (x != x)) = r) := by kernel_rfl
theorem cmp_isNaN_int_go (x : Int) (r : PV) : FnGo E1 Tryz.f148 [intP x] r 2000 (.hole 0) =
  ((bolP (x != x)) = r) := by kernel_rfl
theorem cmp_isNaN_string_go (l : List UInt8) (r : PV) : FnGo E1 Tryz.f175 [strP l] r 2000 (.hole 0) =
  ((bolP (!ByteArray.toList (bs l) == ByteArray.toList (bs l))) = r) := by kernel_rfl
theorem cmp_Or_int_go (x : Int) (y : Int) (z : Int) (r : PV) : FnGo E1 Tryz.f122 [.sl 1 false true [intP x, intP y, intP z]] r 2000 (.go (.lit (.val (intP x) (.fork (.hole 0) (.go (.lit (.val (intP y) (.fork (.hole 0) (.go (.lit (.val (intP z) (.fork (.hole 0) (.go (.lit (.hole 0))))))))))))))) =
  ((((0 : Int) ≤ (0 : Int)) ∧ ((false = false) ∧ ((1 : Nat) = 1))) ∧
 ((some (intP x)) = some (intP x)) ∧
 ((x != (0 : Int)) = true →
 (intP x) = r) ∧
 ((x != (0 : Int)) = false →
 (((0 : Int) ≤ (1 : Int)) ∧ ((false = false) ∧ ((1 : Nat) = 1))) ∧
 ((some (intP y)) = some (intP y)) ∧
 ((y != (0 : Int)) = true →
 (intP y) = r) ∧
 ((y != (0 : Int)) = false →
 (((0 : Int) ≤ (2 : Int)) ∧ ((false = false) ∧ ((1 : Nat) = 1))) ∧
 ((some (intP z)) = some (intP z)) ∧
 ((z != (0 : Int)) = true →
 (intP z) = r) ∧
 ((z != (0 : Int)) = false →
 (intP 0) = r)))) := by kernel_rfl
theorem span_low_go (x : I) (r : PV) : FnGo E1 Tryz.f37 [I.p x] r 2000 (.hole 0) =
  (((0 : Nat) = 0) ∧
 ((0 : Nat) = 0) ∧
 ((1 : Nat) = 1) ∧
 (Ed.p ⟨(I.lo x), (I.lopen x), false⟩) = r) := by kernel_rfl
theorem span_high_go (x : I) (r : PV) : FnGo E1 Tryz.f38 [I.p x] r 2000 (.hole 0) =
  (((0 : Nat) = 0) ∧
 ((0 : Nat) = 0) ∧
 ((0 : Nat) = 0) ∧
 ((1 : Nat) = 1) ∧
 (Ed.p ⟨(I.hi x), (!I.hopen x), (I.less x)⟩) = r) := by kernel_rfl
theorem span_bottom_go (r : PV) : FnGo E1 Tryz.f76 [] r 2000 (.hole 0) =
  (((0 : Nat) = 0) ∧
 ∃ hp, frz frzDepth (.agg [.pv (.lit (.int .u32 0)), .pv (.lit (.int .u32 0)), .pv (.lit (.int .u32 0)), .msl 0 1 1 0 1 true, bolA false, bolA false]) [[⟨0, .box (.agg [.pv (.lit (.int .u32 0)), .pv (.lit (.int .u32 0)), .pv (.lit (.int .u32 0)), .msl 0 1 1 0 1 true, bolA false, bolA false]) false⟩, ⟨1, .row 1 9 [strP [48]] false⟩, row0, row0]] = some (r, hp)) := by kernel_rfl
theorem ref08_Bottom_go (r : PV) : FnGo E1 Tryz.f81 [] r 2000 (.hole 0) =
  (((0 : Nat) = 0) ∧
 ∃ hp, frz frzDepth (.agg [.pv (.lit (.int .u32 0)), .pv (.lit (.int .u32 0)), .pv (.lit (.int .u32 0)), .msl 0 1 1 0 1 true]) [[⟨0, .box (.agg [.pv (.lit (.int .u32 0)), .pv (.lit (.int .u32 0)), .pv (.lit (.int .u32 0)), .msl 0 1 1 0 1 true]) false⟩, ⟨1, .row 1 9 [strP [48]] false⟩, row0]] = some (r, hp)) := by kernel_rfl
def ref07_Same_S0 (v : V) (w : V) (i : Int) (j : Nat → AV) (jr : Nat → Row) (g : Nat) : St :=
  { t := [j 0, j 1, .mptr 0 2 0 0 0, .mptr 0 3 1 0 0, j 4, intA i] ++ jj j 6 46, h := [[row0, row0, ⟨0, .box (.pv (V.p v)) false⟩, ⟨1, .box (.pv (V.p w)) false⟩] ++ List.replicate 48 row0], g := g }
theorem ref07_Same_go (v : V) (w : V) (r : PV) : FnGo E1 Tryz.f46 [V.p v, V.p w] r 2000 (.fork (.lts 23 (.hole 0)) (.lts 6 (.fork (.lts 16 (.hole 0)) (.lts 6 (.fork (.lts 9 (.hole 0)) (.lts 8 (.fork (.hole 0) (.mask (iv [(0, 1), (4, 4), (6, 51)]) [])))))))) =
  (((0 : Nat) = 0) ∧
 ((1 : Nat) = 1) ∧
 ((V.a v != V.a w) = true →
 (bolP false) = r) ∧
 ((V.a v != V.a w) = false →
 ((0 : Nat) = 0) ∧
 ((1 : Nat) = 1) ∧
 ((V.b v != V.b w) = true →
 (bolP false) = r) ∧
 ((V.b v != V.b w) = false →
 ((0 : Nat) = 0) ∧
 ((1 : Nat) = 1) ∧
 ((V.c v != V.c w) = true →
 (bolP false) = r) ∧
 ((V.c v != V.c w) = false →
 ((0 : Nat) = 0) ∧
 ((1 : Nat) = 1) ∧
 (((↑(List.length (List.map strP (V.pre v))) : Int) != (↑(List.length (List.map strP (V.pre w))) : Int)) = true →
 (bolP false) = r) ∧
 (((↑(List.length (List.map strP (V.pre v))) : Int) != (↑(List.length (List.map strP (V.pre w))) : Int)) = false →
 ∀ (j : Nat → AV) (jr : Nat → Row) (g : Nat), LoopAt E1 Tryz.f46 r 0 (ref07_Same_S0 v w (0 : Int) j jr g)))))) := by kernel_rfl
theorem ref07_Same_go_S0 (v : V) (w : V) (i : Int) (j : Nat → AV) (jr : Nat → Row) (g : Nat) (r : PV) : LoopGo E1 Tryz.f46 r 0 2000 (.fork (.val (strP (List.getD (V.pre v) (Int.toNat i) default)) (.val (strP (List.getD (V.pre w) (Int.toNat i) default)) (.fork (.hole 0) (.mask (iv [(0, 1), (4, 4), (6, 51)]) [])))) (.hole 0)) (ref07_Same_S0 v w i j jr g) =
  (((0 : Nat) = 0) ∧
 ((decide (i < (↑(List.length (List.map strP (V.pre v))) : Int))) = true →
 ((0 : Nat) = 0) ∧
 (((0 : Int) ≤ i) ∧ (((V.nl v) = false) ∧ ((V.k v) = 1))) ∧
 (((List.map strP (V.pre v))[Int.toNat i]?) = some (strP (List.getD (V.pre v) (Int.toNat i) default))) ∧
 ((1 : Nat) = 1) ∧
 (((0 : Int) ≤ i) ∧ (((V.nl w) = false) ∧ ((V.k w) = 1))) ∧
 (((List.map strP (V.pre w))[Int.toNat i]?) = some (strP (List.getD (V.pre w) (Int.toNat i) default))) ∧
 ((!ByteArray.toList (bs (List.getD (V.pre v) (Int.toNat i) default)) == ByteArray.toList (bs (List.getD (V.pre w) (Int.toNat i) default))) = true →
 (bolP false) = r) ∧
 ((!ByteArray.toList (bs (List.getD (V.pre v) (Int.toNat i) default)) == ByteArray.toList (bs (List.getD (V.pre w) (Int.toNat i) default))) = false →
 ∀ (j : Nat → AV) (jr : Nat → Row) (g : Nat), LoopAt E1 Tryz.f46 r 0 (ref07_Same_S0 v w (IntKind.i64.wrap (i + (1 : Int))) j jr g))) ∧
 ((decide (i < (↑(List.length (List.map strP (V.pre v))) : Int))) = false →
 (bolP true) = r)) := by kernel_rfl
end Go.Proofs.YtlhfgonjcpapnaaGreatDoor.Abs

namespace Go.Proofs.YtlhfgonjcpapnaaGreatDoor.Abs
open Go Go.Proofs
theorem den1 {f : FuncId} {fn : Func} {ps : List PV} {r : PV} (n : Nat) (scr : Scr) (hi : E1.intr f = none) (hf : E1.P.funcs[f]? = some fn) (hb : fn.body.isSome = true) (hinl : E1.inl f = false) (hown : E1.own f = false) (h : FnGo E1 fn ps r n scr) (hok : E1.ok f = true := by rfl) (hlit : E1.rd f = false ∨ ∃ x, r = .lit x := by first | exact .inl rfl | exact .inr ⟨_, rfl⟩) : Den E1 f ps r :=
  den_go n scr hi hf hb hok hinl hown h hlit
def isDig (b : UInt8) : Bool := decide (48 ≤ b.toNat) && decide (b.toNat ≤ 57)
def digitsL (l : List UInt8) : Bool := l.all isDig && !l.isEmpty
theorem drop_all {l : List UInt8} {i : Nat} (h : i < l.length) (p : UInt8 → Bool) : (l.drop i).all p = (p l[i] && (l.drop (i + 1)).all p) := by
  rw [List.drop_eq_getElem_cons h, List.all_cons]
theorem getD_lt {α : Type} {l : List α} {i : Nat} (h : i < l.length) (d : α) : l.getD i d = l[i] := by
  simp [List.getD_eq_getElem?_getD, h]
theorem den_version_digits (l : List UInt8) (hl : small l.length) : Den E1 108 [strP l] (bolP (digitsL l)) := by
  refine den1 2000 _ rfl (by kernel_rfl) rfl rfl rfl (Eq.mpr (version_digits_go l _) fun j jr g => ?_)
  have H : ∀ (n i : Nat) j jr g, i + n = l.length → digitsL l = ((l.drop i).all isDig && !l.isEmpty) → LoopAt E1 Tryz.f108 (bolP (digitsL l)) 0 (version_digits_S0 l i j jr g) := by
    intro n
    induction n with
    | zero =>
      intro i j jr g hi hd
      refine loop_go 2000 _ (Eq.mpr (version_digits_go_S0 l i j jr g _) ⟨fun h => ?_, fun h => ?_⟩)
      · simp [size_bs] at h; omega
      · rw [hd, List.drop_eq_nil_of_le (by omega)]
        simp [toList_bs]
    | succ n ih =>
      intro i j jr g hi hd
      have hlt : i < l.length := by omega
      rw [drop_all hlt] at hd
      refine loop_go 2000 _ (Eq.mpr (version_digits_go_S0 l i j jr g _) ⟨fun h => ?_, fun h => ?_⟩)
      · simp only [Int.toNat_natCast, getD_lt hlt, size_bs]
        refine ⟨⟨by omega, hlt⟩, fun h1 => ?_, fun h1 => ⟨⟨by omega, hlt⟩, fun h2 => ?_, fun h2 j jr g => ?_⟩⟩
        · rw [hd]; simp only [decide_eq_true_eq] at h1; simp [isDig]; omega
        · rw [hd]; simp only [decide_eq_true_eq] at h2; simp [isDig]; omega
        · simp only [decide_eq_false_iff_not] at h1 h2
          have : isDig l[i] = true := by simp [isDig]; omega
          rw [this, Bool.true_and] at hd
          rw [wrap_i64 _ (by omega) (by unfold small at hl; omega)]
          exact ih (i + 1) j jr g (by omega) hd
      · simp [size_bs] at h; omega
  exact H l.length 0 j jr g (by omega) (by simp [digitsL])
theorem den_ref07_digits (l : List UInt8) (hl : small l.length) : Den E1 104 [strP l] (bolP (digitsL l)) := by
  refine den1 2000 _ rfl (by kernel_rfl) rfl rfl rfl (Eq.mpr (ref07_digits_go l _) fun j jr g => ?_)
  have H : ∀ (n i : Nat) j jr g, i + n = l.length → digitsL l = ((l.drop i).all isDig && !l.isEmpty) → LoopAt E1 Tryz.f104 (bolP (digitsL l)) 0 (ref07_digits_S0 l i j jr g) := by
    intro n
    induction n with
    | zero =>
      intro i j jr g hi hd
      refine loop_go 2000 _ (Eq.mpr (ref07_digits_go_S0 l i j jr g _) ⟨fun h => ?_, fun h => ?_⟩)
      · simp [size_bs] at h; omega
      · rw [hd, List.drop_eq_nil_of_le (by omega)]
        simp [toList_bs]
    | succ n ih =>
      intro i j jr g hi hd
      have hlt : i < l.length := by omega
      rw [drop_all hlt] at hd
      refine loop_go 2000 _ (Eq.mpr (ref07_digits_go_S0 l i j jr g _) ⟨fun h => ?_, fun h => ?_⟩)
      · simp only [Int.toNat_natCast, getD_lt hlt, size_bs]
        refine ⟨⟨by omega, hlt⟩, fun h1 => ?_, fun h1 => ⟨⟨by omega, hlt⟩, fun h2 => ?_, fun h2 j jr g => ?_⟩⟩
        · rw [hd]; simp only [decide_eq_true_eq] at h1; simp [isDig]; omega
        · rw [hd]; simp only [decide_eq_true_eq] at h2; simp [isDig]; omega
        · simp only [decide_eq_false_iff_not] at h1 h2
          have : isDig l[i] = true := by simp [isDig]; omega
          rw [this, Bool.true_and] at hd
          rw [wrap_i64 _ (by omega) (by unfold small at hl; omega)]
          exact ih (i + 1) j jr g (by omega) hd
      · simp [size_bs] at h; omega
  exact H l.length 0 j jr g (by omega) (by simp [digitsL])
def plainL (l : List UInt8) : Bool := l.length == 1 || (l.getD 0 0).toNat != 48
theorem den_version_plain (l : List UInt8) (h0 : l ≠ []) : Den E1 109 [strP l] (bolP (plainL l)) := by
  refine den1 2000 _ rfl (by kernel_rfl) rfl rfl rfl (Eq.mpr (version_plain_go l _) ⟨fun h => ?_, fun h => ?_⟩)
  · simp only [size_bs, beq_iff_eq] at h
    have : l.length = 1 := by omega
    simp [plainL, this]
  · have : 0 < l.length := List.length_pos_iff.2 h0
    refine ⟨⟨by omega, this⟩, ?_⟩
    simp only [size_bs, beq_eq_false_iff_ne, ne_eq] at h
    have h1 : (l.length == 1) = false := by simp; omega
    have h2 : (((l.getD 0 0).toNat : Int) != 48) = ((l.getD 0 0).toNat != 48) := by rw [Bool.eq_iff_iff]; simp; omega
    simp only [plainL, h1, Bool.false_or, ← h2]
def cmpI (x y : Int) : Int := if x < y then -1 else if x > y then 1 else 0
theorem den_ref07_cmp (x y : Int) : Den E1 118 [.lit (.int .u32 x), .lit (.int .u32 y)] (intP (cmpI x y)) := by
  refine den1 2000 _ rfl (by kernel_rfl) rfl rfl rfl (Eq.mpr (ref07_cmp_go x y _) ⟨fun h => ?_, fun h => ⟨fun h2 => ?_, fun h2 => ?_⟩⟩)
  · simp at h; simp [cmpI, h]
  · simp at h h2; simp [cmpI, h2, show ¬ x < y by omega]
  · simp at h h2; simp [cmpI, show ¬ x < y by omega, show ¬ y < x by omega]
theorem den_isNaN_uint32 (x : Int) : Den E1 147 [.lit (.int .u32 x)] (bolP false) :=
  den1 2000 _ rfl (by kernel_rfl) rfl rfl rfl (Eq.mpr (cmp_isNaN_uint32_go x _) (by simp))
theorem den_isNaN_int (x : Int) : Den E1 148 [intP x] (bolP false) :=
  den1 2000 _ rfl (by kernel_rfl) rfl rfl rfl (Eq.mpr (cmp_isNaN_int_go x _) (by simp))
theorem den_isNaN_string (l : List UInt8) : Den E1 175 [strP l] (bolP false) :=
  den1 2000 _ rfl (by kernel_rfl) rfl rfl rfl (Eq.mpr (cmp_isNaN_string_go l _) (by simp))
def or3 (x y z : Int) : Int := if x ≠ 0 then x else if y ≠ 0 then y else z
theorem den_Or (x y z : Int) : Den E1 122 [.sl 1 false true [intP x, intP y, intP z]] (intP (or3 x y z)) := by
  refine den1 2000 _ rfl (by kernel_rfl) rfl rfl rfl (Eq.mpr (cmp_Or_int_go x y z _) ?_)
  by_cases hx : x = 0
  · by_cases hy : y = 0
    · by_cases hz : z = 0 <;> simp [or3, hx, hy, hz]
    · simp [or3, hx, hy]
  · simp [or3, hx]
def I.low (x : I) : Ed := ⟨x.lo, x.lopen, false⟩
def I.high (x : I) : Ed := ⟨x.hi, !x.hopen, x.less⟩
theorem den_low (x : I) : Den E1 37 [x.p] (x.low.p) :=
  den1 2000 _ rfl (by kernel_rfl) rfl rfl rfl (Eq.mpr (span_low_go x _) ⟨rfl, rfl, rfl, rfl⟩)
theorem den_high (x : I) : Den E1 38 [x.p] (x.high.p) :=
  den1 2000 _ rfl (by kernel_rfl) rfl rfl rfl (Eq.mpr (span_high_go x _) ⟨rfl, rfl, rfl, rfl, rfl⟩)
theorem ex_frz {v : AV} {h : Heap} {r : PV} (h1 : (frz frzDepth v h).map (·.1) = some r) : ∃ hp, frz frzDepth v h = some (r, hp) := by
  simp only [Option.map_eq_some_iff] at h1
  obtain ⟨⟨p, hp⟩, h1, rfl⟩ := h1
  exact ⟨hp, h1⟩
def bottomV : V := ⟨0, 0, 0, 1, false, true, [[48]]⟩
def bottomE : Ed := ⟨bottomV, false, false⟩
theorem den_bottom : Den E1 76 [] bottomE.p := by
  have h := span_bottom_go bottomE.p
  refine den1 (fn := Tryz.f76) 2000 (.hole 0) rfl (by kernel_rfl) rfl rfl rfl ?_
  rw [h]
  exact ⟨rfl, ex_frz (by kernel_rfl)⟩
theorem den_ref08_Bottom : Den E1 81 [] bottomV.p := by
  have h := ref08_Bottom_go bottomV.p
  refine den1 (fn := Tryz.f81) 2000 (.hole 0) rfl (by kernel_rfl) rfl rfl rfl ?_
  rw [h]
  exact ⟨rfl, ex_frz (by kernel_rfl)⟩
def numL (n : Nat) : List UInt8 := if h : n < 10 then [UInt8.ofNat (48 + n)] else numL (n / 10) ++ [UInt8.ofNat (48 + n % 10)]
def sameV (v w : V) : Bool := v.a == w.a && v.b == w.b && v.c == w.c && v.pre == w.pre
theorem cons_beq (a b : List UInt8) (x y : List (List UInt8)) : (a :: x == b :: y) = (a == b && x == y) := rfl
theorem den_Same (v w : V) (hv : v.ok) (hw : w.ok) : Den E1 46 [v.p, w.p] (bolP (sameV v w)) := by
  refine den1 2000 _ rfl (by kernel_rfl) rfl rfl rfl (Eq.mpr (ref07_Same_go v w _) ?_)
  refine ⟨rfl, rfl, fun h => by simp at h; simp [sameV, h], fun ha => ⟨rfl, rfl, fun h => by simp at h; simp [sameV, h], fun hb => ⟨rfl, rfl, fun h => by simp at h; simp [sameV, h], fun hc => ⟨rfl, rfl, fun h => ?_, fun hlen j jr g => ?_⟩⟩⟩⟩
  · simp at h
    have : (v.pre == w.pre) = false := by simp; intro e; exact h (by rw [e])
    simp [sameV, this]
  simp only [bne_eq_false_iff_eq] at ha hb hc
  simp only [List.length_map, bne_eq_false_iff_eq] at hlen
  have hlen : v.pre.length = w.pre.length := by omega
  have H : ∀ (n i : Nat) j jr g, i + n = v.pre.length → sameV v w = (v.pre.drop i == w.pre.drop i) → LoopAt E1 Tryz.f46 (bolP (sameV v w)) 0 (ref07_Same_S0 v w i j jr g) := by
    intro n
    induction n with
    | zero =>
      intro i j jr g hi hd
      refine loop_go 2000 _ (Eq.mpr (ref07_Same_go_S0 v w i j jr g _) ⟨rfl, fun h => ?_, fun h => ?_⟩)
      · simp at h; omega
      · rw [hd, List.drop_eq_nil_of_le (by omega), List.drop_eq_nil_of_le (by omega)]; rfl
    | succ n ih =>
      intro i j jr g hi hd
      have h1 : i < v.pre.length := by omega
      have h2 : i < w.pre.length := by omega
      rw [List.drop_eq_getElem_cons h1, List.drop_eq_getElem_cons h2, cons_beq] at hd
      refine loop_go 2000 _ (Eq.mpr (ref07_Same_go_S0 v w i j jr g _) ⟨rfl, fun h => ?_, fun h => ?_⟩)
      · simp only [Int.toNat_natCast, getD_lt h1, getD_lt h2, toList_bs]
        refine ⟨trivial, ⟨by omega, sl_at hv.sl h1⟩, by simp [h1, strP], trivial, ⟨by omega, sl_at hw.sl h2⟩, by simp [h2, strP], fun h3 => ?_, fun h3 j jr g => ?_⟩
        · rw [hd]; simp at h3; simp [h3]
        · simp at h3
          rw [wrap_i64 _ (by omega) (by have := hv.len; unfold small at this; omega)]
          exact ih (i + 1) j jr g (by omega) (by rw [hd, h3]; simp)
      · simp at h; omega
  exact H v.pre.length 0 j jr g (by omega) (by simp [sameV, ha, hb, hc])
end Go.Proofs.YtlhfgonjcpapnaaGreatDoor.Abs

namespace Go.Proofs.YtlhfgonjcpapnaaGreatDoor.Abs
open Go Go.Proofs
def cmpS (a b : List UInt8) : Int := if Op.bytesLess a b then -1 else if a == b then 0 else 1
def ordL (a b : List UInt8) : Int :=
  if digitsL a && !digitsL b then -1
  else if !digitsL a && digitsL b then 1
  else if digitsL a && digitsL b && cmpI a.length b.length != 0 then cmpI a.length b.length
  else cmpS a b
def cmpP : List (List UInt8) → List (List UInt8) → Int
  | [], [] => 0
  | [], _ :: _ => -1
  | _ :: _, [] => 1
  | a :: x, b :: y => if ordL a b ≠ 0 then ordL a b else cmpP x y
def cmpN (v w : V) : Int := or3 (cmpI v.a w.a) (cmpI v.b w.b) (cmpI v.c w.c)
def cmpV (v w : V) : Int :=
  if cmpN v w ≠ 0 then cmpN v w
  else if v.pre.length = 0 ∨ w.pre.length = 0 then cmpI w.pre.length v.pre.length
  else cmpP v.pre w.pre
def identC (b : UInt8) : Bool := isDig b || (decide (97 ≤ b.toNat) && decide (b.toNat ≤ 122)) || b.toNat == 45
def identL (s : List UInt8) : Bool := !s.isEmpty && decide (s.length ≤ 16) && s.all identC && (!digitsL s || plainL s)
def mayV (v : V) : Bool := decide (v.a ≤ 2147483647) && decide (v.b ≤ 2147483647) && decide (v.c ≤ 2147483647) && decide (v.pre.length ≤ 8) && v.pre.all identL
def firstI (p : List UInt8 → Bool) (l : List (List UInt8)) : Int := if l.findIdx p < l.length then (l.findIdx p : Int) else -1
def errV (b : Bool) : Int := if b then 0 else 70
end Go.Proofs.YtlhfgonjcpapnaaGreatDoor.Abs

namespace Go.Proofs.YtlhfgonjcpapnaaGreatDoor.Abs
open Go Go.Proofs
theorem cmp_Compare_uint32_go (x : Int) (y : Int) (r : PV) : FnGo E1 Tryz.f123 [.lit (.int .u32 x), .lit (.int .u32 y)] r 2000 (.res (bolP false) (.res (bolP false) (.lit (.lit (.fork (.hole 0) (.fork (.hole 0) (.hole 0))))))) =
  ((Den E1 147 [.lit (.int .u32 x)] (bolP false)) ∧
 (Den E1 147 [.lit (.int .u32 y)] (bolP false)) ∧
 ((decide (x < y)) = true →
 (intP (-1)) = r) ∧
 ((decide (x < y)) = false →
 ((decide (x > y)) = true →
 (intP 1) = r) ∧
 ((decide (x > y)) = false →
 (intP 0) = r))) := by kernel_rfl
theorem cmp_Compare_int_go (x : Int) (y : Int) (r : PV) : FnGo E1 Tryz.f124 [intP x, intP y] r 2000 (.res (bolP false) (.res (bolP false) (.lit (.lit (.fork (.hole 0) (.fork (.hole 0) (.hole 0))))))) =
  ((Den E1 148 [intP x] (bolP false)) ∧
 (Den E1 148 [intP y] (bolP false)) ∧
 ((decide (x < y)) = true →
 (intP (-1)) = r) ∧
 ((decide (x < y)) = false →
 ((decide (x > y)) = true →
 (intP 1) = r) ∧
 ((decide (x > y)) = false →
 (intP 0) = r))) := by kernel_rfl
theorem cmp_Compare_string_go (a : List UInt8) (b : List UInt8) (r : PV) : FnGo E1 Tryz.f149 [strP a, strP b] r 2000 (.res (bolP false) (.res (bolP false) (.lit (.lit (.fork (.hole 0) (.fork (.hole 0) (.hole 0))))))) =
  ((Den E1 175 [strP a] (bolP false)) ∧
 (Den E1 175 [strP b] (bolP false)) ∧
 ((Op.bytesLess (ByteArray.toList (bs a)) (ByteArray.toList (bs b))) = true →
 (intP (-1)) = r) ∧
 ((Op.bytesLess (ByteArray.toList (bs a)) (ByteArray.toList (bs b))) = false →
 ((!(Op.bytesLess (ByteArray.toList (bs a)) (ByteArray.toList (bs b)) || ByteArray.toList (bs a) == ByteArray.toList (bs b))) = true →
 (intP 1) = r) ∧
 ((!(Op.bytesLess (ByteArray.toList (bs a)) (ByteArray.toList (bs b)) || ByteArray.toList (bs a) == ByteArray.toList (bs b))) = false →
 (intP 0) = r))) := by kernel_rfl
theorem version_order_go (a : List UInt8) (b : List UInt8) (r : PV) : FnGo E1 Tryz.f126 [strP a, strP b] r 2000 (.resB (digitsL a) (.resB (digitsL b) (.lts 3 (.res (intP (cmpI (↑(ByteArray.size (bs a)) : Int) (↑(ByteArray.size (bs b)) : Int))) (.fork (.hole 0) (.res (intP (cmpS a b)) (.hole 0))))) (.lit (.hole 0))) (.resB (digitsL b) (.lit (.lit (.hole 0))) (.lts 3 (.res (intP (cmpS a b)) (.hole 0))))) =
  ((Den E1 108 [strP a] (bolP (digitsL a))) ∧
 ((digitsL a) = true →
 (Den E1 108 [strP b] (bolP (digitsL b))) ∧
 ((digitsL b) = true →
 ((6 : Nat) = 6) ∧
 ((6 : Nat) = 6) ∧
 ((6 : Nat) = 6) ∧
 ((6 : Nat) = 6) ∧
 (Den E1 124 [intP ((↑(ByteArray.size (bs a)) : Int)), intP ((↑(ByteArray.size (bs b)) : Int))] (intP (cmpI (↑(ByteArray.size (bs a)) : Int) (↑(ByteArray.size (bs b)) : Int)))) ∧
 ((cmpI (↑(ByteArray.size (bs a)) : Int) (↑(ByteArray.size (bs b)) : Int) != (0 : Int)) = true →
 (intP (cmpI (↑(ByteArray.size (bs a)) : Int) (↑(ByteArray.size (bs b)) : Int))) = r) ∧
 ((cmpI (↑(ByteArray.size (bs a)) : Int) (↑(ByteArray.size (bs b)) : Int) != (0 : Int)) = false →
 (Den E1 149 [strP a, strP b] (intP (cmpS a b))) ∧
 (intP (cmpS a b)) = r)) ∧
 ((digitsL b) = false →
 ((6 : Nat) = 6) ∧
 ((6 : Nat) = 6) ∧
 (intP (-1)) = r)) ∧
 ((digitsL a) = false →
 (Den E1 108 [strP b] (bolP (digitsL b))) ∧
 ((digitsL b) = true →
 ((6 : Nat) = 6) ∧
 ((6 : Nat) = 6) ∧
 ((6 : Nat) = 6) ∧
 (intP 1) = r) ∧
 ((digitsL b) = false →
 ((6 : Nat) = 6) ∧
 ((6 : Nat) = 6) ∧
 ((6 : Nat) = 6) ∧
 ((6 : Nat) = 6) ∧
 (Den E1 149 [strP a, strP b] (intP (cmpS a b))) ∧
 (intP (cmpS a b)) = r))) := by kernel_rfl
theorem ref07_order_go (a : List UInt8) (b : List UInt8) (r : PV) : FnGo E1 Tryz.f119 [strP a, strP b] r 2000 (.fork (.hole 0) (.resB (digitsL a) (.resB (digitsL b) (.lts 8 (.fork (.fork (.hole 0) (.hole 0)) (.fork (.hole 0) (.hole 0)))) (.lit (.lit (.hole 0)))) (.resB (digitsL b) (.lit (.lit (.hole 0))) (.lts 9 (.fork (.hole 0) (.hole 0)))))) =
  (((ByteArray.toList (bs a) == ByteArray.toList (bs b)) = true →
 (intP 0) = r) ∧
 ((ByteArray.toList (bs a) == ByteArray.toList (bs b)) = false →
 (Den E1 104 [strP a] (bolP (digitsL a))) ∧
 ((digitsL a) = true →
 (Den E1 104 [strP b] (bolP (digitsL b))) ∧
 ((digitsL b) = true →
 (((↑(ByteArray.size (bs a)) : Int) != (↑(ByteArray.size (bs b)) : Int)) = true →
 ((decide ((↑(ByteArray.size (bs a)) : Int) < (↑(ByteArray.size (bs b)) : Int))) = true →
 (intP (-1)) = r) ∧
 ((decide ((↑(ByteArray.size (bs a)) : Int) < (↑(ByteArray.size (bs b)) : Int))) = false →
 (intP 1) = r)) ∧
 (((↑(ByteArray.size (bs a)) : Int) != (↑(ByteArray.size (bs b)) : Int)) = false →
 ((Op.bytesLess (ByteArray.toList (bs a)) (ByteArray.toList (bs b))) = true →
 (intP (-1)) = r) ∧
 ((Op.bytesLess (ByteArray.toList (bs a)) (ByteArray.toList (bs b))) = false →
 (intP 1) = r))) ∧
 ((digitsL b) = false →
 (intP (-1)) = r)) ∧
 ((digitsL a) = false →
 (Den E1 104 [strP b] (bolP (digitsL b))) ∧
 ((digitsL b) = true →
 (intP 1) = r) ∧
 ((digitsL b) = false →
 ((Op.bytesLess (ByteArray.toList (bs a)) (ByteArray.toList (bs b))) = true →
 (intP (-1)) = r) ∧
 ((Op.bytesLess (ByteArray.toList (bs a)) (ByteArray.toList (bs b))) = false →
 (intP 1) = r))))) := by kernel_rfl
def slices_CompareFunc_string_string_string_string_S0 (x : List (List UInt8)) (y : List (List UInt8)) (k : Nat) (k' : Nat) (nl : Bool) (full : Bool) (nl' : Bool) (full' : Bool) (i : Int) (j : Nat → AV) (jr : Nat → Row) (g : Nat) : St :=
  { t := [.pv (.sl k nl full (List.map strP x)), .pv (.sl k' nl' full' (List.map strP y)), .pv (.clo (.func 126) [] [])] ++ jj j 3 8 ++ [.pv (.sl k nl full (List.map strP x)), intA ((↑(List.length (List.map strP x)) : Int)), intA i] ++ jj j 14 20 ++ [undefA, undefA, undefA, undefA, undefA], h := [List.replicate 39 row0], g := g }
theorem slices_CompareFunc_string_string_string_string_go (x : List (List UInt8)) (y : List (List UInt8)) (k : Nat) (k' : Nat) (nl : Bool) (full : Bool) (nl' : Bool) (full' : Bool) (r : PV) : FnGo E1 Tryz.f125 [.sl k nl full (List.map strP x), .sl k' nl' full' (List.map strP y), .clo (.func 126) [] []] r 2000 (.mask (iv [(3, 10), (14, 33)]) []) =
  (∀ (j : Nat → AV) (jr : Nat → Row) (g : Nat), LoopAt E1 Tryz.f125 r 0 (slices_CompareFunc_string_string_string_string_S0 x y k k' nl full nl' full' (0 : Int) j jr g)) := by kernel_rfl
theorem slices_CompareFunc_string_string_string_string_go_S0 (x : List (List UInt8)) (y : List (List UInt8)) (k : Nat) (k' : Nat) (nl : Bool) (full : Bool) (nl' : Bool) (full' : Bool) (i : Int) (j : Nat → AV) (jr : Nat → Row) (g : Nat) (r : PV) : LoopGo E1 Tryz.f125 r 0 2000 (.fork (.val (strP (List.getD x (Int.toNat i) default)) (.fork (.hole 0) (.val (strP (List.getD y (Int.toNat i) default)) (.res (intP (ordL (List.getD x (Int.toNat i) default) (List.getD y (Int.toNat i) default))) (.fork (.hole 0) (.mask (iv [(3, 10), (14, 33)]) [])))))) (.fork (.hole 0) (.hole 0))) (slices_CompareFunc_string_string_string_string_S0 x y k k' nl full nl' full' i j jr g) =
  (((decide (i < (↑(List.length (List.map strP x)) : Int))) = true →
 (((0 : Int) ≤ i) ∧ ((nl = false) ∧ (k = 1))) ∧
 (((List.map strP x)[Int.toNat i]?) = some (strP (List.getD x (Int.toNat i) default))) ∧
 ((decide (i ≥ (↑(List.length (List.map strP y)) : Int))) = true →
 (intP 1) = r) ∧
 ((decide (i ≥ (↑(List.length (List.map strP y)) : Int))) = false →
 (((0 : Int) ≤ i) ∧ ((nl' = false) ∧ (k' = 1))) ∧
 (((List.map strP y)[Int.toNat i]?) = some (strP (List.getD y (Int.toNat i) default))) ∧
 (Den E1 126 [strP (List.getD x (Int.toNat i) default), strP (List.getD y (Int.toNat i) default)] (intP (ordL (List.getD x (Int.toNat i) default) (List.getD y (Int.toNat i) default)))) ∧
 ((ordL (List.getD x (Int.toNat i) default) (List.getD y (Int.toNat i) default) != (0 : Int)) = true →
 (intP (ordL (List.getD x (Int.toNat i) default) (List.getD y (Int.toNat i) default))) = r) ∧
 ((ordL (List.getD x (Int.toNat i) default) (List.getD y (Int.toNat i) default) != (0 : Int)) = false →
 ∀ (j : Nat → AV) (jr : Nat → Row) (g : Nat), LoopAt E1 Tryz.f125 r 0 (slices_CompareFunc_string_string_string_string_S0 x y k k' nl full nl' full' (IntKind.i64.wrap (i + (1 : Int))) j jr g)))) ∧
 ((decide (i < (↑(List.length (List.map strP x)) : Int))) = false →
 ((decide ((↑(List.length (List.map strP x)) : Int) < (↑(List.length (List.map strP y)) : Int))) = true →
 (intP (-1)) = r) ∧
 ((decide ((↑(List.length (List.map strP x)) : Int) < (↑(List.length (List.map strP y)) : Int))) = false →
 (intP 0) = r))) := by kernel_rfl
theorem version_compare_go (v : V) (w : V) (r : PV) : FnGo E1 Tryz.f85 [V.p v, V.p w] r 2000 (.res (intP (cmpI (V.a v) (V.a w))) (.res (intP (cmpI (V.b v) (V.b w))) (.res (intP (cmpI (V.c v) (V.c w))) (.ev (.res (intP (or3 (cmpI (V.a v) (V.a w)) (cmpI (V.b v) (V.b w)) (cmpI (V.c v) (V.c w)))) (.fork (.hole 0) (.fork (.lts 6 (.res (intP (cmpI (↑(List.length (List.map strP (V.pre w))) : Int) (↑(List.length (List.map strP (V.pre v))) : Int))) (.hole 0))) (.lts 5 (.fork (.res (intP (cmpI (↑(List.length (List.map strP (V.pre w))) : Int) (↑(List.length (List.map strP (V.pre v))) : Int))) (.hole 0)) (.res (intP (cmpP (V.pre v) (V.pre w))) (.hole 0))))))))))) =
  (((0 : Nat) = 0) ∧
 ((1 : Nat) = 1) ∧
 (Den E1 123 [.lit (.int .u32 (V.a v)), .lit (.int .u32 (V.a w))] (intP (cmpI (V.a v) (V.a w)))) ∧
 ((0 : Nat) = 0) ∧
 ((1 : Nat) = 1) ∧
 (Den E1 123 [.lit (.int .u32 (V.b v)), .lit (.int .u32 (V.b w))] (intP (cmpI (V.b v) (V.b w)))) ∧
 ((0 : Nat) = 0) ∧
 ((1 : Nat) = 1) ∧
 (Den E1 123 [.lit (.int .u32 (V.c v)), .lit (.int .u32 (V.c w))] (intP (cmpI (V.c v) (V.c w)))) ∧
 (Den E1 122 [.sl 1 false true [intP (cmpI (V.a v) (V.a w)), intP (cmpI (V.b v) (V.b w)), intP (cmpI (V.c v) (V.c w))]] (intP (or3 (cmpI (V.a v) (V.a w)) (cmpI (V.b v) (V.b w)) (cmpI (V.c v) (V.c w))))) ∧
 ((or3 (cmpI (V.a v) (V.a w)) (cmpI (V.b v) (V.b w)) (cmpI (V.c v) (V.c w)) != (0 : Int)) = true →
 (intP (or3 (cmpI (V.a v) (V.a w)) (cmpI (V.b v) (V.b w)) (cmpI (V.c v) (V.c w)))) = r) ∧
 ((or3 (cmpI (V.a v) (V.a w)) (cmpI (V.b v) (V.b w)) (cmpI (V.c v) (V.c w)) != (0 : Int)) = false →
 ((0 : Nat) = 0) ∧
 (((↑(List.length (List.map strP (V.pre v))) : Int) == (0 : Int)) = true →
 ((1 : Nat) = 1) ∧
 ((0 : Nat) = 0) ∧
 (Den E1 124 [intP ((↑(List.length (List.map strP (V.pre w))) : Int)), intP ((↑(List.length (List.map strP (V.pre v))) : Int))] (intP (cmpI (↑(List.length (List.map strP (V.pre w))) : Int) (↑(List.length (List.map strP (V.pre v))) : Int)))) ∧
 (intP (cmpI (↑(List.length (List.map strP (V.pre w))) : Int) (↑(List.length (List.map strP (V.pre v))) : Int))) = r) ∧
 (((↑(List.length (List.map strP (V.pre v))) : Int) == (0 : Int)) = false →
 ((1 : Nat) = 1) ∧
 (((↑(List.length (List.map strP (V.pre w))) : Int) == (0 : Int)) = true →
 ((1 : Nat) = 1) ∧
 ((0 : Nat) = 0) ∧
 (Den E1 124 [intP ((↑(List.length (List.map strP (V.pre w))) : Int)), intP ((↑(List.length (List.map strP (V.pre v))) : Int))] (intP (cmpI (↑(List.length (List.map strP (V.pre w))) : Int) (↑(List.length (List.map strP (V.pre v))) : Int)))) ∧
 (intP (cmpI (↑(List.length (List.map strP (V.pre w))) : Int) (↑(List.length (List.map strP (V.pre v))) : Int))) = r) ∧
 (((↑(List.length (List.map strP (V.pre w))) : Int) == (0 : Int)) = false →
 ((0 : Nat) = 0) ∧
 ((1 : Nat) = 1) ∧
 (Den E1 125 [V.q v, V.q w, .clo (.func 126) [] []] (intP (cmpP (V.pre v) (V.pre w)))) ∧
 (intP (cmpP (V.pre v) (V.pre w))) = r)))) := by kernel_rfl
def ref07_Cmp_S0 (v : V) (w : V) (i : Int) (j : Nat → AV) (jr : Nat → Row) (g : Nat) : St :=
  { t := [j 0, j 1, .mptr 0 2 0 0 0, .mptr 0 3 1 0 0, j 4, j 5, intA i] ++ jj j 7 72 ++ [undefA, undefA, undefA, undefA, undefA, undefA, undefA, undefA, undefA], h := [[row0, row0, ⟨0, .box (.pv (V.p v)) false⟩, ⟨1, .box (.pv (V.p w)) false⟩] ++ List.replicate 84 row0], g := g }
theorem ref07_Cmp_go (v : V) (w : V) (r : PV) : FnGo E1 Tryz.f80 [V.p v, V.p w] r 2000 (.res (intP (cmpI (V.a v) (V.a w))) (.fork (.res (intP (cmpI (V.b v) (V.b w))) (.fork (.res (intP (cmpI (V.c v) (V.c w))) (.fork (.hole 0) (.fork (.lts 6 (.fork (.hole 0) (.fork (.hole 0) (.hole 0)))) (.lts 5 (.fork (.fork (.hole 0) (.fork (.hole 0) (.hole 0))) (.mask (iv [(0, 1), (4, 5), (7, 78)]) [])))))) (.br true (.hole 0)))) (.br false (.br true (.hole 0))))) =
  (((0 : Nat) = 0) ∧
 ((1 : Nat) = 1) ∧
 (Den E1 118 [.lit (.int .u32 (V.a v)), .lit (.int .u32 (V.a w))] (intP (cmpI (V.a v) (V.a w)))) ∧
 ((cmpI (V.a v) (V.a w) == (0 : Int)) = true →
 ((0 : Nat) = 0) ∧
 ((1 : Nat) = 1) ∧
 (Den E1 118 [.lit (.int .u32 (V.b v)), .lit (.int .u32 (V.b w))] (intP (cmpI (V.b v) (V.b w)))) ∧
 ((cmpI (V.b v) (V.b w) == (0 : Int)) = true →
 ((0 : Nat) = 0) ∧
 ((1 : Nat) = 1) ∧
 (Den E1 118 [.lit (.int .u32 (V.c v)), .lit (.int .u32 (V.c w))] (intP (cmpI (V.c v) (V.c w)))) ∧
 ((cmpI (V.c v) (V.c w) != (0 : Int)) = true →
 (intP (cmpI (V.c v) (V.c w))) = r) ∧
 ((cmpI (V.c v) (V.c w) != (0 : Int)) = false →
 ((0 : Nat) = 0) ∧
 (((↑(List.length (List.map strP (V.pre v))) : Int) == (0 : Int)) = true →
 ((0 : Nat) = 0) ∧
 ((1 : Nat) = 1) ∧
 (((↑(List.length (List.map strP (V.pre v))) : Int) == (↑(List.length (List.map strP (V.pre w))) : Int)) = true →
 (intP 0) = r) ∧
 (((↑(List.length (List.map strP (V.pre v))) : Int) == (↑(List.length (List.map strP (V.pre w))) : Int)) = false →
 ((0 : Nat) = 0) ∧
 ((decide ((↑(List.length (List.map strP (V.pre v))) : Int) > (0 : Int))) = true →
 (intP (-1)) = r) ∧
 ((decide ((↑(List.length (List.map strP (V.pre v))) : Int) > (0 : Int))) = false →
 (intP 1) = r))) ∧
 (((↑(List.length (List.map strP (V.pre v))) : Int) == (0 : Int)) = false →
 ((1 : Nat) = 1) ∧
 (((↑(List.length (List.map strP (V.pre w))) : Int) == (0 : Int)) = true →
 ((0 : Nat) = 0) ∧
 ((1 : Nat) = 1) ∧
 (((↑(List.length (List.map strP (V.pre v))) : Int) == (↑(List.length (List.map strP (V.pre w))) : Int)) = true →
 (intP 0) = r) ∧
 (((↑(List.length (List.map strP (V.pre v))) : Int) == (↑(List.length (List.map strP (V.pre w))) : Int)) = false →
 ((0 : Nat) = 0) ∧
 ((decide ((↑(List.length (List.map strP (V.pre v))) : Int) > (0 : Int))) = true →
 (intP (-1)) = r) ∧
 ((decide ((↑(List.length (List.map strP (V.pre v))) : Int) > (0 : Int))) = false →
 (intP 1) = r))) ∧
 (((↑(List.length (List.map strP (V.pre w))) : Int) == (0 : Int)) = false →
 ∀ (j : Nat → AV) (jr : Nat → Row) (g : Nat), LoopAt E1 Tryz.f80 r 0 (ref07_Cmp_S0 v w (0 : Int) j jr g))))) ∧
 ((cmpI (V.b v) (V.b w) == (0 : Int)) = false →
 ((cmpI (V.b v) (V.b w) != (0 : Int)) = true) ∧
 (intP (cmpI (V.b v) (V.b w))) = r)) ∧
 ((cmpI (V.a v) (V.a w) == (0 : Int)) = false →
 ((cmpI (V.a v) (V.a w) == (0 : Int)) = false) ∧
 ((cmpI (V.a v) (V.a w) != (0 : Int)) = true) ∧
 (intP (cmpI (V.a v) (V.a w))) = r)) := by kernel_rfl
theorem ref07_Cmp_go_S0 (v : V) (w : V) (i : Int) (j : Nat → AV) (jr : Nat → Row) (g : Nat) (r : PV) : LoopGo E1 Tryz.f80 r 0 2000 (.fork (.lts 6 (.fork (.val (strP (List.getD (V.pre v) (Int.toNat i) default)) (.val (strP (List.getD (V.pre w) (Int.toNat i) default)) (.res (intP (ordL (List.getD (V.pre v) (Int.toNat i) default) (List.getD (V.pre w) (Int.toNat i) default))) (.fork (.hole 0) (.mask (iv [(0, 1), (4, 5), (7, 78)]) []))))) (.res (intP (cmpI (↑(List.length (List.map strP (V.pre v)) % (4294967296 : Nat)) : Int) (↑(List.length (List.map strP (V.pre w)) % (4294967296 : Nat)) : Int))) (.hole 0)))) (.lts 7 (.res (intP (cmpI (↑(List.length (List.map strP (V.pre v)) % (4294967296 : Nat)) : Int) (↑(List.length (List.map strP (V.pre w)) % (4294967296 : Nat)) : Int))) (.hole 0)))) (ref07_Cmp_S0 v w i j jr g) =
  (((0 : Nat) = 0) ∧
 ((decide (i < (↑(List.length (List.map strP (V.pre v))) : Int))) = true →
 ((1 : Nat) = 1) ∧
 ((decide (i < (↑(List.length (List.map strP (V.pre w))) : Int))) = true →
 ((0 : Nat) = 0) ∧
 (((0 : Int) ≤ i) ∧ (((V.nl v) = false) ∧ ((V.k v) = 1))) ∧
 (((List.map strP (V.pre v))[Int.toNat i]?) = some (strP (List.getD (V.pre v) (Int.toNat i) default))) ∧
 ((1 : Nat) = 1) ∧
 (((0 : Int) ≤ i) ∧ (((V.nl w) = false) ∧ ((V.k w) = 1))) ∧
 (((List.map strP (V.pre w))[Int.toNat i]?) = some (strP (List.getD (V.pre w) (Int.toNat i) default))) ∧
 (Den E1 119 [strP (List.getD (V.pre v) (Int.toNat i) default), strP (List.getD (V.pre w) (Int.toNat i) default)] (intP (ordL (List.getD (V.pre v) (Int.toNat i) default) (List.getD (V.pre w) (Int.toNat i) default)))) ∧
 ((ordL (List.getD (V.pre v) (Int.toNat i) default) (List.getD (V.pre w) (Int.toNat i) default) != (0 : Int)) = true →
 (intP (ordL (List.getD (V.pre v) (Int.toNat i) default) (List.getD (V.pre w) (Int.toNat i) default))) = r) ∧
 ((ordL (List.getD (V.pre v) (Int.toNat i) default) (List.getD (V.pre w) (Int.toNat i) default) != (0 : Int)) = false →
 ∀ (j : Nat → AV) (jr : Nat → Row) (g : Nat), LoopAt E1 Tryz.f80 r 0 (ref07_Cmp_S0 v w (IntKind.i64.wrap (i + (1 : Int))) j jr g))) ∧
 ((decide (i < (↑(List.length (List.map strP (V.pre w))) : Int))) = false →
 ((0 : Nat) = 0) ∧
 ((1 : Nat) = 1) ∧
 (Den E1 118 [.lit (.int .u32 ((↑(List.length (List.map strP (V.pre v)) % (4294967296 : Nat)) : Int))), .lit (.int .u32 ((↑(List.length (List.map strP (V.pre w)) % (4294967296 : Nat)) : Int)))] (intP (cmpI (↑(List.length (List.map strP (V.pre v)) % (4294967296 : Nat)) : Int) (↑(List.length (List.map strP (V.pre w)) % (4294967296 : Nat)) : Int)))) ∧
 (intP (cmpI (↑(List.length (List.map strP (V.pre v)) % (4294967296 : Nat)) : Int) (↑(List.length (List.map strP (V.pre w)) % (4294967296 : Nat)) : Int))) = r)) ∧
 ((decide (i < (↑(List.length (List.map strP (V.pre v))) : Int))) = false →
 ((0 : Nat) = 0) ∧
 ((1 : Nat) = 1) ∧
 (Den E1 118 [.lit (.int .u32 ((↑(List.length (List.map strP (V.pre v)) % (4294967296 : Nat)) : Int))), .lit (.int .u32 ((↑(List.length (List.map strP (V.pre w)) % (4294967296 : Nat)) : Int)))] (intP (cmpI (↑(List.length (List.map strP (V.pre v)) % (4294967296 : Nat)) : Int) (↑(List.length (List.map strP (V.pre w)) % (4294967296 : Nat)) : Int)))) ∧
 (intP (cmpI (↑(List.length (List.map strP (V.pre v)) % (4294967296 : Nat)) : Int) (↑(List.length (List.map strP (V.pre w)) % (4294967296 : Nat)) : Int))) = r)) := by kernel_rfl
def version_ident_S0 (l : List UInt8) (i : Int) (j : Nat → AV) (jr : Nat → Row) (g : Nat) : St :=
  { t := [strA (bs l)] ++ jj j 1 12 ++ [intA ((↑(ByteArray.size (bs l)) : Int)), intA i] ++ jj j 15 21 ++ [undefA, undefA, undefA, undefA, undefA, undefA, undefA], h := [List.replicate 43 row0], g := g }
theorem version_ident_go (l : List UInt8) (r : PV) : FnGo E1 Tryz.f103 [strP l] r 2000 (.fork (.lts 5 (.hole 0)) (.lts 4 (.fork (.hole 0) (.mask (iv [(1, 12), (15, 35)]) [])))) =
  (((ByteArray.toList (bs l) == ByteArray.toList (bs [])) = true →
 (bolP false) = r) ∧
 ((ByteArray.toList (bs l) == ByteArray.toList (bs [])) = false →
 ((decide ((↑(ByteArray.size (bs l)) : Int) > (16 : Int))) = true →
 (bolP false) = r) ∧
 ((decide ((↑(ByteArray.size (bs l)) : Int) > (16 : Int))) = false →
 ∀ (j : Nat → AV) (jr : Nat → Row) (g : Nat), LoopAt E1 Tryz.f103 r 0 (version_ident_S0 l (0 : Int) j jr g)))) := by kernel_rfl
theorem version_ident_go_S0 (l : List UInt8) (i : Int) (j : Nat → AV) (jr : Nat → Row) (g : Nat) (r : PV) : LoopGo E1 Tryz.f103 r 0 2000 (.fork (.fork (.lts 3 (.fork (.br true (.mask (iv [(1, 12), (15, 35)]) [])) (.fork (.lts 3 (.fork (.br true (.mask (iv [(1, 12), (15, 35)]) [])) (.fork (.mask (iv [(1, 12), (15, 35)]) []) (.hole 0)))) (.lts 4 (.fork (.mask (iv [(1, 12), (15, 35)]) []) (.hole 0)))))) (.lts 4 (.fork (.lts 3 (.fork (.br true (.mask (iv [(1, 12), (15, 35)]) [])) (.fork (.mask (iv [(1, 12), (15, 35)]) []) (.hole 0)))) (.lts 4 (.fork (.mask (iv [(1, 12), (15, 35)]) []) (.hole 0)))))) (.resB (digitsL l) (.lts 3 (.res (bolP (plainL l)) (.lit (.hole 0)))) (.lts 4 (.hole 0)))) (version_ident_S0 l i j jr g) =
  (((decide (i < (↑(ByteArray.size (bs l)) : Int))) = true →
 (((0 : Int) ≤ i) ∧ (Int.toNat i < ByteArray.size (bs l))) ∧
 ((decide ((↑(UInt8.toNat (List.getD l (Int.toNat i) 0)) : Int) ≥ (48 : Int))) = true →
 ((decide ((↑(UInt8.toNat (List.getD l (Int.toNat i) 0)) : Int) ≤ (57 : Int))) = true →
 ((decide ((↑(UInt8.toNat (List.getD l (Int.toNat i) 0)) : Int) ≤ (57 : Int))) = true) ∧
 (∀ (j : Nat → AV) (jr : Nat → Row) (g : Nat), LoopAt E1 Tryz.f103 r 0 (version_ident_S0 l (IntKind.i64.wrap (i + (1 : Int))) j jr g))) ∧
 ((decide ((↑(UInt8.toNat (List.getD l (Int.toNat i) 0)) : Int) ≤ (57 : Int))) = false →
 ((decide ((↑(UInt8.toNat (List.getD l (Int.toNat i) 0)) : Int) ≥ (97 : Int))) = true →
 ((decide ((↑(UInt8.toNat (List.getD l (Int.toNat i) 0)) : Int) ≤ (122 : Int))) = true →
 ((decide ((↑(UInt8.toNat (List.getD l (Int.toNat i) 0)) : Int) ≤ (122 : Int))) = true) ∧
 (∀ (j : Nat → AV) (jr : Nat → Row) (g : Nat), LoopAt E1 Tryz.f103 r 0 (version_ident_S0 l (IntKind.i64.wrap (i + (1 : Int))) j jr g))) ∧
 ((decide ((↑(UInt8.toNat (List.getD l (Int.toNat i) 0)) : Int) ≤ (122 : Int))) = false →
 (((↑(UInt8.toNat (List.getD l (Int.toNat i) 0)) : Int) == (45 : Int)) = true →
 ∀ (j : Nat → AV) (jr : Nat → Row) (g : Nat), LoopAt E1 Tryz.f103 r 0 (version_ident_S0 l (IntKind.i64.wrap (i + (1 : Int))) j jr g)) ∧
 (((↑(UInt8.toNat (List.getD l (Int.toNat i) 0)) : Int) == (45 : Int)) = false →
 (bolP false) = r))) ∧
 ((decide ((↑(UInt8.toNat (List.getD l (Int.toNat i) 0)) : Int) ≥ (97 : Int))) = false →
 (((↑(UInt8.toNat (List.getD l (Int.toNat i) 0)) : Int) == (45 : Int)) = true →
 ∀ (j : Nat → AV) (jr : Nat → Row) (g : Nat), LoopAt E1 Tryz.f103 r 0 (version_ident_S0 l (IntKind.i64.wrap (i + (1 : Int))) j jr g)) ∧
 (((↑(UInt8.toNat (List.getD l (Int.toNat i) 0)) : Int) == (45 : Int)) = false →
 (bolP false) = r)))) ∧
 ((decide ((↑(UInt8.toNat (List.getD l (Int.toNat i) 0)) : Int) ≥ (48 : Int))) = false →
 ((decide ((↑(UInt8.toNat (List.getD l (Int.toNat i) 0)) : Int) ≥ (97 : Int))) = true →
 ((decide ((↑(UInt8.toNat (List.getD l (Int.toNat i) 0)) : Int) ≤ (122 : Int))) = true →
 ((decide ((↑(UInt8.toNat (List.getD l (Int.toNat i) 0)) : Int) ≤ (122 : Int))) = true) ∧
 (∀ (j : Nat → AV) (jr : Nat → Row) (g : Nat), LoopAt E1 Tryz.f103 r 0 (version_ident_S0 l (IntKind.i64.wrap (i + (1 : Int))) j jr g))) ∧
 ((decide ((↑(UInt8.toNat (List.getD l (Int.toNat i) 0)) : Int) ≤ (122 : Int))) = false →
 (((↑(UInt8.toNat (List.getD l (Int.toNat i) 0)) : Int) == (45 : Int)) = true →
 ∀ (j : Nat → AV) (jr : Nat → Row) (g : Nat), LoopAt E1 Tryz.f103 r 0 (version_ident_S0 l (IntKind.i64.wrap (i + (1 : Int))) j jr g)) ∧
 (((↑(UInt8.toNat (List.getD l (Int.toNat i) 0)) : Int) == (45 : Int)) = false →
 (bolP false) = r))) ∧
 ((decide ((↑(UInt8.toNat (List.getD l (Int.toNat i) 0)) : Int) ≥ (97 : Int))) = false →
 (((↑(UInt8.toNat (List.getD l (Int.toNat i) 0)) : Int) == (45 : Int)) = true →
 ∀ (j : Nat → AV) (jr : Nat → Row) (g : Nat), LoopAt E1 Tryz.f103 r 0 (version_ident_S0 l (IntKind.i64.wrap (i + (1 : Int))) j jr g)) ∧
 (((↑(UInt8.toNat (List.getD l (Int.toNat i) 0)) : Int) == (45 : Int)) = false →
 (bolP false) = r)))) ∧
 ((decide (i < (↑(ByteArray.size (bs l)) : Int))) = false →
 (Den E1 108 [strP l] (bolP (digitsL l))) ∧
 ((digitsL l) = true →
 (Den E1 109 [strP l] (bolP (plainL l))) ∧
 (bolP (plainL l)) = r) ∧
 ((digitsL l) = false →
 (bolP true) = r))) := by kernel_rfl
def ref07_ident_S0 (l : List UInt8) (i : Int) (j : Nat → AV) (jr : Nat → Row) (g : Nat) : St :=
  { t := [strA (bs l), j 1, j 2, intA i] ++ jj j 4 36 ++ [undefA, undefA, undefA, undefA, undefA, undefA, undefA, undefA, undefA, undefA, undefA, undefA], h := [List.replicate 52 row0], g := g }
theorem ref07_ident_go (l : List UInt8) (r : PV) : FnGo E1 Tryz.f60 [strP l] r 2000 (.fork (.lts 5 (.hole 0)) (.lts 4 (.fork (.hole 0) (.mask (iv [(1, 2), (4, 39)]) [])))) =
  (((decide ((↑(ByteArray.size (bs l)) : Int) < (1 : Int))) = true →
 (bolP false) = r) ∧
 ((decide ((↑(ByteArray.size (bs l)) : Int) < (1 : Int))) = false →
 ((decide ((↑(ByteArray.size (bs l)) : Int) > (16 : Int))) = true →
 (bolP false) = r) ∧
 ((decide ((↑(ByteArray.size (bs l)) : Int) > (16 : Int))) = false →
 ∀ (j : Nat → AV) (jr : Nat → Row) (g : Nat), LoopAt E1 Tryz.f60 r 0 (ref07_ident_S0 l (0 : Int) j jr g)))) := by kernel_rfl
theorem ref07_ident_go_S0 (l : List UInt8) (i : Int) (j : Nat → AV) (jr : Nat → Row) (g : Nat) (r : PV) : LoopGo E1 Tryz.f60 r 0 2000 (.fork (.fork (.lts 7 (.fork (.lts 9 (.fork (.hole 0) (.mask (iv [(1, 2), (4, 39)]) []))) (.lts 5 (.fork (.lts 3 (.fork (.hole 0) (.mask (iv [(1, 2), (4, 39)]) []))) (.lts 4 (.mask (iv [(1, 2), (4, 39)]) [])))))) (.lts 3 (.fork (.lts 3 (.fork (.lts 9 (.fork (.hole 0) (.mask (iv [(1, 2), (4, 39)]) []))) (.lts 5 (.fork (.lts 3 (.fork (.hole 0) (.mask (iv [(1, 2), (4, 39)]) []))) (.lts 4 (.mask (iv [(1, 2), (4, 39)]) [])))))) (.lts 10 (.mask (iv [(1, 2), (4, 39)]) []))))) (.resB (digitsL l) (.lts 4 (.fork (.lts 4 (.hole 0)) (.lts 4 (.hole 0)))) (.lts 9 (.hole 0)))) (ref07_ident_S0 l i j jr g) =
  (((decide (i < (↑(ByteArray.size (bs l)) : Int))) = true →
 (((0 : Int) ≤ i) ∧ (Int.toNat i < ByteArray.size (bs l))) ∧
 ((decide ((↑(UInt8.toNat (List.getD l (Int.toNat i) 0)) : Int) < (48 : Int))) = true →
 ((decide ((↑(UInt8.toNat (List.getD l (Int.toNat i) 0)) : Int) < (97 : Int))) = true →
 (((↑(UInt8.toNat (List.getD l (Int.toNat i) 0)) : Int) != (45 : Int)) = true →
 (bolP false) = r) ∧
 (((↑(UInt8.toNat (List.getD l (Int.toNat i) 0)) : Int) != (45 : Int)) = false →
 ∀ (j : Nat → AV) (jr : Nat → Row) (g : Nat), LoopAt E1 Tryz.f60 r 0 (ref07_ident_S0 l (IntKind.i64.wrap (i + (1 : Int))) j jr g))) ∧
 ((decide ((↑(UInt8.toNat (List.getD l (Int.toNat i) 0)) : Int) < (97 : Int))) = false →
 ((decide ((↑(UInt8.toNat (List.getD l (Int.toNat i) 0)) : Int) > (122 : Int))) = true →
 (((↑(UInt8.toNat (List.getD l (Int.toNat i) 0)) : Int) != (45 : Int)) = true →
 (bolP false) = r) ∧
 (((↑(UInt8.toNat (List.getD l (Int.toNat i) 0)) : Int) != (45 : Int)) = false →
 ∀ (j : Nat → AV) (jr : Nat → Row) (g : Nat), LoopAt E1 Tryz.f60 r 0 (ref07_ident_S0 l (IntKind.i64.wrap (i + (1 : Int))) j jr g))) ∧
 ((decide ((↑(UInt8.toNat (List.getD l (Int.toNat i) 0)) : Int) > (122 : Int))) = false →
 ∀ (j : Nat → AV) (jr : Nat → Row) (g : Nat), LoopAt E1 Tryz.f60 r 0 (ref07_ident_S0 l (IntKind.i64.wrap (i + (1 : Int))) j jr g)))) ∧
 ((decide ((↑(UInt8.toNat (List.getD l (Int.toNat i) 0)) : Int) < (48 : Int))) = false →
 ((decide ((↑(UInt8.toNat (List.getD l (Int.toNat i) 0)) : Int) > (57 : Int))) = true →
 ((decide ((↑(UInt8.toNat (List.getD l (Int.toNat i) 0)) : Int) < (97 : Int))) = true →
 (((↑(UInt8.toNat (List.getD l (Int.toNat i) 0)) : Int) != (45 : Int)) = true →
 (bolP false) = r) ∧
 (((↑(UInt8.toNat (List.getD l (Int.toNat i) 0)) : Int) != (45 : Int)) = false →
 ∀ (j : Nat → AV) (jr : Nat → Row) (g : Nat), LoopAt E1 Tryz.f60 r 0 (ref07_ident_S0 l (IntKind.i64.wrap (i + (1 : Int))) j jr g))) ∧
 ((decide ((↑(UInt8.toNat (List.getD l (Int.toNat i) 0)) : Int) < (97 : Int))) = false →
 ((decide ((↑(UInt8.toNat (List.getD l (Int.toNat i) 0)) : Int) > (122 : Int))) = true →
 (((↑(UInt8.toNat (List.getD l (Int.toNat i) 0)) : Int) != (45 : Int)) = true →
 (bolP false) = r) ∧
 (((↑(UInt8.toNat (List.getD l (Int.toNat i) 0)) : Int) != (45 : Int)) = false →
 ∀ (j : Nat → AV) (jr : Nat → Row) (g : Nat), LoopAt E1 Tryz.f60 r 0 (ref07_ident_S0 l (IntKind.i64.wrap (i + (1 : Int))) j jr g))) ∧
 ((decide ((↑(UInt8.toNat (List.getD l (Int.toNat i) 0)) : Int) > (122 : Int))) = false →
 ∀ (j : Nat → AV) (jr : Nat → Row) (g : Nat), LoopAt E1 Tryz.f60 r 0 (ref07_ident_S0 l (IntKind.i64.wrap (i + (1 : Int))) j jr g)))) ∧
 ((decide ((↑(UInt8.toNat (List.getD l (Int.toNat i) 0)) : Int) > (57 : Int))) = false →
 ∀ (j : Nat → AV) (jr : Nat → Row) (g : Nat), LoopAt E1 Tryz.f60 r 0 (ref07_ident_S0 l (IntKind.i64.wrap (i + (1 : Int))) j jr g)))) ∧
 ((decide (i < (↑(ByteArray.size (bs l)) : Int))) = false →
 (Den E1 104 [strP l] (bolP (digitsL l))) ∧
 ((digitsL l) = true →
 ((ByteArray.toList (bs l) == ByteArray.toList (bs [48])) = true →
 (bolP true) = r) ∧
 ((ByteArray.toList (bs l) == ByteArray.toList (bs [48])) = false →
 (((0 : Int) ≤ (0 : Int)) ∧ ((0 : Nat) < ByteArray.size (bs l))) ∧
 (bolP ((↑(UInt8.toNat (List.getD l (0 : Nat) 0)) : Int) != (48 : Int))) = r)) ∧
 ((digitsL l) = false →
 (bolP true) = r))) := by kernel_rfl
end Go.Proofs.YtlhfgonjcpapnaaGreatDoor.Abs

namespace Go.Proofs.YtlhfgonjcpapnaaGreatDoor.Abs
open Go Go.Proofs
theorem den_Compare_uint32 (x y : Int) : Den E1 123 [.lit (.int .u32 x), .lit (.int .u32 y)] (intP (cmpI x y)) := by
  refine den1 2000 _ rfl (by kernel_rfl) rfl rfl rfl (Eq.mpr (cmp_Compare_uint32_go x y _) ⟨den_isNaN_uint32 x, den_isNaN_uint32 y, fun h => ?_, fun h => ⟨fun h2 => ?_, fun h2 => ?_⟩⟩)
  · simp at h; simp [cmpI, h]
  · simp at h h2; simp [cmpI, h2, show ¬ x < y by omega]
  · simp at h h2; simp [cmpI, show ¬ x < y by omega, show ¬ y < x by omega]
theorem den_Compare_int (x y : Int) : Den E1 124 [intP x, intP y] (intP (cmpI x y)) := by
  refine den1 2000 _ rfl (by kernel_rfl) rfl rfl rfl (Eq.mpr (cmp_Compare_int_go x y _) ⟨den_isNaN_int x, den_isNaN_int y, fun h => ?_, fun h => ⟨fun h2 => ?_, fun h2 => ?_⟩⟩)
  · simp at h; simp [cmpI, h]
  · simp at h h2; simp [cmpI, h2, show ¬ x < y by omega]
  · simp at h h2; simp [cmpI, show ¬ x < y by omega, show ¬ y < x by omega]
theorem bytesLess_irrefl (a : List UInt8) : Op.bytesLess a a = false := by
  induction a with
  | nil => rfl
  | cons x a ih => simp [Op.bytesLess, ih]
theorem den_Compare_string (a b : List UInt8) : Den E1 149 [strP a, strP b] (intP (cmpS a b)) := by
  refine den1 2000 _ rfl (by kernel_rfl) rfl rfl rfl (Eq.mpr (cmp_Compare_string_go a b _) ⟨den_isNaN_string a, den_isNaN_string b, fun h => ?_, fun h => ⟨fun h2 => ?_, fun h2 => ?_⟩⟩)
  · rw [toList_bs, toList_bs] at h; simp [cmpS, h]
  · rw [toList_bs, toList_bs] at h h2; simp [h] at h2; simp [cmpS, h, h2]
  · rw [toList_bs, toList_bs] at h h2; simp [h] at h2; simp [cmpS, h2, bytesLess_irrefl]
theorem cmpI_self (x : Int) : cmpI x x = 0 := by simp [cmpI]
theorem cmpI_eq (x y : Int) : cmpI x y = 0 ↔ x = y := by
  unfold cmpI; split <;> (try split) <;> omega
theorem cmpS_self (a : List UInt8) : cmpS a a = 0 := by simp [cmpS, bytesLess_irrefl]
theorem ordL_self (a : List UInt8) : ordL a a = 0 := by
  simp [ordL, cmpI_self, cmpS_self]
theorem den_version_order (a b : List UInt8) (ha : small a.length) (hb : small b.length) : Den E1 126 [strP a, strP b] (intP (ordL a b)) := by
  refine den1 2000 _ rfl (by kernel_rfl) rfl rfl rfl (Eq.mpr (version_order_go a b _) ?_)
  refine ⟨den_version_digits a ha, fun h => ⟨den_version_digits b hb, fun h2 => ⟨rfl, rfl, rfl, rfl, den_Compare_int _ _, fun h3 => ?_, fun h3 => ⟨den_Compare_string _ _, ?_⟩⟩, fun h2 => ⟨rfl, rfl, ?_⟩⟩, fun h => ⟨den_version_digits b hb, fun h2 => ⟨rfl, rfl, rfl, ?_⟩, fun h2 => ⟨rfl, rfl, rfl, rfl, den_Compare_string _ _, ?_⟩⟩⟩
  · simp only [size_bs] at h3 ⊢; simp only [ordL, h, h2, h3]; rfl
  · simp only [size_bs] at h3; simp only [ordL, h, h2, h3]; rfl
  · simp only [ordL, h, h2]; rfl
  · simp only [ordL, h, h2]; rfl
  · simp only [ordL, h, h2]; rfl
theorem den_ref07_order (a b : List UInt8) (ha : small a.length) (hb : small b.length) : Den E1 119 [strP a, strP b] (intP (ordL a b)) := by
  refine den1 2000 _ rfl (by kernel_rfl) rfl rfl rfl (Eq.mpr (ref07_order_go a b _) ?_)
  simp only [toList_bs, size_bs]
  refine ⟨fun h => ?_, fun h => ⟨den_ref07_digits a ha, fun h1 => ⟨den_ref07_digits b hb, fun h2 => ⟨fun h3 => ⟨fun h4 => ?_, fun h4 => ?_⟩, fun h3 => ⟨fun h4 => ?_, fun h4 => ?_⟩⟩, fun h2 => ?_⟩, fun h1 => ⟨den_ref07_digits b hb, fun h2 => ?_, fun h2 => ⟨fun h4 => ?_, fun h4 => ?_⟩⟩⟩⟩
  · simp only [beq_iff_eq] at h; rw [h, ordL_self]
  · simp only [bne_iff_ne, decide_eq_true_eq] at h3 h4; simp [ordL, h1, h2, cmpI, h4]
  · simp only [bne_iff_ne, decide_eq_false_iff_not] at h3 h4
    have h5 : (b.length : Int) < a.length := by omega
    simp [ordL, h1, h2, cmpI, h4, h5]
  · simp only [bne_eq_false_iff_eq] at h3
    have h5 : a.length = b.length := by omega
    simp [ordL, h1, h2, h5, cmpI_self, cmpS, h4]
  · simp only [bne_eq_false_iff_eq] at h3
    have h5 : a.length = b.length := by omega
    simp [ordL, h1, h2, h5, cmpI_self, cmpS, h4, h]
  · simp only [ordL, h1, h2]; rfl
  · simp only [ordL, h1, h2]; rfl
  · simp [ordL, h1, h2, cmpS, h4]
  · simp [ordL, h1, h2, cmpS, h4, h]
theorem drop_nil {α : Type} {l : List α} {i : Nat} (h : l.length ≤ i) : l.drop i = [] := List.drop_eq_nil_of_le h
theorem den_CompareFunc (x y : List (List UInt8)) (k k' : Nat) (nl full nl' full' : Bool) (hx : slOk 1 k nl x.length) (hy : slOk 1 k' nl' y.length) (hlx : small x.length) (hly : small y.length) (hsx : ∀ s ∈ x, small s.length) (hsy : ∀ s ∈ y, small s.length) :
    Den E1 125 [preP k nl full x, preP k' nl' full' y, .clo (.func 126) [] []] (intP (cmpP x y)) := by
  refine den1 2000 _ rfl (by kernel_rfl) rfl rfl rfl (Eq.mpr (slices_CompareFunc_string_string_string_string_go x y k k' nl full nl' full' _) fun j jr g => ?_)
  have H : ∀ (n i : Nat) j jr g, i + n = x.length → cmpP x y = cmpP (x.drop i) (y.drop i) → i ≤ y.length → LoopAt E1 Tryz.f125 (intP (cmpP x y)) 0 (slices_CompareFunc_string_string_string_string_S0 x y k k' nl full nl' full' i j jr g) := by
    intro n
    induction n with
    | zero =>
      intro i j jr g hi hd hy'
      refine loop_go 2000 _ (Eq.mpr (slices_CompareFunc_string_string_string_string_go_S0 x y k k' nl full nl' full' i j jr g _) ⟨fun h => ?_, fun h => ⟨fun h2 => ?_, fun h2 => ?_⟩⟩)
      · simp at h; omega
      · simp at h2
        rw [hd, List.drop_eq_nil_of_le (by omega), List.drop_eq_getElem_cons (by omega)]; rfl
      · simp at h2
        rw [hd, List.drop_eq_nil_of_le (by omega), List.drop_eq_nil_of_le (by omega)]; rfl
    | succ n ih =>
      intro i j jr g hi hd hy'
      have h1 : i < x.length := by omega
      rw [List.drop_eq_getElem_cons h1] at hd
      refine loop_go 2000 _ (Eq.mpr (slices_CompareFunc_string_string_string_string_go_S0 x y k k' nl full nl' full' i j jr g _) ⟨fun h => ?_, fun h => ?_⟩)
      · simp only [Int.toNat_natCast, getD_lt h1]
        refine ⟨⟨by omega, sl_at hx h1⟩, by simp [h1, strP], fun h2 => ?_, fun h2 => ?_⟩
        · simp at h2
          rw [hd, drop_nil (l := y) (by omega)]; rfl
        · simp at h2
          have h3 : i < y.length := by omega
          rw [List.drop_eq_getElem_cons h3] at hd
          simp only [getD_lt h3]
          refine ⟨⟨by omega, sl_at hy h3⟩, by simp [h3, strP], den_version_order _ _ (hsx _ (by simp)) (hsy _ (by simp)), fun h4 => ?_, fun h4 j jr g => ?_⟩
          · rw [hd]; simp only [bne_iff_ne] at h4; simp only [cmpP, ne_eq, h4, not_false_eq_true, if_true]
          · simp only [bne_eq_false_iff_eq] at h4
            rw [wrap_i64 _ (by omega) (by unfold small at hlx; omega)]
            refine ih (i + 1) j jr g (by omega) ?_ (by omega)
            rw [hd]; simp only [cmpP, h4]; rfl
      · simp at h; omega
  exact H x.length 0 j jr g (by omega) rfl (by omega)
theorem den_compare (v w : V) (hv : v.ok) (hw : w.ok) : Den E1 85 [v.p, w.p] (intP (cmpV v w)) := by
  refine den1 2000 _ rfl (by kernel_rfl) rfl rfl rfl (Eq.mpr (version_compare_go v w _) ?_)
  refine ⟨rfl, rfl, den_Compare_uint32 _ _, rfl, rfl, den_Compare_uint32 _ _, rfl, rfl, den_Compare_uint32 _ _, den_Or _ _ _, fun h => ?_, fun h => ⟨rfl, fun h1 => ⟨rfl, rfl, den_Compare_int _ _, ?_⟩, fun h1 => ⟨rfl, fun h2 => ⟨rfl, rfl, den_Compare_int _ _, ?_⟩, fun h2 => ⟨rfl, rfl, den_CompareFunc _ _ _ _ _ _ _ _ hv.sl hw.sl hv.len hw.len hv.str hw.str, ?_⟩⟩⟩⟩
  · simp only [bne_iff_ne] at h; simp [cmpV, cmpN, h]
  · simp only [bne_eq_false_iff_eq, beq_iff_eq, List.length_map] at h h1 ⊢
    have h5 : v.pre.length = 0 := by omega
    simp only [cmpV, cmpN, h, h5, ne_eq, not_true, if_false, true_or, if_true]
  · simp only [bne_eq_false_iff_eq, beq_iff_eq, List.length_map] at h h2 ⊢
    have h5 : w.pre.length = 0 := by omega
    simp only [cmpV, cmpN, h, h5, ne_eq, not_true, if_false, or_true, if_true]
  · simp only [bne_eq_false_iff_eq, beq_eq_false_iff_ne, ne_eq, List.length_map] at h h1 h2
    have h5 : ¬ (v.pre.length = 0 ∨ w.pre.length = 0) := by omega
    simp only [cmpV, cmpN, h, h5, ne_eq, not_true, if_false]
theorem cmpI_nat (a b : Nat) : cmpI (a : Int) (b : Int) = if a < b then -1 else if b < a then 1 else 0 := by
  unfold cmpI
  by_cases h : a < b
  · simp [h]
  · by_cases h2 : b < a
    · simp [h, h2]
    · simp [h, h2]
theorem den_ref07_Cmp (v w : V) (hv : v.ok) (hw : w.ok) (hlv : v.pre.length < 4294967296) (hlw : w.pre.length < 4294967296) : Den E1 80 [v.p, w.p] (intP (cmpV v w)) := by
  refine den1 2000 _ rfl (by kernel_rfl) rfl rfl rfl (Eq.mpr (ref07_Cmp_go v w _) ?_)
  have hmv : v.pre.length % 4294967296 = v.pre.length := Nat.mod_eq_of_lt hlv
  have hmw : w.pre.length % 4294967296 = w.pre.length := Nat.mod_eq_of_lt hlw
  have H : ∀ (n i : Nat) j jr g, i + n = v.pre.length → cmpV v w = cmpP (v.pre.drop i) (w.pre.drop i) → i ≤ w.pre.length → LoopAt E1 Tryz.f80 (intP (cmpV v w)) 0 (ref07_Cmp_S0 v w i j jr g) := by
    intro n
    induction n with
    | zero =>
      intro i j jr g hi hd hy'
      refine loop_go 2000 _ (Eq.mpr (ref07_Cmp_go_S0 v w i j jr g _) ⟨rfl, fun h => ?_, fun h => ⟨rfl, rfl, den_ref07_cmp _ _, ?_⟩⟩)
      · simp at h; omega
      · simp only [List.length_map, hmv, hmw, cmpI_nat]
        rw [hd, drop_nil (l := v.pre) (by omega)]
        by_cases h5 : i < w.pre.length
        · rw [List.drop_eq_getElem_cons h5, if_pos (by omega)]; rfl
        · rw [drop_nil (l := w.pre) (by omega), if_neg (by omega), if_neg (by omega)]; rfl
    | succ n ih =>
      intro i j jr g hi hd hy'
      have h1 : i < v.pre.length := by omega
      rw [List.drop_eq_getElem_cons h1] at hd
      refine loop_go 2000 _ (Eq.mpr (ref07_Cmp_go_S0 v w i j jr g _) ⟨rfl, fun h => ⟨rfl, fun h2 => ?_, fun h2 => ⟨rfl, rfl, den_ref07_cmp _ _, ?_⟩⟩, fun h => ?_⟩)
      · simp at h2
        have h3 : i < w.pre.length := by omega
        rw [List.drop_eq_getElem_cons h3] at hd
        simp only [Int.toNat_natCast, getD_lt h1, getD_lt h3]
        refine ⟨trivial, ⟨by omega, sl_at hv.sl h1⟩, by simp [h1, strP], trivial, ⟨by omega, sl_at hw.sl h3⟩, by simp [h3, strP], den_ref07_order _ _ (hv.str _ (by simp)) (hw.str _ (by simp)), fun h4 => ?_, fun h4 j jr g => ?_⟩
        · rw [hd]; simp only [bne_iff_ne] at h4; simp only [cmpP, ne_eq, h4, not_false_eq_true, if_true]
        · simp only [bne_eq_false_iff_eq] at h4
          rw [wrap_i64 _ (by omega) (by omega)]
          refine ih (i + 1) j jr g (by omega) ?_ (by omega)
          rw [hd]; simp only [cmpP, h4]; rfl
      · simp at h2
        simp only [List.length_map, hmv, hmw, cmpI_nat]
        rw [hd, drop_nil (l := w.pre) (by omega), if_neg (by omega), if_pos (by omega)]; rfl
      · simp at h; omega
  have hz : ∀ (h0 : v.pre.length = 0 ∨ w.pre.length = 0), cmpN v w = 0 → cmpV v w = if v.pre.length = w.pre.length then 0 else if v.pre.length > 0 then -1 else 1 := by
    intro h0 hn
    simp only [cmpV, hn, h0, ne_eq, not_true, if_false, if_true, cmpI_nat]
    by_cases h1 : v.pre.length = w.pre.length
    · rw [if_neg (by omega), if_neg (by omega), if_pos h1]
    · by_cases h2 : v.pre.length > 0
      · rw [if_pos (by omega), if_neg h1, if_pos h2]
      · rw [if_neg (by omega), if_pos (by omega), if_neg h1, if_neg h2]
  refine ⟨rfl, rfl, den_ref07_cmp _ _, fun ha => ⟨rfl, rfl, den_ref07_cmp _ _, fun hb => ⟨rfl, rfl, den_ref07_cmp _ _, fun hc => ?_, fun hc => ?_⟩, fun hb => ⟨?_, ?_⟩⟩, fun ha => ⟨ha, ?_, ?_⟩⟩
  · simp at ha hb hc; simp [cmpV, cmpN, or3, ha, hb, hc]
  · simp only [beq_iff_eq, bne_eq_false_iff_eq] at ha hb hc
    have hn : cmpN v w = 0 := by simp [cmpN, or3, ha, hb, hc]
    refine ⟨rfl, fun h1 => ⟨rfl, rfl, fun h2 => ?_, fun h2 => ⟨rfl, fun h3 => ?_, fun h3 => ?_⟩⟩, fun h1 => ⟨rfl, fun h2 => ⟨rfl, rfl, fun h3 => ?_, fun h3 => ⟨rfl, fun h4 => ?_, fun h4 => ?_⟩⟩, fun h2 j jr g => ?_⟩⟩
    · simp at h1 h2; rw [hz (by simp [h1]) hn]; rw [if_pos (by omega)]
    · simp at h1 h3; simp [h1] at h3
    · simp only [List.length_map, beq_iff_eq, beq_eq_false_iff_ne, ne_eq, decide_eq_false_iff_not] at h1 h2 h3
      rw [hz (.inl (by omega)) hn, if_neg (by omega), if_neg (by omega)]
    · simp at h1 h2 h3; rw [hz (by simp [h2]) hn]; rw [if_pos (by omega)]
    · simp at h1 h2 h3 h4; rw [hz (by simp [h2]) hn]; rw [if_neg (by omega), if_pos (by omega)]
    · simp at h1 h2 h3 h4; rw [hz (by simp [h2]) hn]; exact absurd h4 h1
    · simp at h1 h2
      refine H v.pre.length 0 j jr g (by omega) ?_ (by omega)
      simp [cmpV, hn, h1, h2]
  · simp at ha hb; simp [hb]
  · simp at ha hb; simp [cmpV, cmpN, or3, ha, hb]
  · simp at ha; simp [ha]
  · simp at ha; simp [cmpV, cmpN, or3, ha]
end Go.Proofs.YtlhfgonjcpapnaaGreatDoor.Abs

namespace Go.Proofs.YtlhfgonjcpapnaaGreatDoor.Abs
open Go Go.Proofs
theorem version_May_1_go (l : List UInt8) (r : PV) : FnGo E1 Tryz.f102 [strP l] r 2000 (.res (bolP (identL l)) (.hole 0)) =
  ((Den E1 103 [strP l] (bolP (identL l))) ∧
 (bolP (!identL l)) = r) := by kernel_rfl
def slices_IndexFunc_string_string_S0 (x : List (List UInt8)) (k : Nat) (nl : Bool) (full : Bool) (i : Int) (j : Nat → AV) (jr : Nat → Row) (g : Nat) : St :=
  { t := [.pv (.sl k nl full (List.map strP x)), .pv (.clo (.func 102) [] [])] ++ jj j 2 5 ++ [intA ((↑(List.length (List.map strP x)) : Int)), intA i] ++ jj j 9 10, h := [List.replicate 19 row0], g := g }
theorem slices_IndexFunc_string_string_go (x : List (List UInt8)) (k : Nat) (nl : Bool) (full : Bool) (r : PV) : FnGo E1 Tryz.f134 [.sl k nl full (List.map strP x), .clo (.func 102) [] []] r 2000 (.mask (iv [(2, 6), (9, 18)]) []) =
  (∀ (j : Nat → AV) (jr : Nat → Row) (g : Nat), LoopAt E1 Tryz.f134 r 0 (slices_IndexFunc_string_string_S0 x k nl full (0 : Int) j jr g)) := by kernel_rfl
theorem slices_IndexFunc_string_string_go_S0 (x : List (List UInt8)) (k : Nat) (nl : Bool) (full : Bool) (i : Int) (j : Nat → AV) (jr : Nat → Row) (g : Nat) (r : PV) : LoopGo E1 Tryz.f134 r 0 2000 (.fork (.val (strP (List.getD x (Int.toNat i) default)) (.res (bolP (!identL (List.getD x (Int.toNat i) default))) (.fork (.hole 0) (.mask (iv [(2, 6), (9, 18)]) [])))) (.hole 0)) (slices_IndexFunc_string_string_S0 x k nl full i j jr g) =
  (((decide (i < (↑(List.length (List.map strP x)) : Int))) = true →
 (((0 : Int) ≤ i) ∧ ((nl = false) ∧ (k = 1))) ∧
 (((List.map strP x)[Int.toNat i]?) = some (strP (List.getD x (Int.toNat i) default))) ∧
 (Den E1 102 [strP (List.getD x (Int.toNat i) default)] (bolP (!identL (List.getD x (Int.toNat i) default)))) ∧
 ((!identL (List.getD x (Int.toNat i) default)) = true →
 (intP i) = r) ∧
 ((!identL (List.getD x (Int.toNat i) default)) = false →
 ∀ (j : Nat → AV) (jr : Nat → Row) (g : Nat), LoopAt E1 Tryz.f134 r 0 (slices_IndexFunc_string_string_S0 x k nl full (IntKind.i64.wrap (i + (1 : Int))) j jr g))) ∧
 ((decide (i < (↑(List.length (List.map strP x)) : Int))) = false →
 (intP (-1)) = r)) := by kernel_rfl
theorem slices_ContainsFunc_string_string_go (x : List (List UInt8)) (k : Nat) (nl : Bool) (full : Bool) (r : PV) : FnGo E1 Tryz.f101 [.sl k nl full (List.map strP x), .clo (.func 102) [] []] r 2000 (.res (intP (firstI (fun s => !identL s) x)) (.hole 0)) =
  ((Den E1 134 [.sl k nl full (List.map strP x), .clo (.func 102) [] []] (intP (firstI (fun s => !identL s) x))) ∧
 (bolP (decide (firstI (fun s => !identL s) x ≥ (0 : Int)))) = r) := by kernel_rfl
theorem version_May_go (v : V) (r : PV) : FnGo E1 Tryz.f59 [V.p v] r 2000 (.fork (.lts 11 (.hole 0)) (.lts 5 (.fork (.lts 5 (.hole 0)) (.lts 3 (.res (bolP (!List.all (V.pre v) identL)) (.lit (.fork (.hole 0) (.hole 0)))))))) =
  (((0 : Nat) = 0) ∧
 ((0 : Nat) = 0) ∧
 ((0 : Nat) = 0) ∧
 ((decide ((if V.c v > if V.b v > V.a v then V.b v else V.a v then V.c v else if V.b v > V.a v then V.b v else V.a v) > (2147483647 : Int))) = true →
 (intP 70) = r) ∧
 ((decide ((if V.c v > if V.b v > V.a v then V.b v else V.a v then V.c v else if V.b v > V.a v then V.b v else V.a v) > (2147483647 : Int))) = false →
 ((0 : Nat) = 0) ∧
 ((decide ((↑(List.length (List.map strP (V.pre v))) : Int) > (8 : Int))) = true →
 (intP 70) = r) ∧
 ((decide ((↑(List.length (List.map strP (V.pre v))) : Int) > (8 : Int))) = false →
 ((0 : Nat) = 0) ∧
 (Den E1 101 [V.q v, .clo (.func 102) [] []] (bolP (!List.all (V.pre v) identL))) ∧
 ((!List.all (V.pre v) identL) = true →
 (intP 70) = r) ∧
 ((!List.all (V.pre v) identL) = false →
 (intP 0) = r)))) := by kernel_rfl
def ref07_May_S0 (v : V) (i : Int) (j : Nat → AV) (jr : Nat → Row) (g : Nat) : St :=
  { t := [j 0, .mptr 0 1 0 0 0, j 2, intA i] ++ jj j 4 33, h := [[row0, ⟨0, .box (.pv (V.p v)) false⟩] ++ List.replicate 35 row0], g := g }
theorem ref07_May_go (v : V) (r : PV) : FnGo E1 Tryz.f26 [V.p v] r 2000 (.fork (.lts 16 (.hole 0)) (.lts 4 (.fork (.lts 11 (.hole 0)) (.lts 4 (.fork (.lts 6 (.hole 0)) (.lts 5 (.fork (.hole 0) (.mask (iv [(0, 0), (2, 2), (4, 36)]) [])))))))) =
  (((0 : Nat) = 0) ∧
 ((decide (V.a v > (2147483647 : Int))) = true →
 (bolP false) = r) ∧
 ((decide (V.a v > (2147483647 : Int))) = false →
 ((0 : Nat) = 0) ∧
 ((decide (V.b v > (2147483647 : Int))) = true →
 (bolP false) = r) ∧
 ((decide (V.b v > (2147483647 : Int))) = false →
 ((0 : Nat) = 0) ∧
 ((decide (V.c v > (2147483647 : Int))) = true →
 (bolP false) = r) ∧
 ((decide (V.c v > (2147483647 : Int))) = false →
 ((0 : Nat) = 0) ∧
 ((decide ((↑(List.length (List.map strP (V.pre v))) : Int) > (8 : Int))) = true →
 (bolP false) = r) ∧
 ((decide ((↑(List.length (List.map strP (V.pre v))) : Int) > (8 : Int))) = false →
 ∀ (j : Nat → AV) (jr : Nat → Row) (g : Nat), LoopAt E1 Tryz.f26 r 0 (ref07_May_S0 v (0 : Int) j jr g)))))) := by kernel_rfl
theorem ref07_May_go_S0 (v : V) (i : Int) (j : Nat → AV) (jr : Nat → Row) (g : Nat) (r : PV) : LoopGo E1 Tryz.f26 r 0 2000 (.fork (.val (strP (List.getD (V.pre v) (Int.toNat i) default)) (.res (bolP (identL (List.getD (V.pre v) (Int.toNat i) default))) (.fork (.hole 0) (.mask (iv [(0, 0), (2, 2), (4, 36)]) [])))) (.hole 0)) (ref07_May_S0 v i j jr g) =
  (((0 : Nat) = 0) ∧
 ((decide (i < (↑(List.length (List.map strP (V.pre v))) : Int))) = true →
 ((0 : Nat) = 0) ∧
 (((0 : Int) ≤ i) ∧ (((V.nl v) = false) ∧ ((V.k v) = 1))) ∧
 (((List.map strP (V.pre v))[Int.toNat i]?) = some (strP (List.getD (V.pre v) (Int.toNat i) default))) ∧
 (Den E1 60 [strP (List.getD (V.pre v) (Int.toNat i) default)] (bolP (identL (List.getD (V.pre v) (Int.toNat i) default)))) ∧
 ((!identL (List.getD (V.pre v) (Int.toNat i) default)) = true →
 (bolP false) = r) ∧
 ((!identL (List.getD (V.pre v) (Int.toNat i) default)) = false →
 ∀ (j : Nat → AV) (jr : Nat → Row) (g : Nat), LoopAt E1 Tryz.f26 r 0 (ref07_May_S0 v (IntKind.i64.wrap (i + (1 : Int))) j jr g))) ∧
 ((decide (i < (↑(List.length (List.map strP (V.pre v))) : Int))) = false →
 (bolP true) = r)) := by kernel_rfl
end Go.Proofs.YtlhfgonjcpapnaaGreatDoor.Abs

namespace Go.Proofs.YtlhfgonjcpapnaaGreatDoor.Abs
open Go Go.Proofs
theorem identC_iff (b : UInt8) : identC b = true ↔ (48 ≤ (b.toNat : Int) ∧ (b.toNat : Int) ≤ 57) ∨ (97 ≤ (b.toNat : Int) ∧ (b.toNat : Int) ≤ 122) ∨ (b.toNat : Int) = 45 := by
  simp [identC, isDig]
  omega
theorem beq_nil (l : List UInt8) : (l == []) = l.isEmpty := by cases l <;> rfl
theorem den_version_ident (l : List UInt8) : Den E1 103 [strP l] (bolP (identL l)) := by
  refine den1 2000 _ rfl (by kernel_rfl) rfl rfl rfl (Eq.mpr (version_ident_go l _) ?_)
  simp only [toList_bs, size_bs, beq_nil]
  refine ⟨fun h => by simp [identL, h], fun h0 => ⟨fun h => ?_, fun h1 j jr g => ?_⟩⟩
  · simp at h
    have : ¬ l.length ≤ 16 := by omega
    simp [identL, this]
  simp at h1
  have hne : l ≠ [] := by intro e; subst e; simp at h0
  have hsm : small l.length := by unfold small; omega
  have H : ∀ (n i : Nat) j jr g, i + n = l.length → identL l = ((l.drop i).all identC && (!digitsL l || plainL l)) → LoopAt E1 Tryz.f103 (bolP (identL l)) 0 (version_ident_S0 l i j jr g) := by
    intro n
    induction n with
    | zero =>
      intro i j jr g hi hd
      refine loop_go 2000 _ (Eq.mpr (version_ident_go_S0 l i j jr g _) ⟨fun h => ?_, fun h => ⟨den_version_digits l hsm, fun h2 => ⟨den_version_plain l hne, ?_⟩, fun h2 => ?_⟩⟩)
      · simp [size_bs] at h; omega
      · rw [hd, drop_nil (by omega)]; simp [h2]
      · rw [hd, drop_nil (by omega)]; simp [h2]
    | succ n ih =>
      intro i j jr g hi hd
      have hlt : i < l.length := by omega
      rw [drop_all hlt] at hd
      have hw : IntKind.wrap IntKind.i64 ((i : Int) + 1) = ((i + 1 : Nat) : Int) := wrap_i64 _ (by omega) (by omega)
      refine loop_go 2000 _ (Eq.mpr (version_ident_go_S0 l i j jr g _) ⟨fun h => ?_, fun h => ?_⟩)
      · simp only [Int.toNat_natCast, gI_nat, gI_zero, getD_lt hlt, size_bs, hw, decide_eq_true_eq, decide_eq_false_iff_not, beq_iff_eq, beq_eq_false_iff_ne, ne_eq]
        have hc := identC_iff l[i]
        cases hb : identC l[i] with
        | true =>
          rw [hb] at hc hd
          have hc := hc.1 rfl
          have hL := fun j jr g => ih (i + 1) j jr g (by omega) (by rw [hd]; simp)
          generalize (l[i].toNat : Int) = c at hc ⊢
          refine ⟨⟨by omega, hlt⟩, ?_⟩
          repeat' (first | exact hL | omega | refine ⟨?_, ?_⟩ | intro _)
        | false =>
          rw [hb] at hc hd
          have hc : ¬ _ := fun h => absurd (hc.2 h) (by simp)
          have hL : identL l = false := by rw [hd]; simp
          rw [hL]
          generalize (l[i].toNat : Int) = c at hc ⊢
          refine ⟨⟨by omega, hlt⟩, ?_⟩
          repeat' (first | rfl | (exfalso; apply hc; omega) | omega | refine ⟨?_, ?_⟩ | intro _)
      · simp [size_bs] at h; omega
  have h16 : l.length ≤ 16 := by omega
  exact H l.length 0 j jr g (by omega) (by simp [identL, h0, h16])
theorem den_ref07_ident (l : List UInt8) : Den E1 60 [strP l] (bolP (identL l)) := by
  refine den1 2000 _ rfl (by kernel_rfl) rfl rfl rfl (Eq.mpr (ref07_ident_go l _) ?_)
  simp only [size_bs]
  refine ⟨fun h => by simp at h; have : l = [] := List.length_eq_zero_iff.1 (by omega); simp [identL, this], fun h0 => ⟨fun h => ?_, fun h1 j jr g => ?_⟩⟩
  · simp at h
    have : ¬ l.length ≤ 16 := by omega
    simp [identL, this]
  simp at h1
  have hne : l ≠ [] := by intro e; subst e; simp at h0
  have h0 : l.isEmpty = false := by simpa using hne
  have hsm : small l.length := by unfold small; omega
  have H : ∀ (n i : Nat) j jr g, i + n = l.length → identL l = ((l.drop i).all identC && (!digitsL l || plainL l)) → LoopAt E1 Tryz.f60 (bolP (identL l)) 0 (ref07_ident_S0 l i j jr g) := by
    intro n
    induction n with
    | zero =>
      intro i j jr g hi hd
      refine loop_go 2000 _ (Eq.mpr (ref07_ident_go_S0 l i j jr g _) ⟨fun h => ?_, fun h => ⟨den_ref07_digits l hsm, fun h2 => ⟨fun h3 => ?_, fun h3 => ⟨⟨by omega, by have := List.length_pos_iff.2 hne; exact this⟩, ?_⟩⟩, fun h2 => ?_⟩⟩)
      · simp [size_bs] at h; omega
      · rw [toList_bs, toList_bs, beq_iff_eq] at h3; rw [hd, drop_nil (by omega), h3]; rfl
      · rw [toList_bs, toList_bs, beq_eq_false_iff_ne] at h3
        rw [hd, drop_nil (by omega)]
        have h4 : (((l.getD 0 0).toNat : Int) != 48) = ((l.getD 0 0).toNat != 48) := by rw [Bool.eq_iff_iff]; simp; omega
        have h5 : ((l.getD 0 0).toNat != 48) = plainL l := by
          unfold plainL
          by_cases h6 : l.length = 1
          · obtain ⟨a, rfl⟩ := List.length_eq_one_iff.1 h6
            have : ¬ a.toNat = 48 := fun e => h3 (by rw [show a = 48 from UInt8.toNat_inj.1 e])
            simp [this]
          · have : (l.length == 1) = false := by simpa using h6
            rw [this, Bool.false_or]
        rw [h4, h5]
        simp [h2]
      · rw [hd, drop_nil (by omega)]; simp [h2]
    | succ n ih =>
      intro i j jr g hi hd
      have hlt : i < l.length := by omega
      rw [drop_all hlt] at hd
      have hw : IntKind.wrap IntKind.i64 ((i : Int) + 1) = ((i + 1 : Nat) : Int) := wrap_i64 _ (by omega) (by omega)
      refine loop_go 2000 _ (Eq.mpr (ref07_ident_go_S0 l i j jr g _) ⟨fun h => ?_, fun h => ?_⟩)
      · simp only [Int.toNat_natCast, gI_nat, gI_zero, getD_lt hlt, size_bs, hw, decide_eq_true_eq, decide_eq_false_iff_not, bne_iff_ne, bne_eq_false_iff_eq, ne_eq]
        have hc := identC_iff l[i]
        cases hb : identC l[i] with
        | true =>
          rw [hb] at hc hd
          have hc := hc.1 rfl
          have hL := fun j jr g => ih (i + 1) j jr g (by omega) (by rw [hd]; simp)
          generalize (l[i].toNat : Int) = c at hc ⊢
          refine ⟨⟨by omega, hlt⟩, ?_⟩
          repeat' (first | exact hL | omega | refine ⟨?_, ?_⟩ | intro _)
        | false =>
          rw [hb] at hc hd
          have hc : ¬ _ := fun h => absurd (hc.2 h) (by simp)
          have hL : identL l = false := by rw [hd]; simp
          rw [hL]
          generalize (l[i].toNat : Int) = c at hc ⊢
          refine ⟨⟨by omega, hlt⟩, ?_⟩
          repeat' (first | rfl | (exfalso; apply hc; omega) | omega | refine ⟨?_, ?_⟩ | intro _)
      · simp [size_bs] at h; omega
  have h16 : l.length ≤ 16 := by omega
  exact H l.length 0 j jr g (by omega) (by simp [identL, h0, h16])
theorem den_May_1 (l : List UInt8) : Den E1 102 [strP l] (bolP (!identL l)) :=
  den1 2000 _ rfl (by kernel_rfl) rfl rfl rfl (Eq.mpr (version_May_1_go l _) ⟨den_version_ident l, rfl⟩)
theorem den_IndexFunc (x : List (List UInt8)) (k : Nat) (nl full : Bool) (hx : slOk 1 k nl x.length) (hl : small x.length) : Den E1 134 [preP k nl full x, .clo (.func 102) [] []] (intP (firstI (fun s => !identL s) x)) := by
  refine den1 2000 _ rfl (by kernel_rfl) rfl rfl rfl (Eq.mpr (slices_IndexFunc_string_string_go x k nl full _) fun j jr g => ?_)
  have H : ∀ (n i : Nat) j jr g, i + n = x.length → x.findIdx (fun s => !identL s) = i + (x.drop i).findIdx (fun s => !identL s) → LoopAt E1 Tryz.f134 (intP (firstI (fun s => !identL s) x)) 0 (slices_IndexFunc_string_string_S0 x k nl full i j jr g) := by
    intro n
    induction n with
    | zero =>
      intro i j jr g hi hd
      refine loop_go 2000 _ (Eq.mpr (slices_IndexFunc_string_string_go_S0 x k nl full i j jr g _) ⟨fun h => ?_, fun h => ?_⟩)
      · simp at h; omega
      · rw [drop_nil (by omega)] at hd
        simp only [List.findIdx_nil] at hd
        simp only [firstI]
        rw [hd, if_neg (by omega)]
    | succ n ih =>
      intro i j jr g hi hd
      have h1 : i < x.length := by omega
      rw [List.drop_eq_getElem_cons h1, List.findIdx_cons] at hd
      refine loop_go 2000 _ (Eq.mpr (slices_IndexFunc_string_string_go_S0 x k nl full i j jr g _) ⟨fun h => ?_, fun h => ?_⟩)
      · simp only [Int.toNat_natCast, gI_nat, gI_zero, getD_lt h1]
        refine ⟨⟨by omega, sl_at hx h1⟩, by simp [h1, strP], den_May_1 _, fun h2 => ?_, fun h2 j jr g => ?_⟩
        · rw [h2] at hd
          simp only [cond_true] at hd
          simp only [firstI]
          rw [hd, if_pos (by omega)]
          rfl
        · rw [h2] at hd
          simp only [cond_false] at hd
          rw [wrap_i64 _ (by omega) (by unfold small at hl; omega)]
          exact ih (i + 1) j jr g (by omega) (by rw [hd]; omega)
      · simp at h; omega
  exact H x.length 0 j jr g (by omega) (by simp)
theorem firstI_ge (x : List (List UInt8)) : decide (firstI (fun s => !identL s) x ≥ 0) = !x.all identL := by
  unfold firstI
  by_cases h : x.findIdx (fun s => !identL s) < x.length
  · rw [if_pos h]
    have h1 := List.findIdx_getElem (w := h)
    have h2 : x.all identL = false := by
      rw [List.all_eq_false]
      exact ⟨_, List.getElem_mem h, by simpa using h1⟩
    rw [h2]; simp
  · rw [if_neg h]
    have h2 : x.all identL = true := by
      rw [List.all_eq_true]
      intro s hs
      have h3 := List.findIdx_lt_length (p := fun s => !identL s) (xs := x)
      cases hc : identL s with
      | true => rfl
      | false => exact absurd (h3.2 ⟨s, hs, by simp [hc]⟩) h
    rw [h2]; rfl
theorem den_ContainsFunc (x : List (List UInt8)) (k : Nat) (nl full : Bool) (hx : slOk 1 k nl x.length) (hl : small x.length) : Den E1 101 [preP k nl full x, .clo (.func 102) [] []] (bolP (!x.all identL)) :=
  den1 2000 _ rfl (by kernel_rfl) rfl rfl rfl (Eq.mpr (slices_ContainsFunc_string_string_go x k nl full _) ⟨den_IndexFunc x k nl full hx hl, by rw [firstI_ge]⟩)
theorem max3 (a b c m : Int) : (if c > (if b > a then b else a) then c else (if b > a then b else a)) > m ↔ ¬ (a ≤ m ∧ b ≤ m ∧ c ≤ m) := by
  split <;> split <;> omega
theorem mayV_num (v : V) (h : ¬ (v.a ≤ 2147483647 ∧ v.b ≤ 2147483647 ∧ v.c ≤ 2147483647)) : mayV v = false := by
  simp [mayV]; omega
theorem den_version_May (v : V) (hv : v.ok) : Den E1 59 [v.p] (intP (errV (mayV v))) := by
  refine den1 2000 _ rfl (by kernel_rfl) rfl rfl rfl (Eq.mpr (version_May_go v _) ?_)
  simp only [decide_eq_true_eq, decide_eq_false_iff_not, max3, List.length_map]
  refine ⟨trivial, trivial, trivial, fun h => ?_, fun h => ⟨trivial, fun h1 => ?_, fun h1 => ⟨trivial, den_ContainsFunc _ _ _ _ hv.sl hv.len, fun h2 => ?_, fun h2 => ?_⟩⟩⟩
  · rw [mayV_num v h]; rfl
  · have : mayV v = false := by
      have h5 : ¬ v.pre.length ≤ 8 := by omega
      simp [mayV, h5]
    rw [this]; rfl
  · have : mayV v = false := by
      simp only [Bool.not_eq_true'] at h2
      simp [mayV, h2]
    rw [this]; rfl
  · have : mayV v = true := by
      simp only [Bool.not_eq_false'] at h2
      have h5 : v.pre.length ≤ 8 := by omega
      simp [mayV, h2, h5]; omega
    rw [this]; rfl
theorem den_ref07_May (v : V) (hv : v.ok) : Den E1 26 [v.p] (bolP (mayV v)) := by
  refine den1 2000 _ rfl (by kernel_rfl) rfl rfl rfl (Eq.mpr (ref07_May_go v _) ?_)
  refine ⟨rfl, fun h => ?_, fun h => ⟨rfl, fun h1 => ?_, fun h1 => ⟨rfl, fun h2 => ?_, fun h2 => ⟨rfl, fun h3 => ?_, fun h3 j jr g => ?_⟩⟩⟩⟩
  · simp only [decide_eq_true_eq] at h; rw [mayV_num v (by omega)]
  · simp only [decide_eq_true_eq] at h1; rw [mayV_num v (by omega)]
  · simp only [decide_eq_true_eq] at h2; rw [mayV_num v (by omega)]
  · simp only [decide_eq_true_eq, List.length_map] at h3
    have h5 : ¬ v.pre.length ≤ 8 := by omega
    simp [mayV, h5]
  simp only [decide_eq_false_iff_not, List.length_map] at h h1 h2 h3
  have H : ∀ (n i : Nat) j jr g, i + n = v.pre.length → mayV v = (v.pre.drop i).all identL → LoopAt E1 Tryz.f26 (bolP (mayV v)) 0 (ref07_May_S0 v i j jr g) := by
    intro n
    induction n with
    | zero =>
      intro i j jr g hi hd
      refine loop_go 2000 _ (Eq.mpr (ref07_May_go_S0 v i j jr g _) ⟨rfl, fun h => ?_, fun h => ?_⟩)
      · simp at h; omega
      · rw [hd, drop_nil (by omega)]; rfl
    | succ n ih =>
      intro i j jr g hi hd
      have h1 : i < v.pre.length := by omega
      rw [List.drop_eq_getElem_cons h1, List.all_cons] at hd
      refine loop_go 2000 _ (Eq.mpr (ref07_May_go_S0 v i j jr g _) ⟨rfl, fun h => ?_, fun h => ?_⟩)
      · simp only [Int.toNat_natCast, gI_nat, gI_zero, getD_lt h1]
        refine ⟨trivial, ⟨by omega, sl_at hv.sl h1⟩, by simp [h1, strP], den_ref07_ident _, fun h4 => ?_, fun h4 j jr g => ?_⟩
        · simp only [Bool.not_eq_true'] at h4; rw [hd, h4]; rfl
        · simp only [Bool.not_eq_false'] at h4
          rw [wrap_i64 _ (by omega) (by omega)]
          exact ih (i + 1) j jr g (by omega) (by rw [hd, h4]; rfl)
      · simp at h; omega
  have h5 : v.pre.length ≤ 8 := by omega
  exact H v.pre.length 0 j jr g (by omega) (by simp [mayV, h5]; omega)
end Go.Proofs.YtlhfgonjcpapnaaGreatDoor.Abs

namespace Go.Proofs.YtlhfgonjcpapnaaGreatDoor.Abs
open Go Go.Proofs
def ordV (v w : V) : Int := if mayV v && mayV w then cmpV v w else 0
def befE (a b : Ed) : Int :=
  if a.less && b.less then 0 else if a.less then 1 else if b.less then -1
  else if ordV a.v b.v != 0 then ordV a.v b.v
  else if a.behind == b.behind then 0 else if b.behind then -1 else 1
def zeroB (v : V) : Bool := v.a == 0 && v.b == 0 && v.c == 0 && decide (v.pre.length = 0)
def rightI (x : I) : Bool := mayV x.lo && mayV x.hi && (!x.less || (!x.hopen && zeroB x.hi))
def emptyI (x : I) : Bool := !x.less && (decide (cmpV x.lo x.hi > 0) || (cmpV x.lo x.hi == 0 && (x.lopen || x.hopen)))
def lowB (x y : Bd) : Int := if cmpV x.v y.v != 0 || x.op == y.op then cmpV x.v y.v else if y.op then -1 else 1
def touchI (x y : I) : Bool := x.less || (decide (cmpV x.hi y.lo > 0) || (cmpV x.hi y.lo == 0 && !(x.hopen && y.lopen)))
def I.lb (x : I) : Bd := ⟨x.lo, x.lopen⟩
end Go.Proofs.YtlhfgonjcpapnaaGreatDoor.Abs

namespace Go.Proofs.YtlhfgonjcpapnaaGreatDoor.Abs
open Go Go.Proofs
theorem version_Cmp_go (v : V) (w : V) (r : PV) : FnGo E1 Tryz.f111 [V.p v, V.p w] r 2000 (.res (intP (errV (mayV v))) (.fork (.lts 5 (.hole 0)) (.lit (.lit (.res (intP (errV (mayV w))) (.lit (.lit (.fork (.hole 0) (.res (intP (cmpV v w)) (.hole 0)))))))))) =
  (((0 : Nat) = 0) ∧
 (Den E1 59 [V.p v] (intP (errV (mayV v)))) ∧
 ((errV (mayV v) != (0 : Int)) = true →
 ((.tup [intP 0, intP 70]) : PV) = r) ∧
 ((errV (mayV v) != (0 : Int)) = false →
 ((1 : Nat) = 1) ∧
 (Den E1 59 [V.p w] (intP (errV (mayV w)))) ∧
 ((errV (mayV w) != (0 : Int)) = true →
 ((.tup [intP 0, intP 70]) : PV) = r) ∧
 ((errV (mayV w) != (0 : Int)) = false →
 ((0 : Nat) = 0) ∧
 ((1 : Nat) = 1) ∧
 (Den E1 85 [V.p v, V.p w] (intP (cmpV v w))) ∧
 ((.tup [intP (cmpV v w), intP 0]) : PV) = r))) := by kernel_rfl
theorem span_order_go (v : V) (w : V) (r : PV) : FnGo E1 Tryz.f72 [V.p v, V.p w] r 2000 (.res (.tup [intP (ordV v w), intP (errV (mayV v && mayV w))]) (.hole 0)) =
  (((0 : Nat) = 0) ∧
 ((1 : Nat) = 1) ∧
 (Den E1 111 [V.p v, V.p w] (.tup [intP (ordV v w), intP (errV (mayV v && mayV w))])) ∧
 (intP (ordV v w)) = r) := by kernel_rfl
theorem span_before_go (x : Ed) (y : Ed) (r : PV) : FnGo E1 Tryz.f36 [Ed.p ⟨(Ed.v x), (Ed.behind x), (Ed.less x)⟩, Ed.p ⟨(Ed.v y), (Ed.behind y), (Ed.less y)⟩] r 2000 (.fork (.lts 3 (.fork (.hole 0) (.br true (.hole 0)))) (.lts 4 (.br false (.fork (.hole 0) (.res (intP (ordV (Ed.v x) (Ed.v y))) (.fork (.hole 0) (.fork (.hole 0) (.fork (.hole 0) (.hole 0))))))))) =
  (((0 : Nat) = 0) ∧
 ((Ed.less x) = true →
 ((1 : Nat) = 1) ∧
 ((Ed.less y) = true →
 (intP 0) = r) ∧
 ((Ed.less y) = false →
 ((0 : Nat) = 0) ∧
 ((Ed.less x) = true) ∧
 (intP 1) = r)) ∧
 ((Ed.less x) = false →
 ((0 : Nat) = 0) ∧
 ((Ed.less x) = false) ∧
 ((1 : Nat) = 1) ∧
 ((Ed.less y) = true →
 (intP (-1)) = r) ∧
 ((Ed.less y) = false →
 ((0 : Nat) = 0) ∧
 ((1 : Nat) = 1) ∧
 (Den E1 72 [V.p (Ed.v x), V.p (Ed.v y)] (intP (ordV (Ed.v x) (Ed.v y)))) ∧
 ((ordV (Ed.v x) (Ed.v y) != (0 : Int)) = true →
 (intP (ordV (Ed.v x) (Ed.v y))) = r) ∧
 ((ordV (Ed.v x) (Ed.v y) != (0 : Int)) = false →
 ((0 : Nat) = 0) ∧
 ((1 : Nat) = 1) ∧
 ((Ed.behind x == Ed.behind y) = true →
 (intP 0) = r) ∧
 ((Ed.behind x == Ed.behind y) = false →
 ((1 : Nat) = 1) ∧
 ((Ed.behind y) = true →
 (intP (-1)) = r) ∧
 ((Ed.behind y) = false →
 (intP 1) = r)))))) := by kernel_rfl
theorem span_right_go (x : I) (r : PV) : FnGo E1 Tryz.f35 [I.p x] r 2000 (.res (intP (errV (mayV (I.lo x)))) (.fork (.lts 7 (.hole 0)) (.lts 4 (.res (intP (errV (mayV (I.hi x)))) (.lit (.lit (.fork (.hole 0) (.fork (.lts 12 (.hole 0)) (.lts 4 (.fork (.lts 7 (.fork (.lts 7 (.fork (.lts 7 (.fork (.lts 8 (.hole 0)) (.lts 8 (.hole 0)))) (.lts 16 (.hole 0)))) (.lts 24 (.hole 0)))) (.lts 32 (.hole 0)))))))))))) =
  (((0 : Nat) = 0) ∧
 (Den E1 59 [V.p (I.lo x)] (intP (errV (mayV (I.lo x))))) ∧
 ((errV (mayV (I.lo x)) != (0 : Int)) = true →
 (bolP false) = r) ∧
 ((errV (mayV (I.lo x)) != (0 : Int)) = false →
 ((0 : Nat) = 0) ∧
 (Den E1 59 [V.p (I.hi x)] (intP (errV (mayV (I.hi x))))) ∧
 ((errV (mayV (I.hi x)) != (0 : Int)) = true →
 (bolP false) = r) ∧
 ((errV (mayV (I.hi x)) != (0 : Int)) = false →
 ((0 : Nat) = 0) ∧
 ((16 : Nat) = 16) ∧
 ((0 : Nat) = 0) ∧
 ((!I.less x) = true →
 (bolP true) = r) ∧
 ((!I.less x) = false →
 ((16 : Nat) = 16) ∧
 ((!I.hopen x) = true →
 ((16 : Nat) = 16) ∧
 ((V.a (I.hi x) == (0 : Int)) = true →
 ((16 : Nat) = 16) ∧
 ((V.b (I.hi x) == (0 : Int)) = true →
 ((16 : Nat) = 16) ∧
 ((V.c (I.hi x) == (0 : Int)) = true →
 ((16 : Nat) = 16) ∧
 (bolP ((↑(List.length (List.map strP (V.pre (I.hi x)))) : Int) == (0 : Int))) = r) ∧
 ((V.c (I.hi x) == (0 : Int)) = false →
 (bolP false) = r)) ∧
 ((V.b (I.hi x) == (0 : Int)) = false →
 (bolP false) = r)) ∧
 ((V.a (I.hi x) == (0 : Int)) = false →
 (bolP false) = r)) ∧
 ((!I.hopen x) = false →
 (bolP false) = r))))) := by kernel_rfl
theorem ref08_right_go (x : I) (r : PV) : FnGo E1 Tryz.f42 [I.p x] r 2000 (.res (bolP (mayV (I.lo x))) (.fork (.hole 0) (.fork (.fork (.lts 5 (.res (bolP (sameV (I.hi x) ⟨(0 : Int), (0 : Int), (0 : Int), 0, true, true, []⟩)) (.lit (.hole 0)))) (.lts 6 (.hole 0))) (.res (bolP (mayV (I.hi x))) (.hole 0))))) =
  (((0 : Nat) = 0) ∧
 (Den E1 26 [V.p (I.lo x)] (bolP (mayV (I.lo x)))) ∧
 ((!mayV (I.lo x)) = true →
 (bolP false) = r) ∧
 ((!mayV (I.lo x)) = false →
 ((0 : Nat) = 0) ∧
 ((I.less x) = true →
 ((0 : Nat) = 0) ∧
 ((!I.hopen x) = true →
 ((0 : Nat) = 0) ∧
 (Den E1 46 [V.p (I.hi x), verP 0 0 0 (.sl 0 true true [])] (bolP (sameV (I.hi x) ⟨(0 : Int), (0 : Int), (0 : Int), 0, true, true, []⟩))) ∧
 (bolP (sameV (I.hi x) ⟨(0 : Int), (0 : Int), (0 : Int), 0, true, true, []⟩)) = r) ∧
 ((!I.hopen x) = false →
 (bolP false) = r)) ∧
 ((I.less x) = false →
 ((0 : Nat) = 0) ∧
 (Den E1 26 [V.p (I.hi x)] (bolP (mayV (I.hi x)))) ∧
 (bolP (mayV (I.hi x))) = r))) := by kernel_rfl
theorem ref08_empty_go (x : I) (r : PV) : FnGo E1 Tryz.f43 [I.p x] r 2000 (.fork (.hole 0) (.res (intP (cmpV (I.lo x) (I.hi x))) (.fork (.lts 5 (.hole 0)) (.lts 3 (.fork (.lts 4 (.fork (.lts 8 (.hole 0)) (.lts 8 (.hole 0)))) (.lts 8 (.hole 0))))))) =
  (((0 : Nat) = 0) ∧
 ((I.less x) = true →
 (bolP false) = r) ∧
 ((I.less x) = false →
 ((0 : Nat) = 0) ∧
 ((0 : Nat) = 0) ∧
 (Den E1 80 [V.p (I.lo x), V.p (I.hi x)] (intP (cmpV (I.lo x) (I.hi x)))) ∧
 ((decide (cmpV (I.lo x) (I.hi x) > (0 : Int))) = true →
 (bolP true) = r) ∧
 ((decide (cmpV (I.lo x) (I.hi x) > (0 : Int))) = false →
 ((cmpV (I.lo x) (I.hi x) == (0 : Int)) = true →
 ((0 : Nat) = 0) ∧
 ((I.lopen x) = true →
 (bolP true) = r) ∧
 ((I.lopen x) = false →
 ((0 : Nat) = 0) ∧
 (bolP (I.hopen x)) = r)) ∧
 ((cmpV (I.lo x) (I.hi x) == (0 : Int)) = false →
 (bolP false) = r)))) := by kernel_rfl
theorem ref08_low_go (x : Bd) (y : Bd) (r : PV) : FnGo E1 Tryz.f44 [Bd.p ⟨(Bd.v x), (Bd.op x)⟩, Bd.p ⟨(Bd.v y), (Bd.op y)⟩] r 2000 (.res (intP (cmpV (Bd.v x) (Bd.v y))) (.fork (.lts 7 (.hole 0)) (.lts 6 (.fork (.hole 0) (.fork (.hole 0) (.hole 0)))))) =
  (((0 : Nat) = 0) ∧
 ((1 : Nat) = 1) ∧
 (Den E1 80 [V.p (Bd.v x), V.p (Bd.v y)] (intP (cmpV (Bd.v x) (Bd.v y)))) ∧
 ((cmpV (Bd.v x) (Bd.v y) != (0 : Int)) = true →
 (intP (cmpV (Bd.v x) (Bd.v y))) = r) ∧
 ((cmpV (Bd.v x) (Bd.v y) != (0 : Int)) = false →
 ((0 : Nat) = 0) ∧
 ((1 : Nat) = 1) ∧
 ((Bd.op x == Bd.op y) = true →
 (intP (cmpV (Bd.v x) (Bd.v y))) = r) ∧
 ((Bd.op x == Bd.op y) = false →
 ((1 : Nat) = 1) ∧
 ((Bd.op y) = true →
 (intP (-1)) = r) ∧
 ((Bd.op y) = false →
 (intP 1) = r)))) := by kernel_rfl
theorem ref08_touch_go (x : I) (y : I) (r : PV) : FnGo E1 Tryz.f45 [I.p x, I.p y] r 2000 (.fork (.hole 0) (.res (intP (cmpV (I.hi x) (I.lo y))) (.fork (.lts 5 (.hole 0)) (.lts 3 (.fork (.lts 4 (.fork (.lts 9 (.hole 0)) (.lts 9 (.hole 0)))) (.lts 9 (.hole 0))))))) =
  (((0 : Nat) = 0) ∧
 ((I.less x) = true →
 (bolP true) = r) ∧
 ((I.less x) = false →
 ((0 : Nat) = 0) ∧
 ((1 : Nat) = 1) ∧
 (Den E1 80 [V.p (I.hi x), V.p (I.lo y)] (intP (cmpV (I.hi x) (I.lo y)))) ∧
 ((decide (cmpV (I.hi x) (I.lo y) > (0 : Int))) = true →
 (bolP true) = r) ∧
 ((decide (cmpV (I.hi x) (I.lo y) > (0 : Int))) = false →
 ((cmpV (I.hi x) (I.lo y) == (0 : Int)) = true →
 ((0 : Nat) = 0) ∧
 ((I.hopen x) = true →
 ((1 : Nat) = 1) ∧
 (bolP (!I.lopen y)) = r) ∧
 ((I.hopen x) = false →
 (bolP true) = r)) ∧
 ((cmpV (I.hi x) (I.lo y) == (0 : Int)) = false →
 (bolP false) = r)))) := by kernel_rfl
end Go.Proofs.YtlhfgonjcpapnaaGreatDoor.Abs

namespace Go.Proofs.YtlhfgonjcpapnaaGreatDoor.Abs
open Go Go.Proofs
theorem errV_ne (b : Bool) : (errV b != 0) = !b := by cases b <;> rfl
theorem den_version_Cmp (v w : V) (hv : v.ok) (hw : w.ok) : Den E1 111 [v.p, w.p] (.tup [intP (ordV v w), intP (errV (mayV v && mayV w))]) := by
  refine den1 2000 _ rfl (by kernel_rfl) rfl rfl rfl (Eq.mpr (version_Cmp_go v w _) ?_)
  simp only [errV_ne, Bool.not_eq_true', Bool.not_eq_false']
  refine ⟨trivial, den_version_May v hv, fun h => ?_, fun h => ⟨trivial, den_version_May w hw, fun h1 => ?_, fun h1 => ⟨trivial, trivial, den_compare v w hv hw, ?_⟩⟩⟩
  · simp [ordV, h, errV]
  · simp [ordV, h, h1, errV]
  · simp [ordV, h, h1, errV]
theorem den_span_order (v w : V) (hv : v.ok) (hw : w.ok) : Den E1 72 [v.p, w.p] (intP (ordV v w)) :=
  den1 2000 _ rfl (by kernel_rfl) rfl rfl rfl (Eq.mpr (span_order_go v w _) ⟨rfl, rfl, den_version_Cmp v w hv hw, rfl⟩)
theorem den_before (a b : Ed) (ha : a.v.ok) (hb : b.v.ok) : Den E1 36 [a.p, b.p] (intP (befE a b)) := by
  refine den1 2000 _ rfl (by kernel_rfl) rfl rfl rfl (Eq.mpr (span_before_go a b _) ?_)
  refine ⟨rfl, fun h => ⟨rfl, fun h1 => ?_, fun h1 => ⟨rfl, h, ?_⟩⟩, fun h => ⟨rfl, h, rfl, fun h1 => ?_, fun h1 => ⟨rfl, rfl, den_span_order _ _ ha hb, fun h2 => ?_, fun h2 => ⟨rfl, rfl, fun h3 => ?_, fun h3 => ⟨rfl, fun h4 => ?_, fun h4 => ?_⟩⟩⟩⟩⟩
  · simp [befE, h, h1]
  · simp [befE, h, h1]
  · simp [befE, h, h1]
  · simp [befE, h, h1, h2]
  · simp only [befE, h, h1, h2, h3]; rfl
  · simp only [befE, h, h1, h2, h3]; simp [h4]
  · simp only [befE, h, h1, h2, h3]; simp [h4]
theorem beq_nat (n : Nat) : ((n : Int) == 0) = decide (n = 0) := by rw [Bool.eq_iff_iff]; simp
theorem den_span_right (x : I) (hx : x.ok) : Den E1 35 [x.p] (bolP (rightI x)) := by
  refine den1 2000 _ rfl (by kernel_rfl) rfl rfl rfl (Eq.mpr (span_right_go x _) ?_)
  simp only [errV_ne, Bool.not_eq_true', Bool.not_eq_false', List.length_map, beq_nat]
  refine ⟨trivial, den_version_May _ hx.lo, fun h => ?_, fun h => ⟨trivial, den_version_May _ hx.hi, fun h1 => ?_, fun h1 => ⟨trivial, trivial, trivial, fun h2 => ?_, fun h2 => ⟨trivial, fun h3 => ⟨trivial, fun h4 => ⟨trivial, fun h5 => ⟨trivial, fun h6 => ⟨trivial, ?_⟩, fun h6 => ?_⟩, fun h5 => ?_⟩, fun h4 => ?_⟩, fun h3 => ?_⟩⟩⟩⟩
  · simp [rightI, h]
  · simp [rightI, h, h1]
  · simp [rightI, h, h1, h2]
  · simp [rightI, h, h1, h2, h3, zeroB, h4, h5, h6]
  · simp [rightI, h, h1, h2, h3, zeroB, h4, h5, h6]
  · simp [rightI, h, h1, h2, h3, zeroB, h4, h5]
  · simp [rightI, h, h1, h2, h3, zeroB, h4]
  · simp [rightI, h, h1, h2, h3]
def zeroV : V := ⟨0, 0, 0, 0, true, true, []⟩
theorem zeroV_ok : zeroV.ok := ⟨⟨by decide, by decide⟩, ⟨by decide, by decide⟩, ⟨by decide, by decide⟩, ⟨fun _ => rfl, fun h => by cases h⟩, by unfold small zeroV; decide, fun s h => by cases h⟩
theorem sameV_zero (v : V) : sameV v zeroV = zeroB v := by
  simp only [sameV, zeroB, zeroV]
  congr 1
  cases v.pre <;> rfl
theorem mayV_zero (v : V) (h : zeroB v = true) : mayV v = true := by
  simp [zeroB] at h
  simp [mayV, h]
theorem den_ref08_right (x : I) (hx : x.ok) : Den E1 42 [x.p] (bolP (rightI x)) := by
  refine den1 2000 _ rfl (by kernel_rfl) rfl rfl rfl (Eq.mpr (ref08_right_go x _) ?_)
  simp only [Bool.not_eq_true', Bool.not_eq_false']
  refine ⟨trivial, den_ref07_May _ hx.lo, fun h => ?_, fun h => ⟨trivial, fun h1 => ⟨trivial, fun h2 => ⟨trivial, den_Same _ zeroV hx.hi zeroV_ok, ?_⟩, fun h2 => ?_⟩, fun h1 => ⟨trivial, den_ref07_May _ hx.hi, ?_⟩⟩⟩
  · simp [rightI, h]
  · have : sameV x.hi ⟨0, 0, 0, 0, true, true, []⟩ = zeroB x.hi := sameV_zero x.hi
    rw [this]
    cases hz : zeroB x.hi with
    | true => simp [rightI, h, h1, h2, hz, mayV_zero _ hz]
    | false => simp [rightI, h, h1, h2, hz]
  · simp [rightI, h, h1, h2]
  · simp [rightI, h, h1]
theorem may_len {v : V} (h : mayV v = true) : v.pre.length < 4294967296 := by
  simp [mayV] at h; omega
theorem den_empty (x : I) (hx : x.ok) (h1 : mayV x.lo = true) (h2 : mayV x.hi = true) : Den E1 43 [x.p] (bolP (emptyI x)) := by
  refine den1 2000 _ rfl (by kernel_rfl) rfl rfl rfl (Eq.mpr (ref08_empty_go x _) ?_)
  refine ⟨rfl, fun h => ?_, fun h => ⟨rfl, rfl, den_ref07_Cmp _ _ hx.lo hx.hi (may_len h1) (may_len h2), fun h3 => ?_, fun h3 => ⟨fun h4 => ⟨rfl, fun h5 => ?_, fun h5 => ⟨rfl, ?_⟩⟩, fun h4 => ?_⟩⟩⟩
  · simp [emptyI, h]
  · simp only [emptyI, h, h3]; rfl
  · simp only [emptyI, h, h3, h4, h5]; rfl
  · simp only [emptyI, h, h3, h4, h5]; rfl
  · simp only [emptyI, h, h3, h4]; rfl
theorem den_ref08_low (x y : Bd) (hx : x.v.ok) (hy : y.v.ok) (h1 : mayV x.v = true) (h2 : mayV y.v = true) : Den E1 44 [x.p, y.p] (intP (lowB x y)) := by
  refine den1 2000 _ rfl (by kernel_rfl) rfl rfl rfl (Eq.mpr (ref08_low_go x y _) ?_)
  refine ⟨rfl, rfl, den_ref07_Cmp _ _ hx hy (may_len h1) (may_len h2), fun h3 => ?_, fun h3 => ⟨rfl, rfl, fun h4 => ?_, fun h4 => ⟨rfl, fun h5 => ?_, fun h5 => ?_⟩⟩⟩
  · simp only [lowB, h3]; rfl
  · simp only [lowB, h3, h4]; rfl
  · simp only [lowB, h3, h4]; simp [h5]
  · simp only [lowB, h3, h4]; simp [h5]
theorem den_touch (x y : I) (hx : x.ok) (hy : y.ok) (h1 : mayV x.hi = true) (h2 : mayV y.lo = true) : Den E1 45 [x.p, y.p] (bolP (touchI x y)) := by
  refine den1 2000 _ rfl (by kernel_rfl) rfl rfl rfl (Eq.mpr (ref08_touch_go x y _) ?_)
  refine ⟨rfl, fun h => ?_, fun h => ⟨rfl, rfl, den_ref07_Cmp _ _ hx.hi hy.lo (may_len h1) (may_len h2), fun h3 => ?_, fun h3 => ⟨fun h4 => ⟨rfl, fun h5 => ⟨rfl, ?_⟩, fun h5 => ?_⟩, fun h4 => ?_⟩⟩⟩
  · simp only [touchI, h]; rfl
  · simp only [touchI, h, h3]; rfl
  · simp only [touchI, h, h3, h4, h5]; rfl
  · simp only [touchI, h, h3, h4, h5]; rfl
  · simp only [touchI, h, h3, h4]; rfl
end Go.Proofs.YtlhfgonjcpapnaaGreatDoor.Abs

namespace Go.Proofs.YtlhfgonjcpapnaaGreatDoor.Abs
open Go Go.Proofs
def span_May_S0 (l : List I) (k : Nat) (nl : Bool) (full : Bool) (i : Int) (j : Nat → AV) (jr : Nat → Row) (g : Nat) : St :=
  { t := [.pv (.sl k nl full (List.map I.p l))] ++ jj j 1 7 ++ [.pv (.sl k nl full (List.map I.p l)), intA ((↑(List.length (List.map I.p l)) : Int)), intA i] ++ jj j 11 32, h := [List.replicate 4 row0 ++ [jr 4] ++ List.replicate 38 row0], g := g }
theorem span_May_go (l : List I) (k : Nat) (nl : Bool) (full : Bool) (r : PV) : FnGo E1 Tryz.f12 [.sl k nl full (List.map I.p l)] r 2000 (.fork (.hole 0) (.mask (iv [(1, 7), (11, 42)]) [4])) =
  (((decide ((↑(List.length (List.map I.p l)) : Int) > (16 : Int))) = true →
 (intP 80) = r) ∧
 ((decide ((↑(List.length (List.map I.p l)) : Int) > (16 : Int))) = false →
 ∀ (j : Nat → AV) (jr : Nat → Row) (g : Nat), LoopAt E1 Tryz.f12 r 0 (span_May_S0 l k nl full (0 : Int) j jr g))) := by kernel_rfl
theorem span_May_go_S0 (l : List I) (k : Nat) (nl : Bool) (full : Bool) (i : Int) (j : Nat → AV) (jr : Nat → Row) (g : Nat) (r : PV) : LoopGo E1 Tryz.f12 r 0 2000 (.fork (.val (I.p (gI l i)) (.res (bolP (rightI (gI l i))) (.fork (.lts 14 (.hole 0)) (.lit (.lit (.res (Ed.p ⟨(I.lo (gI l i)), (I.lopen (gI l i)), false⟩) (.lit (.lit (.res (Ed.p ⟨(I.hi (gI l i)), (!I.hopen (gI l i)), (I.less (gI l i))⟩) (.lit (.res (intP (befE ⟨I.lo (gI l i), I.lopen (gI l i), false⟩ ⟨I.hi (gI l i), !I.hopen (gI l i), I.less (gI l i)⟩)) (.lit (.lit (.fork (.lts 6 (.hole 0)) (.lts 3 (.fork (.lts 4 (.val (I.p (List.getD l (Int.toNat (IntKind.i64.wrap (i - (1 : Int)))) default)) (.lit (.lit (.res (Ed.p ⟨(I.hi (List.getD l (Int.toNat (IntKind.i64.wrap (i - (1 : Int)))) default)), (!I.hopen (List.getD l (Int.toNat (IntKind.i64.wrap (i - (1 : Int)))) default)), (I.less (List.getD l (Int.toNat (IntKind.i64.wrap (i - (1 : Int)))) default))⟩) (.lit (.lit (.res (Ed.p ⟨(I.lo (gI l i)), (I.lopen (gI l i)), false⟩) (.lit (.res (intP (befE ⟨I.hi (List.getD l (Int.toNat (IntKind.i64.wrap (i - (1 : Int)))) default), !I.hopen (List.getD l (Int.toNat (IntKind.i64.wrap (i - (1 : Int)))) default), I.less (List.getD l (Int.toNat (IntKind.i64.wrap (i - (1 : Int)))) default)⟩ ⟨I.lo (gI l i), I.lopen (gI l i), false⟩)) (.lts 4 (.fork (.hole 0) (.mask (iv [(1, 7), (11, 42)]) [4]))))))))))))) (.lts 14 (.mask (iv [(1, 7), (11, 42)]) [4])))))))))))))))))) (.hole 0)) (span_May_S0 l k nl full i j jr g) =
  (((decide (i < (↑(List.length (List.map I.p l)) : Int))) = true →
 (((0 : Int) ≤ i) ∧ ((nl = false) ∧ (k = 11))) ∧
 (((List.map I.p l)[Int.toNat i]?) = some (I.p (gI l i))) ∧
 ((g + 1 + 3) = g + 1 + 3) ∧
 ((g + 1 + 3) = g + 1 + 3) ∧
 (Den E1 35 [I.p (gI l i)] (bolP (rightI (gI l i)))) ∧
 ((!rightI (gI l i)) = true →
 (intP 80) = r) ∧
 ((!rightI (gI l i)) = false →
 ((g + 1 + 3) = g + 1 + 3) ∧
 (Den E1 37 [I.p (gI l i)] (Ed.p ⟨(I.lo (gI l i)), (I.lopen (gI l i)), false⟩)) ∧
 ((g + 1 + 3) = g + 1 + 3) ∧
 (Den E1 38 [I.p (gI l i)] (Ed.p ⟨(I.hi (gI l i)), (!I.hopen (gI l i)), (I.less (gI l i))⟩)) ∧
 (Den E1 36 [Ed.p ⟨(I.lo (gI l i)), (I.lopen (gI l i)), false⟩, Ed.p ⟨(I.hi (gI l i)), (!I.hopen (gI l i)), (I.less (gI l i))⟩] (intP (befE ⟨I.lo (gI l i), I.lopen (gI l i), false⟩ ⟨I.hi (gI l i), !I.hopen (gI l i), I.less (gI l i)⟩))) ∧
 ((decide (befE ⟨I.lo (gI l i), I.lopen (gI l i), false⟩ ⟨I.hi (gI l i), !I.hopen (gI l i), I.less (gI l i)⟩ ≥ (0 : Int))) = true →
 (intP 80) = r) ∧
 ((decide (befE ⟨I.lo (gI l i), I.lopen (gI l i), false⟩ ⟨I.hi (gI l i), !I.hopen (gI l i), I.less (gI l i)⟩ ≥ (0 : Int))) = false →
 ((decide (i > (0 : Int))) = true →
 (((0 : Int) ≤ IntKind.i64.wrap (i - (1 : Int))) ∧ ((nl = false) ∧ (k = 11))) ∧
 (((List.map I.p l)[Int.toNat (IntKind.i64.wrap (i - (1 : Int)))]?) = some (I.p (List.getD l (Int.toNat (IntKind.i64.wrap (i - (1 : Int)))) default))) ∧
 (Den E1 38 [I.p (List.getD l (Int.toNat (IntKind.i64.wrap (i - (1 : Int)))) default)] (Ed.p ⟨(I.hi (List.getD l (Int.toNat (IntKind.i64.wrap (i - (1 : Int)))) default)), (!I.hopen (List.getD l (Int.toNat (IntKind.i64.wrap (i - (1 : Int)))) default)), (I.less (List.getD l (Int.toNat (IntKind.i64.wrap (i - (1 : Int)))) default))⟩)) ∧
 ((g + 1 + 3) = g + 1 + 3) ∧
 (Den E1 37 [I.p (gI l i)] (Ed.p ⟨(I.lo (gI l i)), (I.lopen (gI l i)), false⟩)) ∧
 (Den E1 36 [Ed.p ⟨(I.hi (List.getD l (Int.toNat (IntKind.i64.wrap (i - (1 : Int)))) default)), (!I.hopen (List.getD l (Int.toNat (IntKind.i64.wrap (i - (1 : Int)))) default)), (I.less (List.getD l (Int.toNat (IntKind.i64.wrap (i - (1 : Int)))) default))⟩, Ed.p ⟨(I.lo (gI l i)), (I.lopen (gI l i)), false⟩] (intP (befE ⟨I.hi (List.getD l (Int.toNat (IntKind.i64.wrap (i - (1 : Int)))) default), !I.hopen (List.getD l (Int.toNat (IntKind.i64.wrap (i - (1 : Int)))) default), I.less (List.getD l (Int.toNat (IntKind.i64.wrap (i - (1 : Int)))) default)⟩ ⟨I.lo (gI l i), I.lopen (gI l i), false⟩))) ∧
 ((decide (befE ⟨I.hi (List.getD l (Int.toNat (IntKind.i64.wrap (i - (1 : Int)))) default), !I.hopen (List.getD l (Int.toNat (IntKind.i64.wrap (i - (1 : Int)))) default), I.less (List.getD l (Int.toNat (IntKind.i64.wrap (i - (1 : Int)))) default)⟩ ⟨I.lo (gI l i), I.lopen (gI l i), false⟩ ≥ (0 : Int))) = true →
 (intP 80) = r) ∧
 ((decide (befE ⟨I.hi (List.getD l (Int.toNat (IntKind.i64.wrap (i - (1 : Int)))) default), !I.hopen (List.getD l (Int.toNat (IntKind.i64.wrap (i - (1 : Int)))) default), I.less (List.getD l (Int.toNat (IntKind.i64.wrap (i - (1 : Int)))) default)⟩ ⟨I.lo (gI l i), I.lopen (gI l i), false⟩ ≥ (0 : Int))) = false →
 ∀ (j : Nat → AV) (jr : Nat → Row) (g : Nat), LoopAt E1 Tryz.f12 r 0 (span_May_S0 l k nl full (IntKind.i64.wrap (i + (1 : Int))) j jr g))) ∧
 ((decide (i > (0 : Int))) = false →
 ∀ (j : Nat → AV) (jr : Nat → Row) (g : Nat), LoopAt E1 Tryz.f12 r 0 (span_May_S0 l k nl full (IntKind.i64.wrap (i + (1 : Int))) j jr g))))) ∧
 ((decide (i < (↑(List.length (List.map I.p l)) : Int))) = false →
 (intP 0) = r)) := by kernel_rfl
def ref08_May_S0 (l : List I) (k : Nat) (nl : Bool) (full : Bool) (i : Int) (j : Nat → AV) (jr : Nat → Row) (g : Nat) : St :=
  { t := [.pv (.sl k nl full (List.map I.p l)), j 1, j 2, intA i, undefA] ++ jj j 5 22 ++ [undefA, undefA, undefA, undefA, undefA, undefA, undefA, undefA, undefA, undefA, undefA, undefA, undefA, undefA, undefA, undefA, undefA, undefA, undefA, undefA, undefA, undefA, undefA, undefA, undefA, undefA, undefA, undefA, undefA, undefA, undefA, undefA], h := [List.replicate 59 row0], g := g }
def ref08_May_S1 (l : List I) (k : Nat) (nl : Bool) (full : Bool) (i : Int) (j : Nat → AV) (jr : Nat → Row) (g : Nat) : St :=
  { t := [.pv (.sl k nl full (List.map I.p l)), j 1, j 2, j 3, intA i] ++ jj j 5 54, h := [List.replicate 59 row0], g := g }
theorem ref08_May_go (l : List I) (k : Nat) (nl : Bool) (full : Bool) (r : PV) : FnGo E1 Tryz.f15 [.sl k nl full (List.map I.p l)] r 2000 (.fork (.hole 0) (.mask (iv [(1, 2), (5, 26)]) [])) =
  (((decide ((↑(List.length (List.map I.p l)) : Int) > (16 : Int))) = true →
 (bolP false) = r) ∧
 ((decide ((↑(List.length (List.map I.p l)) : Int) > (16 : Int))) = false →
 ∀ (j : Nat → AV) (jr : Nat → Row) (g : Nat), LoopAt E1 Tryz.f15 r 0 (ref08_May_S0 l k nl full (0 : Int) j jr g))) := by kernel_rfl
theorem ref08_May_go_S0 (l : List I) (k : Nat) (nl : Bool) (full : Bool) (i : Int) (j : Nat → AV) (jr : Nat → Row) (g : Nat) (r : PV) : LoopGo E1 Tryz.f15 r 0 2000 (.fork (.val (I.p (gI l i)) (.res (bolP (rightI (gI l i))) (.fork (.lts 7 (.hole 0)) (.lts 3 (.val (I.p (gI l i)) (.lit (.lit (.res (bolP (emptyI (gI l i))) (.lit (.fork (.hole 0) (.mask (iv [(1, 2), (5, 26)]) []))))))))))) (.mask (iv [(1, 3), (5, 58)]) [])) (ref08_May_S0 l k nl full i j jr g) =
  (((decide (i < (↑(List.length (List.map I.p l)) : Int))) = true →
 (((0 : Int) ≤ i) ∧ ((nl = false) ∧ (k = 11))) ∧
 (((List.map I.p l)[Int.toNat i]?) = some (I.p (gI l i))) ∧
 (Den E1 42 [I.p (gI l i)] (bolP (rightI (gI l i)))) ∧
 ((!rightI (gI l i)) = true →
 (bolP false) = r) ∧
 ((!rightI (gI l i)) = false →
 (((0 : Int) ≤ i) ∧ ((nl = false) ∧ (k = 11))) ∧
 (((List.map I.p l)[Int.toNat i]?) = some (I.p (gI l i))) ∧
 (Den E1 43 [I.p (gI l i)] (bolP (emptyI (gI l i)))) ∧
 ((emptyI (gI l i)) = true →
 (bolP false) = r) ∧
 ((emptyI (gI l i)) = false →
 ∀ (j : Nat → AV) (jr : Nat → Row) (g : Nat), LoopAt E1 Tryz.f15 r 0 (ref08_May_S0 l k nl full (IntKind.i64.wrap (i + (1 : Int))) j jr g)))) ∧
 ((decide (i < (↑(List.length (List.map I.p l)) : Int))) = false →
 ∀ (j : Nat → AV) (jr : Nat → Row) (g : Nat), LoopAt E1 Tryz.f15 r 1 (ref08_May_S1 l k nl full (0 : Int) j jr g))) := by kernel_rfl
theorem ref08_May_go_S1 (l : List I) (k : Nat) (nl : Bool) (full : Bool) (i : Int) (j : Nat → AV) (jr : Nat → Row) (g : Nat) (r : PV) : LoopGo E1 Tryz.f15 r 1 2000 (.fork (.val (I.p (gI l i)) (.val (I.p (List.getD l (Int.toNat (IntKind.i64.wrap (i + (1 : Int)))) default)) (.res (intP (lowB { v := I.lo (gI l i), op := I.lopen (gI l i) } { v := I.lo (List.getD l (Int.toNat (IntKind.i64.wrap (i + (1 : Int)))) default), op := I.lopen (List.getD l (Int.toNat (IntKind.i64.wrap (i + (1 : Int)))) default) })) (.fork (.lts 12 (.hole 0)) (.lts 3 (.val (I.p (gI l i)) (.lts 5 (.val (I.p (List.getD l (Int.toNat (IntKind.i64.wrap (i + (1 : Int)))) default)) (.lit (.lit (.res (bolP (touchI (gI l i) (List.getD l (Int.toNat (IntKind.i64.wrap (i + (1 : Int)))) default))) (.lit (.fork (.hole 0) (.mask (iv [(1, 3), (5, 58)]) [])))))))))))))) (.hole 0)) (ref08_May_S1 l k nl full i j jr g) =
  (((decide (IntKind.i64.wrap (i + (1 : Int)) < (↑(List.length (List.map I.p l)) : Int))) = true →
 (((0 : Int) ≤ i) ∧ ((nl = false) ∧ (k = 11))) ∧
 (((List.map I.p l)[Int.toNat i]?) = some (I.p (gI l i))) ∧
 (((0 : Int) ≤ IntKind.i64.wrap (i + (1 : Int))) ∧ ((nl = false) ∧ (k = 11))) ∧
 (((List.map I.p l)[Int.toNat (IntKind.i64.wrap (i + (1 : Int)))]?) = some (I.p (List.getD l (Int.toNat (IntKind.i64.wrap (i + (1 : Int)))) default))) ∧
 (Den E1 44 [Bd.p ⟨(I.lo (gI l i)), (I.lopen (gI l i))⟩, Bd.p ⟨(I.lo (List.getD l (Int.toNat (IntKind.i64.wrap (i + (1 : Int)))) default)), (I.lopen (List.getD l (Int.toNat (IntKind.i64.wrap (i + (1 : Int)))) default))⟩] (intP (lowB { v := I.lo (gI l i), op := I.lopen (gI l i) } { v := I.lo (List.getD l (Int.toNat (IntKind.i64.wrap (i + (1 : Int)))) default), op := I.lopen (List.getD l (Int.toNat (IntKind.i64.wrap (i + (1 : Int)))) default) }))) ∧
 ((decide (lowB { v := I.lo (gI l i), op := I.lopen (gI l i) } { v := I.lo (List.getD l (Int.toNat (IntKind.i64.wrap (i + (1 : Int)))) default), op := I.lopen (List.getD l (Int.toNat (IntKind.i64.wrap (i + (1 : Int)))) default) } ≥ (0 : Int))) = true →
 (bolP false) = r) ∧
 ((decide (lowB { v := I.lo (gI l i), op := I.lopen (gI l i) } { v := I.lo (List.getD l (Int.toNat (IntKind.i64.wrap (i + (1 : Int)))) default), op := I.lopen (List.getD l (Int.toNat (IntKind.i64.wrap (i + (1 : Int)))) default) } ≥ (0 : Int))) = false →
 (((0 : Int) ≤ i) ∧ ((nl = false) ∧ (k = 11))) ∧
 (((List.map I.p l)[Int.toNat i]?) = some (I.p (gI l i))) ∧
 (((0 : Int) ≤ IntKind.i64.wrap (i + (1 : Int))) ∧ ((nl = false) ∧ (k = 11))) ∧
 (((List.map I.p l)[Int.toNat (IntKind.i64.wrap (i + (1 : Int)))]?) = some (I.p (List.getD l (Int.toNat (IntKind.i64.wrap (i + (1 : Int)))) default))) ∧
 (Den E1 45 [I.p (gI l i), I.p (List.getD l (Int.toNat (IntKind.i64.wrap (i + (1 : Int)))) default)] (bolP (touchI (gI l i) (List.getD l (Int.toNat (IntKind.i64.wrap (i + (1 : Int)))) default)))) ∧
 ((touchI (gI l i) (List.getD l (Int.toNat (IntKind.i64.wrap (i + (1 : Int)))) default)) = true →
 (bolP false) = r) ∧
 ((touchI (gI l i) (List.getD l (Int.toNat (IntKind.i64.wrap (i + (1 : Int)))) default)) = false →
 ∀ (j : Nat → AV) (jr : Nat → Row) (g : Nat), LoopAt E1 Tryz.f15 r 1 (ref08_May_S1 l k nl full (IntKind.i64.wrap (i + (1 : Int))) j jr g)))) ∧
 ((decide (IntKind.i64.wrap (i + (1 : Int)) < (↑(List.length (List.map I.p l)) : Int))) = false →
 (bolP true) = r)) := by kernel_rfl
end Go.Proofs.YtlhfgonjcpapnaaGreatDoor.Abs

namespace Go.Proofs.YtlhfgonjcpapnaaGreatDoor.Abs
open Go Go.Proofs
def stepOk (p : Option I) (x : I) : Bool := rightI x && decide (befE x.low x.high < 0) && (match p with
  | none => true
  | some p => decide (befE p.high x.low < 0))
def chainOk : Option I → List I → Bool
  | _, [] => true
  | p, x :: l => stepOk p x && chainOk (some x) l
def mayS (l : List I) : Bool := decide (l.length ≤ 16) && chainOk none l
def errS (b : Bool) : Int := if b then 0 else 80
def prevOf (l : List I) : Nat → Option I
  | 0 => none
  | i + 1 => l[i]?
def pairsS : List I → Bool
  | x :: y :: l => decide (lowB x.lb y.lb < 0) && !touchI x y && pairsS (y :: l)
  | _ => true
def mayR (l : List I) : Bool := decide (l.length ≤ 16) && l.all (fun x => rightI x && !emptyI x) && pairsS l
theorem right_lo {x : I} (h : rightI x = true) : mayV x.lo = true := by simp [rightI] at h; exact h.1.1
theorem right_hi {x : I} (h : rightI x = true) : mayV x.hi = true := by simp [rightI] at h; exact h.1.2
theorem mapI_get {l : List I} {i : Nat} (h : i < l.length) : (List.map I.p l)[i]? = some (I.p l[i]) := by simp [h]
theorem den_span_May (l : List I) (k : Nat) (nl full : Bool) (hsl : slOk 11 k nl l.length) (hok : ∀ x ∈ l, x.ok) : Den E1 12 [listP k nl full l] (intP (errS (mayS l))) := by
  refine den1 2000 _ rfl (by kernel_rfl) rfl rfl rfl (Eq.mpr (span_May_go l k nl full _) ⟨fun h => ?_, fun h j jr g => ?_⟩)
  · simp only [decide_eq_true_eq, List.length_map] at h
    have h5 : ¬ l.length ≤ 16 := by omega
    simp [mayS, h5, errS]
  simp only [decide_eq_false_iff_not, List.length_map] at h
  have h16 : l.length ≤ 16 := by omega
  have H : ∀ (n i : Nat) j jr g, i + n = l.length → mayS l = chainOk (prevOf l i) (l.drop i) → LoopAt E1 Tryz.f12 (intP (errS (mayS l))) 0 (span_May_S0 l k nl full i j jr g) := by
    intro n
    induction n with
    | zero =>
      intro i j jr g hi hd
      refine loop_go 2000 _ (Eq.mpr (span_May_go_S0 l k nl full i j jr g _) ⟨fun h => ?_, fun h => ?_⟩)
      · simp at h; omega
      · rw [hd, drop_nil (by omega)]; rfl
    | succ n ih =>
      intro i j jr g hi hd
      have h1 : i < l.length := by omega
      rw [List.drop_eq_getElem_cons h1, chainOk] at hd
      have hx : l[i].ok := hok _ (by simp)
      have hw : IntKind.wrap IntKind.i64 ((i : Int) + 1) = ((i + 1 : Nat) : Int) := wrap_i64 _ (by omega) (by omega)
      refine loop_go 2000 _ (Eq.mpr (span_May_go_S0 l k nl full i j jr g _) ⟨fun h => ?_, fun h => ?_⟩)
      · simp only [Int.toNat_natCast, gI_nat, gI_zero, getD_lt h1, hw]
        have hm := mapI_get h1
        have hn : l[i]? = some l[i] := by simp [h1]
        generalize l[i] = x at hd hx hm hn ⊢
        refine ⟨⟨by omega, sl_at hsl h1⟩, hm, trivial, trivial, den_span_right _ hx, fun h2 => ?_, fun h2 => ⟨trivial, den_low _, trivial, den_high _, den_before x.low x.high hx.lo hx.hi, fun h3 => ?_, fun h3 => ⟨fun h4 => ?_, fun h4 j jr g => ?_⟩⟩⟩
        · simp only [Bool.not_eq_true'] at h2
          rw [hd]; simp [stepOk, h2, errS]
        · simp only [decide_eq_true_eq] at h3
          have h5 : ¬ befE x.low x.high < 0 := Int.not_lt.2 h3
          rw [hd]; simp [stepOk, h5, errS]
        · simp only [decide_eq_true_eq] at h4
          obtain ⟨i, rfl⟩ : ∃ i', i = i' + 1 := ⟨i - 1, by omega⟩
          have hw2 : IntKind.wrap IntKind.i64 (((i + 1 : Nat) : Int) - 1) = (i : Int) := by rw [wrap_i64 _ (by omega) (by omega)]; omega
          have h0 : i < l.length := by omega
          have hp : prevOf l (i + 1) = some l[i] := by simp [prevOf, h0]
          rw [hp] at hd
          simp only [hw2, Int.toNat_natCast, gI_nat, gI_zero, getD_lt h0]
          have hm0 := mapI_get h0
          have hx0 : l[i].ok := hok _ (by simp)
          generalize l[i] = y at hd hm0 hx0 ⊢
          refine ⟨⟨by omega, sl_at hsl h0⟩, hm0, den_high _, trivial, den_low _, den_before y.high x.low hx0.hi hx.lo, fun h5 => ?_, fun h5 j jr g => ?_⟩
          · simp only [decide_eq_true_eq] at h5
            have h6 : ¬ befE y.high x.low < 0 := Int.not_lt.2 h5
            rw [hd]; simp [stepOk, h6, errS]
          · simp only [decide_eq_false_iff_not] at h3 h5
            have h6 : befE y.high x.low < 0 := Int.not_le.1 h5
            have h7 : befE x.low x.high < 0 := Int.not_le.1 h3
            simp only [Bool.not_eq_false'] at h2
            refine ih (i + 1 + 1) j jr g (by omega) ?_
            rw [hd]
            simp [stepOk, h2, h6, h7, prevOf, hn]
        · simp only [decide_eq_false_iff_not] at h3 h4
          have h0 : i = 0 := by omega
          subst h0
          have h7 : befE x.low x.high < 0 := Int.not_le.1 h3
          simp only [Bool.not_eq_false'] at h2
          refine ih 1 j jr g (by omega) ?_
          rw [hd]
          simp [stepOk, h2, h7, prevOf, hn]
      · simp at h; omega
  have h0 := H l.length 0 j jr g (by omega) (by simp [mayS, h16, prevOf])
  rw [Int.natCast_zero] at h0
  exact h0
theorem pairsS_short {l : List I} (h : l.length ≤ 1) : pairsS l = true := by
  cases l with
  | nil => simp [pairsS]
  | cons x l => cases l with
    | nil => simp [pairsS]
    | cons y l => simp at h
theorem den_ref08_May (l : List I) (k : Nat) (nl full : Bool) (hsl : slOk 11 k nl l.length) (hok : ∀ x ∈ l, x.ok) : Den E1 15 [listP k nl full l] (bolP (mayR l)) := by
  refine den1 2000 _ rfl (by kernel_rfl) rfl rfl rfl (Eq.mpr (ref08_May_go l k nl full _) ⟨fun h => ?_, fun h j jr g => ?_⟩)
  · simp only [decide_eq_true_eq, List.length_map] at h
    have h5 : ¬ l.length ≤ 16 := by omega
    simp [mayR, h5]
  simp only [decide_eq_false_iff_not, List.length_map] at h
  have h16 : l.length ≤ 16 := by omega
  have H2 : (∀ x ∈ l, rightI x = true) → ∀ (n i : Nat) j jr g, i + n = l.length → mayR l = pairsS (l.drop i) → LoopAt E1 Tryz.f15 (bolP (mayR l)) 1 (ref08_May_S1 l k nl full i j jr g) := by
    intro hr n
    induction n with
    | zero =>
      intro i j jr g hi hd
      have hw : IntKind.wrap IntKind.i64 ((i : Int) + 1) = ((i + 1 : Nat) : Int) := wrap_i64 _ (by omega) (by omega)
      refine loop_go 2000 _ (Eq.mpr (ref08_May_go_S1 l k nl full i j jr g _) ⟨fun h => ?_, fun h => ?_⟩)
      · rw [hw] at h; simp only [decide_eq_true_eq, List.length_map] at h; omega
      · rw [hd, drop_nil (by omega)]; rfl
    | succ n ih =>
      intro i j jr g hi hd
      have h1 : i < l.length := by omega
      have hx : l[i].ok := hok _ (by simp)
      have hw : IntKind.wrap IntKind.i64 ((i : Int) + 1) = ((i + 1 : Nat) : Int) := wrap_i64 _ (by omega) (by omega)
      refine loop_go 2000 _ (Eq.mpr (ref08_May_go_S1 l k nl full i j jr g _) ⟨fun h => ?_, fun h => ?_⟩)
      · rw [hw] at h
        simp only [decide_eq_true_eq, List.length_map] at h
        have h2 : i + 1 < l.length := by omega
        have hy : l[i+1].ok := hok _ (by simp)
        rw [List.drop_eq_getElem_cons h1, List.drop_eq_getElem_cons h2, pairsS] at hd
        simp only [hw, Int.toNat_natCast, gI_nat, gI_zero, getD_lt h1, getD_lt h2]
        have hm1 := mapI_get h1
        have hm2 := mapI_get h2
        have hr1 := hr l[i] (by simp)
        have hr2 := hr l[i+1] (by simp)
        have hdr : l.drop (i + 1) = l[i+1] :: l.drop (i + 1 + 1) := List.drop_eq_getElem_cons h2
        generalize l[i] = x at hd hx hm1 hr1 ⊢
        generalize l[i+1] = y at hd hy hm2 hr2 hdr ⊢
        refine ⟨⟨by omega, sl_at hsl h1⟩, hm1, ⟨by omega, sl_at hsl h2⟩, hm2, den_ref08_low x.lb y.lb hx.lo hy.lo (right_lo hr1) (right_lo hr2), fun h3 => ?_, fun h3 => ⟨⟨by omega, sl_at hsl h1⟩, hm1, ⟨by omega, sl_at hsl h2⟩, hm2, den_touch _ _ hx hy (right_hi hr1) (right_lo hr2), fun h4 => ?_, fun h4 j jr g => ?_⟩⟩
        · simp only [decide_eq_true_eq] at h3
          have h6 : ¬ lowB x.lb y.lb < 0 := Int.not_lt.2 h3
          rw [hd]; simp [h6]
        · rw [hd]; simp [h4]
        · simp only [decide_eq_false_iff_not] at h3
          have h6 : lowB x.lb y.lb < 0 := Int.not_le.1 h3
          refine ih (i + 1) j jr g (by omega) ?_
          rw [hd, hdr]; simp [h4, h6]
      · rw [hw] at h
        simp only [decide_eq_false_iff_not, List.length_map] at h
        rw [hd, pairsS_short (by simp; omega)]
  have H : ∀ (n i : Nat) j jr g, i + n = l.length → mayR l = ((l.drop i).all (fun x => rightI x && !emptyI x) && pairsS l) → (∀ x ∈ l.take i, rightI x = true) → LoopAt E1 Tryz.f15 (bolP (mayR l)) 0 (ref08_May_S0 l k nl full i j jr g) := by
    intro n
    induction n with
    | zero =>
      intro i j jr g hi hd hr
      refine loop_go 2000 _ (Eq.mpr (ref08_May_go_S0 l k nl full i j jr g _) ⟨fun h => ?_, fun h j jr g => ?_⟩)
      · simp at h; omega
      · rw [List.take_of_length_le (by omega)] at hr
        have h0 := H2 hr l.length 0 j jr g (by omega) (by rw [hd, drop_nil (by omega)]; rfl)
        rw [Int.natCast_zero] at h0
        exact h0
    | succ n ih =>
      intro i j jr g hi hd hr
      have h1 : i < l.length := by omega
      rw [List.drop_eq_getElem_cons h1, List.all_cons] at hd
      have hx : l[i].ok := hok _ (by simp)
      have hw : IntKind.wrap IntKind.i64 ((i : Int) + 1) = ((i + 1 : Nat) : Int) := wrap_i64 _ (by omega) (by omega)
      refine loop_go 2000 _ (Eq.mpr (ref08_May_go_S0 l k nl full i j jr g _) ⟨fun h => ?_, fun h => ?_⟩)
      · simp only [Int.toNat_natCast, gI_nat, gI_zero, getD_lt h1, hw]
        have hm1 := mapI_get h1
        have htk := List.take_succ_eq_append_getElem h1
        generalize l[i] = x at hd hx hm1 htk ⊢
        refine ⟨⟨by omega, sl_at hsl h1⟩, hm1, den_ref08_right _ hx, fun h2 => ?_, fun h2 => ⟨⟨by omega, sl_at hsl h1⟩, hm1, den_empty _ hx (right_lo (by simpa using h2)) (right_hi (by simpa using h2)), fun h3 => ?_, fun h3 j jr g => ?_⟩⟩
        · simp only [Bool.not_eq_true'] at h2
          rw [hd]; simp [h2]
        · rw [hd]; simp [h3]
        · simp only [Bool.not_eq_false'] at h2
          refine ih (i + 1) j jr g (by omega) (by rw [hd]; simp [h2, h3]) ?_
          intro z hz
          rw [htk] at hz
          rcases List.mem_append.1 hz with hz | hz
          · exact hr z hz
          · simp at hz; rw [hz]; exact h2
      · simp at h; omega
  have h0 := H l.length 0 j jr g (by omega) (by simp [mayR, h16]) (by simp)
  rw [Int.natCast_zero] at h0
  exact h0
end Go.Proofs.YtlhfgonjcpapnaaGreatDoor.Abs

namespace Go.Proofs.YtlhfgonjcpapnaaGreatDoor.Abs
open Go Go.Proofs
def joinL (sep : List UInt8) (l : List (List UInt8)) : List UInt8 := Lib.join l sep
def verL (v : V) : List UInt8 := joinL [46] [numL v.a.toNat, numL v.b.toNat, numL v.c.toNat] ++ (if v.pre.length > 0 then 45 :: joinL [46] v.pre else [])
end Go.Proofs.YtlhfgonjcpapnaaGreatDoor.Abs

namespace Go.Proofs.YtlhfgonjcpapnaaGreatDoor.Abs
open Go Go.Proofs
theorem fits_small {n : Nat} (h : n ≤ 1000000) : fitsRow n 16 = true := by
  have h1 : n * 16 ≤ room47 := by unfold room47; omega
  have h2 : n ≤ maxInt := by unfold maxInt; omega
  simp [fitsRow, h1, h2]
end Go.Proofs.YtlhfgonjcpapnaaGreatDoor.Abs

namespace Go.Proofs.YtlhfgonjcpapnaaGreatDoor.Abs
open Go Go.Proofs
structure Tr {α : Type} (f : α → α → Int) : Prop where
  ll : ∀ a b c, f a b < 0 → f b c < 0 → f a c < 0
  le : ∀ a b c, f a b < 0 → f b c = 0 → f a c < 0
  el : ∀ a b c, f a b = 0 → f b c < 0 → f a c < 0
  ee : ∀ a b c, f a b = 0 → f b c = 0 → f a c = 0
def lex2 {α : Type} (f g : α → α → Int) (a b : α) : Int := if f a b ≠ 0 then f a b else g a b
theorem Tr.lex {α : Type} {f g : α → α → Int} (hf : Tr f) (hg : Tr g) : Tr (lex2 f g) := by
  have cases2 : ∀ a b, lex2 f g a b < 0 → f a b < 0 ∨ (f a b = 0 ∧ g a b < 0) := by
    intro a b h
    unfold lex2 at h
    split at h
    · exact .inl h
    · rename_i h0; exact .inr ⟨by simpa using h0, h⟩
  have cases0 : ∀ a b, lex2 f g a b = 0 → f a b = 0 ∧ g a b = 0 := by
    intro a b h
    unfold lex2 at h
    split at h
    · rename_i h0; exact absurd h h0
    · rename_i h0; exact ⟨by simpa using h0, h⟩
  have lt : ∀ a b, f a b < 0 → lex2 f g a b < 0 := fun a b h => by unfold lex2; rw [if_pos (by omega)]; exact h
  have eq : ∀ a b, f a b = 0 → lex2 f g a b = g a b := fun a b h => by unfold lex2; rw [if_neg (by omega)]
  refine ⟨fun a b c h1 h2 => ?_, fun a b c h1 h2 => ?_, fun a b c h1 h2 => ?_, fun a b c h1 h2 => ?_⟩
  · rcases cases2 a b h1 with h1 | ⟨h1, h1'⟩ <;> rcases cases2 b c h2 with h2 | ⟨h2, h2'⟩
    · exact lt _ _ (hf.ll _ _ _ h1 h2)
    · exact lt _ _ (hf.le _ _ _ h1 h2)
    · exact lt _ _ (hf.el _ _ _ h1 h2)
    · rw [eq _ _ (hf.ee _ _ _ h1 h2)]; exact hg.ll _ _ _ h1' h2'
  · obtain ⟨h2, h2'⟩ := cases0 b c h2
    rcases cases2 a b h1 with h1 | ⟨h1, h1'⟩
    · exact lt _ _ (hf.le _ _ _ h1 h2)
    · rw [eq _ _ (hf.ee _ _ _ h1 h2)]; exact hg.le _ _ _ h1' h2'
  · obtain ⟨h1, h1'⟩ := cases0 a b h1
    rcases cases2 b c h2 with h2 | ⟨h2, h2'⟩
    · exact lt _ _ (hf.el _ _ _ h1 h2)
    · rw [eq _ _ (hf.ee _ _ _ h1 h2)]; exact hg.el _ _ _ h1' h2'
  · obtain ⟨h1, h1'⟩ := cases0 a b h1
    obtain ⟨h2, h2'⟩ := cases0 b c h2
    rw [eq _ _ (hf.ee _ _ _ h1 h2)]; exact hg.ee _ _ _ h1' h2'
theorem cmpI_lt (x y : Int) : cmpI x y < 0 ↔ x < y := by unfold cmpI; split <;> (try split) <;> omega
theorem Tr.key {α : Type} (k : α → Int) : Tr (fun a b => cmpI (k a) (k b)) := by
  refine ⟨fun a b c h1 h2 => ?_, fun a b c h1 h2 => ?_, fun a b c h1 h2 => ?_, fun a b c h1 h2 => ?_⟩ <;> simp only [cmpI_lt, cmpI_eq] at * <;> omega
def lexL {α : Type} (f : α → α → Int) : List α → List α → Int
  | [], [] => 0
  | [], _ :: _ => -1
  | _ :: _, [] => 1
  | a :: x, b :: y => if f a b ≠ 0 then f a b else lexL f x y
theorem Tr.list {α : Type} {f : α → α → Int} (hf : Tr f) : Tr (lexL f) := by
  have c2 : ∀ (a b : α) (x y : List α), lexL f (a :: x) (b :: y) < 0 → f a b < 0 ∨ (f a b = 0 ∧ lexL f x y < 0) := by
    intro a b x y h
    simp only [lexL] at h
    split at h
    · exact .inl h
    · rename_i h0; exact .inr ⟨by simpa using h0, h⟩
  have c0 : ∀ (a b : α) (x y : List α), lexL f (a :: x) (b :: y) = 0 → f a b = 0 ∧ lexL f x y = 0 := by
    intro a b x y h
    simp only [lexL] at h
    split at h
    · rename_i h0; exact absurd h h0
    · rename_i h0; exact ⟨by simpa using h0, h⟩
  have lt : ∀ (a b : α) (x y : List α), f a b < 0 → lexL f (a :: x) (b :: y) < 0 := fun a b x y h => by simp only [lexL]; rw [if_pos (by omega)]; exact h
  have eq : ∀ (a b : α) (x y : List α), f a b = 0 → lexL f (a :: x) (b :: y) = lexL f x y := fun a b x y h => by simp only [lexL]; rw [if_neg (by omega)]
  have key : ∀ (x y z : List α), (lexL f x y < 0 → lexL f y z < 0 → lexL f x z < 0) ∧ (lexL f x y < 0 → lexL f y z = 0 → lexL f x z < 0) ∧ (lexL f x y = 0 → lexL f y z < 0 → lexL f x z < 0) ∧ (lexL f x y = 0 → lexL f y z = 0 → lexL f x z = 0) := by
    intro x
    induction x with
    | nil =>
      intro y z
      cases y with
      | nil => cases z <;> simp [lexL]
      | cons b y => cases z <;> simp [lexL]
    | cons a x ih =>
      intro y z
      cases y with
      | nil => simp [lexL]
      | cons b y => cases z with
        | nil => simp [lexL]
        | cons c z =>
          obtain ⟨i1, i2, i3, i4⟩ := ih y z
          refine ⟨fun h1 h2 => ?_, fun h1 h2 => ?_, fun h1 h2 => ?_, fun h1 h2 => ?_⟩
          · rcases c2 _ _ _ _ h1 with h1 | ⟨h1, h1'⟩ <;> rcases c2 _ _ _ _ h2 with h2 | ⟨h2, h2'⟩
            · exact lt _ _ _ _ (hf.ll _ _ _ h1 h2)
            · exact lt _ _ _ _ (hf.le _ _ _ h1 h2)
            · exact lt _ _ _ _ (hf.el _ _ _ h1 h2)
            · rw [eq _ _ _ _ (hf.ee _ _ _ h1 h2)]; exact i1 h1' h2'
          · obtain ⟨h2, h2'⟩ := c0 _ _ _ _ h2
            rcases c2 _ _ _ _ h1 with h1 | ⟨h1, h1'⟩
            · exact lt _ _ _ _ (hf.le _ _ _ h1 h2)
            · rw [eq _ _ _ _ (hf.ee _ _ _ h1 h2)]; exact i2 h1' h2'
          · obtain ⟨h1, h1'⟩ := c0 _ _ _ _ h1
            rcases c2 _ _ _ _ h2 with h2 | ⟨h2, h2'⟩
            · exact lt _ _ _ _ (hf.el _ _ _ h1 h2)
            · rw [eq _ _ _ _ (hf.ee _ _ _ h1 h2)]; exact i3 h1' h2'
          · obtain ⟨h1, h1'⟩ := c0 _ _ _ _ h1
            obtain ⟨h2, h2'⟩ := c0 _ _ _ _ h2
            rw [eq _ _ _ _ (hf.ee _ _ _ h1 h2)]; exact i4 h1' h2'
  exact ⟨fun a b c => (key a b c).1, fun a b c => (key a b c).2.1, fun a b c => (key a b c).2.2.1, fun a b c => (key a b c).2.2.2⟩
theorem cmpP_lex : ∀ x y, cmpP x y = lexL ordL x y
  | [], [] => rfl
  | [], _ :: _ => rfl
  | _ :: _, [] => rfl
  | a :: x, b :: y => by simp only [cmpP, lexL, cmpP_lex x y]
theorem cmpS_lex : ∀ x y : List UInt8, cmpS x y = lexL (fun a b => cmpI (a.toNat : Int) (b.toNat : Int)) x y
  | [], [] => rfl
  | [], _ :: _ => rfl
  | a :: x, [] => by simp [cmpS, lexL, Op.bytesLess]
  | a :: x, b :: y => by
    have ih := cmpS_lex x y
    simp only [lexL, ← ih]
    by_cases h : a.toNat < b.toNat
    · have h1 : a < b := h
      have h2 : cmpI (a.toNat : Int) (b.toNat : Int) = -1 := by unfold cmpI; rw [if_pos (by omega)]
      simp [cmpS, Op.bytesLess, h1, h2]
    · by_cases h3 : b.toNat < a.toNat
      · have h1 : ¬ a < b := h
        have h4 : ¬ a = b := fun e => by subst e; omega
        have h2 : cmpI (a.toNat : Int) (b.toNat : Int) = 1 := by unfold cmpI; rw [if_neg (by omega), if_pos (by omega)]
        simp [cmpS, Op.bytesLess, h1, h2, h4]
      · have h4 : a = b := UInt8.toNat_inj.1 (by omega)
        subst h4
        have h1 : ¬ a < a := h
        simp [cmpS, Op.bytesLess, h1, cmpI_self]
theorem Tr.congr {α : Type} {f g : α → α → Int} (h : ∀ a b, f a b = g a b) (hg : Tr g) : Tr f := by
  have : f = g := by funext a b; exact h a b
  rw [this]; exact hg
theorem tr_cmpS : Tr cmpS := Tr.congr cmpS_lex (Tr.list (Tr.key fun a : UInt8 => (a.toNat : Int)))
def rankL (a : List UInt8) : Int := if digitsL a then 0 else 1
def lenL (a : List UInt8) : Int := if digitsL a then a.length else 0
theorem ordL_lex (a b : List UInt8) : ordL a b = lex2 (fun a b => cmpI (rankL a) (rankL b)) (lex2 (fun a b => cmpI (lenL a) (lenL b)) cmpS) a b := by
  unfold ordL lex2 rankL lenL
  cases h1 : digitsL a <;> cases h2 : digitsL b
  · simp [h1, h2, cmpI_self]
  · simp [h1, h2, cmpI]
  · simp [h1, h2, cmpI]
  · simp [h1, h2, cmpI_self]
theorem tr_ordL : Tr ordL := Tr.congr ordL_lex (Tr.lex (Tr.key rankL) (Tr.lex (Tr.key lenL) tr_cmpS))
def relV (v : V) : Int := if v.pre.length = 0 then 1 else 0
theorem cmpV_lex (v w : V) : cmpV v w = lex2 (fun v w => cmpI v.a w.a) (lex2 (fun v w => cmpI v.b w.b) (lex2 (fun v w => cmpI v.c w.c) (lex2 (fun v w => cmpI (relV v) (relV w)) (fun v w => lexL ordL v.pre w.pre)))) v w := by
  unfold cmpV cmpN or3 lex2
  by_cases ha : cmpI v.a w.a = 0
  · by_cases hb : cmpI v.b w.b = 0
    · by_cases hc : cmpI v.c w.c = 0
      · simp only [ha, hb, hc, ne_eq, not_true, if_false]
        unfold relV
        by_cases h1 : v.pre.length = 0
        · by_cases h2 : w.pre.length = 0
          · have e1 : v.pre = [] := List.length_eq_zero_iff.1 h1
            have e2 : w.pre = [] := List.length_eq_zero_iff.1 h2
            simp [e1, e2, cmpI_self, lexL]
          · simp [h1, h2, cmpI] <;> omega
        · by_cases h2 : w.pre.length = 0
          · simp [h1, h2, cmpI] <;> omega
          · simp [h1, h2, cmpI_self, cmpP_lex]
      · simp [ha, hb, hc]
    · simp [ha, hb]
  · simp [ha]
theorem tr_cmpV : Tr cmpV := Tr.congr cmpV_lex (Tr.lex (Tr.key V.a) (Tr.lex (Tr.key V.b) (Tr.lex (Tr.key V.c) (Tr.lex (Tr.key relV) ⟨fun a b c => (Tr.list tr_ordL).ll _ _ _, fun a b c => (Tr.list tr_ordL).le _ _ _, fun a b c => (Tr.list tr_ordL).el _ _ _, fun a b c => (Tr.list tr_ordL).ee _ _ _⟩))))
theorem ordV_may {v w : V} (hv : mayV v = true) (hw : mayV w = true) : ordV v w = cmpV v w := by simp [ordV, hv, hw]
theorem befE_fin {a b : Ed} (ha : a.less = false) (hb : b.less = false) (hva : mayV a.v = true) (hvb : mayV b.v = true) : befE a b < 0 ↔ cmpV a.v b.v < 0 ∨ (cmpV a.v b.v = 0 ∧ a.behind = false ∧ b.behind = true) := by
  simp only [befE, ha, hb, ordV_may hva hvb]
  by_cases hc : cmpV a.v b.v = 0
  · cases h1 : a.behind <;> cases h2 : b.behind <;> simp [hc]
  · simp [hc]
theorem step_empty {x : I} (hr : rightI x = true) : decide (befE x.low x.high < 0) = !emptyI x := by
  have hl := right_lo hr
  have hh := right_hi hr
  cases hs : x.less with
  | true => simp [befE, I.low, I.high, emptyI, hs]
  | false =>
    have := befE_fin (a := x.low) (b := x.high) rfl (by simp [I.high, hs]) hl hh
    rw [Bool.eq_iff_iff, decide_eq_true_eq, this]
    simp only [I.low, I.high, emptyI, hs]
    cases x.lopen <;> cases x.hopen <;> simp <;> omega
theorem befE_less {a b : Ed} (h : a.less = true) : ¬ befE a b < 0 := by
  unfold befE
  cases b.less <;> simp [h]
theorem pair_ok {p x : I} (hp : rightI p = true) (hx : rightI x = true) (hpe : befE p.low p.high < 0) : decide (befE p.high x.low < 0) = (decide (lowB p.lb x.lb < 0) && !touchI p x) := by
  have hpl := right_lo hp
  have hph := right_hi hp
  have hxl := right_lo hx
  cases hs : p.less with
  | true =>
    have h1 : ¬ befE p.high x.low < 0 := befE_less (by simp [I.high, hs])
    simp [h1, touchI, hs]
  | false =>
    have h1 := befE_fin (a := p.high) (b := x.low) (by simp [I.high, hs]) rfl hph hxl
    have h2 := (befE_fin (a := p.low) (b := p.high) rfl (by simp [I.high, hs]) hpl hph).1 hpe
    have hl : lowB p.lb x.lb < 0 ↔ cmpV p.lo x.lo < 0 ∨ (cmpV p.lo x.lo = 0 ∧ p.lopen = false ∧ x.lopen = true) := by
      simp only [lowB, I.lb]
      by_cases hc : cmpV p.lo x.lo = 0
      · rcases Bool.eq_false_or_eq_true p.lopen with h5 | h5 <;> rcases Bool.eq_false_or_eq_true x.lopen with h6 | h6 <;> simp [hc, h5, h6]
      · simp [hc]
    have ht : touchI p x = false ↔ cmpV p.hi x.lo < 0 ∨ (cmpV p.hi x.lo = 0 ∧ p.hopen = true ∧ x.lopen = true) := by
      simp only [touchI, hs]
      by_cases hc : cmpV p.hi x.lo = 0
      · rcases Bool.eq_false_or_eq_true p.hopen with h5 | h5 <;> rcases Bool.eq_false_or_eq_true x.lopen with h6 | h6 <;> simp [hc, h5, h6]
      · simp [hc]; omega
    have hboth : befE p.high x.low < 0 ↔ touchI p x = false := by
      rw [h1, ht]
      simp only [I.high, I.low]
      cases p.hopen <;> cases x.lopen <;> simp
    have himp : befE p.high x.low < 0 → lowB p.lb x.lb < 0 := by
      intro h
      have h3 := h1.1 h
      rw [hl]
      simp only [I.high, I.low] at h2 h3
      rcases h2 with h2 | ⟨h2, h2', h2''⟩ <;> rcases h3 with h3 | ⟨h3, h3', h3''⟩
      · exact .inl (tr_cmpV.ll _ _ _ h2 h3)
      · exact .inl (tr_cmpV.le _ _ _ h2 h3)
      · exact .inl (tr_cmpV.el _ _ _ h2 h3)
      · simp at h2'' h3'
        rw [h2''] at h3'; cases h3'
    rw [Bool.eq_iff_iff]
    simp only [decide_eq_true_eq, Bool.and_eq_true, Bool.not_eq_true']
    constructor
    · exact fun h => ⟨himp h, hboth.1 h⟩
    · exact fun h => hboth.2 h.2
theorem chain_pairs : ∀ (l : List I) (p : I), rightI p = true → befE p.low p.high < 0 → chainOk (some p) l = (l.all (fun x => rightI x && !emptyI x) && pairsS (p :: l))
  | [], p, _, _ => by simp [chainOk, pairsS]
  | x :: l, p, hp, hpe => by
    simp only [chainOk, stepOk, List.all_cons, pairsS]
    cases hr : rightI x with
    | false => simp
    | true =>
      rw [pair_ok hp hr hpe]
      have he := step_empty hr
      cases hem : emptyI x with
      | true => rw [hem] at he; simp [he]
      | false =>
        rw [hem] at he
        have he' : befE x.low x.high < 0 := by simpa using he
        rw [chain_pairs l x hr he', he]
        cases decide (lowB p.lb x.lb < 0) <;> cases touchI p x <;> simp
theorem may_same (l : List I) : mayS l = mayR l := by
  unfold mayS mayR
  cases l with
  | nil => simp [chainOk, pairsS]
  | cons x l =>
    simp only [chainOk, stepOk, List.all_cons]
    cases hr : rightI x with
    | false => simp
    | true =>
      have he := step_empty hr
      cases hem : emptyI x with
      | true => rw [hem] at he; simp [he]
      | false =>
        rw [hem] at he
        have he' : befE x.low x.high < 0 := by simpa using he
        rw [chain_pairs l x hr he', he]
        simp [Bool.and_assoc]
end Go.Proofs.YtlhfgonjcpapnaaGreatDoor.Abs

namespace Go.Proofs.YtlhfgonjcpapnaaGreatDoor.Abs
open Go Go.Proofs
def twV (v : V) : V := if v.pre.length = 0 then ⟨v.a, v.b, v.c, 0, true, true, []⟩ else ⟨v.a, v.b, v.c, 1, false, false, v.pre⟩
def twI (x : I) : I := ⟨twV x.lo, x.lopen, twV x.hi, x.hopen, x.less⟩
def sameI (x y : I) : Bool := x.lopen == y.lopen && x.hopen == y.hopen && x.less == y.less && sameV x.lo y.lo && sameV x.hi y.hi
def sameLs : List I → List I → Bool
  | [], [] => true
  | x :: a, y :: b => sameI x y && sameLs a b
  | _, _ => false
end Go.Proofs.YtlhfgonjcpapnaaGreatDoor.Abs

namespace Go.Proofs.YtlhfgonjcpapnaaGreatDoor.Abs
open Go Go.Proofs
def law08_same_S0 (l : List I) (m : List I) (k : Nat) (k' : Nat) (nl : Bool) (full : Bool) (nl' : Bool) (full' : Bool) (i : Int) (j : Nat → AV) (jr : Nat → Row) (g : Nat) : St :=
  { t := [.pv (.sl k nl full (List.map I.p l)), .pv (.sl k' nl' full' (List.map I.p m)), j 2, j 3, j 4, intA i] ++ jj j 6 84, h := [List.replicate 90 row0], g := g }
theorem law08_same_go (l : List I) (m : List I) (k : Nat) (k' : Nat) (nl : Bool) (full : Bool) (nl' : Bool) (full' : Bool) (r : PV) : FnGo E1 Tryz.f16 [.sl k nl full (List.map I.p l), .sl k' nl' full' (List.map I.p m)] r 2000 (.fork (.hole 0) (.mask (iv [(2, 4), (6, 89)]) [])) =
  ((((↑(List.length (List.map I.p l)) : Int) != (↑(List.length (List.map I.p m)) : Int)) = true →
 (bolP false) = r) ∧
 (((↑(List.length (List.map I.p l)) : Int) != (↑(List.length (List.map I.p m)) : Int)) = false →
 AtAll Tryz.f16 r 0 (law08_same_S0 l m k k' nl full nl' full' 0))) := by kernel_rfl
theorem law08_same_go_S0 (l : List I) (m : List I) (k : Nat) (k' : Nat) (nl : Bool) (full : Bool) (nl' : Bool) (full' : Bool) (i : Int) (j : Nat → AV) (jr : Nat → Row) (g : Nat) (r : PV) : LoopGo E1 Tryz.f16 r 0 2000 (.fork (.val (I.p (gI l i)) (.val (I.p (List.getD m (Int.toNat i) default)) (.fork (.lts 60 (.hole 0)) (.lts 3 (.val (I.p (gI l i)) (.lts 6 (.val (I.p (List.getD m (Int.toNat i) default)) (.lts 5 (.fork (.lts 45 (.hole 0)) (.lts 3 (.val (I.p (gI l i)) (.lts 5 (.val (I.p (List.getD m (Int.toNat i) default)) (.lts 4 (.fork (.lts 32 (.hole 0)) (.lts 3 (.val (I.p (gI l i)) (.lts 6 (.val (I.p (List.getD m (Int.toNat i) default)) (.lts 4 (.res (bolP (sameV (I.lo (gI l i)) (I.lo (List.getD m (Int.toNat i) default)))) (.lit (.lit (.fork (.lts 16 (.hole 0)) (.lts 3 (.val (I.p (gI l i)) (.lts 6 (.val (I.p (List.getD m (Int.toNat i) default)) (.lts 4 (.res (bolP (sameV (I.hi (gI l i)) (I.hi (List.getD m (Int.toNat i) default)))) (.lit (.lit (.fork (.hole 0) (.mask (iv [(2, 4), (6, 89)]) [])))))))))))))))))))))))))))))))))) (.hole 0)) (law08_same_S0 l m k k' nl full nl' full' i j jr g) =
  (((decide (i < (↑(List.length (List.map I.p l)) : Int))) = true →
 (((0 : Int) ≤ i) ∧ ((nl = false) ∧ (k = 11))) ∧
 (((List.map I.p l)[Int.toNat i]?) = some (I.p (gI l i))) ∧
 (((0 : Int) ≤ i) ∧ ((nl' = false) ∧ (k' = 11))) ∧
 (((List.map I.p m)[Int.toNat i]?) = some (I.p (List.getD m (Int.toNat i) default))) ∧
 ((!I.lopen (gI l i) == I.lopen (List.getD m (Int.toNat i) default)) = true →
 (bolP false) = r) ∧
 ((!I.lopen (gI l i) == I.lopen (List.getD m (Int.toNat i) default)) = false →
 (((0 : Int) ≤ i) ∧ ((nl = false) ∧ (k = 11))) ∧
 (((List.map I.p l)[Int.toNat i]?) = some (I.p (gI l i))) ∧
 (((0 : Int) ≤ i) ∧ ((nl' = false) ∧ (k' = 11))) ∧
 (((List.map I.p m)[Int.toNat i]?) = some (I.p (List.getD m (Int.toNat i) default))) ∧
 ((!I.hopen (gI l i) == I.hopen (List.getD m (Int.toNat i) default)) = true →
 (bolP false) = r) ∧
 ((!I.hopen (gI l i) == I.hopen (List.getD m (Int.toNat i) default)) = false →
 (((0 : Int) ≤ i) ∧ ((nl = false) ∧ (k = 11))) ∧
 (((List.map I.p l)[Int.toNat i]?) = some (I.p (gI l i))) ∧
 (((0 : Int) ≤ i) ∧ ((nl' = false) ∧ (k' = 11))) ∧
 (((List.map I.p m)[Int.toNat i]?) = some (I.p (List.getD m (Int.toNat i) default))) ∧
 ((!I.less (gI l i) == I.less (List.getD m (Int.toNat i) default)) = true →
 (bolP false) = r) ∧
 ((!I.less (gI l i) == I.less (List.getD m (Int.toNat i) default)) = false →
 (((0 : Int) ≤ i) ∧ ((nl = false) ∧ (k = 11))) ∧
 (((List.map I.p l)[Int.toNat i]?) = some (I.p (gI l i))) ∧
 (((0 : Int) ≤ i) ∧ ((nl' = false) ∧ (k' = 11))) ∧
 (((List.map I.p m)[Int.toNat i]?) = some (I.p (List.getD m (Int.toNat i) default))) ∧
 (Den E1 46 [V.p (I.lo (gI l i)), V.p (I.lo (List.getD m (Int.toNat i) default))] (bolP (sameV (I.lo (gI l i)) (I.lo (List.getD m (Int.toNat i) default))))) ∧
 ((!sameV (I.lo (gI l i)) (I.lo (List.getD m (Int.toNat i) default))) = true →
 (bolP false) = r) ∧
 ((!sameV (I.lo (gI l i)) (I.lo (List.getD m (Int.toNat i) default))) = false →
 (((0 : Int) ≤ i) ∧ ((nl = false) ∧ (k = 11))) ∧
 (((List.map I.p l)[Int.toNat i]?) = some (I.p (gI l i))) ∧
 (((0 : Int) ≤ i) ∧ ((nl' = false) ∧ (k' = 11))) ∧
 (((List.map I.p m)[Int.toNat i]?) = some (I.p (List.getD m (Int.toNat i) default))) ∧
 (Den E1 46 [V.p (I.hi (gI l i)), V.p (I.hi (List.getD m (Int.toNat i) default))] (bolP (sameV (I.hi (gI l i)) (I.hi (List.getD m (Int.toNat i) default))))) ∧
 ((!sameV (I.hi (gI l i)) (I.hi (List.getD m (Int.toNat i) default))) = true →
 (bolP false) = r) ∧
 ((!sameV (I.hi (gI l i)) (I.hi (List.getD m (Int.toNat i) default))) = false →
 AtAll Tryz.f16 r 0 (law08_same_S0 l m k k' nl full nl' full' (IntKind.i64.wrap (i + (1 : Int)))))))))) ∧
 ((decide (i < (↑(List.length (List.map I.p l)) : Int))) = false →
 (bolP true) = r)) := by kernel_rfl
def law08_twin_S0 (l : List I) (k : Nat) (nl : Bool) (full : Bool) (i : Int) (j : Nat → AV) (jr : Nat → Row) (g : Nat) : St :=
  { t := [.pv (.sl k nl full (List.map I.p l)), j 1, .pv (.sl 0 true true []), .pv (.sl 0 true true []), intA i] ++ jj j 5 31 ++ [undefA], h := [[row0, row0, row0, row0, row0, jr 5, row0, row0, row0, row0, row0, row0, row0, row0, row0, row0, row0, row0, row0, row0, jr 20, row0, row0, row0, row0, row0, row0, row0, jr 28, row0, row0, row0, row0, row0, jr 34, row0, row0]], g := g }
def law08_twin_S1 (l : List I) (k : Nat) (nl : Bool) (full : Bool) (i : Int) (gm : Nat) (n : Nat) (xs : List PV) (j : Nat → AV) (jr : Nat → Row) (g : Nat) : St :=
  { t := [.pv (.sl k nl full (List.map I.p l)), j 1, .pv (.sl 0 true true []), .msl 0 35 gm 0 n false, intA i] ++ jj j 5 31 ++ [undefA], h := [[row0, row0, row0, row0, row0, jr 5, row0, row0, row0, row0, row0, row0, row0, row0, row0, row0, row0, row0, row0, row0, jr 20, row0, row0, row0, row0, row0, row0, row0, jr 28, row0, row0, row0, row0, row0, jr 34, ⟨gm, .row 11 63 xs false⟩, row0]], g := g }
theorem law08_twin_go (l : List I) (k : Nat) (nl : Bool) (full : Bool) (r : PV) : FnGo E1 Tryz.f11 [.sl k nl full (List.map I.p l)] r 2000 (.mask (iv [(1, 1), (5, 35)]) [5, 20, 28, 34]) =
  (AtAll Tryz.f11 r 0 (law08_twin_S0 l k nl full 0)) := by kernel_rfl
theorem law08_twin_go_S0 (l : List I) (k : Nat) (nl : Bool) (full : Bool) (i : Int) (j : Nat → AV) (jr : Nat → Row) (g : Nat) (r : PV) : LoopGo E1 Tryz.f11 r 0 2000 (.fork (.val (I.p (gI l i)) (.fork (.fork (.lit (.lit (.mask (iv [(1, 1), (5, 35)]) [5, 20, 28, 34]))) (.lit (.frz [itvP (V.a (I.lo (gI l i))) (V.b (I.lo (gI l i))) (V.c (I.lo (gI l i))) (.sl 0 true true []) (I.lopen (gI l i)) (V.a (I.hi (gI l i))) (V.b (I.hi (gI l i))) (V.c (I.hi (gI l i))) (.sl 1 false false (List.map strP (V.pre (I.hi (gI l i))))) (I.hopen (gI l i)) (I.less (gI l i))] [[row0, row0, row0, row0, row0, ⟨g + 4 + 4, .box (.agg [.pv (.lit (.int .u32 (V.a (I.lo (gI l i))))), .pv (.lit (.int .u32 (V.b (I.lo (gI l i))))), .pv (.lit (.int .u32 (V.c (I.lo (gI l i))))), .pv (.sl 0 true true []), bolA (I.lopen (gI l i)), .pv (.lit (.int .u32 (V.a (I.hi (gI l i))))), .pv (.lit (.int .u32 (V.b (I.hi (gI l i))))), .pv (.lit (.int .u32 (V.c (I.hi (gI l i))))), .msl 0 28 (g + 4 + 6 + 9 + 4) 0 (List.length (List.map strP (V.pre (I.hi (gI l i))))) false, bolA (I.hopen (gI l i)), bolA (I.less (gI l i))]) false⟩, row0, row0, row0, row0, row0, row0, row0, row0, row0, row0, row0, row0, row0, row0, jr 20, row0, row0, row0, row0, row0, row0, row0, ⟨g + 4 + 6 + 9 + 4, .row 1 9 (List.map strP (V.pre (I.hi (gI l i)))) true⟩, row0, row0, row0, row0, row0, jr 34, row0, row0]] (.lit (.lit (.mask (iv [(1, 1), (5, 35)]) [5, 20, 28, 34])))))) (.lit (.fork (.frz [itvP (V.a (I.lo (gI l i))) (V.b (I.lo (gI l i))) (V.c (I.lo (gI l i))) (.sl 1 false false (List.map strP (V.pre (I.lo (gI l i))))) (I.lopen (gI l i)) (V.a (I.hi (gI l i))) (V.b (I.hi (gI l i))) (V.c (I.hi (gI l i))) (.sl 0 true true []) (I.hopen (gI l i)) (I.less (gI l i))] [[row0, row0, row0, row0, row0, ⟨g + 4 + 4, .box (.agg [.pv (.lit (.int .u32 (V.a (I.lo (gI l i))))), .pv (.lit (.int .u32 (V.b (I.lo (gI l i))))), .pv (.lit (.int .u32 (V.c (I.lo (gI l i))))), .msl 0 20 (g + 4 + 6 + 4) 0 (List.length (List.map strP (V.pre (I.lo (gI l i))))) false, bolA (I.lopen (gI l i)), .pv (.lit (.int .u32 (V.a (I.hi (gI l i))))), .pv (.lit (.int .u32 (V.b (I.hi (gI l i))))), .pv (.lit (.int .u32 (V.c (I.hi (gI l i))))), .pv (.sl 0 true true []), bolA (I.hopen (gI l i)), bolA (I.less (gI l i))]) false⟩, row0, row0, row0, row0, row0, row0, row0, row0, row0, row0, row0, row0, row0, row0, ⟨g + 4 + 6 + 4, .row 1 9 (List.map strP (V.pre (I.lo (gI l i)))) true⟩, row0, row0, row0, row0, row0, row0, row0, jr 28, row0, row0, row0, row0, row0, jr 34, row0, row0]] (.lit (.lit (.mask (iv [(1, 1), (5, 35)]) [5, 20, 28, 34])))) (.lit (.frz [itvP (V.a (I.lo (gI l i))) (V.b (I.lo (gI l i))) (V.c (I.lo (gI l i))) (.sl 1 false false (List.map strP (V.pre (I.lo (gI l i))))) (I.lopen (gI l i)) (V.a (I.hi (gI l i))) (V.b (I.hi (gI l i))) (V.c (I.hi (gI l i))) (.sl 1 false false (List.map strP (V.pre (I.hi (gI l i))))) (I.hopen (gI l i)) (I.less (gI l i))] [[row0, row0, row0, row0, row0, ⟨g + 4 + 4, .box (.agg [.pv (.lit (.int .u32 (V.a (I.lo (gI l i))))), .pv (.lit (.int .u32 (V.b (I.lo (gI l i))))), .pv (.lit (.int .u32 (V.c (I.lo (gI l i))))), .msl 0 20 (g + 4 + 6 + 4) 0 (List.length (List.map strP (V.pre (I.lo (gI l i))))) false, bolA (I.lopen (gI l i)), .pv (.lit (.int .u32 (V.a (I.hi (gI l i))))), .pv (.lit (.int .u32 (V.b (I.hi (gI l i))))), .pv (.lit (.int .u32 (V.c (I.hi (gI l i))))), .msl 0 28 (g + 4 + 6 + 9 + 4) 0 (List.length (List.map strP (V.pre (I.hi (gI l i))))) false, bolA (I.hopen (gI l i)), bolA (I.less (gI l i))]) false⟩, row0, row0, row0, row0, row0, row0, row0, row0, row0, row0, row0, row0, row0, row0, ⟨g + 4 + 6 + 4, .row 1 9 (List.map strP (V.pre (I.lo (gI l i)))) true⟩, row0, row0, row0, row0, row0, row0, row0, ⟨g + 4 + 6 + 9 + 4, .row 1 9 (List.map strP (V.pre (I.hi (gI l i)))) true⟩, row0, row0, row0, row0, row0, jr 34, row0, row0]] (.lit (.lit (.mask (iv [(1, 1), (5, 35)]) [5, 20, 28, 34]))))))))) (.hole 0)) (law08_twin_S0 l k nl full i j jr g) =
  (((decide (i < (↑(List.length (List.map I.p l)) : Int))) = true →
 (((0 : Int) ≤ i) ∧ ((nl = false) ∧ (k = 11))) ∧
 (((List.map I.p l)[Int.toNat i]?) = some (I.p (gI l i))) ∧
 ((g + 4 + 4) = g + 4 + 4) ∧
 ((g + 4 + 4) = g + 4 + 4) ∧
 ((((V.nl (I.lo (gI l i))) = true → (List.map strP (V.pre (I.lo (gI l i)))) = [])) ∧ (((V.nl (I.lo (gI l i))) = false → (V.k (I.lo (gI l i))) = 1))) ∧
 ((List.isEmpty (List.map strP (V.pre (I.lo (gI l i))))) = true →
 ((g + 4 + 4) = g + 4 + 4) ∧
 ((g + 4 + 4) = g + 4 + 4) ∧
 ((((V.nl (I.hi (gI l i))) = true → (List.map strP (V.pre (I.hi (gI l i)))) = [])) ∧ (((V.nl (I.hi (gI l i))) = false → (V.k (I.hi (gI l i))) = 1))) ∧
 ((List.isEmpty (List.map strP (V.pre (I.hi (gI l i))))) = true →
 ((g + 4 + 4) = g + 4 + 4) ∧
 ((g + 4 + 4) = g + 4 + 4) ∧
 ((g + 4 + 6 + 9 + 9 + 2) = g + 4 + 6 + 9 + 9 + 2) ∧
 (((11 : Nat) = 11) ∧ ((1 : Nat) ≤ (1 : Nat))) ∧
 (((0 : Nat) = 0) ∧ (true = true)) ∧
 (AtAll Tryz.f11 r 0 (law08_twin_S1 l k nl full (IntKind.i64.wrap (i + (1 : Int))) (g + 4 + 6 + 9 + 9 + 3) 1 [itvP (V.a (I.lo (gI l i))) (V.b (I.lo (gI l i))) (V.c (I.lo (gI l i))) (.sl 0 true true []) (I.lopen (gI l i)) (V.a (I.hi (gI l i))) (V.b (I.hi (gI l i))) (V.c (I.hi (gI l i))) (.sl 0 true true []) (I.hopen (gI l i)) (I.less (gI l i))]))) ∧
 ((List.isEmpty (List.map strP (V.pre (I.hi (gI l i))))) = false →
 (((0 : Nat) = 0) ∧ ((fitsRow (List.length (List.map strP (V.pre (I.hi (gI l i))))) (16 : Nat)) = true)) ∧
 ((g + 4 + 4) = g + 4 + 4) ∧
 ((g + 4 + 4) = g + 4 + 4) ∧
 (frzs frzDepth [.agg [.pv (.lit (.int .u32 (V.a (I.lo (gI l i))))), .pv (.lit (.int .u32 (V.b (I.lo (gI l i))))), .pv (.lit (.int .u32 (V.c (I.lo (gI l i))))), .pv (.sl 0 true true []), bolA (I.lopen (gI l i)), .pv (.lit (.int .u32 (V.a (I.hi (gI l i))))), .pv (.lit (.int .u32 (V.b (I.hi (gI l i))))), .pv (.lit (.int .u32 (V.c (I.hi (gI l i))))), .msl 0 28 (g + 4 + 6 + 9 + 4) 0 (List.length (List.map strP (V.pre (I.hi (gI l i))))) false, bolA (I.hopen (gI l i)), bolA (I.less (gI l i))]] [[row0, row0, row0, row0, row0, ⟨g + 4 + 4, .box (.agg [.pv (.lit (.int .u32 (V.a (I.lo (gI l i))))), .pv (.lit (.int .u32 (V.b (I.lo (gI l i))))), .pv (.lit (.int .u32 (V.c (I.lo (gI l i))))), .pv (.sl 0 true true []), bolA (I.lopen (gI l i)), .pv (.lit (.int .u32 (V.a (I.hi (gI l i))))), .pv (.lit (.int .u32 (V.b (I.hi (gI l i))))), .pv (.lit (.int .u32 (V.c (I.hi (gI l i))))), .msl 0 28 (g + 4 + 6 + 9 + 4) 0 (List.length (List.map strP (V.pre (I.hi (gI l i))))) false, bolA (I.hopen (gI l i)), bolA (I.less (gI l i))]) false⟩, row0, row0, row0, row0, row0, row0, row0, row0, row0, row0, row0, row0, row0, row0, jr 20, row0, row0, row0, row0, row0, row0, row0, ⟨g + 4 + 6 + 9 + 4, .row 1 9 (List.map strP (V.pre (I.hi (gI l i)))) false⟩, row0, row0, row0, row0, row0, jr 34, row0, row0]] = some ([itvP (V.a (I.lo (gI l i))) (V.b (I.lo (gI l i))) (V.c (I.lo (gI l i))) (.sl 0 true true []) (I.lopen (gI l i)) (V.a (I.hi (gI l i))) (V.b (I.hi (gI l i))) (V.c (I.hi (gI l i))) (.sl 1 false false (List.map strP (V.pre (I.hi (gI l i))))) (I.hopen (gI l i)) (I.less (gI l i))], [[row0, row0, row0, row0, row0, ⟨g + 4 + 4, .box (.agg [.pv (.lit (.int .u32 (V.a (I.lo (gI l i))))), .pv (.lit (.int .u32 (V.b (I.lo (gI l i))))), .pv (.lit (.int .u32 (V.c (I.lo (gI l i))))), .pv (.sl 0 true true []), bolA (I.lopen (gI l i)), .pv (.lit (.int .u32 (V.a (I.hi (gI l i))))), .pv (.lit (.int .u32 (V.b (I.hi (gI l i))))), .pv (.lit (.int .u32 (V.c (I.hi (gI l i))))), .msl 0 28 (g + 4 + 6 + 9 + 4) 0 (List.length (List.map strP (V.pre (I.hi (gI l i))))) false, bolA (I.hopen (gI l i)), bolA (I.less (gI l i))]) false⟩, row0, row0, row0, row0, row0, row0, row0, row0, row0, row0, row0, row0, row0, row0, jr 20, row0, row0, row0, row0, row0, row0, row0, ⟨g + 4 + 6 + 9 + 4, .row 1 9 (List.map strP (V.pre (I.hi (gI l i)))) true⟩, row0, row0, row0, row0, row0, jr 34, row0, row0]])) ∧
 ((g + 4 + 6 + 9 + 9 + 2) = g + 4 + 6 + 9 + 9 + 2) ∧
 (((11 : Nat) = 11) ∧ ((1 : Nat) ≤ (1 : Nat))) ∧
 (((0 : Nat) = 0) ∧ (true = true)) ∧
 (AtAll Tryz.f11 r 0 (law08_twin_S1 l k nl full (IntKind.i64.wrap (i + (1 : Int))) (g + 4 + 6 + 9 + 9 + 3) 1 [itvP (V.a (I.lo (gI l i))) (V.b (I.lo (gI l i))) (V.c (I.lo (gI l i))) (.sl 0 true true []) (I.lopen (gI l i)) (V.a (I.hi (gI l i))) (V.b (I.hi (gI l i))) (V.c (I.hi (gI l i))) (.sl 1 false false (List.map strP (V.pre (I.hi (gI l i))))) (I.hopen (gI l i)) (I.less (gI l i))])))) ∧
 ((List.isEmpty (List.map strP (V.pre (I.lo (gI l i))))) = false →
 (((0 : Nat) = 0) ∧ ((fitsRow (List.length (List.map strP (V.pre (I.lo (gI l i))))) (16 : Nat)) = true)) ∧
 ((g + 4 + 4) = g + 4 + 4) ∧
 ((g + 4 + 4) = g + 4 + 4) ∧
 ((((V.nl (I.hi (gI l i))) = true → (List.map strP (V.pre (I.hi (gI l i)))) = [])) ∧ (((V.nl (I.hi (gI l i))) = false → (V.k (I.hi (gI l i))) = 1))) ∧
 ((List.isEmpty (List.map strP (V.pre (I.hi (gI l i))))) = true →
 ((g + 4 + 4) = g + 4 + 4) ∧
 ((g + 4 + 4) = g + 4 + 4) ∧
 (frzs frzDepth [.agg [.pv (.lit (.int .u32 (V.a (I.lo (gI l i))))), .pv (.lit (.int .u32 (V.b (I.lo (gI l i))))), .pv (.lit (.int .u32 (V.c (I.lo (gI l i))))), .msl 0 20 (g + 4 + 6 + 4) 0 (List.length (List.map strP (V.pre (I.lo (gI l i))))) false, bolA (I.lopen (gI l i)), .pv (.lit (.int .u32 (V.a (I.hi (gI l i))))), .pv (.lit (.int .u32 (V.b (I.hi (gI l i))))), .pv (.lit (.int .u32 (V.c (I.hi (gI l i))))), .pv (.sl 0 true true []), bolA (I.hopen (gI l i)), bolA (I.less (gI l i))]] [[row0, row0, row0, row0, row0, ⟨g + 4 + 4, .box (.agg [.pv (.lit (.int .u32 (V.a (I.lo (gI l i))))), .pv (.lit (.int .u32 (V.b (I.lo (gI l i))))), .pv (.lit (.int .u32 (V.c (I.lo (gI l i))))), .msl 0 20 (g + 4 + 6 + 4) 0 (List.length (List.map strP (V.pre (I.lo (gI l i))))) false, bolA (I.lopen (gI l i)), .pv (.lit (.int .u32 (V.a (I.hi (gI l i))))), .pv (.lit (.int .u32 (V.b (I.hi (gI l i))))), .pv (.lit (.int .u32 (V.c (I.hi (gI l i))))), .pv (.sl 0 true true []), bolA (I.hopen (gI l i)), bolA (I.less (gI l i))]) false⟩, row0, row0, row0, row0, row0, row0, row0, row0, row0, row0, row0, row0, row0, row0, ⟨g + 4 + 6 + 4, .row 1 9 (List.map strP (V.pre (I.lo (gI l i)))) false⟩, row0, row0, row0, row0, row0, row0, row0, jr 28, row0, row0, row0, row0, row0, jr 34, row0, row0]] = some ([itvP (V.a (I.lo (gI l i))) (V.b (I.lo (gI l i))) (V.c (I.lo (gI l i))) (.sl 1 false false (List.map strP (V.pre (I.lo (gI l i))))) (I.lopen (gI l i)) (V.a (I.hi (gI l i))) (V.b (I.hi (gI l i))) (V.c (I.hi (gI l i))) (.sl 0 true true []) (I.hopen (gI l i)) (I.less (gI l i))], [[row0, row0, row0, row0, row0, ⟨g + 4 + 4, .box (.agg [.pv (.lit (.int .u32 (V.a (I.lo (gI l i))))), .pv (.lit (.int .u32 (V.b (I.lo (gI l i))))), .pv (.lit (.int .u32 (V.c (I.lo (gI l i))))), .msl 0 20 (g + 4 + 6 + 4) 0 (List.length (List.map strP (V.pre (I.lo (gI l i))))) false, bolA (I.lopen (gI l i)), .pv (.lit (.int .u32 (V.a (I.hi (gI l i))))), .pv (.lit (.int .u32 (V.b (I.hi (gI l i))))), .pv (.lit (.int .u32 (V.c (I.hi (gI l i))))), .pv (.sl 0 true true []), bolA (I.hopen (gI l i)), bolA (I.less (gI l i))]) false⟩, row0, row0, row0, row0, row0, row0, row0, row0, row0, row0, row0, row0, row0, row0, ⟨g + 4 + 6 + 4, .row 1 9 (List.map strP (V.pre (I.lo (gI l i)))) true⟩, row0, row0, row0, row0, row0, row0, row0, jr 28, row0, row0, row0, row0, row0, jr 34, row0, row0]])) ∧
 ((g + 4 + 6 + 9 + 9 + 2) = g + 4 + 6 + 9 + 9 + 2) ∧
 (((11 : Nat) = 11) ∧ ((1 : Nat) ≤ (1 : Nat))) ∧
 (((0 : Nat) = 0) ∧ (true = true)) ∧
 (AtAll Tryz.f11 r 0 (law08_twin_S1 l k nl full (IntKind.i64.wrap (i + (1 : Int))) (g + 4 + 6 + 9 + 9 + 3) 1 [itvP (V.a (I.lo (gI l i))) (V.b (I.lo (gI l i))) (V.c (I.lo (gI l i))) (.sl 1 false false (List.map strP (V.pre (I.lo (gI l i))))) (I.lopen (gI l i)) (V.a (I.hi (gI l i))) (V.b (I.hi (gI l i))) (V.c (I.hi (gI l i))) (.sl 0 true true []) (I.hopen (gI l i)) (I.less (gI l i))]))) ∧
 ((List.isEmpty (List.map strP (V.pre (I.hi (gI l i))))) = false →
 (((0 : Nat) = 0) ∧ ((fitsRow (List.length (List.map strP (V.pre (I.hi (gI l i))))) (16 : Nat)) = true)) ∧
 ((g + 4 + 4) = g + 4 + 4) ∧
 ((g + 4 + 4) = g + 4 + 4) ∧
 (frzs frzDepth [.agg [.pv (.lit (.int .u32 (V.a (I.lo (gI l i))))), .pv (.lit (.int .u32 (V.b (I.lo (gI l i))))), .pv (.lit (.int .u32 (V.c (I.lo (gI l i))))), .msl 0 20 (g + 4 + 6 + 4) 0 (List.length (List.map strP (V.pre (I.lo (gI l i))))) false, bolA (I.lopen (gI l i)), .pv (.lit (.int .u32 (V.a (I.hi (gI l i))))), .pv (.lit (.int .u32 (V.b (I.hi (gI l i))))), .pv (.lit (.int .u32 (V.c (I.hi (gI l i))))), .msl 0 28 (g + 4 + 6 + 9 + 4) 0 (List.length (List.map strP (V.pre (I.hi (gI l i))))) false, bolA (I.hopen (gI l i)), bolA (I.less (gI l i))]] [[row0, row0, row0, row0, row0, ⟨g + 4 + 4, .box (.agg [.pv (.lit (.int .u32 (V.a (I.lo (gI l i))))), .pv (.lit (.int .u32 (V.b (I.lo (gI l i))))), .pv (.lit (.int .u32 (V.c (I.lo (gI l i))))), .msl 0 20 (g + 4 + 6 + 4) 0 (List.length (List.map strP (V.pre (I.lo (gI l i))))) false, bolA (I.lopen (gI l i)), .pv (.lit (.int .u32 (V.a (I.hi (gI l i))))), .pv (.lit (.int .u32 (V.b (I.hi (gI l i))))), .pv (.lit (.int .u32 (V.c (I.hi (gI l i))))), .msl 0 28 (g + 4 + 6 + 9 + 4) 0 (List.length (List.map strP (V.pre (I.hi (gI l i))))) false, bolA (I.hopen (gI l i)), bolA (I.less (gI l i))]) false⟩, row0, row0, row0, row0, row0, row0, row0, row0, row0, row0, row0, row0, row0, row0, ⟨g + 4 + 6 + 4, .row 1 9 (List.map strP (V.pre (I.lo (gI l i)))) false⟩, row0, row0, row0, row0, row0, row0, row0, ⟨g + 4 + 6 + 9 + 4, .row 1 9 (List.map strP (V.pre (I.hi (gI l i)))) false⟩, row0, row0, row0, row0, row0, jr 34, row0, row0]] = some ([itvP (V.a (I.lo (gI l i))) (V.b (I.lo (gI l i))) (V.c (I.lo (gI l i))) (.sl 1 false false (List.map strP (V.pre (I.lo (gI l i))))) (I.lopen (gI l i)) (V.a (I.hi (gI l i))) (V.b (I.hi (gI l i))) (V.c (I.hi (gI l i))) (.sl 1 false false (List.map strP (V.pre (I.hi (gI l i))))) (I.hopen (gI l i)) (I.less (gI l i))], [[row0, row0, row0, row0, row0, ⟨g + 4 + 4, .box (.agg [.pv (.lit (.int .u32 (V.a (I.lo (gI l i))))), .pv (.lit (.int .u32 (V.b (I.lo (gI l i))))), .pv (.lit (.int .u32 (V.c (I.lo (gI l i))))), .msl 0 20 (g + 4 + 6 + 4) 0 (List.length (List.map strP (V.pre (I.lo (gI l i))))) false, bolA (I.lopen (gI l i)), .pv (.lit (.int .u32 (V.a (I.hi (gI l i))))), .pv (.lit (.int .u32 (V.b (I.hi (gI l i))))), .pv (.lit (.int .u32 (V.c (I.hi (gI l i))))), .msl 0 28 (g + 4 + 6 + 9 + 4) 0 (List.length (List.map strP (V.pre (I.hi (gI l i))))) false, bolA (I.hopen (gI l i)), bolA (I.less (gI l i))]) false⟩, row0, row0, row0, row0, row0, row0, row0, row0, row0, row0, row0, row0, row0, row0, ⟨g + 4 + 6 + 4, .row 1 9 (List.map strP (V.pre (I.lo (gI l i)))) true⟩, row0, row0, row0, row0, row0, row0, row0, ⟨g + 4 + 6 + 9 + 4, .row 1 9 (List.map strP (V.pre (I.hi (gI l i)))) true⟩, row0, row0, row0, row0, row0, jr 34, row0, row0]])) ∧
 ((g + 4 + 6 + 9 + 9 + 2) = g + 4 + 6 + 9 + 9 + 2) ∧
 (((11 : Nat) = 11) ∧ ((1 : Nat) ≤ (1 : Nat))) ∧
 (((0 : Nat) = 0) ∧ (true = true)) ∧
 (AtAll Tryz.f11 r 0 (law08_twin_S1 l k nl full (IntKind.i64.wrap (i + (1 : Int))) (g + 4 + 6 + 9 + 9 + 3) 1 [itvP (V.a (I.lo (gI l i))) (V.b (I.lo (gI l i))) (V.c (I.lo (gI l i))) (.sl 1 false false (List.map strP (V.pre (I.lo (gI l i))))) (I.lopen (gI l i)) (V.a (I.hi (gI l i))) (V.b (I.hi (gI l i))) (V.c (I.hi (gI l i))) (.sl 1 false false (List.map strP (V.pre (I.hi (gI l i))))) (I.hopen (gI l i)) (I.less (gI l i))]))))) ∧
 ((decide (i < (↑(List.length (List.map I.p l)) : Int))) = false →
 ((.sl 0 true true []) : PV) = r)) := by kernel_rfl
theorem law08_twin_go_S1 (l : List I) (k : Nat) (nl : Bool) (full : Bool) (i : Int) (gm : Nat) (n : Nat) (xs : List PV) (j : Nat → AV) (jr : Nat → Row) (g : Nat) (r : PV) : LoopGo E1 Tryz.f11 r 0 2000 (.fork (.val (I.p (gI l i)) (.fork (.fork (.lit (.mask (iv [(1, 1), (5, 35)]) [5, 20, 28, 34])) (.lit (.frz [itvP (V.a (I.lo (gI l i))) (V.b (I.lo (gI l i))) (V.c (I.lo (gI l i))) (.sl 0 true true []) (I.lopen (gI l i)) (V.a (I.hi (gI l i))) (V.b (I.hi (gI l i))) (V.c (I.hi (gI l i))) (.sl 1 false false (List.map strP (V.pre (I.hi (gI l i))))) (I.hopen (gI l i)) (I.less (gI l i))] [[row0, row0, row0, row0, row0, ⟨g + 4 + 4, .box (.agg [.pv (.lit (.int .u32 (V.a (I.lo (gI l i))))), .pv (.lit (.int .u32 (V.b (I.lo (gI l i))))), .pv (.lit (.int .u32 (V.c (I.lo (gI l i))))), .pv (.sl 0 true true []), bolA (I.lopen (gI l i)), .pv (.lit (.int .u32 (V.a (I.hi (gI l i))))), .pv (.lit (.int .u32 (V.b (I.hi (gI l i))))), .pv (.lit (.int .u32 (V.c (I.hi (gI l i))))), .msl 0 28 (g + 4 + 6 + 9 + 4) 0 (List.length (List.map strP (V.pre (I.hi (gI l i))))) false, bolA (I.hopen (gI l i)), bolA (I.less (gI l i))]) false⟩, row0, row0, row0, row0, row0, row0, row0, row0, row0, row0, row0, row0, row0, row0, jr 20, row0, row0, row0, row0, row0, row0, row0, ⟨g + 4 + 6 + 9 + 4, .row 1 9 (List.map strP (V.pre (I.hi (gI l i)))) true⟩, row0, row0, row0, row0, row0, jr 34, ⟨gm, .row 11 63 xs false⟩, row0]] (.lit (.mask (iv [(1, 1), (5, 35)]) [5, 20, 28, 34]))))) (.lit (.fork (.frz [itvP (V.a (I.lo (gI l i))) (V.b (I.lo (gI l i))) (V.c (I.lo (gI l i))) (.sl 1 false false (List.map strP (V.pre (I.lo (gI l i))))) (I.lopen (gI l i)) (V.a (I.hi (gI l i))) (V.b (I.hi (gI l i))) (V.c (I.hi (gI l i))) (.sl 0 true true []) (I.hopen (gI l i)) (I.less (gI l i))] [[row0, row0, row0, row0, row0, ⟨g + 4 + 4, .box (.agg [.pv (.lit (.int .u32 (V.a (I.lo (gI l i))))), .pv (.lit (.int .u32 (V.b (I.lo (gI l i))))), .pv (.lit (.int .u32 (V.c (I.lo (gI l i))))), .msl 0 20 (g + 4 + 6 + 4) 0 (List.length (List.map strP (V.pre (I.lo (gI l i))))) false, bolA (I.lopen (gI l i)), .pv (.lit (.int .u32 (V.a (I.hi (gI l i))))), .pv (.lit (.int .u32 (V.b (I.hi (gI l i))))), .pv (.lit (.int .u32 (V.c (I.hi (gI l i))))), .pv (.sl 0 true true []), bolA (I.hopen (gI l i)), bolA (I.less (gI l i))]) false⟩, row0, row0, row0, row0, row0, row0, row0, row0, row0, row0, row0, row0, row0, row0, ⟨g + 4 + 6 + 4, .row 1 9 (List.map strP (V.pre (I.lo (gI l i)))) true⟩, row0, row0, row0, row0, row0, row0, row0, jr 28, row0, row0, row0, row0, row0, jr 34, ⟨gm, .row 11 63 xs false⟩, row0]] (.lit (.mask (iv [(1, 1), (5, 35)]) [5, 20, 28, 34]))) (.lit (.frz [itvP (V.a (I.lo (gI l i))) (V.b (I.lo (gI l i))) (V.c (I.lo (gI l i))) (.sl 1 false false (List.map strP (V.pre (I.lo (gI l i))))) (I.lopen (gI l i)) (V.a (I.hi (gI l i))) (V.b (I.hi (gI l i))) (V.c (I.hi (gI l i))) (.sl 1 false false (List.map strP (V.pre (I.hi (gI l i))))) (I.hopen (gI l i)) (I.less (gI l i))] [[row0, row0, row0, row0, row0, ⟨g + 4 + 4, .box (.agg [.pv (.lit (.int .u32 (V.a (I.lo (gI l i))))), .pv (.lit (.int .u32 (V.b (I.lo (gI l i))))), .pv (.lit (.int .u32 (V.c (I.lo (gI l i))))), .msl 0 20 (g + 4 + 6 + 4) 0 (List.length (List.map strP (V.pre (I.lo (gI l i))))) false, bolA (I.lopen (gI l i)), .pv (.lit (.int .u32 (V.a (I.hi (gI l i))))), .pv (.lit (.int .u32 (V.b (I.hi (gI l i))))), .pv (.lit (.int .u32 (V.c (I.hi (gI l i))))), .msl 0 28 (g + 4 + 6 + 9 + 4) 0 (List.length (List.map strP (V.pre (I.hi (gI l i))))) false, bolA (I.hopen (gI l i)), bolA (I.less (gI l i))]) false⟩, row0, row0, row0, row0, row0, row0, row0, row0, row0, row0, row0, row0, row0, row0, ⟨g + 4 + 6 + 4, .row 1 9 (List.map strP (V.pre (I.lo (gI l i)))) true⟩, row0, row0, row0, row0, row0, row0, row0, ⟨g + 4 + 6 + 9 + 4, .row 1 9 (List.map strP (V.pre (I.hi (gI l i)))) true⟩, row0, row0, row0, row0, row0, jr 34, ⟨gm, .row 11 63 xs false⟩, row0]] (.lit (.mask (iv [(1, 1), (5, 35)]) [5, 20, 28, 34])))))))) (.hole 0)) (law08_twin_S1 l k nl full i gm n xs j jr g) =
  (((decide (i < (↑(List.length (List.map I.p l)) : Int))) = true →
 (((0 : Int) ≤ i) ∧ ((nl = false) ∧ (k = 11))) ∧
 (((List.map I.p l)[Int.toNat i]?) = some (I.p (gI l i))) ∧
 ((g + 4 + 4) = g + 4 + 4) ∧
 ((g + 4 + 4) = g + 4 + 4) ∧
 ((((V.nl (I.lo (gI l i))) = true → (List.map strP (V.pre (I.lo (gI l i)))) = [])) ∧ (((V.nl (I.lo (gI l i))) = false → (V.k (I.lo (gI l i))) = 1))) ∧
 ((List.isEmpty (List.map strP (V.pre (I.lo (gI l i))))) = true →
 ((g + 4 + 4) = g + 4 + 4) ∧
 ((g + 4 + 4) = g + 4 + 4) ∧
 ((((V.nl (I.hi (gI l i))) = true → (List.map strP (V.pre (I.hi (gI l i)))) = [])) ∧ (((V.nl (I.hi (gI l i))) = false → (V.k (I.hi (gI l i))) = 1))) ∧
 ((List.isEmpty (List.map strP (V.pre (I.hi (gI l i))))) = true →
 ((g + 4 + 4) = g + 4 + 4) ∧
 ((g + 4 + 4) = g + 4 + 4) ∧
 ((g + 4 + 6 + 9 + 9 + 2) = g + 4 + 6 + 9 + 9 + 2) ∧
 (((11 : Nat) = 11) ∧ ((1 : Nat) ≤ (1 : Nat))) ∧
 (gm = gm) ∧
 ((false = false) ∧ (((11 : Nat) = 11) ∧ (((63 : Nat) = 63) ∧ ((((0 : Nat) + n) = List.length xs) ∧ ((fitsRow (n + 1) (104 : Nat)) = true))))) ∧
 (∀ (j' : Nat → AV) (jr' : Nat → Row) (g' : Nat), LoopAt E1 Tryz.f11 r 0 (law08_twin_S1 l k nl full (IntKind.i64.wrap (i + (1 : Int))) (g + 4 + 6 + 9 + 9 + 3) (n + 1) (List.drop (0 : Nat) xs ++ List.take (1 : Nat) (List.drop (0 : Nat) [PV.agg [PV.lit (Value.int IntKind.u32 (V.a (I.lo (gI l i)))), PV.lit (Value.int IntKind.u32 (V.b (I.lo (gI l i)))), PV.lit (Value.int IntKind.u32 (V.c (I.lo (gI l i)))), PV.sl (0 : Nat) true true [], PV.lit (Value.bool (I.lopen (gI l i))), PV.lit (Value.int IntKind.u32 (V.a (I.hi (gI l i)))), PV.lit (Value.int IntKind.u32 (V.b (I.hi (gI l i)))), PV.lit (Value.int IntKind.u32 (V.c (I.hi (gI l i)))), PV.sl (0 : Nat) true true [], PV.lit (Value.bool (I.hopen (gI l i))), PV.lit (Value.bool (I.less (gI l i)))]])) j' jr' g'))) ∧
 ((List.isEmpty (List.map strP (V.pre (I.hi (gI l i))))) = false →
 (((0 : Nat) = 0) ∧ ((fitsRow (List.length (List.map strP (V.pre (I.hi (gI l i))))) (16 : Nat)) = true)) ∧
 ((g + 4 + 4) = g + 4 + 4) ∧
 ((g + 4 + 4) = g + 4 + 4) ∧
 (frzs frzDepth [.agg [.pv (.lit (.int .u32 (V.a (I.lo (gI l i))))), .pv (.lit (.int .u32 (V.b (I.lo (gI l i))))), .pv (.lit (.int .u32 (V.c (I.lo (gI l i))))), .pv (.sl 0 true true []), bolA (I.lopen (gI l i)), .pv (.lit (.int .u32 (V.a (I.hi (gI l i))))), .pv (.lit (.int .u32 (V.b (I.hi (gI l i))))), .pv (.lit (.int .u32 (V.c (I.hi (gI l i))))), .msl 0 28 (g + 4 + 6 + 9 + 4) 0 (List.length (List.map strP (V.pre (I.hi (gI l i))))) false, bolA (I.hopen (gI l i)), bolA (I.less (gI l i))]] [[row0, row0, row0, row0, row0, ⟨g + 4 + 4, .box (.agg [.pv (.lit (.int .u32 (V.a (I.lo (gI l i))))), .pv (.lit (.int .u32 (V.b (I.lo (gI l i))))), .pv (.lit (.int .u32 (V.c (I.lo (gI l i))))), .pv (.sl 0 true true []), bolA (I.lopen (gI l i)), .pv (.lit (.int .u32 (V.a (I.hi (gI l i))))), .pv (.lit (.int .u32 (V.b (I.hi (gI l i))))), .pv (.lit (.int .u32 (V.c (I.hi (gI l i))))), .msl 0 28 (g + 4 + 6 + 9 + 4) 0 (List.length (List.map strP (V.pre (I.hi (gI l i))))) false, bolA (I.hopen (gI l i)), bolA (I.less (gI l i))]) false⟩, row0, row0, row0, row0, row0, row0, row0, row0, row0, row0, row0, row0, row0, row0, jr 20, row0, row0, row0, row0, row0, row0, row0, ⟨g + 4 + 6 + 9 + 4, .row 1 9 (List.map strP (V.pre (I.hi (gI l i)))) false⟩, row0, row0, row0, row0, row0, jr 34, ⟨gm, .row 11 63 xs false⟩, row0]] = some ([itvP (V.a (I.lo (gI l i))) (V.b (I.lo (gI l i))) (V.c (I.lo (gI l i))) (.sl 0 true true []) (I.lopen (gI l i)) (V.a (I.hi (gI l i))) (V.b (I.hi (gI l i))) (V.c (I.hi (gI l i))) (.sl 1 false false (List.map strP (V.pre (I.hi (gI l i))))) (I.hopen (gI l i)) (I.less (gI l i))], [[row0, row0, row0, row0, row0, ⟨g + 4 + 4, .box (.agg [.pv (.lit (.int .u32 (V.a (I.lo (gI l i))))), .pv (.lit (.int .u32 (V.b (I.lo (gI l i))))), .pv (.lit (.int .u32 (V.c (I.lo (gI l i))))), .pv (.sl 0 true true []), bolA (I.lopen (gI l i)), .pv (.lit (.int .u32 (V.a (I.hi (gI l i))))), .pv (.lit (.int .u32 (V.b (I.hi (gI l i))))), .pv (.lit (.int .u32 (V.c (I.hi (gI l i))))), .msl 0 28 (g + 4 + 6 + 9 + 4) 0 (List.length (List.map strP (V.pre (I.hi (gI l i))))) false, bolA (I.hopen (gI l i)), bolA (I.less (gI l i))]) false⟩, row0, row0, row0, row0, row0, row0, row0, row0, row0, row0, row0, row0, row0, row0, jr 20, row0, row0, row0, row0, row0, row0, row0, ⟨g + 4 + 6 + 9 + 4, .row 1 9 (List.map strP (V.pre (I.hi (gI l i)))) true⟩, row0, row0, row0, row0, row0, jr 34, ⟨gm, .row 11 63 xs false⟩, row0]])) ∧
 ((g + 4 + 6 + 9 + 9 + 2) = g + 4 + 6 + 9 + 9 + 2) ∧
 (((11 : Nat) = 11) ∧ ((1 : Nat) ≤ (1 : Nat))) ∧
 (gm = gm) ∧
 ((false = false) ∧ (((11 : Nat) = 11) ∧ (((63 : Nat) = 63) ∧ ((((0 : Nat) + n) = List.length xs) ∧ ((fitsRow (n + 1) (104 : Nat)) = true))))) ∧
 (∀ (j' : Nat → AV) (jr' : Nat → Row) (g' : Nat), LoopAt E1 Tryz.f11 r 0 (law08_twin_S1 l k nl full (IntKind.i64.wrap (i + (1 : Int))) (g + 4 + 6 + 9 + 9 + 3) (n + 1) (List.drop (0 : Nat) xs ++ List.take (1 : Nat) (List.drop (0 : Nat) [PV.agg [PV.lit (Value.int IntKind.u32 (V.a (I.lo (gI l i)))), PV.lit (Value.int IntKind.u32 (V.b (I.lo (gI l i)))), PV.lit (Value.int IntKind.u32 (V.c (I.lo (gI l i)))), PV.sl (0 : Nat) true true [], PV.lit (Value.bool (I.lopen (gI l i))), PV.lit (Value.int IntKind.u32 (V.a (I.hi (gI l i)))), PV.lit (Value.int IntKind.u32 (V.b (I.hi (gI l i)))), PV.lit (Value.int IntKind.u32 (V.c (I.hi (gI l i)))), PV.sl (1 : Nat) false false (List.map strP (V.pre (I.hi (gI l i)))), PV.lit (Value.bool (I.hopen (gI l i))), PV.lit (Value.bool (I.less (gI l i)))]])) j' jr' g')))) ∧
 ((List.isEmpty (List.map strP (V.pre (I.lo (gI l i))))) = false →
 (((0 : Nat) = 0) ∧ ((fitsRow (List.length (List.map strP (V.pre (I.lo (gI l i))))) (16 : Nat)) = true)) ∧
 ((g + 4 + 4) = g + 4 + 4) ∧
 ((g + 4 + 4) = g + 4 + 4) ∧
 ((((V.nl (I.hi (gI l i))) = true → (List.map strP (V.pre (I.hi (gI l i)))) = [])) ∧ (((V.nl (I.hi (gI l i))) = false → (V.k (I.hi (gI l i))) = 1))) ∧
 ((List.isEmpty (List.map strP (V.pre (I.hi (gI l i))))) = true →
 ((g + 4 + 4) = g + 4 + 4) ∧
 ((g + 4 + 4) = g + 4 + 4) ∧
 (frzs frzDepth [.agg [.pv (.lit (.int .u32 (V.a (I.lo (gI l i))))), .pv (.lit (.int .u32 (V.b (I.lo (gI l i))))), .pv (.lit (.int .u32 (V.c (I.lo (gI l i))))), .msl 0 20 (g + 4 + 6 + 4) 0 (List.length (List.map strP (V.pre (I.lo (gI l i))))) false, bolA (I.lopen (gI l i)), .pv (.lit (.int .u32 (V.a (I.hi (gI l i))))), .pv (.lit (.int .u32 (V.b (I.hi (gI l i))))), .pv (.lit (.int .u32 (V.c (I.hi (gI l i))))), .pv (.sl 0 true true []), bolA (I.hopen (gI l i)), bolA (I.less (gI l i))]] [[row0, row0, row0, row0, row0, ⟨g + 4 + 4, .box (.agg [.pv (.lit (.int .u32 (V.a (I.lo (gI l i))))), .pv (.lit (.int .u32 (V.b (I.lo (gI l i))))), .pv (.lit (.int .u32 (V.c (I.lo (gI l i))))), .msl 0 20 (g + 4 + 6 + 4) 0 (List.length (List.map strP (V.pre (I.lo (gI l i))))) false, bolA (I.lopen (gI l i)), .pv (.lit (.int .u32 (V.a (I.hi (gI l i))))), .pv (.lit (.int .u32 (V.b (I.hi (gI l i))))), .pv (.lit (.int .u32 (V.c (I.hi (gI l i))))), .pv (.sl 0 true true []), bolA (I.hopen (gI l i)), bolA (I.less (gI l i))]) false⟩, row0, row0, row0, row0, row0, row0, row0, row0, row0, row0, row0, row0, row0, row0, ⟨g + 4 + 6 + 4, .row 1 9 (List.map strP (V.pre (I.lo (gI l i)))) false⟩, row0, row0, row0, row0, row0, row0, row0, jr 28, row0, row0, row0, row0, row0, jr 34, ⟨gm, .row 11 63 xs false⟩, row0]] = some ([itvP (V.a (I.lo (gI l i))) (V.b (I.lo (gI l i))) (V.c (I.lo (gI l i))) (.sl 1 false false (List.map strP (V.pre (I.lo (gI l i))))) (I.lopen (gI l i)) (V.a (I.hi (gI l i))) (V.b (I.hi (gI l i))) (V.c (I.hi (gI l i))) (.sl 0 true true []) (I.hopen (gI l i)) (I.less (gI l i))], [[row0, row0, row0, row0, row0, ⟨g + 4 + 4, .box (.agg [.pv (.lit (.int .u32 (V.a (I.lo (gI l i))))), .pv (.lit (.int .u32 (V.b (I.lo (gI l i))))), .pv (.lit (.int .u32 (V.c (I.lo (gI l i))))), .msl 0 20 (g + 4 + 6 + 4) 0 (List.length (List.map strP (V.pre (I.lo (gI l i))))) false, bolA (I.lopen (gI l i)), .pv (.lit (.int .u32 (V.a (I.hi (gI l i))))), .pv (.lit (.int .u32 (V.b (I.hi (gI l i))))), .pv (.lit (.int .u32 (V.c (I.hi (gI l i))))), .pv (.sl 0 true true []), bolA (I.hopen (gI l i)), bolA (I.less (gI l i))]) false⟩, row0, row0, row0, row0, row0, row0, row0, row0, row0, row0, row0, row0, row0, row0, ⟨g + 4 + 6 + 4, .row 1 9 (List.map strP (V.pre (I.lo (gI l i)))) true⟩, row0, row0, row0, row0, row0, row0, row0, jr 28, row0, row0, row0, row0, row0, jr 34, ⟨gm, .row 11 63 xs false⟩, row0]])) ∧
 ((g + 4 + 6 + 9 + 9 + 2) = g + 4 + 6 + 9 + 9 + 2) ∧
 (((11 : Nat) = 11) ∧ ((1 : Nat) ≤ (1 : Nat))) ∧
 (gm = gm) ∧
 ((false = false) ∧ (((11 : Nat) = 11) ∧ (((63 : Nat) = 63) ∧ ((((0 : Nat) + n) = List.length xs) ∧ ((fitsRow (n + 1) (104 : Nat)) = true))))) ∧
 (∀ (j' : Nat → AV) (jr' : Nat → Row) (g' : Nat), LoopAt E1 Tryz.f11 r 0 (law08_twin_S1 l k nl full (IntKind.i64.wrap (i + (1 : Int))) (g + 4 + 6 + 9 + 9 + 3) (n + 1) (List.drop (0 : Nat) xs ++ List.take (1 : Nat) (List.drop (0 : Nat) [PV.agg [PV.lit (Value.int IntKind.u32 (V.a (I.lo (gI l i)))), PV.lit (Value.int IntKind.u32 (V.b (I.lo (gI l i)))), PV.lit (Value.int IntKind.u32 (V.c (I.lo (gI l i)))), PV.sl (1 : Nat) false false (List.map strP (V.pre (I.lo (gI l i)))), PV.lit (Value.bool (I.lopen (gI l i))), PV.lit (Value.int IntKind.u32 (V.a (I.hi (gI l i)))), PV.lit (Value.int IntKind.u32 (V.b (I.hi (gI l i)))), PV.lit (Value.int IntKind.u32 (V.c (I.hi (gI l i)))), PV.sl (0 : Nat) true true [], PV.lit (Value.bool (I.hopen (gI l i))), PV.lit (Value.bool (I.less (gI l i)))]])) j' jr' g'))) ∧
 ((List.isEmpty (List.map strP (V.pre (I.hi (gI l i))))) = false →
 (((0 : Nat) = 0) ∧ ((fitsRow (List.length (List.map strP (V.pre (I.hi (gI l i))))) (16 : Nat)) = true)) ∧
 ((g + 4 + 4) = g + 4 + 4) ∧
 ((g + 4 + 4) = g + 4 + 4) ∧
 (frzs frzDepth [.agg [.pv (.lit (.int .u32 (V.a (I.lo (gI l i))))), .pv (.lit (.int .u32 (V.b (I.lo (gI l i))))), .pv (.lit (.int .u32 (V.c (I.lo (gI l i))))), .msl 0 20 (g + 4 + 6 + 4) 0 (List.length (List.map strP (V.pre (I.lo (gI l i))))) false, bolA (I.lopen (gI l i)), .pv (.lit (.int .u32 (V.a (I.hi (gI l i))))), .pv (.lit (.int .u32 (V.b (I.hi (gI l i))))), .pv (.lit (.int .u32 (V.c (I.hi (gI l i))))), .msl 0 28 (g + 4 + 6 + 9 + 4) 0 (List.length (List.map strP (V.pre (I.hi (gI l i))))) false, bolA (I.hopen (gI l i)), bolA (I.less (gI l i))]] [[row0, row0, row0, row0, row0, ⟨g + 4 + 4, .box (.agg [.pv (.lit (.int .u32 (V.a (I.lo (gI l i))))), .pv (.lit (.int .u32 (V.b (I.lo (gI l i))))), .pv (.lit (.int .u32 (V.c (I.lo (gI l i))))), .msl 0 20 (g + 4 + 6 + 4) 0 (List.length (List.map strP (V.pre (I.lo (gI l i))))) false, bolA (I.lopen (gI l i)), .pv (.lit (.int .u32 (V.a (I.hi (gI l i))))), .pv (.lit (.int .u32 (V.b (I.hi (gI l i))))), .pv (.lit (.int .u32 (V.c (I.hi (gI l i))))), .msl 0 28 (g + 4 + 6 + 9 + 4) 0 (List.length (List.map strP (V.pre (I.hi (gI l i))))) false, bolA (I.hopen (gI l i)), bolA (I.less (gI l i))]) false⟩, row0, row0, row0, row0, row0, row0, row0, row0, row0, row0, row0, row0, row0, row0, ⟨g + 4 + 6 + 4, .row 1 9 (List.map strP (V.pre (I.lo (gI l i)))) false⟩, row0, row0, row0, row0, row0, row0, row0, ⟨g + 4 + 6 + 9 + 4, .row 1 9 (List.map strP (V.pre (I.hi (gI l i)))) false⟩, row0, row0, row0, row0, row0, jr 34, ⟨gm, .row 11 63 xs false⟩, row0]] = some ([itvP (V.a (I.lo (gI l i))) (V.b (I.lo (gI l i))) (V.c (I.lo (gI l i))) (.sl 1 false false (List.map strP (V.pre (I.lo (gI l i))))) (I.lopen (gI l i)) (V.a (I.hi (gI l i))) (V.b (I.hi (gI l i))) (V.c (I.hi (gI l i))) (.sl 1 false false (List.map strP (V.pre (I.hi (gI l i))))) (I.hopen (gI l i)) (I.less (gI l i))], [[row0, row0, row0, row0, row0, ⟨g + 4 + 4, .box (.agg [.pv (.lit (.int .u32 (V.a (I.lo (gI l i))))), .pv (.lit (.int .u32 (V.b (I.lo (gI l i))))), .pv (.lit (.int .u32 (V.c (I.lo (gI l i))))), .msl 0 20 (g + 4 + 6 + 4) 0 (List.length (List.map strP (V.pre (I.lo (gI l i))))) false, bolA (I.lopen (gI l i)), .pv (.lit (.int .u32 (V.a (I.hi (gI l i))))), .pv (.lit (.int .u32 (V.b (I.hi (gI l i))))), .pv (.lit (.int .u32 (V.c (I.hi (gI l i))))), .msl 0 28 (g + 4 + 6 + 9 + 4) 0 (List.length (List.map strP (V.pre (I.hi (gI l i))))) false, bolA (I.hopen (gI l i)), bolA (I.less (gI l i))]) false⟩, row0, row0, row0, row0, row0, row0, row0, row0, row0, row0, row0, row0, row0, row0, ⟨g + 4 + 6 + 4, .row 1 9 (List.map strP (V.pre (I.lo (gI l i)))) true⟩, row0, row0, row0, row0, row0, row0, row0, ⟨g + 4 + 6 + 9 + 4, .row 1 9 (List.map strP (V.pre (I.hi (gI l i)))) true⟩, row0, row0, row0, row0, row0, jr 34, ⟨gm, .row 11 63 xs false⟩, row0]])) ∧
 ((g + 4 + 6 + 9 + 9 + 2) = g + 4 + 6 + 9 + 9 + 2) ∧
 (((11 : Nat) = 11) ∧ ((1 : Nat) ≤ (1 : Nat))) ∧
 (gm = gm) ∧
 ((false = false) ∧ (((11 : Nat) = 11) ∧ (((63 : Nat) = 63) ∧ ((((0 : Nat) + n) = List.length xs) ∧ ((fitsRow (n + 1) (104 : Nat)) = true))))) ∧
 (∀ (j' : Nat → AV) (jr' : Nat → Row) (g' : Nat), LoopAt E1 Tryz.f11 r 0 (law08_twin_S1 l k nl full (IntKind.i64.wrap (i + (1 : Int))) (g + 4 + 6 + 9 + 9 + 3) (n + 1) (List.drop (0 : Nat) xs ++ List.take (1 : Nat) (List.drop (0 : Nat) [PV.agg [PV.lit (Value.int IntKind.u32 (V.a (I.lo (gI l i)))), PV.lit (Value.int IntKind.u32 (V.b (I.lo (gI l i)))), PV.lit (Value.int IntKind.u32 (V.c (I.lo (gI l i)))), PV.sl (1 : Nat) false false (List.map strP (V.pre (I.lo (gI l i)))), PV.lit (Value.bool (I.lopen (gI l i))), PV.lit (Value.int IntKind.u32 (V.a (I.hi (gI l i)))), PV.lit (Value.int IntKind.u32 (V.b (I.hi (gI l i)))), PV.lit (Value.int IntKind.u32 (V.c (I.hi (gI l i)))), PV.sl (1 : Nat) false false (List.map strP (V.pre (I.hi (gI l i)))), PV.lit (Value.bool (I.hopen (gI l i))), PV.lit (Value.bool (I.less (gI l i)))]])) j' jr' g'))))) ∧
 ((decide (i < (↑(List.length (List.map I.p l)) : Int))) = false →
 ∃ hp, frz frzDepth (.msl 0 35 gm 0 n false) [[row0, row0, row0, row0, row0, jr 5, row0, row0, row0, row0, row0, row0, row0, row0, row0, row0, row0, row0, row0, row0, jr 20, row0, row0, row0, row0, row0, row0, row0, jr 28, row0, row0, row0, row0, row0, jr 34, ⟨gm, .row 11 63 xs false⟩, row0]] = some (r, hp))) := by kernel_rfl
end Go.Proofs.YtlhfgonjcpapnaaGreatDoor.Abs

namespace Go.Proofs.YtlhfgonjcpapnaaGreatDoor.Abs
open Go Go.Proofs
theorem bnot_beq {a b : Bool} : (!a == b) = true ↔ (a == b) = false := by cases a <;> cases b <;> simp
theorem bnot_beq' {a b : Bool} : (!a == b) = false ↔ (a == b) = true := by cases a <;> cases b <;> simp
theorem den_same (l m : List I) (k k' : Nat) (nl full nl' full' : Bool) (hl : slOk 11 k nl l.length) (hm : slOk 11 k' nl' m.length) (hol : ∀ x ∈ l, x.ok) (hom : ∀ x ∈ m, x.ok) (hsm : small l.length) :
    Den E1 16 [listP k nl full l, listP k' nl' full' m] (bolP (sameLs l m)) := by
  refine den1 2000 _ rfl (by kernel_rfl) rfl rfl rfl (Eq.mpr (law08_same_go l m k k' nl full nl' full' _) ?_)
  have hne : ∀ l m : List I, l.length ≠ m.length → sameLs l m = false := by
    intro l
    induction l with
    | nil => intro m h; cases m <;> simp [sameLs] at h ⊢
    | cons x l ih => intro m h; cases m with
      | nil => simp [sameLs]
      | cons y m => simp only [sameLs, ih m (by simpa using h), Bool.and_false]
  refine ⟨fun h => ?_, fun h j jr g => ?_⟩
  · simp only [List.length_map, bne_iff_ne, ne_eq] at h
    rw [hne l m (by omega)]
  simp only [List.length_map, bne_eq_false_iff_eq] at h
  have hlen : l.length = m.length := by omega
  have H : ∀ (n i : Nat) j jr g, i + n = l.length → sameLs l m = sameLs (l.drop i) (m.drop i) → LoopAt E1 Tryz.f16 (bolP (sameLs l m)) 0 (law08_same_S0 l m k k' nl full nl' full' i j jr g) := by
    intro n
    induction n with
    | zero =>
      intro i j jr g hi hd
      refine loop_go 2000 _ (Eq.mpr (law08_same_go_S0 l m k k' nl full nl' full' i j jr g _) ⟨fun h => ?_, fun h => ?_⟩)
      · simp at h; omega
      · rw [hd, drop_nil (by omega), drop_nil (by omega)]; rfl
    | succ n ih =>
      intro i j jr g hi hd
      have h1 : i < l.length := by omega
      have h2 : i < m.length := by omega
      rw [List.drop_eq_getElem_cons h1, List.drop_eq_getElem_cons h2, sameLs] at hd
      have hw : IntKind.wrap IntKind.i64 ((i : Int) + 1) = ((i + 1 : Nat) : Int) := wrap_i64 _ (by omega) (by unfold small at hsm; omega)
      refine loop_go 2000 _ (Eq.mpr (law08_same_go_S0 l m k k' nl full nl' full' i j jr g _) ⟨fun h => ?_, fun h => ?_⟩)
      · simp only [Int.toNat_natCast, gI_nat, gI_zero, getD_lt h1, getD_lt h2, hw]
        have hm1 := mapI_get h1
        have hm2 := mapI_get h2
        have o1 := hol l[i] (by simp)
        have o2 := hom m[i] (by simp)
        generalize l[i] = x at hd hm1 o1 ⊢
        generalize m[i] = y at hd hm2 o2 ⊢
        have c1 : (0 : Int) ≤ i ∧ nl = false ∧ k = 11 := ⟨by omega, sl_at hl h1⟩
        have c2 : (0 : Int) ≤ i ∧ nl' = false ∧ k' = 11 := ⟨by omega, sl_at hm h2⟩
        refine ⟨c1, hm1, c2, hm2, fun h => ?_, fun ha => ⟨c1, hm1, c2, hm2, fun h => ?_, fun hb => ⟨c1, hm1, c2, hm2, fun h => ?_, fun hc => ⟨c1, hm1, c2, hm2, den_Same _ _ o1.lo o2.lo, fun h => ?_, fun hd2 => ⟨c1, hm1, c2, hm2, den_Same _ _ o1.hi o2.hi, fun h => ?_, fun he j jr g => ?_⟩⟩⟩⟩⟩
        · rw [hd]; rw [bnot_beq] at h; simp [sameI, h]
        · rw [hd]; rw [bnot_beq] at h; simp [sameI, h]
        · rw [hd]; rw [bnot_beq] at h; simp [sameI, h]
        · rw [hd]; simp only [Bool.not_eq_true'] at h; simp [sameI, h]
        · rw [hd]; simp only [Bool.not_eq_true'] at h; simp [sameI, h]
        · rw [bnot_beq'] at ha hb hc
          simp only [Bool.not_eq_false'] at hd2 he
          refine ih (i + 1) j jr g (by omega) ?_
          rw [hd]; simp [sameI, ha, hb, hc, hd2, he]
      · rw [decide_eq_false_iff_not, List.length_map] at h; omega
  have h0 := H l.length 0 j jr g (by omega) rfl
  rw [Int.natCast_zero] at h0
  exact h0
theorem pk_msl {h : Heap} {d s g n m k : Nat} {full fz : Bool} {e : TypeId} {xs : List PV} (hb : hget h d s = ⟨g, .row k e xs fz⟩) (hn : xs.length = n) : pk h (m + 1) (.msl d s g 0 n full) = some (.sl k false full xs, [(d, s)]) := by
  have hl : live h d s g = .row k e xs fz := by unfold live; rw [hb]; simp
  simp only [pk, hl]
  rw [if_pos (by omega), ← hn]
  simp
theorem frz_itv {h h1 : Heap} {a b c a' b' c' : Int} {o o' e : Bool} {x y : AV} {px py : PV} {kx ky : List Key} (hx : pk h 7 x = some (px, kx)) (hy : pk h 7 y = some (py, ky)) (hm : marks (kx ++ ky) h = h1) :
    frzs frzDepth [.agg [.pv (.lit (.int .u32 a)), .pv (.lit (.int .u32 b)), .pv (.lit (.int .u32 c)), x, bolA o, .pv (.lit (.int .u32 a')), .pv (.lit (.int .u32 b')), .pv (.lit (.int .u32 c')), y, bolA o', bolA e]] h =
      some ([itvP a b c px o a' b' c' py o' e], h1) := by
  have hp : ∀ (p : PV) n, pk h (n + 1) (.pv p) = some (p, []) := fun _ _ => rfl
  have ha : ∀ (l : List AV) n, pk h (n + 1) (.agg l) = (pks (pk h n) l).map fun (ps, ks) => (.agg ps, ks) := fun _ _ => rfl
  simp only [frzs, frzDepth, pks, ha, hp, hx, hy, Option.bind_some, Option.map_some, List.nil_append, List.append_nil]
  rw [hm]
def fitV (v : V) : Prop := v.pre.length * 16 ≤ 140737488355328
theorem fitV_row {v : V} (h : fitV v) : fitsRow (List.map strP v.pre).length 16 = true := by
  unfold fitV at h
  have h2 : (List.map strP v.pre).length ≤ maxInt := by rw [List.length_map]; unfold maxInt; omega
  have h1 : (List.map strP v.pre).length * 16 ≤ room47 := by rw [List.length_map]; unfold room47; omega
  simp only [fitsRow, h1, h2, decide_true, Bool.and_self]
theorem fit_104 {n : Nat} (h : n ≤ 1000) : fitsRow n 104 = true := by
  have h1 : n * 104 ≤ room47 := by unfold room47; omega
  have h2 : n ≤ maxInt := by unfold maxInt; omega
  simp [fitsRow, h1, h2]
theorem pre_nl {v : V} (hv : v.ok) : (v.nl = true → List.map strP v.pre = []) ∧ (v.nl = false → v.k = 1) :=
  ⟨fun h => by have := List.length_eq_zero_iff.1 (hv.sl.1 h); rw [this]; rfl, hv.sl.2⟩
theorem pre_emp {v : V} (h : (List.map strP v.pre).isEmpty = true) : v.pre = [] := by simpa using h
theorem pre_nemp {v : V} (h : (List.map strP v.pre).isEmpty = false) : v.pre.length ≠ 0 := by
  intro e
  have := List.length_eq_zero_iff.1 e
  rw [this] at h; simp at h
theorem tw_emp {v : V} (h : v.pre = []) : twV v = ⟨v.a, v.b, v.c, 0, true, true, []⟩ := by simp [twV, h]
theorem tw_nemp {v : V} (h : v.pre.length ≠ 0) : twV v = ⟨v.a, v.b, v.c, 1, false, false, v.pre⟩ := by simp [twV, h]
theorem frz_msl {h : Heap} {d s g n k : Nat} {full fz : Bool} {e : TypeId} {xs : List PV} {p : PV} (hb : hget h d s = ⟨g, .row k e xs fz⟩) (hn : xs.length = n) (hp : p = .sl k false full xs) : ∃ h1, frz frzDepth (.msl d s g 0 n full) h = some (p, h1) := by
  refine ⟨marks [(d, s)] h, ?_⟩
  unfold frz
  rw [frzDepth, pk_msl hb hn, hp]
  rfl
def twP (l : List I) : PV := if l.length = 0 then .sl 0 true true [] else listP 11 false false (l.map twI)
theorem den_twin (l : List I) (k : Nat) (nl full : Bool) (hsl : slOk 11 k nl l.length) (hok : ∀ x ∈ l, x.ok) (hfit : ∀ x ∈ l, fitV x.lo ∧ fitV x.hi) (hl : l.length ≤ 40) :
    Den E1 11 [listP k nl full l] (twP l) := by
  refine den1 2000 _ rfl (by kernel_rfl) rfl rfl rfl (Eq.mpr (law08_twin_go l k nl full _) fun j jr g => ?_)
  have H1 : ∀ (n i gm : Nat) (xs : List PV) j jr g, i + n = l.length → 1 ≤ i → xs = (l.take i).map (fun x => (twI x).p) → LoopAt E1 Tryz.f11 (twP l) 0 (law08_twin_S1 l k nl full i gm i xs j jr g) := by
    intro n
    induction n with
    | zero =>
      intro i gm xs j jr g hi h0 hx
      have hxl : xs.length = i := by rw [hx]; simp; omega
      refine loop_go 2000 _ (Eq.mpr (law08_twin_go_S1 l k nl full i gm i xs j jr g _) ⟨fun h => ?_, fun h2 => ?_⟩)
      · rw [decide_eq_true_eq, List.length_map] at h; omega
      · have : twP l = .sl 11 false false xs := by
          rw [twP, if_neg (by omega), hx, List.take_of_length_le (by omega)]
          simp only [listP, List.map_map]; rfl
        exact frz_msl rfl hxl this
    | succ n ih =>
      intro i gm xs j jr g hi h0 hx
      have h2 : i < l.length := by omega
      have hxl : xs.length = i := by rw [hx]; simp; omega
      have hx' : l[i].ok := hok _ (by simp)
      have hf' := hfit l[i] (by simp)
      have hw : IntKind.wrap IntKind.i64 ((i : Int) + 1) = ((i + 1 : Nat) : Int) := wrap_i64 _ (by omega) (by omega)
      refine loop_go 2000 _ (Eq.mpr (law08_twin_go_S1 l k nl full i gm i xs j jr g _) ⟨fun h => ?_, fun h => ?_⟩)
      · simp only [Int.toNat_natCast, gI_nat, gI_zero, getD_lt h2, hw]
        have hm := mapI_get h2
        have htk : l.take (i + 1) = l.take i ++ [l[i]] := List.take_succ_eq_append_getElem h2
        generalize l[i] = x at hm hx' hf' htk ⊢
        have fin : ∀ y : PV, y = (twI x).p → xs ++ [y] = (l.take (i + 1)).map (fun x => (twI x).p) := fun y hy => by rw [htk, hx, hy]; simp
        have hf104 := fit_104 (n := i + 1) (by omega)
        refine ⟨⟨by omega, sl_at hsl h2⟩, hm, trivial, trivial, pre_nl hx'.lo, fun e1 => ⟨trivial, trivial, pre_nl hx'.hi, fun e2 => ?_, fun e2 => ?_⟩, fun e1 => ⟨⟨trivial, fitV_row hf'.1⟩, trivial, trivial, pre_nl hx'.hi, fun e2 => ?_, fun e2 => ?_⟩⟩
        · refine ⟨trivial, trivial, trivial, ⟨trivial, by omega⟩, trivial, ⟨trivial, trivial, trivial, by omega, hf104⟩, fun j jr g => ?_⟩
          refine ih (i + 1) _ _ j jr g (by omega) (by omega) (fin _ ?_)
          simp only [twI, tw_emp (pre_emp e1), tw_emp (pre_emp e2)]; rfl
        · refine ⟨⟨trivial, fitV_row hf'.2⟩, trivial, trivial, frz_itv rfl (pk_msl rfl rfl) rfl, trivial, ⟨trivial, by omega⟩, trivial, ⟨trivial, trivial, trivial, by omega, hf104⟩, fun j jr g => ?_⟩
          refine ih (i + 1) _ _ j jr g (by omega) (by omega) (fin _ ?_)
          simp only [twI, tw_emp (pre_emp e1), tw_nemp (pre_nemp e2)]; rfl
        · refine ⟨trivial, trivial, frz_itv (pk_msl rfl rfl) rfl rfl, trivial, ⟨trivial, by omega⟩, trivial, ⟨trivial, trivial, trivial, by omega, hf104⟩, fun j jr g => ?_⟩
          refine ih (i + 1) _ _ j jr g (by omega) (by omega) (fin _ ?_)
          simp only [twI, tw_nemp (pre_nemp e1), tw_emp (pre_emp e2)]; rfl
        · refine ⟨⟨trivial, fitV_row hf'.2⟩, trivial, trivial, frz_itv (pk_msl rfl rfl) (pk_msl rfl rfl) rfl, trivial, ⟨trivial, by omega⟩, trivial, ⟨trivial, trivial, trivial, by omega, hf104⟩, fun j jr g => ?_⟩
          refine ih (i + 1) _ _ j jr g (by omega) (by omega) (fin _ ?_)
          simp only [twI, tw_nemp (pre_nemp e1), tw_nemp (pre_nemp e2)]
      · rw [decide_eq_false_iff_not, List.length_map] at h; omega
  have hw : IntKind.wrap IntKind.i64 ((0 : Int) + 1) = ((1 : Nat) : Int) := rfl
  refine loop_go 2000 _ (Eq.mpr (law08_twin_go_S0 l k nl full 0 j jr g _) ⟨fun h => ?_, fun h => ?_⟩)
  · have h2 : 0 < l.length := by rw [decide_eq_true_eq, List.length_map] at h; omega
    have h0 : (0 : Int).toNat = 0 := rfl
    have hx' : l[0].ok := hok _ (by simp)
    have hf' := hfit l[0] (by simp)
    simp only [h0, gI_zero, getD_lt h2, hw]
    have hm := mapI_get h2
    have htk : l.take 1 = [l[0]] := by cases l with
      | nil => exact absurd h2 (Nat.lt_irrefl _)
      | cons y m => rfl
    have fin : ∀ y : PV, y = (twI l[0]).p → [y] = (l.take 1).map (fun x => (twI x).p) := fun y hy => by rw [htk, hy]; rfl
    generalize l[0] = x at hm hx' hf' fin ⊢
    refine ⟨⟨by omega, sl_at hsl h2⟩, hm, trivial, trivial, pre_nl hx'.lo, fun e1 => ⟨trivial, trivial, pre_nl hx'.hi, fun e2 => ?_, fun e2 => ?_⟩, fun e1 => ⟨⟨trivial, fitV_row hf'.1⟩, trivial, trivial, pre_nl hx'.hi, fun e2 => ?_, fun e2 => ?_⟩⟩
    · refine ⟨trivial, trivial, trivial, ⟨trivial, by omega⟩, ⟨trivial, trivial⟩, fun j jr g => ?_⟩
      refine H1 (l.length - 1) 1 _ _ j jr g (by omega) (by omega) (fin _ ?_)
      simp only [twI, tw_emp (pre_emp e1), tw_emp (pre_emp e2)]; rfl
    · refine ⟨⟨trivial, fitV_row hf'.2⟩, trivial, trivial, frz_itv rfl (pk_msl rfl rfl) rfl, trivial, ⟨trivial, by omega⟩, ⟨trivial, trivial⟩, fun j jr g => ?_⟩
      refine H1 (l.length - 1) 1 _ _ j jr g (by omega) (by omega) (fin _ ?_)
      simp only [twI, tw_emp (pre_emp e1), tw_nemp (pre_nemp e2)]; rfl
    · refine ⟨trivial, trivial, frz_itv (pk_msl rfl rfl) rfl rfl, trivial, ⟨trivial, by omega⟩, ⟨trivial, trivial⟩, fun j jr g => ?_⟩
      refine H1 (l.length - 1) 1 _ _ j jr g (by omega) (by omega) (fin _ ?_)
      simp only [twI, tw_nemp (pre_nemp e1), tw_emp (pre_emp e2)]; rfl
    · refine ⟨⟨trivial, fitV_row hf'.2⟩, trivial, trivial, frz_itv (pk_msl rfl rfl) (pk_msl rfl rfl) rfl, trivial, ⟨trivial, by omega⟩, ⟨trivial, trivial⟩, fun j jr g => ?_⟩
      refine H1 (l.length - 1) 1 _ _ j jr g (by omega) (by omega) (fin _ ?_)
      simp only [twI, tw_nemp (pre_nemp e1), tw_nemp (pre_nemp e2)]
  · rw [decide_eq_false_iff_not, List.length_map] at h
    rw [twP, if_pos (by omega)]
end Go.Proofs.YtlhfgonjcpapnaaGreatDoor.Abs

namespace Go.Proofs.YtlhfgonjcpapnaaGreatDoor.Abs
open Go Go.Proofs
theorem reach_small {n : Nat} (h : n ≤ reachBytes) : small n := by
  have := reachBytes_lt
  unfold small
  omega
theorem well_bool {n : Nat} {r : List PV} (h : wellP Tryz.prog n 4 r) : ∃ b, r = [bolP b] := by
  exact well_bool0 Tryz.underlying4 h
theorem well_u32 {n : Nat} {r : List PV} (h : wellP Tryz.prog n 46 r) : ∃ x, r = [.lit (.int .u32 x)] ∧ u32 x := by
  have h := well_int0 Tryz.underlying46 h
  obtain ⟨x, h1, h2⟩ := h
  refine ⟨x, h1, ?_⟩
  simp [Lit.wf] at h2
  have e1 : IntKind.u32.min = 0 := rfl
  have e2 : IntKind.u32.max = 4294967295 := rfl
  rw [e1, e2] at h2
  unfold u32
  omega
theorem well_str {n : Nat} {r : List PV} (h : wellP Tryz.prog n 9 r) : ∃ s : List UInt8, r = [strP s] ∧ s.length ≤ reachBytes := by
  have h := well_str0 Tryz.underlying9 h
  obtain ⟨s, h1, h2⟩ := h
  refine ⟨s.data.toList, h1, ?_⟩
  rw [Array.length_toList]
  exact h2
theorem well_strs {n : Nat} {r : List PV} (h : wellP Tryz.prog n 33 r) : ∃ k nl l, r = [preP k nl false l] ∧ slOk 1 k nl l.length ∧ l.length * 16 ≤ reachBytes ∧ ∀ s ∈ l, s.length ≤ reachBytes := by
  obtain ⟨n, h⟩ := well_sl0 Tryz.underlying33 h
  obtain ⟨k, nl, rs, rfl, h1, h2, h3⟩ := h
  have hc : Tryz.prog.cellsOf 9 = 1 := by kernel_rfl
  have hb : Tryz.prog.bytesOf 9 = 16 := by kernel_rfl
  have hs : isSt Tryz.prog 9 = false := isSt_str Tryz.underlying9
  rw [hc] at h1
  rw [hb] at h2
  rw [hs]
  have hx : ∀ rs : List (List PV), (∀ r ∈ rs, wellP Tryz.prog n 9 r) → ∃ l : List (List UInt8), rs.map (mkE false) = l.map strP ∧ l.length = rs.length ∧ ∀ s ∈ l, s.length ≤ reachBytes := by
    intro rs
    induction rs with
    | nil => intro _; exact ⟨[], rfl, rfl, fun s hs => absurd hs List.not_mem_nil⟩
    | cons r rs ih =>
      intro h
      obtain ⟨s, h1, h2⟩ := well_str (h r (by simp))
      obtain ⟨l, h3, h4, h5⟩ := ih (fun r hr => h r (by simp [hr]))
      refine ⟨s :: l, ?_, by simp [h4], fun t ht => ?_⟩
      · rw [List.map_cons, List.map_cons, h3, h1]; rfl
      · cases List.mem_cons.1 ht with
        | inl e => rw [e]; exact h2
        | inr e => exact h5 t e
  obtain ⟨l, h4, h5, h6⟩ := hx rs h3
  refine ⟨k, nl, l, ?_, ?_, ?_, h6⟩
  · rw [h4]
  · rw [h5]; exact h1
  · rw [h5]; exact h2
theorem wellF4 {W : TypeId → List PV → Prop} {a b c d : Field} {r : List PV} (h : wellF W [a, b, c, d] r) : ∃ w x y z, r = w ++ (x ++ (y ++ z)) ∧ W a.type w ∧ W b.type x ∧ W c.type y ∧ W d.type z := by
  obtain ⟨w, _, rfl, h1, x, _, rfl, h2, y, _, rfl, h3, z, _, rfl, h4, rfl⟩ := h
  exact ⟨w, x, y, z, by simp, h1, h2, h3, h4⟩
theorem wellF3 {W : TypeId → List PV → Prop} {a b c : Field} {r : List PV} (h : wellF W [a, b, c] r) : ∃ w x y, r = w ++ (x ++ y) ∧ W a.type w ∧ W b.type x ∧ W c.type y := by
  obtain ⟨w, _, rfl, h1, x, _, rfl, h2, y, _, rfl, h3, rfl⟩ := h
  exact ⟨w, x, y, by simp, h1, h2, h3⟩
theorem wellF2 {W : TypeId → List PV → Prop} {a b : Field} {r : List PV} (h : wellF W [a, b] r) : ∃ w x, r = w ++ x ∧ W a.type w ∧ W b.type x := by
  obtain ⟨w, _, rfl, h1, x, _, rfl, h2, rfl⟩ := h
  exact ⟨w, x, by simp, h1, h2⟩
theorem well_ver {n : Nat} {r : List PV} (h : wellP Tryz.prog n 48 r) : ∃ v : V, r = [.lit (.int .u32 v.a), .lit (.int .u32 v.b), .lit (.int .u32 v.c), preP v.k v.nl v.full v.pre] ∧ v.ok ∧ fitV v := by
  obtain ⟨n, h⟩ := well_st0 Tryz.underlying48 h
  obtain ⟨w, x, y, z, rfl, h1, h2, h3, h4⟩ := wellF4 h
  obtain ⟨a, rfl, ha⟩ := well_u32 h1
  obtain ⟨b, rfl, hb⟩ := well_u32 h2
  obtain ⟨c, rfl, hc⟩ := well_u32 h3
  obtain ⟨k, nl, l, rfl, h5, h6, h7⟩ := well_strs h4
  refine ⟨⟨a, b, c, k, nl, false, l⟩, rfl, ⟨ha, hb, hc, h5, reach_small (Nat.le_trans (by omega : l.length ≤ l.length * 16) h6), fun s hs => reach_small (h7 s hs)⟩, ?_⟩
  have := reachBytes_lt
  unfold fitV
  simp only
  omega
theorem well_bound {n : Nat} {r : List PV} (h : wellP Tryz.prog n 61 r) : ∃ (v : V) (o : Bool), r = [.lit (.int .u32 v.a), .lit (.int .u32 v.b), .lit (.int .u32 v.c), preP v.k v.nl v.full v.pre, bolP o] ∧ v.ok ∧ fitV v := by
  obtain ⟨n, h⟩ := well_st0 Tryz.underlying61 h
  obtain ⟨w, x, rfl, h1, h2⟩ := wellF2 h
  obtain ⟨v, rfl, h3, h4⟩ := well_ver h1
  obtain ⟨o, rfl⟩ := well_bool h2
  exact ⟨v, o, rfl, h3, h4⟩
theorem well_itv {n : Nat} {r : List PV} (h : wellP Tryz.prog n 63 r) : ∃ x : I, .agg r = x.p ∧ x.ok ∧ fitV x.lo ∧ fitV x.hi := by
  obtain ⟨n, h⟩ := well_st0 Tryz.underlying63 h
  obtain ⟨w, x, y, rfl, h1, h2, h3⟩ := wellF3 h
  obtain ⟨v, o, rfl, h4, h5⟩ := well_bound h1
  obtain ⟨v', o', rfl, h6, h7⟩ := well_bound h2
  obtain ⟨e, rfl⟩ := well_bool h3
  exact ⟨⟨v, o, v', o', e⟩, rfl, ⟨h4, h6⟩, h5, h7⟩
theorem well_span {n : Nat} {r : List PV} (h : wellP Tryz.prog n 22 r) : ∃ k nl l, r = [listP k nl false l] ∧ slOk 11 k nl l.length ∧ (∀ x ∈ l, x.ok) ∧ (∀ x ∈ l, fitV x.lo ∧ fitV x.hi) ∧ l.length * 104 ≤ reachBytes := by
  obtain ⟨n, h⟩ := well_sl0 Tryz.underlying22 h
  obtain ⟨k, nl, rs, rfl, h1, h2, h3⟩ := h
  have hc : Tryz.prog.cellsOf 63 = 11 := by kernel_rfl
  have hb : Tryz.prog.bytesOf 63 = 104 := by kernel_rfl
  have hs : isSt Tryz.prog 63 = true := isSt_of Tryz.underlying63
  rw [hc] at h1
  rw [hb] at h2
  rw [hs]
  have hx : ∀ rs : List (List PV), (∀ r ∈ rs, wellP Tryz.prog n 63 r) → ∃ l : List I, rs.map (mkE true) = l.map I.p ∧ l.length = rs.length ∧ (∀ x ∈ l, x.ok) ∧ ∀ x ∈ l, fitV x.lo ∧ fitV x.hi := by
    intro rs
    induction rs with
    | nil => intro _; exact ⟨[], rfl, rfl, fun s hs => absurd hs List.not_mem_nil, fun s hs => absurd hs List.not_mem_nil⟩
    | cons r rs ih =>
      intro h
      obtain ⟨x, h1, h2, h3⟩ := well_itv (h r (by simp))
      obtain ⟨l, h4, h5, h6, h7⟩ := ih (fun r hr => h r (by simp [hr]))
      refine ⟨x :: l, ?_, by simp [h5], fun t ht => ?_, fun t ht => ?_⟩
      · rw [List.map_cons, List.map_cons, h4, ← h1]; rfl
      · cases List.mem_cons.1 ht with
        | inl e => rw [e]; exact h2
        | inr e => exact h6 t e
      · cases List.mem_cons.1 ht with
        | inl e => rw [e]; exact h3
        | inr e => exact h7 t e
  obtain ⟨l, h4, h5, h6, h7⟩ := hx rs h3
  refine ⟨k, nl, l, ?_, ?_, h6, h7, ?_⟩
  · rw [h4]
  · rw [h5]; exact h1
  · rw [h5]; exact h2
end Go.Proofs.YtlhfgonjcpapnaaGreatDoor.Abs

namespace Go.Proofs.YtlhfgonjcpapnaaGreatDoor.Abs
open Go Go.Proofs
def twK (l : List I) : Nat := if l.length = 0 then 0 else 11
def twN (l : List I) : Bool := decide (l.length = 0)
theorem twP_eq (l : List I) : twP l = listP (twK l) (twN l) (twN l) (l.map twI) := by
  unfold twP twK twN
  split
  · rename_i h
    have : l = [] := List.length_eq_zero_iff.1 h
    subst this; rfl
  · rename_i h
    simp [h]
theorem tw_okV {v : V} (h : v.ok) : (twV v).ok := by
  unfold twV
  split
  · exact ⟨h.a, h.b, h.c, ⟨fun _ => rfl, fun e => Bool.noConfusion e⟩, by unfold small; simp, fun s hs => absurd hs (List.not_mem_nil)⟩
  · exact ⟨h.a, h.b, h.c, ⟨fun e => Bool.noConfusion e, fun _ => rfl⟩, h.len, h.str⟩
theorem tw_okI {x : I} (h : x.ok) : (twI x).ok := ⟨tw_okV h.lo, tw_okV h.hi⟩
theorem tw_ok {l : List I} (h : ∀ x ∈ l, x.ok) : ∀ x ∈ l.map twI, x.ok := by
  intro x hx
  obtain ⟨y, hy, rfl⟩ := List.mem_map.1 hx
  exact tw_okI (h y hy)
theorem tw_slOk (l : List I) : slOk 11 (twK l) (twN l) (l.map twI).length := by
  unfold twK twN
  refine ⟨fun h => by simpa using h, fun h => ?_⟩
  have : ¬ l.length = 0 := by simpa using h
  rw [if_neg this]
end Go.Proofs.YtlhfgonjcpapnaaGreatDoor.Abs

namespace Go.Proofs.YtlhfgonjcpapnaaGreatDoor.Abs
open Go Go.Proofs
theorem den_alive : Den E1 10 [] (bolP true) := den_intr (F := aliveP) rfl rfl
end Go.Proofs.YtlhfgonjcpapnaaGreatDoor.Abs

namespace Go.Proofs.YtlhfgonjcpapnaaGreatDoor.Abs
open Go Go.Proofs
def highI (x y : I) : Int :=
  if x.less then (if y.less then 0 else 1) else if y.less then -1
  else if cmpV x.hi y.hi != 0 then cmpV x.hi y.hi else if x.hopen == y.hopen then cmpV x.hi y.hi else if x.hopen then -1 else 1
def insPos (s : List I) (x : I) : Nat → Nat
  | 0 => 0
  | k + 1 => if lowB (s.getD k default).lb x.lb > 0 then insPos s x k else k + 1
def insR (s : List I) (x : I) : List I := s.take (insPos s x s.length) ++ x :: s.drop (insPos s x s.length)
def sortR (l s : List I) : List I := l.foldl (fun s x => if emptyI x then s else insR s x) s
def upR (y x : I) : I := { y with hi := x.hi, hopen := x.hopen, less := x.less }
def stepR (out : List I) (x : I) : List I :=
  if out.isEmpty then [x]
  else if touchI (out.getD (out.length - 1) default) x then
    (if highI (out.getD (out.length - 1) default) x < 0 then out.set (out.length - 1) (upR (out.getD (out.length - 1) default) x) else out)
  else out ++ [x]
def joinR (l : List I) : List I := (sortR l []).foldl stepR []
abbrev resL (l : List I) : PV := listP (twK l) (twN l) (twN l) l
def meet1 (x y : I) : I := 
  let x := if lowB x.lb y.lb < 0 then { x with lo := y.lo, lopen := y.lopen } else x
  if highI y x < 0 then upR x y else x
def meetR (a b : List I) : List I := joinR (a.flatMap fun x => b.map fun y => meet1 x y)
end Go.Proofs.YtlhfgonjcpapnaaGreatDoor.Abs

namespace Go.Proofs.YtlhfgonjcpapnaaGreatDoor.Abs
open Go Go.Proofs
theorem ref08_high_go (x : I) (y : I) (r : PV) : FnGo E1 Tryz.f100 [I.p x, I.p y] r 2000 (.fork (.lts 4 (.br true (.lts 3 (.fork (.hole 0) (.br true (.hole 0)))))) (.lts 3 (.fork (.br false (.lts 4 (.br false (.hole 0)))) (.res (intP (cmpV (I.hi x) (I.hi y))) (.fork (.lts 9 (.hole 0)) (.lts 8 (.fork (.hole 0) (.fork (.hole 0) (.hole 0))))))))) =
  (((0 : Nat) = 0) ∧
 ((I.less x) = true →
 ((0 : Nat) = 0) ∧
 ((I.less x) = true) ∧
 ((1 : Nat) = 1) ∧
 ((I.less y) = true →
 (intP 0) = r) ∧
 ((I.less y) = false →
 ((0 : Nat) = 0) ∧
 ((I.less x) = true) ∧
 (intP 1) = r)) ∧
 ((I.less x) = false →
 ((1 : Nat) = 1) ∧
 ((I.less y) = true →
 ((0 : Nat) = 0) ∧
 ((I.less x) = false) ∧
 ((0 : Nat) = 0) ∧
 ((I.less x) = false) ∧
 (intP (-1)) = r) ∧
 ((I.less y) = false →
 ((0 : Nat) = 0) ∧
 ((1 : Nat) = 1) ∧
 (Den E1 80 [V.p (I.hi x), V.p (I.hi y)] (intP (cmpV (I.hi x) (I.hi y)))) ∧
 ((cmpV (I.hi x) (I.hi y) != (0 : Int)) = true →
 (intP (cmpV (I.hi x) (I.hi y))) = r) ∧
 ((cmpV (I.hi x) (I.hi y) != (0 : Int)) = false →
 ((0 : Nat) = 0) ∧
 ((1 : Nat) = 1) ∧
 ((I.hopen x == I.hopen y) = true →
 (intP (cmpV (I.hi x) (I.hi y))) = r) ∧
 ((I.hopen x == I.hopen y) = false →
 ((0 : Nat) = 0) ∧
 ((I.hopen x) = true →
 (intP (-1)) = r) ∧
 ((I.hopen x) = false →
 (intP 1) = r)))))) := by kernel_rfl
def ref08_join_S0 (l : List I) (k : Nat) (nl : Bool) (full : Bool) (i : Int) (j : Nat → AV) (jr : Nat → Row) (g : Nat) : St :=
  { t := [.pv (.sl k nl full (List.map I.p l)), j 1, j 2, .pv (.sl 0 true true []), intA i] ++ jj j 5 125, h := [[row0, row0, row0, row0, row0, row0, row0, row0, row0, row0, row0, row0, row0, row0, row0, row0, row0, row0, row0, row0, row0, row0, row0, row0, row0, row0, row0, row0, row0, row0, row0, row0, row0, row0, row0, row0, row0, row0, row0, row0, row0, row0, row0, row0, jr 44, row0, row0, row0, row0, row0, row0, row0, row0, row0, row0, row0, row0, row0, row0, row0, row0, row0, row0, row0, row0, row0, row0, row0, row0, row0, row0, row0, row0, row0, row0, row0, row0, row0, row0, row0, row0, row0, row0, row0, row0, row0, row0, row0, row0, row0, row0, row0, row0, row0, row0, row0, row0, row0, row0, row0, row0, row0, row0, row0, row0, row0, row0, row0, row0, row0, row0, row0, row0, row0, row0, row0, row0, row0, row0, row0, row0, row0, row0, row0, row0, row0, row0, jr 127, jr 128, row0]], g := g }
def ref08_join_S1 (l : List I) (k : Nat) (nl : Bool) (full : Bool) (i : Int) (j : Nat → AV) (jr : Nat → Row) (g : Nat) : St :=
  { t := [.pv (.sl k nl full (List.map I.p l)), j 1, j 2, .pv (.sl 0 true true []), intA i, intA 0] ++ jj j 6 124, h := [[row0, row0, row0, row0, row0, row0, row0, row0, row0, row0, row0, row0, row0, row0, row0, row0, row0, row0, row0, row0, row0, row0, row0, row0, row0, row0, row0, row0, row0, row0, row0, row0, row0, row0, row0, row0, row0, row0, row0, row0, row0, row0, row0, row0, jr 44, row0, row0, row0, row0, row0, row0, row0, row0, row0, row0, row0, row0, row0, row0, row0, row0, row0, row0, row0, row0, row0, row0, row0, row0, row0, row0, row0, row0, row0, row0, row0, row0, row0, row0, row0, row0, row0, row0, row0, row0, row0, row0, row0, row0, row0, row0, row0, row0, row0, row0, row0, row0, row0, row0, row0, row0, row0, row0, row0, row0, row0, row0, row0, row0, row0, row0, row0, row0, row0, row0, row0, row0, row0, row0, row0, row0, row0, row0, row0, row0, row0, row0, jr 127, jr 128, row0]], g := g }
def ref08_join_S2 (l : List I) (k : Nat) (nl : Bool) (full : Bool) (i : Int) (p : Int) (q : Int) (gm : Nat) (n : Nat) (xsI : List PV) (j : Nat → AV) (jr : Nat → Row) (g : Nat) : St :=
  { t := [.pv (.sl k nl full (List.map I.p l)), j 1, j 2, .msl 0 45 gm 0 n false, intA i, intA p, intA q] ++ jj j 7 123, h := [[row0, row0, row0, row0, row0, row0, row0, row0, row0, row0, row0, row0, row0, row0, row0, row0, row0, row0, row0, row0, row0, row0, row0, row0, row0, row0, row0, row0, row0, row0, row0, row0, row0, row0, row0, row0, row0, row0, row0, row0, row0, row0, row0, row0, jr 44, ⟨gm, .row 11 63 xsI false⟩, row0, row0, row0, row0, row0, row0, row0, row0, row0, row0, row0, row0, row0, row0, row0, row0, row0, row0, row0, row0, row0, row0, row0, row0, row0, row0, row0, row0, row0, row0, row0, row0, row0, row0, row0, row0, row0, row0, row0, row0, row0, row0, row0, row0, row0, row0, row0, row0, row0, row0, row0, row0, row0, row0, row0, row0, row0, row0, row0, row0, row0, row0, row0, row0, row0, row0, row0, row0, row0, row0, row0, row0, row0, row0, row0, row0, row0, row0, row0, row0, row0, jr 127, jr 128, row0]], g := g }
def ref08_join_S3 (l : List I) (k : Nat) (nl : Bool) (full : Bool) (i : Int) (gm : Nat) (n : Nat) (xsI : List PV) (j : Nat → AV) (jr : Nat → Row) (g : Nat) : St :=
  { t := [.pv (.sl k nl full (List.map I.p l)), j 1, j 2, .msl 0 45 gm 0 n false, intA i] ++ jj j 5 125, h := [[row0, row0, row0, row0, row0, row0, row0, row0, row0, row0, row0, row0, row0, row0, row0, row0, row0, row0, row0, row0, row0, row0, row0, row0, row0, row0, row0, row0, row0, row0, row0, row0, row0, row0, row0, row0, row0, row0, row0, row0, row0, row0, row0, row0, jr 44, ⟨gm, .row 11 63 xsI false⟩, row0, row0, row0, row0, row0, row0, row0, row0, row0, row0, row0, row0, row0, row0, row0, row0, row0, row0, row0, row0, row0, row0, row0, row0, row0, row0, row0, row0, row0, row0, row0, row0, row0, row0, row0, row0, row0, row0, row0, row0, row0, row0, row0, row0, row0, row0, row0, row0, row0, row0, row0, row0, row0, row0, row0, row0, row0, row0, row0, row0, row0, row0, row0, row0, row0, row0, row0, row0, row0, row0, row0, row0, row0, row0, row0, row0, row0, row0, row0, row0, row0, jr 127, jr 128, row0]], g := g }
def ref08_join_S4 (l : List I) (k : Nat) (nl : Bool) (full : Bool) (i : Int) (p : Int) (gm : Nat) (n : Nat) (xsI : List PV) (j : Nat → AV) (jr : Nat → Row) (g : Nat) : St :=
  { t := [.pv (.sl k nl full (List.map I.p l)), j 1, j 2, .msl 0 45 gm 0 n false, intA i, intA p] ++ jj j 6 124, h := [[row0, row0, row0, row0, row0, row0, row0, row0, row0, row0, row0, row0, row0, row0, row0, row0, row0, row0, row0, row0, row0, row0, row0, row0, row0, row0, row0, row0, row0, row0, row0, row0, row0, row0, row0, row0, row0, row0, row0, row0, row0, row0, row0, row0, jr 44, ⟨gm, .row 11 63 xsI false⟩, row0, row0, row0, row0, row0, row0, row0, row0, row0, row0, row0, row0, row0, row0, row0, row0, row0, row0, row0, row0, row0, row0, row0, row0, row0, row0, row0, row0, row0, row0, row0, row0, row0, row0, row0, row0, row0, row0, row0, row0, row0, row0, row0, row0, row0, row0, row0, row0, row0, row0, row0, row0, row0, row0, row0, row0, row0, row0, row0, row0, row0, row0, row0, row0, row0, row0, row0, row0, row0, row0, row0, row0, row0, row0, row0, row0, row0, row0, row0, row0, row0, jr 127, jr 128, row0]], g := g }
def ref08_join_S5 (l : List I) (k : Nat) (nl : Bool) (full : Bool) (z : Row) (j : Nat → AV) (jr : Nat → Row) (g : Nat) : St :=
  { t := [j 0, j 1, j 2, .pv (.sl 0 true true []), j 4, j 5, j 6, .pv (.sl 0 true true []), intA 0] ++ jj j 9 121, h := [[row0, row0, row0, row0, row0, row0, row0, row0, row0, row0, row0, row0, row0, row0, row0, row0, row0, row0, row0, row0, row0, row0, row0, row0, row0, row0, row0, row0, row0, row0, row0, row0, row0, row0, row0, row0, row0, row0, row0, row0, row0, row0, row0, row0, jr 44, row0, row0, row0, row0, row0, row0, row0, row0, row0, row0, row0, row0, row0, row0, row0, row0, row0, row0, row0, row0, row0, row0, row0, row0, row0, row0, row0, row0, row0, row0, row0, row0, row0, row0, row0, row0, row0, row0, row0, row0, row0, row0, row0, row0, row0, row0, row0, row0, row0, row0, row0, row0, row0, row0, row0, row0, row0, row0, row0, row0, row0, row0, row0, row0, row0, row0, row0, row0, row0, row0, row0, row0, row0, row0, row0, row0, row0, row0, row0, row0, row0, row0, jr 127, z, row0]], g := g }
def ref08_join_S6 (l : List I) (k : Nat) (nl : Bool) (full : Bool) (i : Int) (gm : Nat) (n : Nat) (xsI : List PV) (z : Row) (j : Nat → AV) (jr : Nat → Row) (g : Nat) : St :=
  { t := [j 0, j 1, j 2, .msl 0 45 gm 0 n false, j 4, j 5, j 6, .pv (.sl 0 true true []), intA i] ++ jj j 9 121, h := [[row0, row0, row0, row0, row0, row0, row0, row0, row0, row0, row0, row0, row0, row0, row0, row0, row0, row0, row0, row0, row0, row0, row0, row0, row0, row0, row0, row0, row0, row0, row0, row0, row0, row0, row0, row0, row0, row0, row0, row0, row0, row0, row0, row0, jr 44, ⟨gm, .row 11 63 xsI false⟩, row0, row0, row0, row0, row0, row0, row0, row0, row0, row0, row0, row0, row0, row0, row0, row0, row0, row0, row0, row0, row0, row0, row0, row0, row0, row0, row0, row0, row0, row0, row0, row0, row0, row0, row0, row0, row0, row0, row0, row0, row0, row0, row0, row0, row0, row0, row0, row0, row0, row0, row0, row0, row0, row0, row0, row0, row0, row0, row0, row0, row0, row0, row0, row0, row0, row0, row0, row0, row0, row0, row0, row0, row0, row0, row0, row0, row0, row0, row0, row0, row0, jr 127, z, row0]], g := g }
def ref08_join_S7 (l : List I) (k : Nat) (nl : Bool) (full : Bool) (i : Int) (gm : Nat) (n : Nat) (go : Nat) (m : Nat) (xsI : List PV) (ysI : List PV) (j : Nat → AV) (jr : Nat → Row) (g : Nat) : St :=
  { t := [j 0, j 1, j 2, .msl 0 45 gm 0 n false, j 4, j 5, j 6, .msl 0 128 go 0 m false, intA i] ++ jj j 9 121, h := [[row0, row0, row0, row0, row0, row0, row0, row0, row0, row0, row0, row0, row0, row0, row0, row0, row0, row0, row0, row0, row0, row0, row0, row0, row0, row0, row0, row0, row0, row0, row0, row0, row0, row0, row0, row0, row0, row0, row0, row0, row0, row0, row0, row0, jr 44, ⟨gm, .row 11 63 xsI false⟩, row0, row0, row0, row0, row0, row0, row0, row0, row0, row0, row0, row0, row0, row0, row0, row0, row0, row0, row0, row0, row0, row0, row0, row0, row0, row0, row0, row0, row0, row0, row0, row0, row0, row0, row0, row0, row0, row0, row0, row0, row0, row0, row0, row0, row0, row0, row0, row0, row0, row0, row0, row0, row0, row0, row0, row0, row0, row0, row0, row0, row0, row0, row0, row0, row0, row0, row0, row0, row0, row0, row0, row0, row0, row0, row0, row0, row0, row0, row0, row0, row0, jr 127, ⟨go, .row 11 63 ysI false⟩, row0]], g := g }
theorem ref08_join_go (l : List I) (k : Nat) (nl : Bool) (full : Bool) (r : PV) : FnGo E1 Tryz.f58 [.sl k nl full (List.map I.p l)] r 2000 (.mask (iv [(1, 2), (5, 129)]) [44, 127, 128]) =
  (AtAll Tryz.f58 r 0 (ref08_join_S0 l k nl full 0)) := by kernel_rfl
theorem ref08_join_go_S0 (l : List I) (k : Nat) (nl : Bool) (full : Bool) (i : Int) (j : Nat → AV) (jr : Nat → Row) (g : Nat) (r : PV) : LoopGo E1 Tryz.f58 r 0 2000 (.fork (.val (I.p (gI l i)) (.res (bolP (emptyI (gI l i))) (.fork (.mask (iv [(1, 2), (5, 129)]) [44, 127, 128]) (.mask (iv [(1, 2), (6, 129)]) [44, 127, 128])))) (.mask (iv [(0, 2), (4, 6), (9, 129)]) [44, 127])) (ref08_join_S0 l k nl full i j jr g) =
  (((decide (i < (↑(List.length (List.map I.p l)) : Int))) = true →
 (((0 : Int) ≤ i) ∧ ((nl = false) ∧ (k = 11))) ∧
 (((List.map I.p l)[Int.toNat i]?) = some (I.p (gI l i))) ∧
 (Den E1 43 [I.p (gI l i)] (bolP (emptyI (gI l i)))) ∧
 ((emptyI (gI l i)) = true →
 AtAll Tryz.f58 r 0 (ref08_join_S0 l k nl full (IntKind.i64.wrap (i + (1 : Int))))) ∧
 ((emptyI (gI l i)) = false →
 AtAll Tryz.f58 r 1 (ref08_join_S1 l k nl full i))) ∧
 ((decide (i < (↑(List.length (List.map I.p l)) : Int))) = false →
 AtAll Tryz.f58 r 3 (ref08_join_S5 l k nl full (jr 128)))) := by kernel_rfl
theorem ref08_join_go_S1 (l : List I) (k : Nat) (nl : Bool) (full : Bool) (i : Int) (j : Nat → AV) (jr : Nat → Row) (g : Nat) (r : PV) : LoopGo E1 Tryz.f58 r 1 2000 (.lts 18 (.mask (iv [(1, 2), (7, 129)]) [44, 127, 128])) (ref08_join_S1 l k nl full i j jr g) =
  (((g + 17 + 2) = g + 17 + 2) ∧
 (((11 : Nat) = 11) ∧ ((1 : Nat) ≤ (1 : Nat))) ∧
 (((0 : Nat) = 0) ∧ (true = true)) ∧
 (AtAll Tryz.f58 r 2 (ref08_join_S2 l k nl full i 0 0 (g + 17 + 3) 1 [itvP 0 0 0 (.sl 0 true true []) false 0 0 0 (.sl 0 true true []) false false]))) := by kernel_rfl
theorem ref08_join_go_S2 (l : List I) (k : Nat) (nl : Bool) (full : Bool) (i : Int) (p : Int) (q : Int) (gm : Nat) (n : Nat) (xs : List I) (j : Nat → AV) (jr : Nat → Row) (g : Nat) (r : PV) : LoopGo E1 Tryz.f58 r 2 2000 (.fork (.val (I.p (List.getD xs ((0 : Nat) + Int.toNat (IntKind.i64.wrap (q - (1 : Int)))) default)) (.val (I.p (List.getD xs ((0 : Nat) + Int.toNat q) default)) (.mask (iv [(1, 2), (7, 129)]) [44, 127, 128]))) (.val (I.p (gI l i)) (.val (I.p (List.getD xs ((0 : Nat) + Int.toNat p) default)) (.mask (iv [(1, 2), (5, 129)]) [44, 127, 128])))) (ref08_join_S2 l k nl full i p q gm n (List.map I.p xs) j jr g) =
  (((decide (q > p)) = true →
 (gm = gm) ∧
 (((0 : Int) ≤ IntKind.i64.wrap (q - (1 : Int))) ∧ ((IntKind.i64.wrap (q - (1 : Int)) < (↑n : Int)) ∧ ((11 : Nat) = 11))) ∧
 (gm = gm) ∧
 (((List.map I.p xs)[(0 : Nat) + Int.toNat (IntKind.i64.wrap (q - (1 : Int)))]?) = some (I.p (List.getD xs ((0 : Nat) + Int.toNat (IntKind.i64.wrap (q - (1 : Int)))) default))) ∧
 (gm = gm) ∧
 (((0 : Int) ≤ q) ∧ ((q < (↑n : Int)) ∧ ((11 : Nat) = 11))) ∧
 (gm = gm) ∧
 (gm = gm) ∧
 (((List.map I.p xs)[(0 : Nat) + Int.toNat q]?) = some (I.p (List.getD xs ((0 : Nat) + Int.toNat q) default))) ∧
 (∀ (j' : Nat → AV) (jr' : Nat → Row) (g' : Nat), LoopAt E1 Tryz.f58 r 2 (ref08_join_S2 l k nl full i p (IntKind.i64.wrap (q - (1 : Int))) gm n (List.set (List.map I.p xs) ((0 : Nat) + Int.toNat q) (PV.agg [PV.lit (Value.int IntKind.u32 (V.a (I.lo (List.getD xs ((0 : Nat) + Int.toNat (IntKind.i64.wrap (q - (1 : Int)))) default)))), PV.lit (Value.int IntKind.u32 (V.b (I.lo (List.getD xs ((0 : Nat) + Int.toNat (IntKind.i64.wrap (q - (1 : Int)))) default)))), PV.lit (Value.int IntKind.u32 (V.c (I.lo (List.getD xs ((0 : Nat) + Int.toNat (IntKind.i64.wrap (q - (1 : Int)))) default)))), V.q (I.lo (List.getD xs ((0 : Nat) + Int.toNat (IntKind.i64.wrap (q - (1 : Int)))) default)), PV.lit (Value.bool (I.lopen (List.getD xs ((0 : Nat) + Int.toNat (IntKind.i64.wrap (q - (1 : Int)))) default))), PV.lit (Value.int IntKind.u32 (V.a (I.hi (List.getD xs ((0 : Nat) + Int.toNat (IntKind.i64.wrap (q - (1 : Int)))) default)))), PV.lit (Value.int IntKind.u32 (V.b (I.hi (List.getD xs ((0 : Nat) + Int.toNat (IntKind.i64.wrap (q - (1 : Int)))) default)))), PV.lit (Value.int IntKind.u32 (V.c (I.hi (List.getD xs ((0 : Nat) + Int.toNat (IntKind.i64.wrap (q - (1 : Int)))) default)))), V.q (I.hi (List.getD xs ((0 : Nat) + Int.toNat (IntKind.i64.wrap (q - (1 : Int)))) default)), PV.lit (Value.bool (I.hopen (List.getD xs ((0 : Nat) + Int.toNat (IntKind.i64.wrap (q - (1 : Int)))) default))), PV.lit (Value.bool (I.less (List.getD xs ((0 : Nat) + Int.toNat (IntKind.i64.wrap (q - (1 : Int)))) default)))])) j' jr' g'))) ∧
 ((decide (q > p)) = false →
 (((0 : Int) ≤ i) ∧ ((nl = false) ∧ (k = 11))) ∧
 (((List.map I.p l)[Int.toNat i]?) = some (I.p (gI l i))) ∧
 (gm = gm) ∧
 (((0 : Int) ≤ p) ∧ ((p < (↑n : Int)) ∧ ((11 : Nat) = 11))) ∧
 (gm = gm) ∧
 (gm = gm) ∧
 (((List.map I.p xs)[(0 : Nat) + Int.toNat p]?) = some (I.p (List.getD xs ((0 : Nat) + Int.toNat p) default))) ∧
 (∀ (j' : Nat → AV) (jr' : Nat → Row) (g' : Nat), LoopAt E1 Tryz.f58 r 0 (ref08_join_S3 l k nl full (IntKind.i64.wrap (i + (1 : Int))) gm n (List.set (List.map I.p xs) ((0 : Nat) + Int.toNat p) (PV.agg [PV.lit (Value.int IntKind.u32 (V.a (I.lo (gI l i)))), PV.lit (Value.int IntKind.u32 (V.b (I.lo (gI l i)))), PV.lit (Value.int IntKind.u32 (V.c (I.lo (gI l i)))), V.q (I.lo (gI l i)), PV.lit (Value.bool (I.lopen (gI l i))), PV.lit (Value.int IntKind.u32 (V.a (I.hi (gI l i)))), PV.lit (Value.int IntKind.u32 (V.b (I.hi (gI l i)))), PV.lit (Value.int IntKind.u32 (V.c (I.hi (gI l i)))), V.q (I.hi (gI l i)), PV.lit (Value.bool (I.hopen (gI l i))), PV.lit (Value.bool (I.less (gI l i)))])) j' jr' g')))) := by kernel_rfl
theorem ref08_join_go_S3 (l : List I) (k : Nat) (nl : Bool) (full : Bool) (i : Int) (gm : Nat) (n : Nat) (xs : List I) (j : Nat → AV) (jr : Nat → Row) (g : Nat) (r : PV) : LoopGo E1 Tryz.f58 r 0 2000 (.fork (.val (I.p (gI l i)) (.res (bolP (emptyI (gI l i))) (.fork (.mask (iv [(1, 2), (5, 129)]) [44, 127, 128]) (.mask (iv [(1, 2), (6, 129)]) [44, 127, 128])))) (.mask (iv [(0, 2), (4, 6), (9, 129)]) [44, 127])) (ref08_join_S3 l k nl full i gm n (List.map I.p xs) j jr g) =
  (((decide (i < (↑(List.length (List.map I.p l)) : Int))) = true →
 (((0 : Int) ≤ i) ∧ ((nl = false) ∧ (k = 11))) ∧
 (((List.map I.p l)[Int.toNat i]?) = some (I.p (gI l i))) ∧
 (Den E1 43 [I.p (gI l i)] (bolP (emptyI (gI l i)))) ∧
 ((emptyI (gI l i)) = true →
 AtAll Tryz.f58 r 0 (ref08_join_S3 l k nl full (IntKind.i64.wrap (i + (1 : Int))) gm n (List.map I.p xs))) ∧
 ((emptyI (gI l i)) = false →
 AtAll Tryz.f58 r 1 (ref08_join_S4 l k nl full i ((↑n : Int)) gm n (List.map I.p xs)))) ∧
 ((decide (i < (↑(List.length (List.map I.p l)) : Int))) = false →
 AtAll Tryz.f58 r 3 (ref08_join_S6 l k nl full 0 gm n (List.map I.p xs) (jr 128)))) := by kernel_rfl
theorem ref08_join_go_S4 (l : List I) (k : Nat) (nl : Bool) (full : Bool) (i : Int) (p : Int) (gm : Nat) (n : Nat) (xs : List I) (j : Nat → AV) (jr : Nat → Row) (g : Nat) (r : PV) : LoopGo E1 Tryz.f58 r 1 2000 (.fork (.lts 6 (.val (I.p (List.getD xs ((0 : Nat) + Int.toNat (IntKind.i64.wrap (p - (1 : Int)))) default)) (.lts 3 (.val (I.p (gI l i)) (.lts 3 (.res (intP (lowB { v := I.lo (List.getD xs ((0 : Nat) + Int.toNat (IntKind.i64.wrap (p - (1 : Int)))) default), op := I.lopen (List.getD xs ((0 : Nat) + Int.toNat (IntKind.i64.wrap (p - (1 : Int)))) default) } { v := I.lo (gI l i), op := I.lopen (gI l i) })) (.lit (.lit (.fork (.mask (iv [(1, 2), (6, 129)]) [44, 127, 128]) (.lit (.mask (iv [(1, 2), (7, 129)]) [44, 127, 128]))))))))))) (.lts 16 (.mask (iv [(1, 2), (7, 129)]) [44, 127, 128]))) (ref08_join_S4 l k nl full i p gm n (List.map I.p xs) j jr g) =
  (((decide (p > (0 : Int))) = true →
 (gm = gm) ∧
 (((0 : Int) ≤ IntKind.i64.wrap (p - (1 : Int))) ∧ ((IntKind.i64.wrap (p - (1 : Int)) < (↑n : Int)) ∧ ((11 : Nat) = 11))) ∧
 (gm = gm) ∧
 (((List.map I.p xs)[(0 : Nat) + Int.toNat (IntKind.i64.wrap (p - (1 : Int)))]?) = some (I.p (List.getD xs ((0 : Nat) + Int.toNat (IntKind.i64.wrap (p - (1 : Int)))) default))) ∧
 (((0 : Int) ≤ i) ∧ ((nl = false) ∧ (k = 11))) ∧
 (((List.map I.p l)[Int.toNat i]?) = some (I.p (gI l i))) ∧
 (Den E1 44 [Bd.p ⟨(I.lo (List.getD xs ((0 : Nat) + Int.toNat (IntKind.i64.wrap (p - (1 : Int)))) default)), (I.lopen (List.getD xs ((0 : Nat) + Int.toNat (IntKind.i64.wrap (p - (1 : Int)))) default))⟩, Bd.p ⟨(I.lo (gI l i)), (I.lopen (gI l i))⟩] (intP (lowB { v := I.lo (List.getD xs ((0 : Nat) + Int.toNat (IntKind.i64.wrap (p - (1 : Int)))) default), op := I.lopen (List.getD xs ((0 : Nat) + Int.toNat (IntKind.i64.wrap (p - (1 : Int)))) default) } { v := I.lo (gI l i), op := I.lopen (gI l i) }))) ∧
 ((decide (lowB { v := I.lo (List.getD xs ((0 : Nat) + Int.toNat (IntKind.i64.wrap (p - (1 : Int)))) default), op := I.lopen (List.getD xs ((0 : Nat) + Int.toNat (IntKind.i64.wrap (p - (1 : Int)))) default) } { v := I.lo (gI l i), op := I.lopen (gI l i) } > (0 : Int))) = true →
 AtAll Tryz.f58 r 1 (ref08_join_S4 l k nl full i (IntKind.i64.wrap (p - (1 : Int))) gm n (List.map I.p xs))) ∧
 ((decide (lowB { v := I.lo (List.getD xs ((0 : Nat) + Int.toNat (IntKind.i64.wrap (p - (1 : Int)))) default), op := I.lopen (List.getD xs ((0 : Nat) + Int.toNat (IntKind.i64.wrap (p - (1 : Int)))) default) } { v := I.lo (gI l i), op := I.lopen (gI l i) } > (0 : Int))) = false →
 ((g + 17 + 2) = g + 17 + 2) ∧
 (((11 : Nat) = 11) ∧ ((1 : Nat) ≤ (1 : Nat))) ∧
 (gm = gm) ∧
 ((false = false) ∧ (((11 : Nat) = 11) ∧ (((63 : Nat) = 63) ∧ ((((0 : Nat) + n) = List.length (List.map I.p xs)) ∧ ((fitsRow (n + 1) (104 : Nat)) = true))))) ∧
 (AtAll Tryz.f58 r 2 (ref08_join_S2 l k nl full i p (IntKind.i64.wrap ((↑(n + 1) : Int) - (1 : Int))) (g + 17 + 3) (n + 1) (List.drop (0 : Nat) (List.map I.p xs) ++ List.take (1 : Nat) (List.drop (0 : Nat) [PV.agg [PV.lit (Value.int IntKind.u32 (0 : Int)), PV.lit (Value.int IntKind.u32 (0 : Int)), PV.lit (Value.int IntKind.u32 (0 : Int)), PV.sl (0 : Nat) true true [], PV.lit (Value.bool false), PV.lit (Value.int IntKind.u32 (0 : Int)), PV.lit (Value.int IntKind.u32 (0 : Int)), PV.lit (Value.int IntKind.u32 (0 : Int)), PV.sl (0 : Nat) true true [], PV.lit (Value.bool false), PV.lit (Value.bool false)]])))))) ∧
 ((decide (p > (0 : Int))) = false →
 ((g + 17 + 2) = g + 17 + 2) ∧
 (((11 : Nat) = 11) ∧ ((1 : Nat) ≤ (1 : Nat))) ∧
 (gm = gm) ∧
 ((false = false) ∧ (((11 : Nat) = 11) ∧ (((63 : Nat) = 63) ∧ ((((0 : Nat) + n) = List.length (List.map I.p xs)) ∧ ((fitsRow (n + 1) (104 : Nat)) = true))))) ∧
 (AtAll Tryz.f58 r 2 (ref08_join_S2 l k nl full i p (IntKind.i64.wrap ((↑(n + 1) : Int) - (1 : Int))) (g + 17 + 3) (n + 1) (List.drop (0 : Nat) (List.map I.p xs) ++ List.take (1 : Nat) (List.drop (0 : Nat) [PV.agg [PV.lit (Value.int IntKind.u32 (0 : Int)), PV.lit (Value.int IntKind.u32 (0 : Int)), PV.lit (Value.int IntKind.u32 (0 : Int)), PV.sl (0 : Nat) true true [], PV.lit (Value.bool false), PV.lit (Value.int IntKind.u32 (0 : Int)), PV.lit (Value.int IntKind.u32 (0 : Int)), PV.lit (Value.int IntKind.u32 (0 : Int)), PV.sl (0 : Nat) true true [], PV.lit (Value.bool false), PV.lit (Value.bool false)]])))))) := by kernel_rfl
theorem ref08_join_go_S5 (l : List I) (k : Nat) (nl : Bool) (full : Bool) (z : Row) (j : Nat → AV) (jr : Nat → Row) (g : Nat) (r : PV) : LoopGo E1 Tryz.f58 r 3 2000 (.lit (.hole 0)) (ref08_join_S5 l k nl full z j jr g) =
  (((.sl 0 true true []) : PV) = r) := by kernel_rfl
theorem ref08_join_go_S6 (l : List I) (k : Nat) (nl : Bool) (full : Bool) (i : Int) (gm : Nat) (n : Nat) (xs : List I) (z : Row) (j : Nat → AV) (jr : Nat → Row) (g : Nat) (r : PV) : LoopGo E1 Tryz.f58 r 3 2000 (.fork (.lts 13 (.val (I.p (List.getD xs ((0 : Nat) + Int.toNat i) default)) (.lit (.lit (.mask (iv [(0, 2), (4, 6), (9, 129)]) [44, 127]))))) (.hole 0)) (ref08_join_S6 l k nl full i gm n (List.map I.p xs) z j jr g) =
  (((decide (i < (↑n : Int))) = true →
 (gm = gm) ∧
 (((0 : Int) ≤ i) ∧ ((i < (↑n : Int)) ∧ ((11 : Nat) = 11))) ∧
 (gm = gm) ∧
 (((List.map I.p xs)[(0 : Nat) + Int.toNat i]?) = some (I.p (List.getD xs ((0 : Nat) + Int.toNat i) default))) ∧
 ((g + 4 + 3 + 14 + 5) = g + 4 + 3 + 14 + 5) ∧
 (((11 : Nat) = 11) ∧ ((1 : Nat) ≤ (1 : Nat))) ∧
 (((0 : Nat) = 0) ∧ (true = true)) ∧
 (AtAll Tryz.f58 r 3 (ref08_join_S7 l k nl full (IntKind.i64.wrap (i + (1 : Int))) gm n (g + 4 + 3 + 14 + 6) 1 (List.map I.p xs) [I.p (List.getD xs ((0 : Nat) + Int.toNat i) default)]))) ∧
 ((decide (i < (↑n : Int))) = false →
 ((.sl 0 true true []) : PV) = r)) := by kernel_rfl
theorem ref08_join_go_S7 (l : List I) (k : Nat) (nl : Bool) (full : Bool) (i : Int) (gm : Nat) (n : Nat) (go : Nat) (m : Nat) (xs : List I) (ys : List I) (j : Nat → AV) (jr : Nat → Row) (g : Nat) (r : PV) : LoopGo E1 Tryz.f58 r 3 2000 (.fork (.fork (.lts 5 (.val (I.p (List.getD ys ((0 : Nat) + Int.toNat (IntKind.i64.wrap ((↑m : Int) - (1 : Int)))) default)) (.lts 4 (.val (I.p (List.getD xs ((0 : Nat) + Int.toNat i) default)) (.lit (.res (bolP (touchI (List.getD ys ((0 : Nat) + Int.toNat (IntKind.i64.wrap ((↑m : Int) - (1 : Int)))) default) (List.getD xs ((0 : Nat) + Int.toNat i) default))) (.lit (.fork (.val (I.p (List.getD ys ((0 : Nat) + Int.toNat (IntKind.i64.wrap ((↑m : Int) - (1 : Int)))) default)) (.val (I.p (List.getD xs ((0 : Nat) + Int.toNat i) default)) (.res (intP (highI (List.getD ys ((0 : Nat) + Int.toNat (IntKind.i64.wrap ((↑m : Int) - (1 : Int)))) default) (List.getD xs ((0 : Nat) + Int.toNat i) default))) (.fork (.val (I.p (List.getD xs ((0 : Nat) + Int.toNat i) default)) (.val (I.p (List.getD ys ((0 : Nat) + Int.toNat (IntKind.i64.wrap ((↑m : Int) - (1 : Int)))) default)) (.val (I.p (List.getD xs ((0 : Nat) + Int.toNat i) default)) (.val (I.p ⟨(I.lo (List.getD ys ((0 : Nat) + Int.toNat (IntKind.i64.wrap ((↑m : Int) - (1 : Int)))) default)), (I.lopen (List.getD ys ((0 : Nat) + Int.toNat (IntKind.i64.wrap ((↑m : Int) - (1 : Int)))) default)), (I.hi (List.getD xs ((0 : Nat) + Int.toNat i) default)), (I.hopen (List.getD xs ((0 : Nat) + Int.toNat i) default)), (I.less (List.getD ys ((0 : Nat) + Int.toNat (IntKind.i64.wrap ((↑m : Int) - (1 : Int)))) default))⟩) (.mask (iv [(0, 2), (4, 6), (9, 129)]) [44, 127]))))) (.mask (iv [(0, 2), (4, 6), (9, 129)]) [44, 127]))))) (.val (I.p (List.getD xs ((0 : Nat) + Int.toNat i) default)) (.lit (.mask (iv [(0, 2), (4, 6), (9, 129)]) [44, 127]))))))))))) (.lts 12 (.val (I.p (List.getD xs ((0 : Nat) + Int.toNat i) default)) (.lit (.mask (iv [(0, 2), (4, 6), (9, 129)]) [44, 127]))))) (.hole 0)) (ref08_join_S7 l k nl full i gm n go m (List.map I.p xs) (List.map I.p ys) j jr g) =
  (((decide (i < (↑n : Int))) = true →
 ((decide ((↑m : Int) > (0 : Int))) = true →
 (go = go) ∧
 (((0 : Int) ≤ IntKind.i64.wrap ((↑m : Int) - (1 : Int))) ∧ ((IntKind.i64.wrap ((↑m : Int) - (1 : Int)) < (↑m : Int)) ∧ ((11 : Nat) = 11))) ∧
 (go = go) ∧
 (((List.map I.p ys)[(0 : Nat) + Int.toNat (IntKind.i64.wrap ((↑m : Int) - (1 : Int)))]?) = some (I.p (List.getD ys ((0 : Nat) + Int.toNat (IntKind.i64.wrap ((↑m : Int) - (1 : Int)))) default))) ∧
 (gm = gm) ∧
 (((0 : Int) ≤ i) ∧ ((i < (↑n : Int)) ∧ ((11 : Nat) = 11))) ∧
 (gm = gm) ∧
 (((List.map I.p xs)[(0 : Nat) + Int.toNat i]?) = some (I.p (List.getD xs ((0 : Nat) + Int.toNat i) default))) ∧
 (Den E1 45 [I.p (List.getD ys ((0 : Nat) + Int.toNat (IntKind.i64.wrap ((↑m : Int) - (1 : Int)))) default), I.p (List.getD xs ((0 : Nat) + Int.toNat i) default)] (bolP (touchI (List.getD ys ((0 : Nat) + Int.toNat (IntKind.i64.wrap ((↑m : Int) - (1 : Int)))) default) (List.getD xs ((0 : Nat) + Int.toNat i) default)))) ∧
 ((touchI (List.getD ys ((0 : Nat) + Int.toNat (IntKind.i64.wrap ((↑m : Int) - (1 : Int)))) default) (List.getD xs ((0 : Nat) + Int.toNat i) default)) = true →
 (go = go) ∧
 (((0 : Int) ≤ IntKind.i64.wrap ((↑m : Int) - (1 : Int))) ∧ ((IntKind.i64.wrap ((↑m : Int) - (1 : Int)) < (↑m : Int)) ∧ ((11 : Nat) = 11))) ∧
 (go = go) ∧
 (((List.map I.p ys)[(0 : Nat) + Int.toNat (IntKind.i64.wrap ((↑m : Int) - (1 : Int)))]?) = some (I.p (List.getD ys ((0 : Nat) + Int.toNat (IntKind.i64.wrap ((↑m : Int) - (1 : Int)))) default))) ∧
 (gm = gm) ∧
 (((0 : Int) ≤ i) ∧ ((i < (↑n : Int)) ∧ ((11 : Nat) = 11))) ∧
 (gm = gm) ∧
 (((List.map I.p xs)[(0 : Nat) + Int.toNat i]?) = some (I.p (List.getD xs ((0 : Nat) + Int.toNat i) default))) ∧
 (Den E1 100 [I.p (List.getD ys ((0 : Nat) + Int.toNat (IntKind.i64.wrap ((↑m : Int) - (1 : Int)))) default), I.p (List.getD xs ((0 : Nat) + Int.toNat i) default)] (intP (highI (List.getD ys ((0 : Nat) + Int.toNat (IntKind.i64.wrap ((↑m : Int) - (1 : Int)))) default) (List.getD xs ((0 : Nat) + Int.toNat i) default)))) ∧
 ((decide (highI (List.getD ys ((0 : Nat) + Int.toNat (IntKind.i64.wrap ((↑m : Int) - (1 : Int)))) default) (List.getD xs ((0 : Nat) + Int.toNat i) default) < (0 : Int))) = true →
 (gm = gm) ∧
 (((0 : Int) ≤ i) ∧ ((i < (↑n : Int)) ∧ ((11 : Nat) = 11))) ∧
 (gm = gm) ∧
 (((List.map I.p xs)[(0 : Nat) + Int.toNat i]?) = some (I.p (List.getD xs ((0 : Nat) + Int.toNat i) default))) ∧
 (go = go) ∧
 (((0 : Int) ≤ IntKind.i64.wrap ((↑m : Int) - (1 : Int))) ∧ ((IntKind.i64.wrap ((↑m : Int) - (1 : Int)) < (↑m : Int)) ∧ ((11 : Nat) = 11))) ∧
 (go = go) ∧
 (go = go) ∧
 (((List.map I.p ys)[(0 : Nat) + Int.toNat (IntKind.i64.wrap ((↑m : Int) - (1 : Int)))]?) = some (I.p (List.getD ys ((0 : Nat) + Int.toNat (IntKind.i64.wrap ((↑m : Int) - (1 : Int)))) default))) ∧
 (gm = gm) ∧
 (((0 : Int) ≤ i) ∧ ((i < (↑n : Int)) ∧ ((11 : Nat) = 11))) ∧
 (gm = gm) ∧
 (((List.map I.p xs)[(0 : Nat) + Int.toNat i]?) = some (I.p (List.getD xs ((0 : Nat) + Int.toNat i) default))) ∧
 (go = go) ∧
 (((0 : Int) ≤ IntKind.i64.wrap ((↑m : Int) - (1 : Int))) ∧ ((IntKind.i64.wrap ((↑m : Int) - (1 : Int)) < (↑m : Int)) ∧ ((11 : Nat) = 11))) ∧
 (go = go) ∧
 (go = go) ∧
 (((List.set (List.map I.p ys) ((0 : Nat) + Int.toNat (IntKind.i64.wrap ((↑m : Int) - (1 : Int)))) (PV.agg [PV.lit (Value.int IntKind.u32 (V.a (I.lo (List.getD ys ((0 : Nat) + Int.toNat (IntKind.i64.wrap ((↑m : Int) - (1 : Int)))) default)))), PV.lit (Value.int IntKind.u32 (V.b (I.lo (List.getD ys ((0 : Nat) + Int.toNat (IntKind.i64.wrap ((↑m : Int) - (1 : Int)))) default)))), PV.lit (Value.int IntKind.u32 (V.c (I.lo (List.getD ys ((0 : Nat) + Int.toNat (IntKind.i64.wrap ((↑m : Int) - (1 : Int)))) default)))), V.q (I.lo (List.getD ys ((0 : Nat) + Int.toNat (IntKind.i64.wrap ((↑m : Int) - (1 : Int)))) default)), PV.lit (Value.bool (I.lopen (List.getD ys ((0 : Nat) + Int.toNat (IntKind.i64.wrap ((↑m : Int) - (1 : Int)))) default))), PV.lit (Value.int IntKind.u32 (V.a (I.hi (List.getD xs ((0 : Nat) + Int.toNat i) default)))), PV.lit (Value.int IntKind.u32 (V.b (I.hi (List.getD xs ((0 : Nat) + Int.toNat i) default)))), PV.lit (Value.int IntKind.u32 (V.c (I.hi (List.getD xs ((0 : Nat) + Int.toNat i) default)))), V.q (I.hi (List.getD xs ((0 : Nat) + Int.toNat i) default)), PV.lit (Value.bool (I.hopen (List.getD xs ((0 : Nat) + Int.toNat i) default))), PV.lit (Value.bool (I.less (List.getD ys ((0 : Nat) + Int.toNat (IntKind.i64.wrap ((↑m : Int) - (1 : Int)))) default)))]))[(0 : Nat) + Int.toNat (IntKind.i64.wrap ((↑m : Int) - (1 : Int)))]?) = some (I.p ⟨(I.lo (List.getD ys ((0 : Nat) + Int.toNat (IntKind.i64.wrap ((↑m : Int) - (1 : Int)))) default)), (I.lopen (List.getD ys ((0 : Nat) + Int.toNat (IntKind.i64.wrap ((↑m : Int) - (1 : Int)))) default)), (I.hi (List.getD xs ((0 : Nat) + Int.toNat i) default)), (I.hopen (List.getD xs ((0 : Nat) + Int.toNat i) default)), (I.less (List.getD ys ((0 : Nat) + Int.toNat (IntKind.i64.wrap ((↑m : Int) - (1 : Int)))) default))⟩)) ∧
 (∀ (j' : Nat → AV) (jr' : Nat → Row) (g' : Nat), LoopAt E1 Tryz.f58 r 3 (ref08_join_S7 l k nl full (IntKind.i64.wrap (i + (1 : Int))) gm n go m (List.map I.p xs) (List.set (List.set (List.map I.p ys) ((0 : Nat) + Int.toNat (IntKind.i64.wrap ((↑m : Int) - (1 : Int)))) (PV.agg [PV.lit (Value.int IntKind.u32 (V.a (I.lo (List.getD ys ((0 : Nat) + Int.toNat (IntKind.i64.wrap ((↑m : Int) - (1 : Int)))) default)))), PV.lit (Value.int IntKind.u32 (V.b (I.lo (List.getD ys ((0 : Nat) + Int.toNat (IntKind.i64.wrap ((↑m : Int) - (1 : Int)))) default)))), PV.lit (Value.int IntKind.u32 (V.c (I.lo (List.getD ys ((0 : Nat) + Int.toNat (IntKind.i64.wrap ((↑m : Int) - (1 : Int)))) default)))), V.q (I.lo (List.getD ys ((0 : Nat) + Int.toNat (IntKind.i64.wrap ((↑m : Int) - (1 : Int)))) default)), PV.lit (Value.bool (I.lopen (List.getD ys ((0 : Nat) + Int.toNat (IntKind.i64.wrap ((↑m : Int) - (1 : Int)))) default))), PV.lit (Value.int IntKind.u32 (V.a (I.hi (List.getD xs ((0 : Nat) + Int.toNat i) default)))), PV.lit (Value.int IntKind.u32 (V.b (I.hi (List.getD xs ((0 : Nat) + Int.toNat i) default)))), PV.lit (Value.int IntKind.u32 (V.c (I.hi (List.getD xs ((0 : Nat) + Int.toNat i) default)))), V.q (I.hi (List.getD xs ((0 : Nat) + Int.toNat i) default)), PV.lit (Value.bool (I.hopen (List.getD xs ((0 : Nat) + Int.toNat i) default))), PV.lit (Value.bool (I.less (List.getD ys ((0 : Nat) + Int.toNat (IntKind.i64.wrap ((↑m : Int) - (1 : Int)))) default)))])) ((0 : Nat) + Int.toNat (IntKind.i64.wrap ((↑m : Int) - (1 : Int)))) (PV.agg [PV.lit (Value.int IntKind.u32 (V.a (I.lo (List.getD ys ((0 : Nat) + Int.toNat (IntKind.i64.wrap ((↑m : Int) - (1 : Int)))) default)))), PV.lit (Value.int IntKind.u32 (V.b (I.lo (List.getD ys ((0 : Nat) + Int.toNat (IntKind.i64.wrap ((↑m : Int) - (1 : Int)))) default)))), PV.lit (Value.int IntKind.u32 (V.c (I.lo (List.getD ys ((0 : Nat) + Int.toNat (IntKind.i64.wrap ((↑m : Int) - (1 : Int)))) default)))), V.q (I.lo (List.getD ys ((0 : Nat) + Int.toNat (IntKind.i64.wrap ((↑m : Int) - (1 : Int)))) default)), PV.lit (Value.bool (I.lopen (List.getD ys ((0 : Nat) + Int.toNat (IntKind.i64.wrap ((↑m : Int) - (1 : Int)))) default))), PV.lit (Value.int IntKind.u32 (V.a (I.hi (List.getD xs ((0 : Nat) + Int.toNat i) default)))), PV.lit (Value.int IntKind.u32 (V.b (I.hi (List.getD xs ((0 : Nat) + Int.toNat i) default)))), PV.lit (Value.int IntKind.u32 (V.c (I.hi (List.getD xs ((0 : Nat) + Int.toNat i) default)))), V.q (I.hi (List.getD xs ((0 : Nat) + Int.toNat i) default)), PV.lit (Value.bool (I.hopen (List.getD xs ((0 : Nat) + Int.toNat i) default))), PV.lit (Value.bool (I.less (List.getD xs ((0 : Nat) + Int.toNat i) default)))])) j' jr' g'))) ∧
 ((decide (highI (List.getD ys ((0 : Nat) + Int.toNat (IntKind.i64.wrap ((↑m : Int) - (1 : Int)))) default) (List.getD xs ((0 : Nat) + Int.toNat i) default) < (0 : Int))) = false →
 AtAll Tryz.f58 r 3 (ref08_join_S7 l k nl full (IntKind.i64.wrap (i + (1 : Int))) gm n go m (List.map I.p xs) (List.map I.p ys)))) ∧
 ((touchI (List.getD ys ((0 : Nat) + Int.toNat (IntKind.i64.wrap ((↑m : Int) - (1 : Int)))) default) (List.getD xs ((0 : Nat) + Int.toNat i) default)) = false →
 (gm = gm) ∧
 (((0 : Int) ≤ i) ∧ ((i < (↑n : Int)) ∧ ((11 : Nat) = 11))) ∧
 (gm = gm) ∧
 (((List.map I.p xs)[(0 : Nat) + Int.toNat i]?) = some (I.p (List.getD xs ((0 : Nat) + Int.toNat i) default))) ∧
 ((g + 4 + 3 + 14 + 5) = g + 4 + 3 + 14 + 5) ∧
 (((11 : Nat) = 11) ∧ ((1 : Nat) ≤ (1 : Nat))) ∧
 (go = go) ∧
 ((false = false) ∧ (((11 : Nat) = 11) ∧ (((63 : Nat) = 63) ∧ ((((0 : Nat) + m) = List.length (List.map I.p ys)) ∧ ((fitsRow (m + 1) (104 : Nat)) = true))))) ∧
 (∀ (j' : Nat → AV) (jr' : Nat → Row) (g' : Nat), LoopAt E1 Tryz.f58 r 3 (ref08_join_S7 l k nl full (IntKind.i64.wrap (i + (1 : Int))) gm n (g + 4 + 3 + 14 + 6) (m + 1) (List.map I.p xs) (List.drop (0 : Nat) (List.map I.p ys) ++ List.take (1 : Nat) (List.drop (0 : Nat) [PV.agg [PV.lit (Value.int IntKind.u32 (V.a (I.lo (List.getD xs ((0 : Nat) + Int.toNat i) default)))), PV.lit (Value.int IntKind.u32 (V.b (I.lo (List.getD xs ((0 : Nat) + Int.toNat i) default)))), PV.lit (Value.int IntKind.u32 (V.c (I.lo (List.getD xs ((0 : Nat) + Int.toNat i) default)))), V.q (I.lo (List.getD xs ((0 : Nat) + Int.toNat i) default)), PV.lit (Value.bool (I.lopen (List.getD xs ((0 : Nat) + Int.toNat i) default))), PV.lit (Value.int IntKind.u32 (V.a (I.hi (List.getD xs ((0 : Nat) + Int.toNat i) default)))), PV.lit (Value.int IntKind.u32 (V.b (I.hi (List.getD xs ((0 : Nat) + Int.toNat i) default)))), PV.lit (Value.int IntKind.u32 (V.c (I.hi (List.getD xs ((0 : Nat) + Int.toNat i) default)))), V.q (I.hi (List.getD xs ((0 : Nat) + Int.toNat i) default)), PV.lit (Value.bool (I.hopen (List.getD xs ((0 : Nat) + Int.toNat i) default))), PV.lit (Value.bool (I.less (List.getD xs ((0 : Nat) + Int.toNat i) default)))]])) j' jr' g')))) ∧
 ((decide ((↑m : Int) > (0 : Int))) = false →
 (gm = gm) ∧
 (((0 : Int) ≤ i) ∧ ((i < (↑n : Int)) ∧ ((11 : Nat) = 11))) ∧
 (gm = gm) ∧
 (((List.map I.p xs)[(0 : Nat) + Int.toNat i]?) = some (I.p (List.getD xs ((0 : Nat) + Int.toNat i) default))) ∧
 ((g + 4 + 3 + 14 + 5) = g + 4 + 3 + 14 + 5) ∧
 (((11 : Nat) = 11) ∧ ((1 : Nat) ≤ (1 : Nat))) ∧
 (go = go) ∧
 ((false = false) ∧ (((11 : Nat) = 11) ∧ (((63 : Nat) = 63) ∧ ((((0 : Nat) + m) = List.length (List.map I.p ys)) ∧ ((fitsRow (m + 1) (104 : Nat)) = true))))) ∧
 (∀ (j' : Nat → AV) (jr' : Nat → Row) (g' : Nat), LoopAt E1 Tryz.f58 r 3 (ref08_join_S7 l k nl full (IntKind.i64.wrap (i + (1 : Int))) gm n (g + 4 + 3 + 14 + 6) (m + 1) (List.map I.p xs) (List.drop (0 : Nat) (List.map I.p ys) ++ List.take (1 : Nat) (List.drop (0 : Nat) [PV.agg [PV.lit (Value.int IntKind.u32 (V.a (I.lo (List.getD xs ((0 : Nat) + Int.toNat i) default)))), PV.lit (Value.int IntKind.u32 (V.b (I.lo (List.getD xs ((0 : Nat) + Int.toNat i) default)))), PV.lit (Value.int IntKind.u32 (V.c (I.lo (List.getD xs ((0 : Nat) + Int.toNat i) default)))), V.q (I.lo (List.getD xs ((0 : Nat) + Int.toNat i) default)), PV.lit (Value.bool (I.lopen (List.getD xs ((0 : Nat) + Int.toNat i) default))), PV.lit (Value.int IntKind.u32 (V.a (I.hi (List.getD xs ((0 : Nat) + Int.toNat i) default)))), PV.lit (Value.int IntKind.u32 (V.b (I.hi (List.getD xs ((0 : Nat) + Int.toNat i) default)))), PV.lit (Value.int IntKind.u32 (V.c (I.hi (List.getD xs ((0 : Nat) + Int.toNat i) default)))), V.q (I.hi (List.getD xs ((0 : Nat) + Int.toNat i) default)), PV.lit (Value.bool (I.hopen (List.getD xs ((0 : Nat) + Int.toNat i) default))), PV.lit (Value.bool (I.less (List.getD xs ((0 : Nat) + Int.toNat i) default)))]])) j' jr' g')))) ∧
 ((decide (i < (↑n : Int))) = false →
 ∃ hp, frz frzDepth (.msl 0 128 go 0 m false) [[row0, row0, row0, row0, row0, row0, row0, row0, row0, row0, row0, row0, row0, row0, row0, row0, row0, row0, row0, row0, row0, row0, row0, row0, row0, row0, row0, row0, row0, row0, row0, row0, row0, row0, row0, row0, row0, row0, row0, row0, row0, row0, row0, row0, jr 44, ⟨gm, .row 11 63 (List.map I.p xs) false⟩, row0, row0, row0, row0, row0, row0, row0, row0, row0, row0, row0, row0, row0, row0, row0, row0, row0, row0, row0, row0, row0, row0, row0, row0, row0, row0, row0, row0, row0, row0, row0, row0, row0, row0, row0, row0, row0, row0, row0, row0, row0, row0, row0, row0, row0, row0, row0, row0, row0, row0, row0, row0, row0, row0, row0, row0, row0, row0, row0, row0, row0, row0, row0, row0, row0, row0, row0, row0, row0, row0, row0, row0, row0, row0, row0, row0, row0, row0, row0, row0, row0, jr 127, ⟨go, .row 11 63 (List.map I.p ys) false⟩, row0]] = some (r, hp))) := by kernel_rfl
end Go.Proofs.YtlhfgonjcpapnaaGreatDoor.Abs

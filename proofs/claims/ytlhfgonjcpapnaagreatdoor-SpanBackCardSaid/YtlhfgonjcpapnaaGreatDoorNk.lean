/-
  The abstract machine over the model, its soundness, walks of the program's functions and what they compute. Conditions: the values are of their types.
-/
import Derived.Test.YtlhfgonjcpapnaaGreatDoorNj
import Derived.Lib.Split
import Derived.Lib.IndexMore

set_option linter.all false
set_option linter.unnecessarySimpa false

namespace Go.Proofs.YtlhfgonjcpapnaaGreatDoor.Abs
open Go Go.Proofs
theorem den_dead (x : I) (hx : x.ok) : Den E1 96 [x.p] (bolP (deadI x)) :=
  den1 2000 _ rfl (by kernel_rfl) rfl rfl rfl (Eq.mpr (span_join_1_go x _) ⟨rfl, den_low x, rfl, den_high x, den_before x.low x.high hx.lo hx.hi, rfl⟩)
theorem den_ordS (x y : I) (hx : x.ok) (hy : y.ok) : Den E1 98 [x.p, y.p] (intP (befE x.low y.low)) :=
  den1 2000 _ rfl (by kernel_rfl) rfl rfl rfl (Eq.mpr (span_join_2_go x y _) ⟨rfl, den_low x, rfl, den_low y, den_before x.low y.low hx.lo hy.lo, rfl⟩)
theorem den_between (a b : Ed) : Den E1 89 [a.p, b.p] (betE a b).p := by
  refine den1 2000 _ rfl (by kernel_rfl) rfl rfl rfl (Eq.mpr (span_between_go a b _) ?_)
  refine ⟨rfl, rfl, rfl, rfl, rfl, fun h => ⟨rfl, rfl, rfl, rfl, rfl, ?_⟩, fun h => ⟨rfl, rfl, ?_⟩⟩
  · have h' : b.less = false := not_eq.1 h
    simp only [betE, I.p, h']
    rfl
  · have h' : b.less = true := not_eq.2 h
    simp only [betE, I.p, h']
    rfl
theorem den_IndexFuncD (l : List I) (k : Nat) (nl full : Bool) (hsl : slOk 11 k nl l.length) (hll : l.length < 1000000) (hok : ∀ x ∈ l, x.ok) :
    Den E1 121 [listP k nl full l, .clo (.func 96) [] []] (intP (idxI deadI l)) := by
  refine den1 2000 _ rfl (by kernel_rfl) rfl rfl rfl (Eq.mpr (slices_IndexFunc_api_Interval_api_Interval_D_go l k nl full _) fun j jr g => ?_)
  have H : ∀ (n i : Nat) j jr g, i + n = l.length → (l.findIdx deadI = i + (l.drop i).findIdx deadI) → LoopAt E1 Tryz.f121 (intP (idxI deadI l)) 0 (slices_IndexFunc_api_Interval_api_Interval_D_S0 l k nl full i j jr g) := by
    intro n
    induction n with
    | zero =>
      intro i j jr g hi hd
      refine loop_go 2000 _ (Eq.mpr (slices_IndexFunc_api_Interval_api_Interval_D_go_S0 l k nl full i j jr g _) ⟨fun h => ?_, fun h => ?_⟩)
      · simp only [decide_eq_true_eq, List.length_map] at h; omega
      · unfold idxI
        rw [if_neg (by rw [hd]; omega)]
    | succ n ih =>
      intro i j jr g hi hd
      have hil : i < l.length := by omega
      have hw1 : IntKind.wrap IntKind.i64 ((i : Int) + 1) = ((i + 1 : Nat) : Int) := wrap_i64 _ (by omega) (by omega)
      refine loop_go 2000 _ (Eq.mpr (slices_IndexFunc_api_Interval_api_Interval_D_go_S0 l k nl full i j jr g _) ⟨fun h => ?_, fun h => ?_⟩)
      · simp only [hw1, Int.toNat_natCast, gI_nat, gI_zero]
        rw [drop_get hil, List.findIdx_cons] at hd
        refine ⟨⟨by omega, sl_at hsl hil⟩, getI hil, den_dead _ (by rw [getD_lt hil]; exact hok _ (by simp)), fun he => ?_, fun he j jr g => ?_⟩
        · rw [he] at hd
          have hd' : l.findIdx deadI = i := hd
          unfold idxI
          rw [hd', if_pos hil]
        · rw [he] at hd
          exact ih (i + 1) j jr g (by omega) (by rw [hd]; simp only [cond_false]; omega)
      · simp only [decide_eq_false_iff_not, List.length_map] at h; omega
  exact H l.length 0 j jr g (by omega) (by simp)
theorem denO_CloneI (l : List I) (k : Nat) (full : Bool) (hsl : slOk 11 k false l.length) (hll : l.length < 1000000) (h0 : l ≠ []) : DenO E1 95 [listP k false full l] 11 63 (List.map I.p l) 0 l.length false := by
  refine denO_go 2000 _ rfl (by kernel_rfl) rfl rfl rfl rfl (Eq.mpr (slices_Clone_api_Interval_api_Interval_O_go l k full _ _ _ _ _ _) ⟨⟨fun h => (by cases h), fun _ => hsl.2 rfl⟩, fun h => ?_, fun h => ?_⟩)
  · have : l = [] := by simpa using h
    exact h0 this
  · refine ⟨⟨rfl, rfl, fits_104 (by simp; omega)⟩, ⟨rfl, by simp, rfl⟩, rfl, rfl, rfl, rfl⟩
theorem del_of_none {l : List I} (h : (idxI deadI l == (-1 : Int)) = true) : delN l = l.length ∧ delL l = l := by
  have h1 : l.filter (fun x => !deadI x) = l := by
    rw [List.filter_eq_self]
    intro x hx
    unfold idxI at h
    split at h
    · rename_i hh
      simp only [beq_iff_eq] at h
      omega
    · rename_i hh
      have : deadI x = false := by
        cases hd : deadI x with
        | false => rfl
        | true => exact absurd (List.findIdx_lt_length_of_exists ⟨x, hx, hd⟩) hh
      simp [this]
  unfold delN delL
  rw [h1]
  simp
theorem frzs_msl2 {h h1 : Heap} {d s g n k : Nat} {full fz : Bool} {e : TypeId} {xs : List PV} {p : PV} (hb : hget h d s = ⟨g, .row k e xs fz⟩) (hn : xs.length = n) (hm : marks [(d, s)] h = h1) : frzs frzDepth [.msl d s g 0 n full, .pv p] h = some ([.sl k false full xs, p], h1) := by
  have hp : pk h frzDepth (.msl d s g 0 n full) = some (.sl k false full xs, [(d, s)]) := pk_msl hb hn
  have hq : pk h frzDepth (.pv p) = some (p, []) := rfl
  simp only [frzs, pks, hp, hq, Option.bind_some, Option.map_some, List.append_nil]
  rw [hm]
theorem splice_end {l : List I} {q : Nat} (hq : q ≤ l.length) : splice (List.map I.p l) q (List.replicate (l.length - q) zI.p) = List.map I.p (l.take q ++ List.replicate (l.length - q) zI) := by
  unfold splice
  rw [List.length_replicate, List.drop_eq_nil_of_le (by simp; omega), List.append_nil, List.map_append, List.map_take, List.map_replicate]
theorem del_loop (l : List I) (fu : Bool) (hll : l.length < 1000000) (hok : ∀ x ∈ l, x.ok) : ∀ (n i q : Nat) (xs : List I) j jr g, i + n = l.length → xs.length = l.length → xs.take q = (l.take i).filter (fun x => !deadI x) → xs.drop i = l.drop i → q < i → q = ((l.take i).filter (fun x => !deadI x)).length →
    LoopAtC E1 Tryz.f94 1 (.msl 0 0 0 0 (delN l) (fu && delN l == l.length)) [⟨0, .row 11 63 (List.map I.p (delL l)) false⟩] 0 (slices_DeleteFunc_api_Interval_api_Interval_S0 l l.length fu i q (List.map I.p xs) j jr g) := by
  intro n
  induction n with
  | zero =>
    intro i q xs j jr g hi hxl hxt hxd hqi hq
    have hil : i = l.length := by omega
    rw [hil, List.take_length] at hxt hq
    have hdn : delN l = q := hq.symm
    have hdl : delL l = xs.take q ++ List.replicate (l.length - q) zI := by unfold delL; rw [hxt, ← hq]
    refine loopC_go 2000 _ (Eq.mpr (slices_DeleteFunc_api_Interval_api_Interval_go_S0 l l.length fu i q xs j jr g _ _) ⟨fun h => ?_, fun h => ?_⟩)
    · simp only [decide_eq_true_eq] at h; omega
    · simp only [Int.toNat_natCast, gI_nat, gI_zero, Nat.zero_add, Nat.sub_zero, eq_self, true_and, and_true]
      refine ⟨by omega, fun h0 => ?_, fun h0 => ⟨⟨by decide, by simp; omega⟩, by omega, by rw [hdn], ?_⟩⟩
      · simp only [beq_iff_eq] at h0; omega
      · rw [hdl]
        have := splice_end (l := xs) (q := q) (by omega)
        rw [hxl] at this
        rw [← this]
        rfl
  | succ n ih =>
    intro i q xs j0 jr0 g0 hi hxl hxt hxd hqi hq
    have hil : i < l.length := by omega
    have hw1 : IntKind.wrap IntKind.i64 ((i : Int) + 1) = ((i + 1 : Nat) : Int) := wrap_i64 _ (by omega) (by omega)
    have hw2 : IntKind.wrap IntKind.i64 ((q : Int) + 1) = ((q + 1 : Nat) : Int) := wrap_i64 _ (by omega) (by omega)
    have hxi : xs.getD i default = l.getD i default := by
      have h1 := drop_get (l := xs) (i := i) (by omega)
      have h2 := drop_get (l := l) (i := i) hil
      rw [h1, h2] at hxd
      exact (List.cons.inj hxd).1
    have hxd1 : xs.drop (i + 1) = l.drop (i + 1) := by
      have h1 := drop_get (l := xs) (i := i) (by omega)
      have h2 := drop_get (l := l) (i := i) hil
      rw [h1, h2] at hxd
      exact (List.cons.inj hxd).2
    have hokx : (l.getD i default).ok := by rw [getD_lt hil]; exact hok _ (by simp)
    have htk : (l.take (i + 1)).filter (fun x => !deadI x) = (l.take i).filter (fun x => !deadI x) ++ (if deadI (l.getD i default) then [] else [l.getD i default]) := by
      rw [List.take_succ_eq_append_getElem hil, List.filter_append, getD_lt hil]
      cases hdd : deadI l[i] <;> simp [List.filter, hdd]
    refine loopC_go 2000 _ (Eq.mpr (slices_DeleteFunc_api_Interval_api_Interval_go_S0 l l.length fu i q xs j0 jr0 g0 _ _) ⟨fun h => ?_, fun h => ?_⟩)
    · simp only [hw1, hw2, Int.toNat_natCast, gI_nat, gI_zero, Nat.zero_add, eq_self, true_and, and_true]
      refine ⟨by omega, getI (by omega), den_dead _ (by rw [hxi]; exact hokx), fun he => ⟨by omega, getI (by omega), fun j jr g => ?_⟩, fun he j jr g => ?_⟩
      · have he' : deadI (l.getD i default) = false := by rw [← hxi]; exact not_eq.1 he
        rw [he'] at htk
        have := ih (i + 1) (q + 1) (xs.set q (xs.getD i default)) j jr g (by omega) (by simpa using hxl) (by
          rw [htk, ← hxt, hxi, List.take_succ_eq_append_getElem (by simp; omega), List.take_set_of_le (Nat.le_refl _)]
          simp) (by rw [List.drop_set_of_lt (by omega), hxd1]) (by omega) (by rw [htk, hq]; simp)
        rw [List.map_set] at this
        exact this
      · have he' : deadI (l.getD i default) = true := by rw [← hxi]; exact not_eq.2 he
        rw [he'] at htk
        exact ih (i + 1) q xs j jr g (by omega) hxl (by rw [hxt, htk]; simp) hxd1 (by omega) (by rw [htk, hq]; simp)
    · simp only [decide_eq_false_iff_not] at h; omega
theorem denC_DeleteFunc (l : List I) (fu : Bool) (hll : l.length < 1000000) (hok : ∀ x ∈ l, x.ok) :
    DenC E1 94 [.msl 0 0 0 0 l.length fu, .pv (.clo (.func 96) [] [])] [⟨0, .row 11 63 (List.map I.p l) false⟩] (.msl 0 0 0 0 (delN l) (fu && delN l == l.length)) [⟨0, .row 11 63 (List.map I.p (delL l)) false⟩] := by
  refine denC_go 2000 _ (fn := Tryz.f94) (by kernel_rfl) rfl (Eq.mpr (slices_DeleteFunc_api_Interval_api_Interval_go l l.length fu _ _) ⟨?_, den_IndexFuncD l 11 false fu ⟨fun h => (by cases h), fun _ => rfl⟩ hll hok, fun h => ?_, fun h => ?_⟩)
  · exact frzs_msl2 rfl (by simp) rfl
  · obtain ⟨h1, h2⟩ := del_of_none h
    rw [h1, h2]
    exact ⟨rfl, rfl, by simp, rfl⟩
  · have hfi : l.findIdx deadI < l.length := by
      unfold idxI at h
      split at h
      · assumption
      · cases h
    have hid : idxI deadI l = ((l.findIdx deadI : Nat) : Int) := by unfold idxI; rw [if_pos hfi]
    have hw : IntKind.wrap IntKind.i64 (((l.findIdx deadI : Nat) : Int) + 1) = ((l.findIdx deadI + 1 : Nat) : Int) := wrap_i64 _ (by omega) (by omega)
    rw [hid, hw]
    intro j jr g
    have hft : (l.take (l.findIdx deadI + 1)).filter (fun x => !deadI x) = l.take (l.findIdx deadI) := by
      rw [List.take_succ_eq_append_getElem hfi, List.filter_append]
      have hd : deadI l[l.findIdx deadI] = true := List.findIdx_getElem (w := hfi)
      have e1 : (l.take (l.findIdx deadI)).filter (fun x => !deadI x) = l.take (l.findIdx deadI) := by
        rw [List.filter_eq_self]
        intro x hx
        obtain ⟨i, hi, rfl⟩ := List.mem_take_iff_getElem.1 hx
        have : deadI l[i] = false := List.not_of_lt_findIdx (p := deadI) (by omega)
        simp [this]
      rw [e1]
      simp [hd]
    exact del_loop l fu hll hok (l.length - (l.findIdx deadI + 1)) (l.findIdx deadI + 1) (l.findIdx deadI) l j jr g (by omega) rfl (by rw [hft]) rfl (by omega) (by rw [hft]; simp; omega)
theorem ins_down (s t p : List I) (x : I) : insDown p.length (p.length + s.length) (p ++ s ++ x :: t) = p ++ insS s x ++ t := by
  have H : ∀ (n : Nat) (s t : List I), s.length = n → insDown p.length (p.length + n) (p ++ s ++ x :: t) = p ++ (s.take (insPosS s x n) ++ x :: s.drop (insPosS s x n)) ++ t := by
    intro n
    induction n with
    | zero =>
      intro s t hs
      have : s = [] := List.length_eq_zero_iff.1 hs
      subst this
      cases p with
      | nil => rfl
      | cons y p =>
        have e : (y :: p).length + 0 = p.length + 1 := rfl
        rw [e]
        unfold insDown
        rw [if_neg (by simp)]
        simp [insPosS]
    | succ n ih =>
      intro s t hs
      obtain ⟨s, y, rfl⟩ : ∃ s' y, s = s' ++ [y] := ⟨s.dropLast, s.getLast (by intro e; rw [e] at hs; simp at hs), (List.dropLast_concat_getLast _).symm⟩
      have hsl : s.length = n := by simpa using hs
      have e : p.length + (n + 1) = (p.length + n) + 1 := by omega
      have hL : p ++ (s ++ [y]) ++ x :: t = (p ++ s) ++ y :: x :: t := by simp
      have g1 : ((p ++ s) ++ y :: x :: t).getD (p.length + n + 1) default = x := by
        rw [List.getD_eq_getElem?_getD, List.getElem?_append_right (by simp; omega)]
        have : p.length + n + 1 - (p ++ s).length = 1 := by simp; omega
        rw [this]; rfl
      have g0 : ((p ++ s) ++ y :: x :: t).getD (p.length + n) default = y := by
        rw [List.getD_eq_getElem?_getD, List.getElem?_append_right (by simp; omega)]
        have : p.length + n - (p ++ s).length = 0 := by simp; omega
        rw [this]; rfl
      have hset : (((p ++ s) ++ y :: x :: t).set (p.length + n + 1) y).set (p.length + n) x = p ++ s ++ x :: (y :: t) := by
        rw [List.set_append_right _ _ (by simp; omega)]
        have e1 : p.length + n + 1 - (p ++ s).length = 1 := by simp; omega
        rw [e1, List.set_append_right _ _ (by simp; omega)]
        have e2 : p.length + n - (p ++ s).length = 0 := by simp; omega
        rw [e2]; rfl
      have hpre : ∀ m, m ≤ n → insPosS (s ++ [y]) x m = insPosS s x m := by
        intro m
        induction m with
        | zero => intro _; rfl
        | succ m ihm =>
          intro hm
          have gd : (s ++ [y]).getD m default = s.getD m default := by
            rw [List.getD_eq_getElem?_getD, List.getElem?_append_left (by omega), List.getD_eq_getElem?_getD]
          simp only [insPosS, gd, ihm (by omega)]
      have hle : ∀ m, insPosS s x m ≤ m := by
        intro m
        induction m with
        | zero => exact Nat.le_refl _
        | succ m ihm =>
          unfold insPosS
          split
          · omega
          · exact Nat.le_refl _
      have gy : (s ++ [y]).getD n default = y := by
        rw [List.getD_eq_getElem?_getD, List.getElem?_append_right (by omega), hsl]
        simp
      rw [e, hL]
      unfold insDown
      rw [g1, g0]
      have hlt : p.length < p.length + n + 1 := by omega
      by_cases hc : befE x.low y.low < 0
      · rw [if_pos ⟨hlt, hc⟩, hset, ih s (y :: t) hsl]
        have : insPosS (s ++ [y]) x (n + 1) = insPosS s x n := by
          simp only [insPosS, gy, hc, if_true]
          exact hpre n (Nat.le_refl _)
        rw [this]
        have := hle n
        rw [List.take_append_of_le_length (by omega), List.drop_append_of_le_length (by omega)]
        simp
      · rw [if_neg (fun h => hc h.2)]
        have : insPosS (s ++ [y]) x (n + 1) = n + 1 := by
          simp only [insPosS, gy, hc, if_false]
        rw [this, List.take_of_length_le (by simp; omega), List.drop_of_length_le (by simp; omega)]
        simp
  exact H s.length s t rfl
theorem insS_len (s : List I) (x : I) : (insS s x).length = s.length + 1 := by
  have : ∀ m, insPosS s x m ≤ m := by
    intro m
    induction m with
    | zero => exact Nat.le_refl _
    | succ m ihm =>
      unfold insPosS
      split
      · omega
      · exact Nat.le_refl _
  have := this s.length
  unfold insS
  simp
  omega
theorem sortS_len (l : List I) : (sortS l).length = l.length := by
  have H : ∀ (l s : List I), (l.foldl insS s).length = s.length + l.length := by
    intro l
    induction l with
    | nil => intro s; rfl
    | cons x l ih => intro s; rw [List.foldl_cons, ih, insS_len, List.length_cons]; omega
  have := H l []
  unfold sortS
  simpa using this
theorem sortS_snoc (l : List I) (x : I) : sortS (l ++ [x]) = insS (sortS l) x := by simp [sortS, List.foldl_append]
theorem insRange_eq (p l t : List I) : insRange p.length (p.length + l.length) (p ++ l ++ t) = p ++ sortS l ++ t := by
  cases l with
  | nil =>
    have : p.length + ([] : List I).length - (p.length + 1) = 0 := by simp
    unfold insRange
    rw [this]
    rfl
  | cons x l =>
    have e : p.length + (x :: l).length - (p.length + 1) = l.length := by simp; omega
    unfold insRange
    rw [e]
    have H : ∀ (n : Nat), n ≤ l.length → (List.range n).foldl (fun l t => insDown p.length (p.length + 1 + t) l) (p ++ (x :: l) ++ t) = p ++ sortS (x :: l.take n) ++ (l.drop n ++ t) := by
      intro n
      induction n with
      | zero => intro _; simp [sortS, insS, insPosS]
      | succ n ih =>
        intro hn
        rw [List.range_succ, List.foldl_append, ih (by omega), List.foldl_cons, List.foldl_nil]
        have hd : l.drop n ++ t = l.getD n default :: (l.drop (n + 1) ++ t) := by rw [drop_get (by omega)]; rfl
        have hl : (sortS (x :: l.take n)).length = n + 1 := by rw [sortS_len]; simp; omega
        have hi := ins_down (sortS (x :: l.take n)) (l.drop (n + 1) ++ t) p (l.getD n default)
        rw [hl] at hi
        have e2 : p.length + 1 + n = p.length + (n + 1) := by omega
        rw [hd, e2, hi, ← sortS_snoc]
        have : x :: l.take n ++ [l.getD n default] = x :: l.take (n + 1) := by
          rw [List.take_succ_eq_append_getElem (by omega), getD_lt (by omega)]; rfl
        rw [this]
    have := H l.length (Nat.le_refl _)
    rw [this, List.take_length, List.drop_length]
    rfl
def insLoop (a : Nat) : Nat → Nat → List I → List I
  | _, 0, l => l
  | i, m + 1, l => insLoop a (i + 1) m (insDown a i l)
theorem range_loop (a : Nat) : ∀ (m i : Nat) (l : List I), (List.range m).foldl (fun l t => insDown a (i + t) l) l = insLoop a i m l := by
  intro m
  induction m with
  | zero => intro i l; rfl
  | succ m ih =>
    intro i l
    rw [List.range_succ_eq_map, List.foldl_cons, List.foldl_map]
    have : (fun (l : List I) (t : Nat) => insDown a (i + Nat.succ t) l) = fun l t => insDown a (i + 1 + t) l := by
      funext l t; rw [show i + Nat.succ t = i + 1 + t by omega]
    rw [this, ih (i + 1)]
    rfl
theorem insDown_len (a : Nat) : ∀ (j : Nat) (l : List I), (insDown a j l).length = l.length := by
  intro j
  induction j with
  | zero => intro l; rfl
  | succ j ih =>
    intro l
    unfold insDown
    split
    · rw [ih]; simp
    · rfl
theorem insDown_ok (a : Nat) : ∀ (j : Nat) (l : List I), j < l.length → (∀ x ∈ l, x.ok) → ∀ x ∈ insDown a j l, x.ok := by
  intro j
  induction j with
  | zero => intro l _ h; exact h
  | succ j ih =>
    intro l hj h
    unfold insDown
    split
    · refine ih _ (by simp; omega) fun x hx => ?_
      rcases List.mem_or_eq_of_mem_set hx with h1 | rfl
      · rcases List.mem_or_eq_of_mem_set h1 with h2 | rfl
        · exact h x h2
        · rw [getD_lt (by omega)]; exact h _ (by simp)
      · rw [getD_lt (by omega)]; exact h _ (by simp)
    · exact h
section
variable (l : List I) (fu : Bool) (a b : Nat)
theorem ins_S1 (n : Nat) (hn : n < 1000000) (i : Nat) (hi : i < n) {v : AV} {rs : List Row} : ∀ (q : Nat) (xs : List I) j jr g, q ≤ i → n ≤ xs.length → (∀ x ∈ xs, x.ok) →
    (∀ j jr g, LoopAtC E1 Tryz.f154 1 v rs 0 (slices_insertionSortCmpFunc_api_Interval_S0 l n fu a b (i + 1 : Nat) (List.map I.p (insDown a q xs)) j jr g)) →
    LoopAtC E1 Tryz.f154 1 v rs 1 (slices_insertionSortCmpFunc_api_Interval_S1 l n fu a b i q (List.map I.p xs) j jr g) := by
  have hw1 : IntKind.wrap IntKind.i64 ((i : Int) + 1) = ((i + 1 : Nat) : Int) := wrap_i64 _ (by omega) (by omega)
  intro q
  induction q with
  | zero =>
    intro xs j0 jr0 g0 hq hxl hok next
    refine loopC_go 2000 _ (Eq.mpr (slices_insertionSortCmpFunc_api_Interval_go_S1 l n fu a b i (0 : Nat) xs j0 jr0 g0 _ _) ⟨fun h => ?_, fun h j jr g => ?_⟩)
    · simp only [decide_eq_true_eq] at h; omega
    · rw [hw1]; exact next j jr g
  | succ q ih =>
    intro xs j0 jr0 g0 hq hxl hok next
    have hw2 : IntKind.wrap IntKind.i64 (((q + 1 : Nat) : Int) - 1) = (q : Int) := by rw [wrap_i64 _ (by omega) (by omega)]; omega
    have ok : ∀ m, m < n → (xs.getD m default).ok := fun m hm => by rw [getD_lt (by omega)]; exact hok _ (by simp)
    unfold insDown at next
    refine loopC_go 2000 _ (Eq.mpr (slices_insertionSortCmpFunc_api_Interval_go_S1 l n fu a b i (q + 1 : Nat) xs j0 jr0 g0 _ _) ⟨fun h => ?_, fun h j jr g => ?_⟩)
    · have ha : a < q + 1 := by simp only [decide_eq_true_eq] at h; omega
      simp only [hw1, hw2, Int.toNat_natCast, gI_nat, gI_zero, Nat.zero_add, eq_self, true_and, and_true]
      have k1 : (0 : Int) ≤ ((q + 1 : Nat) : Int) ∧ ((q + 1 : Nat) : Int) < (n : Int) := by omega
      have k2 : (0 : Int) ≤ (q : Int) ∧ (q : Int) < (n : Int) := by omega
      have m1 := getI (l := xs) (i := q + 1) (by omega)
      have m2 := getI (l := xs) (i := q) (by omega)
      refine ⟨k1, m1, k2, m2, den_ordS _ _ (ok _ (by omega)) (ok _ (by omega)), fun hc => ⟨k2, m2, k1, m1, k1, m1, k2, ?_, fun j jr g => ?_⟩, fun hc j jr g => ?_⟩
      · rw [List.getElem?_set_ne (by omega)]; exact m2
      · have hc' : befE (xs.getD (q + 1) default).low (xs.getD q default).low < 0 := of_decide_eq_true hc
        rw [if_pos ⟨ha, hc'⟩] at next
        have := ih ((xs.set (q + 1) (xs.getD q default)).set q (xs.getD (q + 1) default)) j jr g (by omega) (by simpa using hxl) (fun x hx => by
          rcases List.mem_or_eq_of_mem_set hx with h1 | rfl
          · rcases List.mem_or_eq_of_mem_set h1 with h2 | rfl
            · exact hok x h2
            · exact ok _ (by omega)
          · exact ok _ (by omega)) next
        rw [List.map_set, List.map_set] at this
        exact this
      · have hc' : ¬ befE (xs.getD (q + 1) default).low (xs.getD q default).low < 0 := of_decide_eq_false hc
        rw [if_neg (fun h => hc' h.2)] at next
        exact next j jr g
    · have ha : ¬ a < q + 1 := by simp only [decide_eq_false_iff_not] at h; omega
      rw [if_neg (fun h => ha h.1)] at next
      rw [hw1]; exact next j jr g
theorem ins_S0 (n : Nat) (hn : n < 1000000) (hb : b ≤ n) : ∀ (m i : Nat) (xs : List I) j jr g, (i + m = b ∨ (m = 0 ∧ b ≤ i)) → n ≤ xs.length → (∀ x ∈ xs, x.ok) →
    LoopAtC E1 Tryz.f154 1 (.pv (.tup [])) [⟨0, .row 11 63 (List.map I.p (insLoop a i m xs)) false⟩] 0 (slices_insertionSortCmpFunc_api_Interval_S0 l n fu a b i (List.map I.p xs) j jr g) := by
  intro m
  induction m with
  | zero =>
    intro i xs j0 jr0 g0 hi hxl hok
    refine loopC_go 2000 _ (Eq.mpr (slices_insertionSortCmpFunc_api_Interval_go_S0 l n fu a b i xs j0 jr0 g0 _ _) ⟨fun h => ?_, fun h => ⟨rfl, rfl, rfl⟩⟩)
    simp only [decide_eq_true_eq] at h; omega
  | succ m ih =>
    intro i xs j0 jr0 g0 hi hxl hok
    refine loopC_go 2000 _ (Eq.mpr (slices_insertionSortCmpFunc_api_Interval_go_S0 l n fu a b i xs j0 jr0 g0 _ _) ⟨fun h j jr g => ?_, fun h => ?_⟩)
    · exact ins_S1 l fu a b n hn i (by omega) i xs j jr g (Nat.le_refl _) hxl hok fun j jr g => ih (i + 1) _ j jr g (by omega) (by rw [insDown_len]; exact hxl) (insDown_ok a i xs (by omega) hok)
    · simp only [decide_eq_false_iff_not] at h; omega
theorem denC_insertion (n : Nat) (hn : n < 1000000) (hnl : n ≤ l.length) (hab : a ≤ b) (hb : b ≤ n) (hok : ∀ x ∈ l, x.ok) :
    DenC E1 154 [.msl 0 0 0 0 n fu, intA a, intA b, .pv (.clo (.func 98) [] [])] [⟨0, .row 11 63 (List.map I.p l) false⟩] (.pv (.tup [])) [⟨0, .row 11 63 (List.map I.p (insRange a b l)) false⟩] := by
  have hw : IntKind.wrap IntKind.i64 ((a : Int) + 1) = ((a + 1 : Nat) : Int) := wrap_i64 _ (by omega) (by omega)
  refine denC_go 2000 _ (fn := Tryz.f154) (by kernel_rfl) rfl (Eq.mpr (slices_insertionSortCmpFunc_api_Interval_go l n fu a b _ _) fun j jr g => ?_)
  have e : insRange a b l = insLoop a (a + 1) (b - (a + 1)) l := range_loop a _ _ _
  rw [hw, e]
  exact ins_S0 l fu a b n hn hb (b - (a + 1)) (a + 1) l j jr g (by omega) hnl hok
end
theorem sortN_of {l : List I} {n : Nat} (hn : n ≤ l.length) : insRange 0 n l = sortN n l := by
  have := insRange_eq [] (l.take n) (l.drop n)
  simp only [List.nil_append, List.length_nil, Nat.zero_add, List.length_take, List.take_append_drop, Nat.min_eq_left hn] at this
  exact this
theorem denC_stable20 (l : List I) (n : Nat) (fu : Bool) (hnl : n ≤ l.length) (hn : n < 20) (hok : ∀ x ∈ l, x.ok) :
    DenC E1 132 [.msl 0 0 0 0 n fu, intA n, .pv (.clo (.func 98) [] [])] [⟨0, .row 11 63 (List.map I.p l) false⟩] (.pv (.tup [])) [⟨0, .row 11 63 (List.map I.p (sortN n l)) false⟩] := by
  refine denC_go 2000 _ (fn := Tryz.f132) (by kernel_rfl) rfl (Eq.mpr (slices_stableCmpFunc_api_Interval_go l n fu _ _) fun j jr g => ?_)
  refine loopC_go 2000 _ (Eq.mpr (slices_stableCmpFunc_api_Interval_go_S0 l n fu 0 20 l j jr g _ _) ⟨fun h => ?_, fun h => ⟨rfl, denC_insertion l fu 0 n n (by omega) hnl (Nat.zero_le _) (Nat.le_refl _) hok, fun j jr g => ?_⟩⟩)
  · simp only [decide_eq_true_eq] at h; omega
  · refine loopC_go 2000 _ (Eq.mpr (slices_stableCmpFunc_api_Interval_go_S1 l n fu 0 20 20 _ j jr g _ _) ⟨fun h => ?_, fun h => ⟨rfl, rfl, ?_⟩⟩)
    · simp only [decide_eq_true_eq] at h; omega
    · rw [show Int.toNat 0 = 0 from rfl, Int.toNat_natCast, sortN_of hnl]
theorem denC_SortStable20 (l : List I) (n : Nat) (fu : Bool) (hnl : n ≤ l.length) (hn : n < 20) (hok : ∀ x ∈ l, x.ok) :
    DenC E1 97 [.msl 0 0 0 0 n fu, .pv (.clo (.func 98) [] [])] [⟨0, .row 11 63 (List.map I.p l) false⟩] (.pv (.tup [])) [⟨0, .row 11 63 (List.map I.p (sortN n l)) false⟩] :=
  denC_go 2000 _ (fn := Tryz.f97) (by kernel_rfl) rfl (Eq.mpr (slices_SortStableFunc_api_Interval_api_Interval_go l n fu _ _) ⟨rfl, denC_stable20 l n fu hnl hn hok, rfl, rfl, rfl⟩)
theorem bet_ok {a b : Ed} (ha : a.v.ok) (hb : b.v.ok) : (betE a b).ok := by
  refine ⟨ha, ?_⟩
  unfold betE
  simp only []
  split
  · exact ⟨⟨by decide, by decide⟩, ⟨by decide, by decide⟩, ⟨by decide, by decide⟩, ⟨fun _ => rfl, fun h => (by cases h)⟩, (by unfold small; decide), fun s hs => (by cases hs)⟩
  · exact hb
section
variable (l : List I) (k : Nat) (full : Bool)
theorem sjoin_S1 (S : List I) (hS : S = sortN (delN l) (delL l)) (hlS : delN l ≤ S.length) (hll : l.length < 1000000) (hdl : delN l ≤ l.length) (hokS : ∀ x ∈ S, x.ok) : ∀ (n i : Nat) (ys : List I) (gm : Nat) j jr g, i + n = delN l → ys ≠ [] → ys.length ≤ i → (∀ x ∈ ys, x.ok) →
    LoopAt E1 Tryz.f54 (resL (((S.take (delN l)).drop i).foldl stepS ys)) 0 (span_join_S1 l k full i 2 gm ys.length (List.map I.p ys) j jr g) := by
  intro n
  induction n with
  | zero =>
    intro i ys gm j jr g hi hy hle hoy
    refine loop_go 2000 _ (Eq.mpr (span_join_go_S1 l k full i 2 gm ys.length ys j jr g _) ⟨fun h => ?_, fun h => ?_⟩)
    · simp only [decide_eq_true_eq] at h; omega
    · rw [List.drop_eq_nil_of_le (by simp; omega), List.foldl_nil]
      exact frz_msl rfl (by simp) (resL_cons hy)
  | succ n ih =>
    intro i ys gm j0 jr0 g0 hi hy hle hoy
    have hyl : 1 ≤ ys.length := List.length_pos_iff.2 hy
    have hw1 : IntKind.wrap IntKind.i64 ((ys.length : Int) - 1) = ((ys.length - 1 : Nat) : Int) := by rw [wrap_i64 _ (by omega) (by omega)]; omega
    have hw2 : IntKind.wrap IntKind.i64 ((i : Int) + 1) = ((i + 1 : Nat) : Int) := wrap_i64 _ (by omega) (by omega)
    have hix : i < S.length := by omega
    have hox : (S.getD i default).ok := by rw [getD_lt hix]; exact hokS _ (by simp)
    have hoY : (ys.getD (ys.length - 1) default).ok := by rw [getD_lt (by omega)]; exact hoy _ (by simp)
    have hdy := getI (l := ys) (show ys.length - 1 < ys.length by omega)
    have hdx := getI (l := S) hix
    have hne : ys.isEmpty = false := by simpa using hy
    have hdr : (S.take (delN l)).drop i = S.getD i default :: (S.take (delN l)).drop (i + 1) := by
      rw [drop_get (by simp; omega)]
      congr 1
      rw [List.getD_eq_getElem?_getD, List.getElem?_take, if_pos (by omega), List.getD_eq_getElem?_getD]
    rw [hdr, List.foldl_cons]
    have hst : stepS ys (S.getD i default) = if befE (ys.getD (ys.length - 1) default).high (S.getD i default).low ≥ 0 then
        (if befE (ys.getD (ys.length - 1) default).high (S.getD i default).high < 0 then ys.set (ys.length - 1) (betE (ys.getD (ys.length - 1) default).low (S.getD i default).high) else ys) else ys ++ [S.getD i default] := by
      unfold stepS; rw [hne]; rfl
    rw [hS] at hdx hox hst
    refine loop_go 2000 _ (Eq.mpr (span_join_go_S1 l k full i 2 gm ys.length ys j0 jr0 g0 _) ⟨fun h => ?_, fun h => ?_⟩)
    · simp only [hw1, hw2, Int.toNat_natCast, gI_nat, gI_zero, Nat.zero_add, eq_self, true_and, and_true, Nat.le_refl]
      have k1 : (0 : Int) ≤ (i : Int) ∧ (i : Int) < (delN l : Int) := by omega
      have k2 : (0 : Int) ≤ ((ys.length - 1 : Nat) : Int) ∧ ((ys.length - 1 : Nat) : Int) < (ys.length : Int) := by omega
      refine ⟨k1, hdx, fun _ => ⟨k2, hdy, den_high _, den_low _, den_before (ys.getD (ys.length - 1) default).high ((sortN (delN l) (delL l)).getD i default).low hoY.hi hox.lo, fun ht => ⟨k2, hdy, den_high _, den_high _, den_before (ys.getD (ys.length - 1) default).high ((sortN (delN l) (delL l)).getD i default).high hoY.hi hox.hi,
        fun hh => ⟨k2, hdy, den_low _, den_high _, den_between (ys.getD (ys.length - 1) default).low ((sortN (delN l) (delL l)).getD i default).high, k2, hdy, fun j jr g => ?_⟩, fun hh j jr g => ?_⟩, fun ht => ⟨⟨by simp, fits_104 (by omega)⟩, fun j jr g => ?_⟩⟩, fun h0 => ?_⟩
      · have ht' : befE (ys.getD (ys.length - 1) default).high ((sortN (delN l) (delL l)).getD i default).low ≥ 0 := of_decide_eq_true ht
        have hh' : befE (ys.getD (ys.length - 1) default).high ((sortN (delN l) (delL l)).getD i default).high < 0 := of_decide_eq_true hh
        have e : stepS ys ((sortN (delN l) (delL l)).getD i default) = ys.set (ys.length - 1) (betE (ys.getD (ys.length - 1) default).low ((sortN (delN l) (delL l)).getD i default).high) := by
          rw [hst, if_pos ht', if_pos hh']
        rw [hS, e]
        rw [hS] at ih
        have := ih (i + 1) (ys.set (ys.length - 1) (betE (ys.getD (ys.length - 1) default).low ((sortN (delN l) (delL l)).getD i default).high)) gm j jr g (by omega) (by simpa using hy) (by simp; omega) (fun x hx => by
          rcases List.mem_or_eq_of_mem_set hx with h1 | rfl
          · exact hoy x h1
          · exact bet_ok hoY.lo hox.hi)
        rw [List.length_set, List.map_set] at this
        exact this
      · have ht' : befE (ys.getD (ys.length - 1) default).high ((sortN (delN l) (delL l)).getD i default).low ≥ 0 := of_decide_eq_true ht
        have hh' : ¬ befE (ys.getD (ys.length - 1) default).high ((sortN (delN l) (delL l)).getD i default).high < 0 := of_decide_eq_false hh
        have e : stepS ys ((sortN (delN l) (delL l)).getD i default) = ys := by
          rw [hst, if_pos ht', if_neg hh']
        rw [hS, e]
        rw [hS] at ih
        exact ih (i + 1) ys gm j jr g (by omega) hy (by omega) hoy
      · have ht' : ¬ befE (ys.getD (ys.length - 1) default).high ((sortN (delN l) (delL l)).getD i default).low ≥ 0 := of_decide_eq_false ht
        have e : stepS ys ((sortN (delN l) (delL l)).getD i default) = ys ++ [(sortN (delN l) (delL l)).getD i default] := by
          rw [hst, if_neg ht']
        rw [hS, e]
        rw [hS] at ih
        have := ih (i + 1) (ys ++ [(sortN (delN l) (delL l)).getD i default]) (g0 + 1 + 4 + 3 + 14 + 3) j jr g (by omega) (by simp) (by simp; omega) (fun x hx => by
          rcases List.mem_append.1 hx with h1 | h1
          · exact hoy x h1
          · simp at h1; subst h1; rw [← List.getD_eq_getElem?_getD]; exact hox)
        rw [List.length_append, List.map_append] at this
        exact this
      · simp only [decide_eq_false_iff_not] at h0; omega
    · simp only [decide_eq_false_iff_not] at h; omega
theorem sjoin_S0 (S : List I) (hS : S = sortN (delN l) (delL l)) (hlS : delN l ≤ S.length) (hll : l.length < 1000000) (hdl : delN l ≤ l.length) (hokS : ∀ x ∈ S, x.ok) (z : Row) (j0 : Nat → AV) (jr0 : Nat → Row) (g0 : Nat) :
    LoopAt E1 Tryz.f54 (resL ((S.take (delN l)).foldl stepS [])) 0 (span_join_S0 l k full 0 2 z j0 jr0 g0) := by
  have hz : Int.toNat 0 = 0 := rfl
  have hw2 : IntKind.wrap IntKind.i64 ((0 : Int) + 1) = ((1 : Nat) : Int) := rfl
  refine loop_go 2000 _ (Eq.mpr (span_join_go_S0 l k full 0 2 z j0 jr0 g0 _) ⟨fun h => ?_, fun h => ?_⟩)
  · have h1 : 0 < delN l := by simp only [decide_eq_true_eq] at h; omega
    have hix : 0 < S.length := by omega
    have hdx := getI (l := S) hix
    rw [hS] at hdx
    simp only [hw2, hz, Nat.zero_add, eq_self, true_and, and_true, Nat.le_refl]
    refine ⟨by omega, hdx, fun j jr g => ?_⟩
    have hox : (S.getD 0 default).ok := by rw [getD_lt hix]; exact hokS _ (by simp)
    have := sjoin_S1 l k full S hS hlS hll hdl hokS (delN l - 1) 1 [S.getD 0 default] (g0 + 1 + 4 + 3 + 14 + 3) j jr g (by omega) (by simp) (by simp) (fun x hx => by simp at hx; subst hx; rw [← List.getD_eq_getElem?_getD]; exact hox)
    have e : S.take (delN l) = S.getD 0 default :: (S.take (delN l)).drop 1 := by
      have hd := drop_get (l := S.take (delN l)) (i := 0) (by simp; omega)
      rw [List.drop_zero] at hd
      have h0 : (S.take (delN l)).getD 0 default = S.getD 0 default := by
        rw [List.getD_eq_getElem?_getD, List.getElem?_take, if_pos h1, List.getD_eq_getElem?_getD]
      rw [h0] at hd
      exact hd
    have e2 : (S.take (delN l)).foldl stepS [] = ((S.take (delN l)).drop 1).foldl stepS [S.getD 0 default] := by
      conv => lhs; rw [e]
      rfl
    rw [e2]
    rw [hS] at this ⊢
    exact this
  · have h1 : delN l = 0 := by simp only [decide_eq_false_iff_not] at h; omega
    rw [h1, List.take_zero]
    rfl
end
theorem delN_le (l : List I) : delN l ≤ l.length := List.length_filter_le _ _
theorem delL_len (l : List I) : (delL l).length = l.length := by
  have := delN_le l
  unfold delN at this
  unfold delL
  simp
  omega
theorem delL_ok {l : List I} (h : ∀ x ∈ l, x.ok) : ∀ x ∈ delL l, x.ok := by
  intro x hx
  unfold delL at hx
  rcases List.mem_append.1 hx with h1 | h1
  · exact h x (List.mem_filter.1 h1).1
  · rw [List.eq_of_mem_replicate h1]
    have hz : zV.ok := ⟨⟨by decide, by decide⟩, ⟨by decide, by decide⟩, ⟨by decide, by decide⟩, ⟨fun _ => rfl, fun h => (by cases h)⟩, (by unfold small; decide), fun s hs => (by cases hs)⟩
    exact ⟨hz, hz⟩
theorem insS_mem {s : List I} {x y : I} (h : y ∈ insS s x) : y = x ∨ y ∈ s := by
  unfold insS at h
  rcases List.mem_append.1 h with h1 | h1
  · exact .inr (List.mem_of_mem_take h1)
  · rcases List.mem_cons.1 h1 with rfl | h1
    · exact .inl rfl
    · exact .inr (List.mem_of_mem_drop h1)
theorem sortS_mem {l : List I} {y : I} (h : y ∈ sortS l) : y ∈ l := by
  have H : ∀ (l s : List I), y ∈ l.foldl insS s → y ∈ s ∨ y ∈ l := by
    intro l
    induction l with
    | nil => intro s h; exact .inl h
    | cons x l ih =>
      intro s h
      rcases ih _ h with h1 | h1
      · rcases insS_mem h1 with rfl | h2
        · exact .inr (by simp)
        · exact .inl h2
      · exact .inr (by simp [h1])
  rcases H l [] h with h1 | h1
  · cases h1
  · exact h1
theorem delL_take (l : List I) : (delL l).take (delN l) = l.filter fun x => !deadI x := by
  unfold delL delN
  rw [List.take_append_of_le_length (Nat.le_refl _), List.take_length]
theorem sortN_len {n : Nat} {l : List I} (hn : n ≤ l.length) : (sortN n l).length = l.length := by
  unfold sortN
  rw [List.length_append, sortS_len]
  simp
  omega
theorem sortN_take {n : Nat} {l : List I} (hn : n ≤ l.length) : (sortN n l).take n = sortS (l.take n) := by
  unfold sortN
  have : (sortS (l.take n)).length = n := by rw [sortS_len]; simp; omega
  rw [List.take_append_of_le_length (by omega), List.take_of_length_le (by omega)]
theorem sortN_ok {n : Nat} {l : List I} (h : ∀ x ∈ l, x.ok) : ∀ x ∈ sortN n l, x.ok := by
  intro x hx
  unfold sortN at hx
  rcases List.mem_append.1 hx with h1 | h1
  · exact h x (List.mem_of_mem_take (sortS_mem h1))
  · exact h x (List.mem_of_mem_drop h1)
theorem denC_del_nil (k : Nat) (nl full : Bool) (hsl : slOk 11 k nl 0) : DenC E1 94 [.pv (.sl k nl full []), .pv (.clo (.func 96) [] [])] [] (.pv (.sl k nl full [])) [] :=
  denC_go 2000 _ (fn := Tryz.f94) (by kernel_rfl) rfl (Eq.mpr (slices_DeleteFunc_api_Interval_api_Interval_N_go k nl full _ _) ⟨den_IndexFuncD [] k nl full hsl (by simp) (fun x hx => by cases hx), rfl, rfl⟩)
theorem denC_sort_nil (k : Nat) (nl full : Bool) : DenC E1 97 [.pv (.sl k nl full []), .pv (.clo (.func 98) [] [])] [] (.pv (.tup [])) [] :=
  denC_go 2000 _ (fn := Tryz.f97) (by kernel_rfl) rfl (Eq.mpr (slices_SortStableFunc_api_Interval_api_Interval_N_go k nl full _ _)
    ⟨denC_go 2000 _ (fn := Tryz.f132) (by kernel_rfl) rfl (Eq.mpr (slices_stableCmpFunc_api_Interval_N_go k nl full _ _)
      ⟨denC_go 2000 _ (fn := Tryz.f154) (by kernel_rfl) rfl (Eq.mpr (slices_insertionSortCmpFunc_api_Interval_N_go k nl full _ _) ⟨rfl, rfl⟩), rfl, rfl⟩), rfl, rfl⟩)
theorem den_join_of (l : List I) (k : Nat) (nl full : Bool) (hsl : slOk 11 k nl l.length) (hll : l.length < 1000000) (hok : ∀ x ∈ l, x.ok)
    (hsort : DenC E1 97 [.msl 0 0 0 0 (delN l) false, .pv (.clo (.func 98) [] [])] [⟨0, .row 11 63 (List.map I.p (delL l)) false⟩] (.pv (.tup [])) [⟨0, .row 11 63 (List.map I.p (sortN (delN l) (delL l))) false⟩]) :
    Den E1 54 [listP k nl full l] (resL (joinS l)) := by
  by_cases h0 : l = []
  · subst h0
    cases nl with
    | true =>
      refine den1 2000 _ rfl (by kernel_rfl) rfl rfl rfl (Eq.mpr (span_join_N_go k full _) ⟨?_, denC_del_nil 0 true true ⟨fun _ => rfl, fun h => (by cases h)⟩, denC_sort_nil 0 true true, rfl⟩)
      exact denP_go 2000 _ rfl (by kernel_rfl) rfl rfl rfl rfl (Eq.mpr (slices_Clone_api_Interval_api_Interval_P_go k full _) rfl)
    | false =>
      have hk := hsl.2 rfl
      refine den1 2000 _ rfl (by kernel_rfl) rfl rfl rfl (Eq.mpr (span_join_E_go k full _) ⟨?_, denC_del_nil 11 false true ⟨fun h => (by cases h), fun _ => rfl⟩, denC_sort_nil 11 false true, rfl⟩)
      exact denP_go 2000 _ rfl (by kernel_rfl) rfl rfl rfl rfl (Eq.mpr (slices_Clone_api_Interval_api_Interval_E_P_go k full _) ⟨⟨fun h => (by cases h), fun _ => hk⟩, rfl⟩)
  · have hnl : nl = false := by
      cases nl with
      | false => rfl
      | true => exact absurd (List.length_eq_zero_iff.1 (hsl.1 rfl)) h0
    subst hnl
    have hd := delN_le l
    have hdl := delL_len l
    refine den1 2000 _ rfl (by kernel_rfl) rfl rfl rfl (Eq.mpr (span_join_go l k full _) ⟨denO_CloneI l k full hsl hll h0, rfl, denC_DeleteFunc l false hll hok, rfl, hsort, fun j jr g => ?_⟩)
    have := sjoin_S0 l k full (sortN (delN l) (delL l)) rfl (by rw [sortN_len (by omega)]; omega) hll hd (sortN_ok (delL_ok hok)) row0 j jr g
    rw [sortN_take (by omega), delL_take] at this
    exact this
theorem den_join20 (l : List I) (k : Nat) (nl full : Bool) (hsl : slOk 11 k nl l.length) (hll : l.length < 1000000) (hfew : delN l < 20) (hok : ∀ x ∈ l, x.ok) : Den E1 54 [listP k nl full l] (resL (joinS l)) :=
  den_join_of l k nl full hsl hll hok (denC_SortStable20 (delL l) (delN l) false (by rw [delL_len]; exact delN_le l) hfew (delL_ok hok))
end Go.Proofs.YtlhfgonjcpapnaaGreatDoor.Abs

namespace Go.Proofs.YtlhfgonjcpapnaaGreatDoor.Abs
open Go Go.Proofs
abbrev spV (g : Nat) : AV := .clo (.func 88) [] [.mptr 1 2 (g + 0) 0 0, .mptr 1 3 (g + 1) 0 0]
abbrev spF (s b : List UInt8) (g : Nat) : List Row := [row0, row0, ⟨g + 0, .box (strA (bs s)) false⟩, ⟨g + 1, .box (strA (bs b)) false⟩, row0, row0]
theorem den_split (s b : List UInt8) : DenI E1 51 [strP s, strP b] (fun g => spV g) (fun g => spF s b g) 5 := by
  refine ⟨1, fun n hn ys d slot gen f0 g => ?_⟩
  obtain ⟨n, rfl⟩ : ∃ k, n = k + 1 := ⟨n - 1, by omega⟩
  kernel_rfl
def decV (s : List UInt8) : Nat := s.foldl (fun n b => 10 * n + (b.toNat - 48)) 0
def numOk (s : List UInt8) : Bool := digitsL s && plainL s && decide (s.length ≤ 10)
def numV (s : List UInt8) : Int := if numOk s then IntKind.wrap IntKind.u32 (decV s) else 0
def numB (s : List UInt8) : Bool := numOk s && decide (decV s ≤ 2147483647)
def wordsV (s : List UInt8) : List (List UInt8) := Lib.split (Lib.cut s [45]).1 [46]
def preV (s : List UInt8) : List (List UInt8) := if (Lib.cut s [45]).2.2 then Lib.split (Lib.cut s [45]).2.1 [46] else []
def rawV (fl : Bool) (s : List UInt8) : V :=
  ⟨numV ((wordsV s).getD 0 []), numV ((wordsV s).getD 1 []), numV ((wordsV s).getD 2 []), if (Lib.cut s [45]).2.2 then 1 else 0, !(Lib.cut s [45]).2.2, if (Lib.cut s [45]).2.2 then fl else true, preV s⟩
def rdOk0 (s : List UInt8) : Bool := decide (s.length ≤ 128) && (wordsV s).length == 3 && numB ((wordsV s).getD 0 []) && numB ((wordsV s).getD 1 []) && numB ((wordsV s).getD 2 []) && mayV (rawV true s)
noncomputable def shut {α : Type} (x : α) : α := Classical.choose (⟨x, rfl⟩ : ∃ y, y = x)
theorem shut_eq {α : Type} (x : α) : shut x = x := Classical.choose_spec (⟨x, rfl⟩ : ∃ y, y = x)
noncomputable def rdOk : List UInt8 → Bool := shut rdOk0
theorem rdOk_eq (s : List UInt8) : rdOk s = rdOk0 s := by rw [rdOk, shut_eq]
def rdV0 (fl : Bool) (s : List UInt8) : V := if rdOk0 s then rawV fl s else zV
noncomputable def rdV : Bool → List UInt8 → V := shut rdV0
theorem rdV_eq (fl : Bool) (s : List UInt8) : rdV fl s = rdV0 fl s := by rw [rdV, shut_eq]
def trimC (c : Int) : Bool := c == 60 || c == 62 || c == 61 || c == 126 || c == 94
def trimL (s : List UInt8) : List UInt8 := s.dropWhile fun b => trimC b.toNat
def signL (s : List UInt8) : List UInt8 := s.take (s.length - (trimL s).length)
def aSetP : PV := .agg ((List.range 256).map fun (c : Nat) => bolP (trimC c))
structure LF where
  k : Nat
  nl : Bool
  full : Bool
  l : List I
abbrev LF.p (x : LF) : PV := listP x.k x.nl x.full x.l
def lfR (l : List I) : LF := ⟨twK l, twN l, twN l, l⟩
def lf1 (x : I) : LF := ⟨11, false, true, [x]⟩
def lf0 : LF := ⟨0, true, true, []⟩
def nextOk (v : V) (n : Int) : Bool := mayV v && !(n == 0 && v.a == 2147483647) && !(n == 1 && v.b == 2147483647) && !(n == 2 && v.c == 2147483647)
def nextV (v : V) (n : Int) : V := if nextOk v n then (if n == 0 then ⟨IntKind.wrap IntKind.u32 (v.a + 1), 0, 0, 0, true, true, []⟩ else if n == 1 then ⟨v.a, IntKind.wrap IntKind.u32 (v.b + 1), 0, 0, true, true, []⟩ else ⟨v.a, v.b, IntKind.wrap IntKind.u32 (v.c + 1), 0, true, true, []⟩) else zV
def nextE (v : V) (n : Int) : Int := if mayV v then (if nextOk v n then 0 else 2) else 70
def leastV (v : V) : V := ⟨v.a, v.b, v.c, 1, false, true, [[48]]⟩
def kindV (v : V) : Int := if v.a > 0 then 0 else if v.b > 0 then 1 else 2
def fromI (v : V) (o : Bool) : I := ⟨v, o, zV, false, true⟩
def downI (v : V) (o : Bool) : I := ⟨bottomV, false, v, o, false⟩
def meet1S (x y : I) : I := betE (if befE x.low y.low < 0 then y.low else x.low) (if befE y.high x.high < 0 then y.high else x.high)
def meetS (a b : List I) : List I := joinS (a.flatMap fun x => b.map fun y => meet1S x y)
def uptoS (v : V) (n : Int) : LF := if nextOk v n then lfR (meetS [fromI v false] (joinS [downI (leastV (nextV v n)) true])) else lf1 (fromI v false)
noncomputable def cmprS (s : List UInt8) : LF × Bool :=
  if rdOk (trimL s) then
    let v := rdV true (trimL s)
    if signL s = [] ∨ signL s = [61] then (lfR (meetS [fromI v false] (joinS [downI v false])), true)
    else if signL s = [60] then (lfR (joinS [downI v true]), true)
    else if signL s = [60, 61] then (lfR (joinS [downI v false]), true)
    else if signL s = [62] then (lf1 (fromI v true), true)
    else if signL s = [62, 61] then (lf1 (fromI v false), true)
    else if signL s = [94] then (uptoS v (kindV v), true)
    else if signL s = [126] then (uptoS v 1, true)
    else (lf0, false)
  else (lf0, false)
def uptoR (v : V) (n : Int) : LF := if nextOk v n then lfR (meetR [fromI v false] (joinR [downI (leastV (nextV v n)) true])) else lf1 (fromI v false)
noncomputable def cmprR (s : List UInt8) : LF × Bool :=
  if rdOk (trimL s) then
    let v := rdV false (trimL s)
    if signL s = [] ∨ signL s = [61] then (lfR (meetR [fromI v false] (joinR [downI v false])), true)
    else if signL s = [60] then (lfR (joinR [downI v true]), true)
    else if signL s = [60, 61] then (lfR (joinR [downI v false]), true)
    else if signL s = [62] then (lf1 (fromI v true), true)
    else if signL s = [62, 61] then (lf1 (fromI v false), true)
    else if signL s = [94] then (uptoR v (kindV v), true)
    else if signL s = [126] then (uptoR v 1, true)
    else (lf0, false)
  else (lf0, false)
noncomputable def altGoS : List (List UInt8) → LF → Nat → LF × Bool
  | [], cur, _ => (cur, true)
  | p :: ps, cur, n => if (cmprS p).2 = true ∧ n + 1 ≤ 16 then altGoS ps (lfR (meetS cur.l (cmprS p).1.l)) (n + 1) else (lf0, false)
def everyI : I := ⟨bottomV, false, zV, false, true⟩
noncomputable def altS (s : List UInt8) : LF × Bool := if s = [42] then (⟨11, false, true, [everyI]⟩, true) else if s = [33] then (lf0, true) else altGoS (Lib.split s [32]) (lf1 everyI) 0
noncomputable def altGoR : List (List UInt8) → LF → LF × Bool
  | [], cur => (cur, true)
  | p :: ps, cur => if (cmprR p).2 = true then altGoR ps (lfR (meetR cur.l (cmprR p).1.l)) else (lf0, false)
noncomputable def altR (s : List UInt8) : LF × Bool := if s = [42] then (lf1 everyI, true) else if s = [33] then (lf0, true) else if (Lib.split s [32]).length > 16 then (lf0, false) else altGoR (Lib.split s [32]) (lf1 everyI)
def clV (v : V) : V := { v with k := cond v.nl 0 1, full := true }
def clI (x : I) : I := { x with lo := clV x.lo, hi := clV x.hi }
def limS (l : List I) : LF × Int := if l.length > 16 then (lf0, 80) else (⟨twK l, twN l, true, l.map clI⟩, 0)
def limR (x : LF) : LF × Int := if x.l.length > 16 then (lf0, 80) else (x, 0)
def orB : List UInt8 := [32, 124, 124, 32]
noncomputable def readGoS : List (List UInt8) → List I → Nat → Option (List I)
  | [], acc, _ => some acc
  | p :: ps, acc, n => if (altS p).2 = true ∧ n + 1 ≤ 16 then readGoS ps (acc ++ (altS p).1.l) (n + 1) else none
noncomputable def readS (s : List UInt8) : LF × Int := if s.length > 128 then (lf0, 80) else match readGoS (Lib.split s orB) [] 0 with
  | some l => limS (joinS l)
  | none => (lf0, 80)
noncomputable def readGoR : List (List UInt8) → List I → Option (List I)
  | [], acc => some acc
  | p :: ps, acc => if (altR p).2 = true then readGoR ps (acc ++ (altR p).1.l) else none
noncomputable def readR (s : List UInt8) : LF × Int := if s.length > 128 then (lf0, 80) else if (Lib.split s orB).length > 16 then (lf0, 80) else match readGoR (Lib.split s orB) [] with
  | some l => limR (lfR (joinR l))
  | none => (lf0, 80)
end Go.Proofs.YtlhfgonjcpapnaaGreatDoor.Abs

namespace Go.Proofs.YtlhfgonjcpapnaaGreatDoor.Abs
open Go Go.Proofs
def span_split_1_S0 (ys : Fam) (s : List UInt8) (b : List UInt8) (f0 : List Row) (sl : Nat) (gy : Nat) (g1 : Nat) (g2 : Nat) (j : Nat → AV) (jr : Nat → Row) (g : Nat) : St :=
  { t := [.yld 0 sl gy, .mptr 1 2 g1 0 0, .mptr 1 3 g2 0 0] ++ jj j 3 20, h := [f0, [row0, row0, ⟨g1, .box (strA (bs s)) false⟩, ⟨g2, .box (strA (bs b)) false⟩, row0, row0], List.replicate 23 row0], g := g }
theorem span_split_1_go (ys : Fam) (s : List UInt8) (b : List UInt8) (f0 : List Row) (sl : Nat) (gy : Nat) (g1 : Nat) (g2 : Nat) (gh : Nat) (R : AExit → St → Prop) : FnGoI E1 ys 2 Tryz.f88 [.yld 0 sl gy, .mptr 1 2 g1 0 0, .mptr 1 3 g2 0 0] [f0, [row0, row0, ⟨g1, .box (strA (bs s)) false⟩, ⟨g2, .box (strA (bs b)) false⟩, row0, row0], List.replicate 23 row0] gh R 2000 (.mask (iv [(3, 22)]) []) =
  (∀ (j' : Nat → AV) (jr' : Nat → Row) (g' : Nat), LoopAtI E1 ys 2 Tryz.f88 R 0 (span_split_1_S0 ys s b f0 sl gy g1 g2 j' jr' g')) := by kernel_rfl
theorem span_split_1_go_S0 (ys : Fam) (s : List UInt8) (b : List UInt8) (f0 : List Row) (sl : Nat) (gy : Nat) (g1 : Nat) (g2 : Nat) (j : Nat → AV) (jr : Nat → Row) (g : Nat) (R : AExit → St → Prop) : LoopGoI E1 ys 2 Tryz.f88 R 0 2000 (.res (.tup [strP (Prod.fst (Lib.cut s b)), strP (Prod.fst (Prod.snd (Lib.cut s b))), bolP (Prod.snd (Prod.snd (Lib.cut s b)))]) (.fork (.lts 4 (.hole 0)) (.lts 3 (.fork (.hole 0) (.mask (iv [(3, 22)]) []))))) (span_split_1_S0 ys s b f0 sl gy g1 g2 j jr g) =
  ((g1 = g1) ∧
 (g2 = g2) ∧
 (Den E1 68 [strP s, strP b] (.tup [strP (Prod.fst (Lib.cut s b)), strP (Prod.fst (Prod.snd (Lib.cut s b))), bolP (Prod.snd (Prod.snd (Lib.cut s b)))])) ∧
 (∃ (yb0 : Bool) (yf0 : List Row) (yg0 : Nat),
 (YTo ys gy [strA (bs (Prod.fst (Lib.cut s b)))] [f0, [row0, row0, ⟨g1, .box (strA (bs s)) false⟩, ⟨g2, .box (strA (bs b)) false⟩, row0, row0], List.replicate 23 row0] (g + 10 + 8) yb0 [yf0, [row0, row0, ⟨g1, .box (strA (bs s)) false⟩, ⟨g2, .box (strA (bs b)) false⟩, row0, row0], List.replicate 23 row0] yg0) ∧
 ((!yb0) = true →
 R .ret { t := [.yld 0 sl gy, .mptr 1 2 g1 0 0, .mptr 1 3 g2 0 0, j 3, strA (bs (Prod.fst (Lib.cut s b))), strA (bs (Prod.fst (Prod.snd (Lib.cut s b)))), bolA (Prod.snd (Prod.snd (Lib.cut s b))), .pv (.tup [strP (Prod.fst (Lib.cut s b)), strP (Prod.fst (Prod.snd (Lib.cut s b))), bolP (Prod.snd (Prod.snd (Lib.cut s b)))]), strA (bs s), strA (bs b), .pv (.tup [strP (Prod.fst (Lib.cut s b)), strP (Prod.fst (Prod.snd (Lib.cut s b))), bolP (Prod.snd (Prod.snd (Lib.cut s b)))]), strA (bs (Prod.fst (Lib.cut s b))), strA (bs (Prod.fst (Prod.snd (Lib.cut s b)))), bolA (Prod.snd (Prod.snd (Lib.cut s b))), .yld 0 sl gy, strA (bs (Prod.fst (Lib.cut s b))), bolA yb0, bolA (!yb0), bolA true, undefA, undefA, bolA true, j 22], h := [yf0, [row0, row0, ⟨g1, .box (strA (bs s)) false⟩, ⟨g2, .box (strA (bs b)) false⟩, row0, row0], List.replicate 23 row0], g := yg0 }) ∧
 ((!yb0) = false →
 ((!Prod.snd (Prod.snd (Lib.cut s b))) = true →
 R .ret { t := [.yld 0 sl gy, .mptr 1 2 g1 0 0, .mptr 1 3 g2 0 0, j 3, strA (bs (Prod.fst (Lib.cut s b))), strA (bs (Prod.fst (Prod.snd (Lib.cut s b)))), bolA (Prod.snd (Prod.snd (Lib.cut s b))), .pv (.tup [strP (Prod.fst (Lib.cut s b)), strP (Prod.fst (Prod.snd (Lib.cut s b))), bolP (Prod.snd (Prod.snd (Lib.cut s b)))]), strA (bs s), strA (bs b), .pv (.tup [strP (Prod.fst (Lib.cut s b)), strP (Prod.fst (Prod.snd (Lib.cut s b))), bolP (Prod.snd (Prod.snd (Lib.cut s b)))]), strA (bs (Prod.fst (Lib.cut s b))), strA (bs (Prod.fst (Prod.snd (Lib.cut s b)))), bolA (Prod.snd (Prod.snd (Lib.cut s b))), .yld 0 sl gy, strA (bs (Prod.fst (Lib.cut s b))), bolA yb0, bolA (!yb0), bolA false, bolA (Prod.snd (Prod.snd (Lib.cut s b))), bolA (!Prod.snd (Prod.snd (Lib.cut s b))), bolA (!Prod.snd (Prod.snd (Lib.cut s b))), j 22], h := [yf0, [row0, row0, ⟨g1, .box (strA (bs s)) false⟩, ⟨g2, .box (strA (bs b)) false⟩, row0, row0], List.replicate 23 row0], g := yg0 }) ∧
 ((!Prod.snd (Prod.snd (Lib.cut s b))) = false →
 (g1 = g1) ∧
 (∀ (j' : Nat → AV) (jr' : Nat → Row) (g' : Nat), LoopAtI E1 ys 2 Tryz.f88 R 0 (span_split_1_S0 ys (Prod.fst (Prod.snd (Lib.cut s b))) b yf0 sl gy g1 g2 j' jr' g')))))) := by kernel_rfl
end Go.Proofs.YtlhfgonjcpapnaaGreatDoor.Abs

set_option maxRecDepth 20000
namespace Go.Proofs.YtlhfgonjcpapnaaGreatDoor.Abs
open Go Go.Proofs
theorem split_cut (s sep : List UInt8) (hs : sep ≠ []) : Lib.split s sep = (Lib.cut s sep).1 :: (if (Lib.cut s sep).2.2 then Lib.split (Lib.cut s sep).2.1 sep else []) := by
  rcases Lib.index_spec s sep with ⟨h, _⟩ | ⟨i, h, hi, _, _⟩
  · have hc : Lib.cut s sep = (s, [], false) := by simp [Lib.cut, h]
    rw [hc]
    unfold Lib.split
    rw [Lib.count_miss h]
    rfl
  · have hc : Lib.cut s sep = (s.take i, s.drop (i + sep.length), true) := by simp [Lib.cut, h]
    have hb : (Lib.index s sep == -1) = false := by rw [h, beq_eq_false_iff_ne]; omega
    rw [hc]
    simp only [Lib.split, if_true]
    rw [Lib.count_hit hs h, Nat.add_comm 1]
    simp only [Lib.splitK, h, Int.toNat_natCast, gI_nat, gI_zero, Nat.add_zero]
    rw [h] at hb
    rw [hb]
    rfl
theorem cut_short (s sep : List UInt8) (hs : sep ≠ []) (h : (Lib.cut s sep).2.2 = true) : (Lib.cut s sep).2.1.length < s.length := by
  rcases Lib.index_spec s sep with ⟨h1, _⟩ | ⟨i, h1, hi, _, _⟩
  · have hc : Lib.cut s sep = (s, [], false) := by simp [Lib.cut, h1]
    rw [hc] at h; cases h
  · have hc : Lib.cut s sep = (s.take i, s.drop (i + sep.length), true) := by simp [Lib.cut, h1]
    have hr := Lib.index_room s sep (by omega)
    have hl : 0 < sep.length := List.length_pos_iff.2 hs
    rw [hc]
    simp only [List.length_drop]
    omega
theorem den_Cut (s b : List UInt8) (h : s.length < 4294967281) : Den E1 68 [strP s, strP b] (.tup [strP (Lib.cut s b).1, strP (Lib.cut s b).2.1, bolP (Lib.cut s b).2.2]) := by
  refine den_intr (F := cutP) rfl ?_
  show (if ByteArray.size (bs s) < 4294967281 then _ else _) = _
  rw [if_pos (show ByteArray.size (bs s) < 4294967281 by rw [size_bs]; exact h)]
theorem split_loop {ys : Fam} {R : AExit → St → Prop} {sl gy g1 g2 : Nat} (b : List UInt8) (hb : b ≠ []) (Inv : List (List UInt8) → List Row → Prop) (Fin : List Row → Prop)
    (hround : ∀ p ps f0 F1 FR g, Inv (p :: ps) f0 → ∃ c f0' g', YTo ys gy [strA (bs p)] [f0, F1, FR] g c [f0', F1, FR] g' ∧ (c = true → Inv ps f0') ∧ (c = false → Fin f0'))
    (hend : ∀ f0 F1 FR g t, Inv [] f0 ∨ Fin f0 → R .ret { t := t, h := [f0, F1, FR], g := g }) :
    ∀ (n : Nat) (s : List UInt8) (f0 : List Row) j jr g, s.length ≤ n → n < 4294967281 → Inv (Lib.split s b) f0 → LoopAtI E1 ys 2 Tryz.f88 R 0 (span_split_1_S0 ys s b f0 sl gy g1 g2 j jr g) := by
  intro n
  induction n with
  | zero =>
    intro s f0 j jr g hl hn hI
    rw [split_cut s b hb] at hI
    have hnf : (Lib.cut s b).2.2 = false := by
      cases h : (Lib.cut s b).2.2 with
      | false => rfl
      | true => have := cut_short s b hb h; omega
    rw [hnf] at hI
    refine loopI_go 2000 _ (Eq.mpr (span_split_1_go_S0 ys s b f0 sl gy g1 g2 j jr g R) ⟨rfl, rfl, den_Cut s b (Nat.lt_of_le_of_lt hl hn), ?_⟩)
    obtain ⟨c, f0', g', hy, h1, h2⟩ := hround _ _ f0 _ _ _ hI
    refine ⟨c, f0', g', hy, fun hc => ?_, fun hc => ⟨fun _ => ?_, fun h => ?_⟩⟩
    · exact hend _ _ _ _ _ (.inr (h2 (by simpa using hc)))
    · exact hend _ _ _ _ _ (.inl (h1 (by simpa using hc)))
    · rw [hnf] at h; simp at h
  | succ n ih =>
    intro s f0 j jr g hl hn hI
    rw [split_cut s b hb] at hI
    refine loopI_go 2000 _ (Eq.mpr (span_split_1_go_S0 ys s b f0 sl gy g1 g2 j jr g R) ⟨rfl, rfl, den_Cut s b (Nat.lt_of_le_of_lt hl hn), ?_⟩)
    obtain ⟨c, f0', g', hy, h1, h2⟩ := hround _ _ f0 _ _ _ hI
    refine ⟨c, f0', g', hy, fun hc => ?_, fun hc => ⟨fun hf => ?_, fun hf => ⟨rfl, fun j jr g => ?_⟩⟩⟩
    · exact hend _ _ _ _ _ (.inr (h2 (by simpa using hc)))
    · have hf' : (Lib.cut s b).2.2 = false := by simpa using hf
      rw [hf'] at h1
      exact hend _ _ _ _ _ (.inl (h1 (by simpa using hc)))
    · have hf' : (Lib.cut s b).2.2 = true := by simpa using hf
      have := cut_short s b hb hf'
      rw [hf'] at h1
      exact ih _ f0' j jr g (by omega) (Nat.lt_of_succ_lt hn) (h1 (by simpa using hc))
theorem range_split {f : Operand} {ps : Array Tmp} {a b : Code} {Q : AExit → St → Prop} {t : List AV} {f0 : List Row} {s sep : List UInt8} {g g1 g2 sl : Nat}
    (hev : evalA t f = .clo (.func 88) [] [.mptr 1 2 g1 0 0, .mptr 1 3 g2 0 0]) (hps : ps = #[sl]) (hsep : sep ≠ []) (hl : s.length < 4294967281)
    (Inv : List (List UInt8) → List Row → Prop) (Fin : AExit → List Row → Prop) (h0 : Inv (Lib.split s sep) (putL row0 f0 sl ⟨g, .lp .ready⟩))
    (hround : ∀ p rest f0 F1 FR g', Inv (p :: rest) f0 → live [f0, F1, FR] 0 sl g = .lp .ready ∧ Wp E1 noY 0 a (fun x s1 => x = .normal ∧ live s1.h 0 sl g = .lp .ready ∧
      Wp E1 noY 0 b (fun x s2 => live s2.h 0 sl g = .lp .busy ∧ ∃ f0', hput s2.h 0 sl ⟨g, .lp (if x = .normal then .ready else .done x)⟩ = [f0', F1, FR] ∧ (x = .normal → Inv rest f0') ∧ (x ≠ .normal → Fin x f0')) { s1 with h := hput s1.h 0 sl ⟨g, .lp .busy⟩ })
      { t := setTs [sl] [strA (bs p)] t, h := [f0, F1, FR], g := g' })
    (hend : ∀ f0 F1 g', Inv [] f0 → live [f0, F1] 0 sl g = .lp .ready ∧ Q .normal { t := t, h := hput [f0, F1] 0 sl row0, g := g' })
    (hfin : ∀ x f0 F1 g', Fin x f0 → x ≠ .normal ∧ live [f0, F1] 0 sl g = .lp (.done x) ∧ Q x { t := t, h := hput [f0, F1] 0 sl row0, g := g' }) :
    RangeAt E1 noY 0 f ps a b Q { t := t, h := [f0, [row0, row0, ⟨g1, .box (strA (bs s)) false⟩, ⟨g2, .box (strA (bs sep)) false⟩, row0, row0]], g := g } := by
  subst hps
  refine ⟨ev_range (fid := 88) (a := []) (b := [.mptr 1 2 g1 0 0, .mptr 1 3 g2 0 0]) (fn := Tryz.f88) (by show calleeOf (evalA t f) = _; rw [hev]; rfl) (by kernel_rfl) (by kernel_rfl) (by kernel_rfl) (by kernel_rfl) rfl (by kernel_rfl) ?_⟩
  refine fnI_go (h := [putL row0 f0 sl ⟨g, .lp .ready⟩, [row0, row0, ⟨g1, .box (strA (bs s)) false⟩, ⟨g2, .box (strA (bs sep)) false⟩, row0, row0], List.replicate 23 row0]) (args := [AV.yld 0 sl g, .mptr 1 2 g1 0 0, .mptr 1 3 g2 0 0]) 2000 _ rfl (Eq.mpr (span_split_1_go _ s sep _ sl g g1 g2 (g + 2) _) fun j jr g' => ?_)
  refine split_loop sep hsep Inv (fun f0 => ∃ x, Fin x f0) ?_ ?_ s.length s _ j jr g' (Nat.le_refl _) hl h0
  · intro p rest f0 F1 FR g' hI
    obtain ⟨h1, h2⟩ := hround p rest f0 F1 FR g' hI
    obtain ⟨x, s2, ⟨f0', he, hn, hd⟩, hy⟩ := yld_round (ys := noY) (ps := #[sl]) (slot := sl) rfl h1 h2
    rw [he] at hy
    refine ⟨decide (x = .normal), f0', _, hy, fun hc => hn (by simpa using hc), fun hc => ⟨x, hd (by simpa using hc)⟩⟩
  · intro f0 F1 FR g' t' h
    refine ⟨.inr rfl, ?_⟩
    rcases h with h | ⟨x, h⟩
    · obtain ⟨h1, h2⟩ := hend f0 F1 g' h
      show match live [f0, F1] 0 sl g with
        | .lp .ready => _
        | .lp (.done x') => _
        | _ => False
      rw [h1]
      exact h2
    · obtain ⟨h1, h2, h3⟩ := hfin x f0 F1 g' h
      show match live [f0, F1] 0 sl g with
        | .lp .ready => _
        | .lp (.done x') => _
        | _ => False
      rw [h2]
      exact ⟨h1, h3⟩
end Go.Proofs.YtlhfgonjcpapnaaGreatDoor.Abs

namespace Go.Proofs.YtlhfgonjcpapnaaGreatDoor.Abs
open Go Go.Proofs
theorem span_top_go (r : PV) : FnGo E1 Tryz.f90 [] r 2000 (.hole 0) =
  (((0 : Nat) = 0) ∧
 (edgP 0 0 0 (.sl 0 true true []) false true) = r) := by kernel_rfl
theorem span_from_go (v : V) (o : Bool) (r : PV) : FnGo E1 Tryz.f128 [V.p v, bolP o] r 2000 (.res (edgP 0 0 0 (.sl 0 true true []) false true) (.res (I.p ⟨v, o, zV, false, true⟩) (.hole 0))) =
  (((0 : Nat) = 0) ∧
 (Den E1 90 [] (edgP 0 0 0 (.sl 0 true true []) false true)) ∧
 (Den E1 89 [Ed.p ⟨v, o, false⟩, edgP 0 0 0 (.sl 0 true true []) false true] (I.p ⟨v, o, zV, false, true⟩)) ∧
 ∃ hp, frz frzDepth (.msl 0 10 7 0 1 true) [[row0, row0, ⟨0, .box (.pv (V.p v)) false⟩, row0, row0, row0, row0, row0, row0, row0, ⟨7, .row 11 63 [I.p ⟨v, o, zV, false, true⟩] false⟩]] = some (r, hp)) := by kernel_rfl
theorem span_below_go (v : V) (o : Bool) (r : PV) : FnGo E1 Tryz.f129 [V.p v, bolP o] r 2000 (.res (edgP 0 0 0 (.sl 1 false true [strP [48]]) false false) (.res (itvP 0 0 0 (.sl 1 false true [strP [48]]) false (V.a v) (V.b v) (V.c v) (V.q v) (!!o) false) (.ev (.res (resL (joinS [⟨bottomV, false, v, (!!o), false⟩])) (.hole 0))))) =
  ((Den E1 76 [] (edgP 0 0 0 (.sl 1 false true [strP [48]]) false false)) ∧
 ((0 : Nat) = 0) ∧
 (Den E1 89 [edgP 0 0 0 (.sl 1 false true [strP [48]]) false false, Ed.p ⟨v, (!o), false⟩] (itvP 0 0 0 (.sl 1 false true [strP [48]]) false (V.a v) (V.b v) (V.c v) (V.q v) (!!o) false)) ∧
 (Den E1 54 [.sl 11 false true [itvP 0 0 0 (.sl 1 false true [strP [48]]) false (V.a v) (V.b v) (V.c v) (V.q v) (!!o) false]] (resL (joinS [⟨bottomV, false, v, (!!o), false⟩]))) ∧
 ((resL (joinS [⟨bottomV, false, v, (!!o), false⟩])) : PV) = r) := by kernel_rfl
theorem version_Next_0_go (v : V) (r : PV) : FnGo E1 Tryz.f130 [V.p v, intP 0] r 2000 (.res (intP (errV (mayV v))) (.fork (.hole 0) (.lts 10 (.fork (.hole 0) (.hole 0))))) =
  (((0 : Nat) = 0) ∧
 (Den E1 59 [V.p v] (intP (errV (mayV v)))) ∧
 ((errV (mayV v) != (0 : Int)) = true →
 ((1 : Nat) = 1) ∧
 ((.tup [verP 0 0 0 (.sl 0 true true []), intP 70]) : PV) = r) ∧
 ((errV (mayV v) != (0 : Int)) = false →
 ((0 : Nat) = 0) ∧
 ((0 : Nat) = 0) ∧
 ((0 : Nat) = 0) ∧
 ((13 : Nat) = 13) ∧
 (((0 : Int) ≤ (0 : Int)) ∧ ((0 : Int) < (3 : Int))) ∧
 ((13 : Nat) = 13) ∧
 ((V.a v == (2147483647 : Int)) = true →
 ((1 : Nat) = 1) ∧
 ((.tup [verP 0 0 0 (.sl 0 true true []), intP 2]) : PV) = r) ∧
 ((V.a v == (2147483647 : Int)) = false →
 (((0 : Int) ≤ (0 : Int)) ∧ ((0 : Int) < (3 : Int))) ∧
 ((13 : Nat) = 13) ∧
 (((0 : Int) ≤ (0 : Int)) ∧ ((0 : Int) < (3 : Int))) ∧
 ((13 : Nat) = 13) ∧
 (((0 : Int) ≤ (1 : Int)) ∧ ((1 : Int) ≤ (3 : Int))) ∧
 ((13 : Nat) = 13) ∧
 (((0 : Nat) = 0) ∧ (((1 : Nat) = 1) ∧ ((3 : Nat) ≤ (3 : Nat)))) ∧
 ((13 : Nat) = 13) ∧
 (((0 : Int) ≤ (0 : Int)) ∧ ((0 : Int) < (3 : Int))) ∧
 ((13 : Nat) = 13) ∧
 (((0 : Int) ≤ (1 : Int)) ∧ ((1 : Int) < (3 : Int))) ∧
 ((13 : Nat) = 13) ∧
 (((0 : Int) ≤ (2 : Int)) ∧ ((2 : Int) < (3 : Int))) ∧
 ((13 : Nat) = 13) ∧
 ((1 : Nat) = 1) ∧
 ((.tup [verP (IntKind.u32.wrap (V.a v + (1 : Int))) 0 0 (.sl 0 true true []), intP 0]) : PV) = r))) := by kernel_rfl
theorem version_Next_1_go (v : V) (r : PV) : FnGo E1 Tryz.f130 [V.p v, intP 1] r 2000 (.res (intP (errV (mayV v))) (.fork (.hole 0) (.lts 10 (.fork (.hole 0) (.hole 0))))) =
  (((0 : Nat) = 0) ∧
 (Den E1 59 [V.p v] (intP (errV (mayV v)))) ∧
 ((errV (mayV v) != (0 : Int)) = true →
 ((1 : Nat) = 1) ∧
 ((.tup [verP 0 0 0 (.sl 0 true true []), intP 70]) : PV) = r) ∧
 ((errV (mayV v) != (0 : Int)) = false →
 ((0 : Nat) = 0) ∧
 ((0 : Nat) = 0) ∧
 ((0 : Nat) = 0) ∧
 ((13 : Nat) = 13) ∧
 (((0 : Int) ≤ (1 : Int)) ∧ ((1 : Int) < (3 : Int))) ∧
 ((13 : Nat) = 13) ∧
 ((V.b v == (2147483647 : Int)) = true →
 ((1 : Nat) = 1) ∧
 ((.tup [verP 0 0 0 (.sl 0 true true []), intP 2]) : PV) = r) ∧
 ((V.b v == (2147483647 : Int)) = false →
 (((0 : Int) ≤ (1 : Int)) ∧ ((1 : Int) < (3 : Int))) ∧
 ((13 : Nat) = 13) ∧
 (((0 : Int) ≤ (1 : Int)) ∧ ((1 : Int) < (3 : Int))) ∧
 ((13 : Nat) = 13) ∧
 (((0 : Int) ≤ (2 : Int)) ∧ ((2 : Int) ≤ (3 : Int))) ∧
 ((13 : Nat) = 13) ∧
 (((0 : Nat) = 0) ∧ (((1 : Nat) = 1) ∧ ((3 : Nat) ≤ (3 : Nat)))) ∧
 ((13 : Nat) = 13) ∧
 (((0 : Int) ≤ (0 : Int)) ∧ ((0 : Int) < (3 : Int))) ∧
 ((13 : Nat) = 13) ∧
 (((0 : Int) ≤ (1 : Int)) ∧ ((1 : Int) < (3 : Int))) ∧
 ((13 : Nat) = 13) ∧
 (((0 : Int) ≤ (2 : Int)) ∧ ((2 : Int) < (3 : Int))) ∧
 ((13 : Nat) = 13) ∧
 ((1 : Nat) = 1) ∧
 ((.tup [verP (V.a v) (IntKind.u32.wrap (V.b v + (1 : Int))) 0 (.sl 0 true true []), intP 0]) : PV) = r))) := by kernel_rfl
theorem version_Next_2_go (v : V) (r : PV) : FnGo E1 Tryz.f130 [V.p v, intP 2] r 2000 (.res (intP (errV (mayV v))) (.fork (.hole 0) (.lts 10 (.fork (.hole 0) (.hole 0))))) =
  (((0 : Nat) = 0) ∧
 (Den E1 59 [V.p v] (intP (errV (mayV v)))) ∧
 ((errV (mayV v) != (0 : Int)) = true →
 ((1 : Nat) = 1) ∧
 ((.tup [verP 0 0 0 (.sl 0 true true []), intP 70]) : PV) = r) ∧
 ((errV (mayV v) != (0 : Int)) = false →
 ((0 : Nat) = 0) ∧
 ((0 : Nat) = 0) ∧
 ((0 : Nat) = 0) ∧
 ((13 : Nat) = 13) ∧
 (((0 : Int) ≤ (2 : Int)) ∧ ((2 : Int) < (3 : Int))) ∧
 ((13 : Nat) = 13) ∧
 ((V.c v == (2147483647 : Int)) = true →
 ((1 : Nat) = 1) ∧
 ((.tup [verP 0 0 0 (.sl 0 true true []), intP 2]) : PV) = r) ∧
 ((V.c v == (2147483647 : Int)) = false →
 (((0 : Int) ≤ (2 : Int)) ∧ ((2 : Int) < (3 : Int))) ∧
 ((13 : Nat) = 13) ∧
 (((0 : Int) ≤ (2 : Int)) ∧ ((2 : Int) < (3 : Int))) ∧
 ((13 : Nat) = 13) ∧
 (((0 : Int) ≤ (3 : Int)) ∧ ((3 : Int) ≤ (3 : Int))) ∧
 ((13 : Nat) = 13) ∧
 (((0 : Nat) = 0) ∧ (((1 : Nat) = 1) ∧ ((3 : Nat) ≤ (3 : Nat)))) ∧
 ((13 : Nat) = 13) ∧
 (((0 : Int) ≤ (0 : Int)) ∧ ((0 : Int) < (3 : Int))) ∧
 ((13 : Nat) = 13) ∧
 (((0 : Int) ≤ (1 : Int)) ∧ ((1 : Int) < (3 : Int))) ∧
 ((13 : Nat) = 13) ∧
 (((0 : Int) ≤ (2 : Int)) ∧ ((2 : Int) < (3 : Int))) ∧
 ((13 : Nat) = 13) ∧
 ((1 : Nat) = 1) ∧
 ((.tup [verP (V.a v) (V.b v) (IntKind.u32.wrap (V.c v + (1 : Int))) (.sl 0 true true []), intP 0]) : PV) = r))) := by kernel_rfl
theorem slices_Clip_string_string_go (k : Nat) (nl : Bool) (full : Bool) (x : List (List UInt8)) (r : PV) : FnGo E1 Tryz.f71 [.sl k nl full (List.map strP x)] r 2000 (.hole 0) =
  ((((0 : Int) ≤ (↑(List.length (List.map strP x)) : Int)) ∧ ((↑(List.length (List.map strP x)) : Int) ≤ (↑(List.length (List.map strP x)) : Int))) ∧
 (((0 : Int) ≤ (↑(List.length (List.map strP x)) : Int)) ∧ ((↑(List.length (List.map strP x)) : Int) ≤ (↑(Int.toNat (↑(List.length (List.map strP x)) : Int)) : Int))) ∧
 ((nl = true) ∨ (k = 1)) ∧
 ((.sl k nl (Int.toNat (↑(List.length (List.map strP x)) : Int) == Int.toNat (↑(List.length (List.map strP x)) : Int)) (List.take (Int.toNat (↑(List.length (List.map strP x)) : Int) - (0 : Nat)) (List.drop (0 : Nat) (List.map strP x)))) : PV) = r) := by kernel_rfl
end Go.Proofs.YtlhfgonjcpapnaaGreatDoor.Abs

namespace Go.Proofs.YtlhfgonjcpapnaaGreatDoor.Abs
open Go Go.Proofs
theorem version_Least_go (v : V) (r : PV) : FnGo E1 Tryz.f131 [V.p v] r 2000 (.res (intP (errV (mayV v))) (.fork (.hole 0) (.lit (.fork (.ev (.res (.sl 1 false true [PV.lit (.string (bs [48]))]) (.hole 0))) (.ev (.res (.sl 1 false true [PV.lit (.string (bs [48]))]) (.hole 0))))))) =
  (((0 : Nat) = 0) ∧
 (Den E1 59 [V.p v] (intP (errV (mayV v)))) ∧
 ((errV (mayV v) != (0 : Int)) = true →
 ((1 : Nat) = 1) ∧
 ((.tup [verP 0 0 0 (.sl 0 true true []), intP 70]) : PV) = r) ∧
 ((errV (mayV v) != (0 : Int)) = false →
 ((0 : Nat) = 0) ∧
 (((0 : Int) ≤ (0 : Int)) ∧ ((0 : Int) ≤ (↑(List.length (List.map strP (V.pre v))) : Int))) ∧
 (((0 : Int) ≤ (0 : Int)) ∧ ((0 : Int) ≤ (0 : Int))) ∧
 (((V.nl v) = true) ∨ ((V.k v) = 1)) ∧
 ((9 : Nat) = 9) ∧
 (((1 : Nat) = 1) ∧ ((1 : Nat) ≤ (1 : Nat))) ∧
 ((V.nl v) = true →
 (((0 : Nat) = 0) ∧ (true = true)) ∧
 ((0 : Nat) = 0) ∧
 ((0 : Nat) = 0) ∧
 (Den E1 71 [.sl 1 false false [PV.lit (.string (bs [48]))]] (.sl 1 false true [PV.lit (.string (bs [48]))])) ∧
 ((0 : Nat) = 0) ∧
 ((0 : Nat) = 0) ∧
 ((1 : Nat) = 1) ∧
 ((.tup [verP (V.a v) (V.b v) (V.c v) (.sl 1 false true [PV.lit (.string (bs [48]))]), intP 0]) : PV) = r) ∧
 ((V.nl v) = false →
 ((true = true) ∧ (((V.k v) = 1) ∧ (true = true))) ∧
 ((0 : Nat) = 0) ∧
 ((0 : Nat) = 0) ∧
 (Den E1 71 [.sl 1 false false [PV.lit (.string (bs [48]))]] (.sl 1 false true [PV.lit (.string (bs [48]))])) ∧
 ((0 : Nat) = 0) ∧
 ((0 : Nat) = 0) ∧
 ((1 : Nat) = 1) ∧
 ((.tup [verP (V.a v) (V.b v) (V.c v) (.sl 1 false true [PV.lit (.string (bs [48]))]), intP 0]) : PV) = r))) := by kernel_rfl
theorem strings_makeASCIISet_go (r : PV) : FnGo E1 Tryz.f151 [PV.lit (.string (bs [60, 62, 61, 126, 94]))] r 2000 (.go (.lit (.lit (.go (.lit (.lit (.go (.lit (.lit (.go (.lit (.lit (.go (.lit (.lit (.go (.lit (.hole 0)))))))))))))))))) =
  ((((0 : Int) ≤ (0 : Int)) ∧ ((0 : Nat) < (5 : Nat))) ∧
 (((0 : Int) ≤ (60 : Int)) ∧ ((60 : Int) < (256 : Int))) ∧
 ((0 : Nat) = 0) ∧
 (((0 : Int) ≤ (1 : Int)) ∧ ((1 : Nat) < (5 : Nat))) ∧
 (((0 : Int) ≤ (62 : Int)) ∧ ((62 : Int) < (256 : Int))) ∧
 ((0 : Nat) = 0) ∧
 (((0 : Int) ≤ (2 : Int)) ∧ ((2 : Nat) < (5 : Nat))) ∧
 (((0 : Int) ≤ (61 : Int)) ∧ ((61 : Int) < (256 : Int))) ∧
 ((0 : Nat) = 0) ∧
 (((0 : Int) ≤ (3 : Int)) ∧ ((3 : Nat) < (5 : Nat))) ∧
 (((0 : Int) ≤ (126 : Int)) ∧ ((126 : Int) < (256 : Int))) ∧
 ((0 : Nat) = 0) ∧
 (((0 : Int) ≤ (4 : Int)) ∧ ((4 : Nat) < (5 : Nat))) ∧
 (((0 : Int) ≤ (94 : Int)) ∧ ((94 : Int) < (256 : Int))) ∧
 ((0 : Nat) = 0) ∧
 ((0 : Nat) = 0) ∧
 ((0 : Nat) = 0) ∧
 ((.tup [.agg [bolP false, bolP false, bolP false, bolP false, bolP false, bolP false, bolP false, bolP false, bolP false, bolP false, bolP false, bolP false, bolP false, bolP false, bolP false, bolP false, bolP false, bolP false, bolP false, bolP false, bolP false, bolP false, bolP false, bolP false, bolP false, bolP false, bolP false, bolP false, bolP false, bolP false, bolP false, bolP false, bolP false, bolP false, bolP false, bolP false, bolP false, bolP false, bolP false, bolP false, bolP false, bolP false, bolP false, bolP false, bolP false, bolP false, bolP false, bolP false, bolP false, bolP false, bolP false, bolP false, bolP false, bolP false, bolP false, bolP false, bolP false, bolP false, bolP false, bolP false, bolP true, bolP true, bolP true, bolP false, bolP false, bolP false, bolP false, bolP false, bolP false, bolP false, bolP false, bolP false, bolP false, bolP false, bolP false, bolP false, bolP false, bolP false, bolP false, bolP false, bolP false, bolP false, bolP false, bolP false, bolP false, bolP false, bolP false, bolP false, bolP false, bolP false, bolP false, bolP false, bolP false, bolP false, bolP true, bolP false, bolP false, bolP false, bolP false, bolP false, bolP false, bolP false, bolP false, bolP false, bolP false, bolP false, bolP false, bolP false, bolP false, bolP false, bolP false, bolP false, bolP false, bolP false, bolP false, bolP false, bolP false, bolP false, bolP false, bolP false, bolP false, bolP false, bolP false, bolP false, bolP false, bolP false, bolP true, bolP false, bolP false, bolP false, bolP false, bolP false, bolP false, bolP false, bolP false, bolP false, bolP false, bolP false, bolP false, bolP false, bolP false, bolP false, bolP false, bolP false, bolP false, bolP false, bolP false, bolP false, bolP false, bolP false, bolP false, bolP false, bolP false, bolP false, bolP false, bolP false, bolP false, bolP false, bolP false, bolP false, bolP false, bolP false, bolP false, bolP false, bolP false, bolP false, bolP false, bolP false, bolP false, bolP false, bolP false, bolP false, bolP false, bolP false, bolP false, bolP false, bolP false, bolP false, bolP false, bolP false, bolP false, bolP false, bolP false, bolP false, bolP false, bolP false, bolP false, bolP false, bolP false, bolP false, bolP false, bolP false, bolP false, bolP false, bolP false, bolP false, bolP false, bolP false, bolP false, bolP false, bolP false, bolP false, bolP false, bolP false, bolP false, bolP false, bolP false, bolP false, bolP false, bolP false, bolP false, bolP false, bolP false, bolP false, bolP false, bolP false, bolP false, bolP false, bolP false, bolP false, bolP false, bolP false, bolP false, bolP false, bolP false, bolP false, bolP false, bolP false, bolP false, bolP false, bolP false, bolP false, bolP false, bolP false, bolP false, bolP false, bolP false, bolP false, bolP false, bolP false, bolP false, bolP false, bolP false, bolP false, bolP false, bolP false, bolP false, bolP false, bolP false, bolP false, bolP false, bolP false, bolP false, bolP false, bolP false, bolP false], bolP true]) : PV) = r) := by kernel_rfl
end Go.Proofs.YtlhfgonjcpapnaaGreatDoor.Abs

set_option maxRecDepth 20000
namespace Go.Proofs.YtlhfgonjcpapnaaGreatDoor.Abs
open Go Go.Proofs
theorem den_top : Den E1 90 [] (edgP 0 0 0 (.sl 0 true true []) false true) :=
  den1 2000 _ rfl (by kernel_rfl) rfl rfl rfl (Eq.mpr (span_top_go _) ⟨rfl, rfl⟩)
theorem den_from (v : V) (o : Bool) : Den E1 128 [v.p, bolP o] (lf1 (fromI v o)).p :=
  den1 2000 _ rfl (by kernel_rfl) rfl rfl rfl (Eq.mpr (span_from_go v o _) ⟨rfl, den_top, den_between ⟨v, o, false⟩ ⟨zV, false, true⟩, ex_frz (by kernel_rfl)⟩)
theorem bottom_ok : bottomV.ok := ⟨⟨by decide, by decide⟩, ⟨by decide, by decide⟩, ⟨by decide, by decide⟩, ⟨by simp [bottomV], by simp [bottomV]⟩, by simp [bottomV, small], by simp [bottomV, small]⟩
theorem bottom_may : mayV bottomV = true := by decide
theorem zV_ok : zV.ok := ⟨⟨by decide, by decide⟩, ⟨by decide, by decide⟩, ⟨by decide, by decide⟩, ⟨by simp [zV], by simp [zV]⟩, by simp [zV, small], by simp [zV, small]⟩
theorem zV_may : mayV zV = true := by decide
theorem den_span_below (v : V) (o : Bool) (hv : v.ok) : Den E1 129 [v.p, bolP o] (resL (joinS [downI v o])) := by
  have h := span_below_go v o (resL (joinS [downI v o]))
  simp only [Bool.not_not] at h
  exact den1 2000 _ rfl (by kernel_rfl) rfl rfl rfl (Eq.mpr h ⟨den_bottom, trivial, by
      have := den_between bottomE ⟨v, !o, false⟩
      have e : betE bottomE ⟨v, !o, false⟩ = downI v o := by simp [betE, bottomE, downI]
      rw [e] at this
      exact this,
    den_join20 [downI v o] 11 false true ⟨by simp, fun _ => rfl⟩ (by simp) (Nat.lt_of_le_of_lt (delN_le _) (by simp)) (fun x hx => by simp only [List.mem_singleton] at hx; subst hx; exact ⟨bottom_ok, hv⟩), rfl⟩)
theorem den_Next0 (v : V) (hv : v.ok) : Den E1 130 [v.p, intP 0] (.tup [(nextV v 0).p, intP (nextE v 0)]) := by
  refine den1 2000 _ rfl (by kernel_rfl) rfl rfl rfl (Eq.mpr (version_Next_0_go v _) ⟨rfl, den_version_May v hv, fun h1 => ⟨rfl, ?_⟩, fun h1 => ⟨rfl, rfl, rfl, rfl, by decide, rfl, fun h2 => ⟨rfl, ?_⟩, fun h2 => ?_⟩⟩)
  · have hm : mayV v = false := by cases hm : mayV v <;> simp [hm, errV] at h1 ⊢
    simp [nextV, nextE, nextOk, hm, zV]
  · have hm : mayV v = true := by cases hm : mayV v <;> simp [hm, errV] at h1 ⊢
    have h2' : v.a = 2147483647 := by simpa using h2
    simp [nextV, nextE, nextOk, hm, zV, h2']
  · have hm : mayV v = true := by cases hm : mayV v <;> simp [hm, errV] at h1 ⊢
    have h2' : ¬ v.a = 2147483647 := by simpa using h2
    simp [nextV, nextE, nextOk, hm, zV, h2']
theorem den_Next1 (v : V) (hv : v.ok) : Den E1 130 [v.p, intP 1] (.tup [(nextV v 1).p, intP (nextE v 1)]) := by
  refine den1 2000 _ rfl (by kernel_rfl) rfl rfl rfl (Eq.mpr (version_Next_1_go v _) ⟨rfl, den_version_May v hv, fun h1 => ⟨rfl, ?_⟩, fun h1 => ⟨rfl, rfl, rfl, rfl, by decide, rfl, fun h2 => ⟨rfl, ?_⟩, fun h2 => ?_⟩⟩)
  · have hm : mayV v = false := by cases hm : mayV v <;> simp [hm, errV] at h1 ⊢
    simp [nextV, nextE, nextOk, hm, zV]
  · have hm : mayV v = true := by cases hm : mayV v <;> simp [hm, errV] at h1 ⊢
    have h2' : v.b = 2147483647 := by simpa using h2
    simp [nextV, nextE, nextOk, hm, zV, h2']
  · have hm : mayV v = true := by cases hm : mayV v <;> simp [hm, errV] at h1 ⊢
    have h2' : ¬ v.b = 2147483647 := by simpa using h2
    simp [nextV, nextE, nextOk, hm, zV, h2']
theorem den_Next2 (v : V) (hv : v.ok) : Den E1 130 [v.p, intP 2] (.tup [(nextV v 2).p, intP (nextE v 2)]) := by
  refine den1 2000 _ rfl (by kernel_rfl) rfl rfl rfl (Eq.mpr (version_Next_2_go v _) ⟨rfl, den_version_May v hv, fun h1 => ⟨rfl, ?_⟩, fun h1 => ⟨rfl, rfl, rfl, rfl, by decide, rfl, fun h2 => ⟨rfl, ?_⟩, fun h2 => ?_⟩⟩)
  · have hm : mayV v = false := by cases hm : mayV v <;> simp [hm, errV] at h1 ⊢
    simp [nextV, nextE, nextOk, hm, zV]
  · have hm : mayV v = true := by cases hm : mayV v <;> simp [hm, errV] at h1 ⊢
    have h2' : v.c = 2147483647 := by simpa using h2
    simp [nextV, nextE, nextOk, hm, zV, h2']
  · have hm : mayV v = true := by cases hm : mayV v <;> simp [hm, errV] at h1 ⊢
    have h2' : ¬ v.c = 2147483647 := by simpa using h2
    simp [nextV, nextE, nextOk, hm, zV, h2']
theorem den_Next (v : V) (hv : v.ok) (n : Int) (h0 : 0 ≤ n) (h2 : n ≤ 2) : Den E1 130 [v.p, intP n] (.tup [(nextV v n).p, intP (nextE v n)]) := by
  rcases (show n = 0 ∨ n = 1 ∨ n = 2 by omega) with rfl | rfl | rfl
  · exact den_Next0 v hv
  · exact den_Next1 v hv
  · exact den_Next2 v hv
theorem den_Clip (k : Nat) (nl full : Bool) (x : List (List UInt8)) (hs : slOk 1 k nl x.length) : Den E1 71 [preP k nl full x] (preP k nl true x) := by
  refine den1 2000 _ rfl (by kernel_rfl) rfl rfl rfl (Eq.mpr (slices_Clip_string_string_go k nl full x _) ?_)
  have hk : nl = true ∨ k = 1 := by cases nl with
    | true => exact .inl rfl
    | false => exact .inr (hs.2 rfl)
  simp only [List.length_map, Int.toNat_natCast, gI_nat, gI_zero, Nat.sub_zero, List.drop_zero, beq_self_eq_true]
  refine ⟨⟨by omega, by omega⟩, ⟨by omega, by omega⟩, hk, ?_⟩
  rw [List.take_of_length_le (by simp)]
theorem den_Least (v : V) (hv : v.ok) (hm : mayV v = true) : Den E1 131 [v.p] (.tup [(leastV v).p, intP 0]) := by
  have hc : Den E1 71 [preP 1 false false [[48]]] (preP 1 false true [[48]]) := den_Clip 1 false false [[48]] ⟨by simp, fun _ => rfl⟩
  have hk : v.nl = true ∨ v.k = 1 := by cases h : v.nl with
    | true => exact .inl rfl
    | false => exact .inr (hv.sl.2 h)
  refine den1 2000 _ rfl (by kernel_rfl) rfl rfl rfl (Eq.mpr (version_Least_go v _) ⟨rfl, den_version_May v hv, fun h1 => ?_, fun h1 => ⟨rfl, ⟨by omega, by omega⟩, by decide, hk, rfl, by decide, fun h2 => ⟨by decide, rfl, rfl, hc, rfl, rfl, rfl, rfl⟩, fun h2 => ⟨⟨rfl, hv.sl.2 h2, rfl⟩, rfl, rfl, hc, rfl, rfl, rfl, rfl⟩⟩⟩)
  simp [hm, errV] at h1
end Go.Proofs.YtlhfgonjcpapnaaGreatDoor.Abs

set_option maxRecDepth 20000
namespace Go.Proofs.YtlhfgonjcpapnaaGreatDoor.Abs
open Go Go.Proofs
theorem extract_bs (s : List UInt8) (q i : Nat) : ByteArray.extract (bs s) q i = bs ((s.drop q).take (i - q)) := by
  apply ByteArray.ext
  apply Array.toList_inj.1
  rw [Lib.extract_data]
theorem split_hit {s sep : List UInt8} {i : Nat} (hs : sep ≠ []) (h : Lib.index s sep = i) : Lib.split s sep = s.take i :: Lib.split (s.drop (i + sep.length)) sep := by
  rw [split_cut s sep hs]
  have hc : Lib.cut s sep = (s.take i, s.drop (i + sep.length), true) := by simp [Lib.cut, h]
  rw [hc]; rfl
theorem split_miss {s sep : List UInt8} (hs : sep ≠ []) (h : Lib.index s sep = -1) : Lib.split s sep = [s] := by
  rw [split_cut s sep hs]
  have hc : Lib.cut s sep = (s, [], false) := by simp [Lib.cut, h]
  rw [hc]; rfl
end Go.Proofs.YtlhfgonjcpapnaaGreatDoor.Abs

namespace Go.Proofs.YtlhfgonjcpapnaaGreatDoor.Abs
open Go Go.Proofs
theorem strings_TrimLeft_go (s : List UInt8) (r : PV) : FnGo E1 Tryz.f127 [PV.lit (.string (bs s)), PV.lit (.string (bs [60, 62, 61, 126, 94]))] r 2000 (.fork (.lts 4 (.hole 0)) (.lts 10 (.res (.tup [.agg [bolP false, bolP false, bolP false, bolP false, bolP false, bolP false, bolP false, bolP false, bolP false, bolP false, bolP false, bolP false, bolP false, bolP false, bolP false, bolP false, bolP false, bolP false, bolP false, bolP false, bolP false, bolP false, bolP false, bolP false, bolP false, bolP false, bolP false, bolP false, bolP false, bolP false, bolP false, bolP false, bolP false, bolP false, bolP false, bolP false, bolP false, bolP false, bolP false, bolP false, bolP false, bolP false, bolP false, bolP false, bolP false, bolP false, bolP false, bolP false, bolP false, bolP false, bolP false, bolP false, bolP false, bolP false, bolP false, bolP false, bolP false, bolP false, bolP false, bolP false, bolP true, bolP true, bolP true, bolP false, bolP false, bolP false, bolP false, bolP false, bolP false, bolP false, bolP false, bolP false, bolP false, bolP false, bolP false, bolP false, bolP false, bolP false, bolP false, bolP false, bolP false, bolP false, bolP false, bolP false, bolP false, bolP false, bolP false, bolP false, bolP false, bolP false, bolP false, bolP false, bolP false, bolP false, bolP true, bolP false, bolP false, bolP false, bolP false, bolP false, bolP false, bolP false, bolP false, bolP false, bolP false, bolP false, bolP false, bolP false, bolP false, bolP false, bolP false, bolP false, bolP false, bolP false, bolP false, bolP false, bolP false, bolP false, bolP false, bolP false, bolP false, bolP false, bolP false, bolP false, bolP false, bolP false, bolP true, bolP false, bolP false, bolP false, bolP false, bolP false, bolP false, bolP false, bolP false, bolP false, bolP false, bolP false, bolP false, bolP false, bolP false, bolP false, bolP false, bolP false, bolP false, bolP false, bolP false, bolP false, bolP false, bolP false, bolP false, bolP false, bolP false, bolP false, bolP false, bolP false, bolP false, bolP false, bolP false, bolP false, bolP false, bolP false, bolP false, bolP false, bolP false, bolP false, bolP false, bolP false, bolP false, bolP false, bolP false, bolP false, bolP false, bolP false, bolP false, bolP false, bolP false, bolP false, bolP false, bolP false, bolP false, bolP false, bolP false, bolP false, bolP false, bolP false, bolP false, bolP false, bolP false, bolP false, bolP false, bolP false, bolP false, bolP false, bolP false, bolP false, bolP false, bolP false, bolP false, bolP false, bolP false, bolP false, bolP false, bolP false, bolP false, bolP false, bolP false, bolP false, bolP false, bolP false, bolP false, bolP false, bolP false, bolP false, bolP false, bolP false, bolP false, bolP false, bolP false, bolP false, bolP false, bolP false, bolP false, bolP false, bolP false, bolP false, bolP false, bolP false, bolP false, bolP false, bolP false, bolP false, bolP false, bolP false, bolP false, bolP false, bolP false, bolP false, bolP false, bolP false, bolP false, bolP false, bolP false, bolP false, bolP false, bolP false, bolP false, bolP false, bolP false, bolP false, bolP false, bolP false, bolP false, bolP false, bolP false, bolP false], bolP true]) (.lit (.ev (.res (PV.lit (.string (bs (trimL s)))) (.hole 0))))))) =
  (((ByteArray.toList (bs s) == ByteArray.toList (bs [])) = true →
 ((PV.lit (.string (bs s))) : PV) = r) ∧
 ((ByteArray.toList (bs s) == ByteArray.toList (bs [])) = false →
 (Den E1 151 [PV.lit (.string (bs [60, 62, 61, 126, 94]))] (.tup [.agg [bolP false, bolP false, bolP false, bolP false, bolP false, bolP false, bolP false, bolP false, bolP false, bolP false, bolP false, bolP false, bolP false, bolP false, bolP false, bolP false, bolP false, bolP false, bolP false, bolP false, bolP false, bolP false, bolP false, bolP false, bolP false, bolP false, bolP false, bolP false, bolP false, bolP false, bolP false, bolP false, bolP false, bolP false, bolP false, bolP false, bolP false, bolP false, bolP false, bolP false, bolP false, bolP false, bolP false, bolP false, bolP false, bolP false, bolP false, bolP false, bolP false, bolP false, bolP false, bolP false, bolP false, bolP false, bolP false, bolP false, bolP false, bolP false, bolP false, bolP false, bolP true, bolP true, bolP true, bolP false, bolP false, bolP false, bolP false, bolP false, bolP false, bolP false, bolP false, bolP false, bolP false, bolP false, bolP false, bolP false, bolP false, bolP false, bolP false, bolP false, bolP false, bolP false, bolP false, bolP false, bolP false, bolP false, bolP false, bolP false, bolP false, bolP false, bolP false, bolP false, bolP false, bolP false, bolP true, bolP false, bolP false, bolP false, bolP false, bolP false, bolP false, bolP false, bolP false, bolP false, bolP false, bolP false, bolP false, bolP false, bolP false, bolP false, bolP false, bolP false, bolP false, bolP false, bolP false, bolP false, bolP false, bolP false, bolP false, bolP false, bolP false, bolP false, bolP false, bolP false, bolP false, bolP false, bolP true, bolP false, bolP false, bolP false, bolP false, bolP false, bolP false, bolP false, bolP false, bolP false, bolP false, bolP false, bolP false, bolP false, bolP false, bolP false, bolP false, bolP false, bolP false, bolP false, bolP false, bolP false, bolP false, bolP false, bolP false, bolP false, bolP false, bolP false, bolP false, bolP false, bolP false, bolP false, bolP false, bolP false, bolP false, bolP false, bolP false, bolP false, bolP false, bolP false, bolP false, bolP false, bolP false, bolP false, bolP false, bolP false, bolP false, bolP false, bolP false, bolP false, bolP false, bolP false, bolP false, bolP false, bolP false, bolP false, bolP false, bolP false, bolP false, bolP false, bolP false, bolP false, bolP false, bolP false, bolP false, bolP false, bolP false, bolP false, bolP false, bolP false, bolP false, bolP false, bolP false, bolP false, bolP false, bolP false, bolP false, bolP false, bolP false, bolP false, bolP false, bolP false, bolP false, bolP false, bolP false, bolP false, bolP false, bolP false, bolP false, bolP false, bolP false, bolP false, bolP false, bolP false, bolP false, bolP false, bolP false, bolP false, bolP false, bolP false, bolP false, bolP false, bolP false, bolP false, bolP false, bolP false, bolP false, bolP false, bolP false, bolP false, bolP false, bolP false, bolP false, bolP false, bolP false, bolP false, bolP false, bolP false, bolP false, bolP false, bolP false, bolP false, bolP false, bolP false, bolP false, bolP false, bolP false, bolP false, bolP false, bolP false], bolP true])) ∧
 ((20 : Nat) = 20) ∧
 (Den E1 152 [PV.lit (.string (bs s)), .ptr (.agg [bolP false, bolP false, bolP false, bolP false, bolP false, bolP false, bolP false, bolP false, bolP false, bolP false, bolP false, bolP false, bolP false, bolP false, bolP false, bolP false, bolP false, bolP false, bolP false, bolP false, bolP false, bolP false, bolP false, bolP false, bolP false, bolP false, bolP false, bolP false, bolP false, bolP false, bolP false, bolP false, bolP false, bolP false, bolP false, bolP false, bolP false, bolP false, bolP false, bolP false, bolP false, bolP false, bolP false, bolP false, bolP false, bolP false, bolP false, bolP false, bolP false, bolP false, bolP false, bolP false, bolP false, bolP false, bolP false, bolP false, bolP false, bolP false, bolP false, bolP false, bolP true, bolP true, bolP true, bolP false, bolP false, bolP false, bolP false, bolP false, bolP false, bolP false, bolP false, bolP false, bolP false, bolP false, bolP false, bolP false, bolP false, bolP false, bolP false, bolP false, bolP false, bolP false, bolP false, bolP false, bolP false, bolP false, bolP false, bolP false, bolP false, bolP false, bolP false, bolP false, bolP false, bolP false, bolP true, bolP false, bolP false, bolP false, bolP false, bolP false, bolP false, bolP false, bolP false, bolP false, bolP false, bolP false, bolP false, bolP false, bolP false, bolP false, bolP false, bolP false, bolP false, bolP false, bolP false, bolP false, bolP false, bolP false, bolP false, bolP false, bolP false, bolP false, bolP false, bolP false, bolP false, bolP false, bolP true, bolP false, bolP false, bolP false, bolP false, bolP false, bolP false, bolP false, bolP false, bolP false, bolP false, bolP false, bolP false, bolP false, bolP false, bolP false, bolP false, bolP false, bolP false, bolP false, bolP false, bolP false, bolP false, bolP false, bolP false, bolP false, bolP false, bolP false, bolP false, bolP false, bolP false, bolP false, bolP false, bolP false, bolP false, bolP false, bolP false, bolP false, bolP false, bolP false, bolP false, bolP false, bolP false, bolP false, bolP false, bolP false, bolP false, bolP false, bolP false, bolP false, bolP false, bolP false, bolP false, bolP false, bolP false, bolP false, bolP false, bolP false, bolP false, bolP false, bolP false, bolP false, bolP false, bolP false, bolP false, bolP false, bolP false, bolP false, bolP false, bolP false, bolP false, bolP false, bolP false, bolP false, bolP false, bolP false, bolP false, bolP false, bolP false, bolP false, bolP false, bolP false, bolP false, bolP false, bolP false, bolP false, bolP false, bolP false, bolP false, bolP false, bolP false, bolP false, bolP false, bolP false, bolP false, bolP false, bolP false, bolP false, bolP false, bolP false, bolP false, bolP false, bolP false, bolP false, bolP false, bolP false, bolP false, bolP false, bolP false, bolP false, bolP false, bolP false, bolP false, bolP false, bolP false, bolP false, bolP false, bolP false, bolP false, bolP false, bolP false, bolP false, bolP false, bolP false, bolP false, bolP false, bolP false, bolP false, bolP false, bolP false]) 0] (PV.lit (.string (bs (trimL s))))) ∧
 ((PV.lit (.string (bs (trimL s)))) : PV) = r)) := by kernel_rfl
theorem slices_Clone_string_string_go (k : Nat) (full : Bool) (x : List (List UInt8)) (r : PV) : FnGo E1 Tryz.f92 [.sl k false full (List.map strP x)] r 2000 (.lit (.fork (.hole 0) (.lit (.hole 0)))) =
  ((((false = true → (List.map strP x) = [])) ∧ ((false = false → k = 1))) ∧
 ((List.isEmpty (List.map strP x)) = true →
 ((.sl 1 false true []) : PV) = r) ∧
 ((List.isEmpty (List.map strP x)) = false →
 ((true = true) ∧ (((1 : Nat) = 1) ∧ ((fitsRow ((0 : Nat) + List.length (List.map strP x)) (16 : Nat)) = true))) ∧
 ∃ hp, frz frzDepth (.msl 0 7 5 0 ((0 : Nat) + List.length (List.map strP x)) false) [[row0, row0, row0, row0, row0, row0, row0, ⟨5, .row 1 9 ([] ++ List.map strP x) false⟩]] = some (r, hp))) := by kernel_rfl
theorem slices_Clone_string_string_N_go (k : Nat) (full : Bool) (r : PV) : FnGo E1 Tryz.f92 [.sl k true full []] r 2000 (.lit (.hole 0)) =
  (((.sl 0 true true []) : PV) = r) := by kernel_rfl
theorem slices_Clip_api_Interval_api_Interval_go (k : Nat) (nl : Bool) (full : Bool) (l : List I) (r : PV) : FnGo E1 Tryz.f93 [.sl k nl full (List.map I.p l)] r 2000 (.hole 0) =
  ((((0 : Int) ≤ (↑(List.length (List.map I.p l)) : Int)) ∧ ((↑(List.length (List.map I.p l)) : Int) ≤ (↑(List.length (List.map I.p l)) : Int))) ∧
 (((0 : Int) ≤ (↑(List.length (List.map I.p l)) : Int)) ∧ ((↑(List.length (List.map I.p l)) : Int) ≤ (↑(Int.toNat (↑(List.length (List.map I.p l)) : Int)) : Int))) ∧
 ((nl = true) ∨ (k = 11)) ∧
 ((.sl k nl (Int.toNat (↑(List.length (List.map I.p l)) : Int) == Int.toNat (↑(List.length (List.map I.p l)) : Int)) (List.take (Int.toNat (↑(List.length (List.map I.p l)) : Int) - (0 : Nat)) (List.drop (0 : Nat) (List.map I.p l)))) : PV) = r) := by kernel_rfl
def span_limited_S0 (k : Nat) (nl : Bool) (full : Bool) (l : List I) (i : Int) (j : Nat → AV) (jr : Nat → Row) (g : Nat) : St :=
  { t := [j 0, j 1, j 2, j 3, .pv (.sl 0 true true [])] ++ jj j 5 5 ++ [.pv (.sl k nl full (List.map I.p l)), intA ((↑(List.length (List.map I.p l)) : Int)), intA i] ++ jj j 13 28, h := [List.replicate 6 row0 ++ [jr 6, row0, row0, row0, row0, row0, row0, row0, row0, row0, row0, row0, row0, row0, jr 20, row0, row0, row0, row0, row0, row0, row0, row0, jr 29, row0, row0, row0, row0, row0, row0, jr 36] ++ List.replicate 4 row0], g := g }
def span_limited_S1 (k : Nat) (nl : Bool) (full : Bool) (l : List I) (i : Int) (gm : Nat) (n : Nat) (xsI : List PV) (j : Nat → AV) (jr : Nat → Row) (g : Nat) : St :=
  { t := [j 0, j 1, j 2, j 3, .msl 0 37 gm 0 n false] ++ jj j 5 5 ++ [.pv (.sl k nl full (List.map I.p l)), intA ((↑(List.length (List.map I.p l)) : Int)), intA i] ++ jj j 13 28, h := [[row0, row0, row0, row0, row0, row0, jr 6, row0, row0, row0, row0, row0, row0, row0, row0, row0, row0, row0, row0, row0, jr 20, row0, row0, row0, row0, row0, row0, row0, row0, jr 29, row0, row0, row0, row0, row0, row0, jr 36, ⟨gm, .row 11 63 xsI false⟩, row0, row0, row0]], g := g }
theorem span_limited_go (k : Nat) (nl : Bool) (full : Bool) (l : List I) (r : PV) : FnGo E1 Tryz.f53 [.sl k nl full (List.map I.p l)] r 2000 (.fork (.hole 0) (.mask (iv [(0, 3), (5, 9), (13, 40)]) [6, 20, 29, 36])) =
  (((decide ((↑(List.length (List.map I.p l)) : Int) > (16 : Int))) = true →
 ((.tup [.sl 0 true true [], intP 80]) : PV) = r) ∧
 ((decide ((↑(List.length (List.map I.p l)) : Int) > (16 : Int))) = false →
 AtAll Tryz.f53 r 0 (span_limited_S0 k nl full l 0))) := by kernel_rfl
theorem span_limited_go_S0 (k : Nat) (nl : Bool) (full : Bool) (l : List I) (i : Int) (j : Nat → AV) (jr : Nat → Row) (g : Nat) (r : PV) : LoopGo E1 Tryz.f53 r 0 2000 (.fork (.val (I.p (gI l i)) (.res (.sl (bif V.nl (I.lo (gI l i)) then (0 : Nat) else (1 : Nat)) (V.nl (I.lo (gI l i))) (V.nl (I.lo (gI l i))) (List.map strP (V.pre (I.lo (gI l i))))) (.res (.sl (bif V.nl (I.lo (gI l i)) then (0 : Nat) else (1 : Nat)) (V.nl (I.lo (gI l i))) true (List.map strP (V.pre (I.lo (gI l i))))) (.res (.sl (bif V.nl (I.hi (gI l i)) then (0 : Nat) else (1 : Nat)) (V.nl (I.hi (gI l i))) (V.nl (I.hi (gI l i))) (List.map strP (V.pre (I.hi (gI l i))))) (.res (.sl (bif V.nl (I.hi (gI l i)) then (0 : Nat) else (1 : Nat)) (V.nl (I.hi (gI l i))) true (List.map strP (V.pre (I.hi (gI l i))))) (.lit (.lit (.mask (iv [(0, 3), (5, 9), (13, 40)]) [6, 20, 29, 36])))))))) (.res (.sl 0 true true []) (.hole 0))) (span_limited_S0 k nl full l i j jr g) =
  (((decide (i < (↑(List.length (List.map I.p l)) : Int))) = true →
 (((0 : Int) ≤ i) ∧ ((nl = false) ∧ (k = 11))) ∧
 (((List.map I.p l)[Int.toNat i]?) = some (I.p (gI l i))) ∧
 ((g + 1 + 2) = g + 1 + 2) ∧
 ((g + 1 + 2) = g + 1 + 2) ∧
 (Den E1 92 [V.q (I.lo (gI l i))] (.sl (bif V.nl (I.lo (gI l i)) then (0 : Nat) else (1 : Nat)) (V.nl (I.lo (gI l i))) (V.nl (I.lo (gI l i))) (List.map strP (V.pre (I.lo (gI l i)))))) ∧
 (Den E1 71 [.sl (bif V.nl (I.lo (gI l i)) then (0 : Nat) else (1 : Nat)) (V.nl (I.lo (gI l i))) (V.nl (I.lo (gI l i))) (List.map strP (V.pre (I.lo (gI l i))))] (.sl (bif V.nl (I.lo (gI l i)) then (0 : Nat) else (1 : Nat)) (V.nl (I.lo (gI l i))) true (List.map strP (V.pre (I.lo (gI l i)))))) ∧
 ((g + 1 + 2) = g + 1 + 2) ∧
 ((g + 1 + 2) = g + 1 + 2) ∧
 (Den E1 92 [V.q (I.hi (gI l i))] (.sl (bif V.nl (I.hi (gI l i)) then (0 : Nat) else (1 : Nat)) (V.nl (I.hi (gI l i))) (V.nl (I.hi (gI l i))) (List.map strP (V.pre (I.hi (gI l i)))))) ∧
 (Den E1 71 [.sl (bif V.nl (I.hi (gI l i)) then (0 : Nat) else (1 : Nat)) (V.nl (I.hi (gI l i))) (V.nl (I.hi (gI l i))) (List.map strP (V.pre (I.hi (gI l i))))] (.sl (bif V.nl (I.hi (gI l i)) then (0 : Nat) else (1 : Nat)) (V.nl (I.hi (gI l i))) true (List.map strP (V.pre (I.hi (gI l i)))))) ∧
 ((g + 1 + 2) = g + 1 + 2) ∧
 ((g + 1 + 2) = g + 1 + 2) ∧
 ((g + 1 + 4 + 10 + 10 + 2) = g + 1 + 4 + 10 + 10 + 2) ∧
 (((11 : Nat) = 11) ∧ ((1 : Nat) ≤ (1 : Nat))) ∧
 (((0 : Nat) = 0) ∧ (true = true)) ∧
 (AtAll Tryz.f53 r 0 (span_limited_S1 k nl full l (IntKind.i64.wrap (i + (1 : Int))) (g + 1 + 4 + 10 + 10 + 3) 1 [itvP (V.a (I.lo (gI l i))) (V.b (I.lo (gI l i))) (V.c (I.lo (gI l i))) (.sl (bif V.nl (I.lo (gI l i)) then (0 : Nat) else (1 : Nat)) (V.nl (I.lo (gI l i))) true (List.map strP (V.pre (I.lo (gI l i))))) (I.lopen (gI l i)) (V.a (I.hi (gI l i))) (V.b (I.hi (gI l i))) (V.c (I.hi (gI l i))) (.sl (bif V.nl (I.hi (gI l i)) then (0 : Nat) else (1 : Nat)) (V.nl (I.hi (gI l i))) true (List.map strP (V.pre (I.hi (gI l i))))) (I.hopen (gI l i)) (I.less (gI l i))]))) ∧
 ((decide (i < (↑(List.length (List.map I.p l)) : Int))) = false →
 (Den E1 93 [.sl 0 true true []] (.sl 0 true true [])) ∧
 ((.tup [.sl 0 true true [], intP 0]) : PV) = r)) := by kernel_rfl
theorem span_limited_go_S1 (k : Nat) (nl : Bool) (full : Bool) (l : List I) (i : Int) (gm : Nat) (n : Nat) (xs : List I) (j : Nat → AV) (jr : Nat → Row) (g : Nat) (r : PV) : LoopGo E1 Tryz.f53 r 0 2000 (.fork (.val (I.p (gI l i)) (.res (.sl (bif V.nl (I.lo (gI l i)) then (0 : Nat) else (1 : Nat)) (V.nl (I.lo (gI l i))) (V.nl (I.lo (gI l i))) (List.map strP (V.pre (I.lo (gI l i))))) (.res (.sl (bif V.nl (I.lo (gI l i)) then (0 : Nat) else (1 : Nat)) (V.nl (I.lo (gI l i))) true (List.map strP (V.pre (I.lo (gI l i))))) (.res (.sl (bif V.nl (I.hi (gI l i)) then (0 : Nat) else (1 : Nat)) (V.nl (I.hi (gI l i))) (V.nl (I.hi (gI l i))) (List.map strP (V.pre (I.hi (gI l i))))) (.res (.sl (bif V.nl (I.hi (gI l i)) then (0 : Nat) else (1 : Nat)) (V.nl (I.hi (gI l i))) true (List.map strP (V.pre (I.hi (gI l i))))) (.lit (.mask (iv [(0, 3), (5, 9), (13, 40)]) [6, 20, 29, 36]))))))) (.frz [.sl 11 false false (List.map I.p xs)] [[row0, row0, row0, row0, row0, row0, jr 6, row0, row0, row0, row0, row0, row0, row0, row0, row0, row0, row0, row0, row0, jr 20, row0, row0, row0, row0, row0, row0, row0, row0, jr 29, row0, row0, row0, row0, row0, row0, jr 36, ⟨gm, .row 11 63 (List.map I.p xs) true⟩, row0, row0, row0]] (.res (.sl 11 false true (List.map I.p xs)) (.hole 0)))) (span_limited_S1 k nl full l i gm n (List.map I.p xs) j jr g) =
  (((decide (i < (↑(List.length (List.map I.p l)) : Int))) = true →
 (((0 : Int) ≤ i) ∧ ((nl = false) ∧ (k = 11))) ∧
 (((List.map I.p l)[Int.toNat i]?) = some (I.p (gI l i))) ∧
 ((g + 1 + 2) = g + 1 + 2) ∧
 ((g + 1 + 2) = g + 1 + 2) ∧
 (Den E1 92 [V.q (I.lo (gI l i))] (.sl (bif V.nl (I.lo (gI l i)) then (0 : Nat) else (1 : Nat)) (V.nl (I.lo (gI l i))) (V.nl (I.lo (gI l i))) (List.map strP (V.pre (I.lo (gI l i)))))) ∧
 (Den E1 71 [.sl (bif V.nl (I.lo (gI l i)) then (0 : Nat) else (1 : Nat)) (V.nl (I.lo (gI l i))) (V.nl (I.lo (gI l i))) (List.map strP (V.pre (I.lo (gI l i))))] (.sl (bif V.nl (I.lo (gI l i)) then (0 : Nat) else (1 : Nat)) (V.nl (I.lo (gI l i))) true (List.map strP (V.pre (I.lo (gI l i)))))) ∧
 ((g + 1 + 2) = g + 1 + 2) ∧
 ((g + 1 + 2) = g + 1 + 2) ∧
 (Den E1 92 [V.q (I.hi (gI l i))] (.sl (bif V.nl (I.hi (gI l i)) then (0 : Nat) else (1 : Nat)) (V.nl (I.hi (gI l i))) (V.nl (I.hi (gI l i))) (List.map strP (V.pre (I.hi (gI l i)))))) ∧
 (Den E1 71 [.sl (bif V.nl (I.hi (gI l i)) then (0 : Nat) else (1 : Nat)) (V.nl (I.hi (gI l i))) (V.nl (I.hi (gI l i))) (List.map strP (V.pre (I.hi (gI l i))))] (.sl (bif V.nl (I.hi (gI l i)) then (0 : Nat) else (1 : Nat)) (V.nl (I.hi (gI l i))) true (List.map strP (V.pre (I.hi (gI l i)))))) ∧
 ((g + 1 + 2) = g + 1 + 2) ∧
 ((g + 1 + 2) = g + 1 + 2) ∧
 ((g + 1 + 4 + 10 + 10 + 2) = g + 1 + 4 + 10 + 10 + 2) ∧
 (((11 : Nat) = 11) ∧ ((1 : Nat) ≤ (1 : Nat))) ∧
 (gm = gm) ∧
 ((false = false) ∧ (((11 : Nat) = 11) ∧ (((63 : Nat) = 63) ∧ ((((0 : Nat) + n) = List.length (List.map I.p xs)) ∧ ((fitsRow (n + 1) (104 : Nat)) = true))))) ∧
 (∀ (j' : Nat → AV) (jr' : Nat → Row) (g' : Nat), LoopAt E1 Tryz.f53 r 0 (span_limited_S1 k nl full l (IntKind.i64.wrap (i + (1 : Int))) (g + 1 + 4 + 10 + 10 + 3) (n + 1) (List.drop (0 : Nat) (List.map I.p xs) ++ List.take (1 : Nat) (List.drop (0 : Nat) [PV.agg [PV.lit (Value.int IntKind.u32 (V.a (I.lo (gI l i)))), PV.lit (Value.int IntKind.u32 (V.b (I.lo (gI l i)))), PV.lit (Value.int IntKind.u32 (V.c (I.lo (gI l i)))), PV.sl (bif V.nl (I.lo (gI l i)) then (0 : Nat) else (1 : Nat)) (V.nl (I.lo (gI l i))) true (List.map strP (V.pre (I.lo (gI l i)))), PV.lit (Value.bool (I.lopen (gI l i))), PV.lit (Value.int IntKind.u32 (V.a (I.hi (gI l i)))), PV.lit (Value.int IntKind.u32 (V.b (I.hi (gI l i)))), PV.lit (Value.int IntKind.u32 (V.c (I.hi (gI l i)))), PV.sl (bif V.nl (I.hi (gI l i)) then (0 : Nat) else (1 : Nat)) (V.nl (I.hi (gI l i))) true (List.map strP (V.pre (I.hi (gI l i)))), PV.lit (Value.bool (I.hopen (gI l i))), PV.lit (Value.bool (I.less (gI l i)))]])) j' jr' g'))) ∧
 ((decide (i < (↑(List.length (List.map I.p l)) : Int))) = false →
 (frzs frzDepth [.msl 0 37 gm 0 n false] [[row0, row0, row0, row0, row0, row0, jr 6, row0, row0, row0, row0, row0, row0, row0, row0, row0, row0, row0, row0, row0, jr 20, row0, row0, row0, row0, row0, row0, row0, row0, jr 29, row0, row0, row0, row0, row0, row0, jr 36, ⟨gm, .row 11 63 (List.map I.p xs) false⟩, row0, row0, row0]] = some ([.sl 11 false false (List.map I.p xs)], [[row0, row0, row0, row0, row0, row0, jr 6, row0, row0, row0, row0, row0, row0, row0, row0, row0, row0, row0, row0, row0, jr 20, row0, row0, row0, row0, row0, row0, row0, row0, jr 29, row0, row0, row0, row0, row0, row0, jr 36, ⟨gm, .row 11 63 (List.map I.p xs) true⟩, row0, row0, row0]])) ∧
 (Den E1 93 [.sl 11 false false (List.map I.p xs)] (.sl 11 false true (List.map I.p xs))) ∧
 ((.tup [.sl 11 false true (List.map I.p xs), intP 0]) : PV) = r)) := by kernel_rfl
theorem version_number_go (s : List UInt8) (r : PV) : FnGo E1 Tryz.f70 [PV.lit (.string (bs s))] r 2000 (.resB (digitsL s) (.lts 3 (.res (bolP (plainL s)) (.lit (.lit (.fork (.lts 5 (.hole 0)) (.lts 4 (.fork (.hole 0) (.res (.tup [PV.lit (.int .u64 ((↑(decV s) : Int))), .lit .nilIface]) (.hole 0))))))))) (.lts 11 (.hole 0))) =
  ((Den E1 108 [PV.lit (.string (bs s))] (bolP (digitsL s))) ∧
 ((digitsL s) = true →
 (Den E1 109 [PV.lit (.string (bs s))] (bolP (plainL s))) ∧
 ((!plainL s) = true →
 ((.tup [PV.lit (.int .u32 0), bolP false]) : PV) = r) ∧
 ((!plainL s) = false →
 ((decide ((↑(ByteArray.size (bs s)) : Int) > (10 : Int))) = true →
 ((.tup [PV.lit (.int .u32 0), bolP false]) : PV) = r) ∧
 ((decide ((↑(ByteArray.size (bs s)) : Int) > (10 : Int))) = false →
 (Den E1 110 [PV.lit (.string (bs s)), intP 10, intP 64] (.tup [PV.lit (.int .u64 ((↑(decV s) : Int))), .lit .nilIface])) ∧
 ((.tup [PV.lit (.int .u32 ((↑(decV s % (4294967296 : Nat)) : Int))), bolP (decide ((↑(decV s) : Int) ≤ (2147483647 : Int)))]) : PV) = r))) ∧
 ((digitsL s) = false →
 ((.tup [PV.lit (.int .u32 0), bolP false]) : PV) = r)) := by kernel_rfl
theorem version_Read_go (s : List UInt8) (r : PV) : FnGo E1 Tryz.f34 [PV.lit (.string (bs s))] r 2000 (.fork (.hole 0) (.res (.tup [PV.lit (.string (bs (Prod.fst (Lib.cut s [45])))), PV.lit (.string (bs (Prod.fst (Prod.snd (Lib.cut s [45]))))), bolP (Prod.snd (Prod.snd (Lib.cut s [45])))]) (.res (.sl 1 false true (List.map strP (Lib.split (Prod.fst (Lib.cut s [45])) [46]))) (.fork (.hole 0) (.go (.lit (.val (PV.lit (.string (bs (List.getD (Lib.split (Prod.fst (Lib.cut s [45])) [46]) (0 : Nat) default)))) (.res (.tup [PV.lit (.int .u32 (numV (List.getD (Lib.split (Prod.fst (Lib.cut s [45])) [46]) (0 : Nat) default))), bolP (numB (List.getD (Lib.split (Prod.fst (Lib.cut s [45])) [46]) (0 : Nat) default))]) (.fork (.hole 0) (.go (.lit (.val (PV.lit (.string (bs (List.getD (Lib.split (Prod.fst (Lib.cut s [45])) [46]) (1 : Nat) default)))) (.res (.tup [PV.lit (.int .u32 (numV (List.getD (Lib.split (Prod.fst (Lib.cut s [45])) [46]) (1 : Nat) default))), bolP (numB (List.getD (Lib.split (Prod.fst (Lib.cut s [45])) [46]) (1 : Nat) default))]) (.fork (.hole 0) (.go (.lit (.val (PV.lit (.string (bs (List.getD (Lib.split (Prod.fst (Lib.cut s [45])) [46]) (2 : Nat) default)))) (.res (.tup [PV.lit (.int .u32 (numV (List.getD (Lib.split (Prod.fst (Lib.cut s [45])) [46]) (2 : Nat) default))), bolP (numB (List.getD (Lib.split (Prod.fst (Lib.cut s [45])) [46]) (2 : Nat) default))]) (.fork (.hole 0) (.go (.lit (.fork (.res (.sl 1 false true (List.map strP (Lib.split (Prod.fst (Prod.snd (Lib.cut s [45]))) [46]))) (.res (intP (errV (mayV ⟨numV (List.getD (Lib.split (Prod.fst (Lib.cut s [45])) [46]) (0 : Nat) default), numV (List.getD (Lib.split (Prod.fst (Lib.cut s [45])) [46]) (1 : Nat) default), numV (List.getD (Lib.split (Prod.fst (Lib.cut s [45])) [46]) (2 : Nat) default), 1, false, true, Lib.split (Prod.fst (Prod.snd (Lib.cut s [45]))) [46]⟩))) (.fork (.hole 0) (.res (.sl 1 false true (List.map strP (Lib.split (Prod.fst (Prod.snd (Lib.cut s [45]))) [46]))) (.hole 0))))) (.res (intP (errV (mayV ⟨numV (List.getD (Lib.split (Prod.fst (Lib.cut s [45])) [46]) (0 : Nat) default), numV (List.getD (Lib.split (Prod.fst (Lib.cut s [45])) [46]) (1 : Nat) default), numV (List.getD (Lib.split (Prod.fst (Lib.cut s [45])) [46]) (2 : Nat) default), 0, true, true, []⟩))) (.fork (.hole 0) (.res (.sl 0 true true []) (.hole 0)))))))))))))))))))))))))) =
  (((decide ((↑(ByteArray.size (bs s)) : Int) > (128 : Int))) = true →
 ((0 : Nat) = 0) ∧
 ((.tup [verP 0 0 0 (.sl 0 true true []), intP 70]) : PV) = r) ∧
 ((decide ((↑(ByteArray.size (bs s)) : Int) > (128 : Int))) = false →
 (Den E1 68 [PV.lit (.string (bs s)), PV.lit (.string (bs [45]))] (.tup [PV.lit (.string (bs (Prod.fst (Lib.cut s [45])))), PV.lit (.string (bs (Prod.fst (Prod.snd (Lib.cut s [45]))))), bolP (Prod.snd (Prod.snd (Lib.cut s [45])))])) ∧
 (Den E1 69 [PV.lit (.string (bs (Prod.fst (Lib.cut s [45])))), PV.lit (.string (bs [46]))] (.sl 1 false true (List.map strP (Lib.split (Prod.fst (Lib.cut s [45])) [46])))) ∧
 (((↑(List.length (List.map strP (Lib.split (Prod.fst (Lib.cut s [45])) [46]))) : Int) != (3 : Int)) = true →
 ((0 : Nat) = 0) ∧
 ((.tup [verP 0 0 0 (.sl 0 true true []), intP 70]) : PV) = r) ∧
 (((↑(List.length (List.map strP (Lib.split (Prod.fst (Lib.cut s [45])) [46]))) : Int) != (3 : Int)) = false →
 (((0 : Int) ≤ (0 : Int)) ∧ ((false = false) ∧ ((1 : Nat) = 1))) ∧
 (((List.map strP (Lib.split (Prod.fst (Lib.cut s [45])) [46]))[(0 : Nat)]?) = some (PV.lit (.string (bs (List.getD (Lib.split (Prod.fst (Lib.cut s [45])) [46]) (0 : Nat) default))))) ∧
 (Den E1 70 [PV.lit (.string (bs (List.getD (Lib.split (Prod.fst (Lib.cut s [45])) [46]) (0 : Nat) default)))] (.tup [PV.lit (.int .u32 (numV (List.getD (Lib.split (Prod.fst (Lib.cut s [45])) [46]) (0 : Nat) default))), bolP (numB (List.getD (Lib.split (Prod.fst (Lib.cut s [45])) [46]) (0 : Nat) default))])) ∧
 ((!numB (List.getD (Lib.split (Prod.fst (Lib.cut s [45])) [46]) (0 : Nat) default)) = true →
 ((0 : Nat) = 0) ∧
 ((.tup [verP 0 0 0 (.sl 0 true true []), intP 70]) : PV) = r) ∧
 ((!numB (List.getD (Lib.split (Prod.fst (Lib.cut s [45])) [46]) (0 : Nat) default)) = false →
 ((20 : Nat) = 20) ∧
 (((0 : Int) ≤ (1 : Int)) ∧ ((false = false) ∧ ((1 : Nat) = 1))) ∧
 (((List.map strP (Lib.split (Prod.fst (Lib.cut s [45])) [46]))[(1 : Nat)]?) = some (PV.lit (.string (bs (List.getD (Lib.split (Prod.fst (Lib.cut s [45])) [46]) (1 : Nat) default))))) ∧
 (Den E1 70 [PV.lit (.string (bs (List.getD (Lib.split (Prod.fst (Lib.cut s [45])) [46]) (1 : Nat) default)))] (.tup [PV.lit (.int .u32 (numV (List.getD (Lib.split (Prod.fst (Lib.cut s [45])) [46]) (1 : Nat) default))), bolP (numB (List.getD (Lib.split (Prod.fst (Lib.cut s [45])) [46]) (1 : Nat) default))])) ∧
 ((!numB (List.getD (Lib.split (Prod.fst (Lib.cut s [45])) [46]) (1 : Nat) default)) = true →
 ((0 : Nat) = 0) ∧
 ((.tup [verP 0 0 0 (.sl 0 true true []), intP 70]) : PV) = r) ∧
 ((!numB (List.getD (Lib.split (Prod.fst (Lib.cut s [45])) [46]) (1 : Nat) default)) = false →
 ((20 : Nat) = 20) ∧
 (((0 : Int) ≤ (2 : Int)) ∧ ((false = false) ∧ ((1 : Nat) = 1))) ∧
 (((List.map strP (Lib.split (Prod.fst (Lib.cut s [45])) [46]))[(2 : Nat)]?) = some (PV.lit (.string (bs (List.getD (Lib.split (Prod.fst (Lib.cut s [45])) [46]) (2 : Nat) default))))) ∧
 (Den E1 70 [PV.lit (.string (bs (List.getD (Lib.split (Prod.fst (Lib.cut s [45])) [46]) (2 : Nat) default)))] (.tup [PV.lit (.int .u32 (numV (List.getD (Lib.split (Prod.fst (Lib.cut s [45])) [46]) (2 : Nat) default))), bolP (numB (List.getD (Lib.split (Prod.fst (Lib.cut s [45])) [46]) (2 : Nat) default))])) ∧
 ((!numB (List.getD (Lib.split (Prod.fst (Lib.cut s [45])) [46]) (2 : Nat) default)) = true →
 ((0 : Nat) = 0) ∧
 ((.tup [verP 0 0 0 (.sl 0 true true []), intP 70]) : PV) = r) ∧
 ((!numB (List.getD (Lib.split (Prod.fst (Lib.cut s [45])) [46]) (2 : Nat) default)) = false →
 ((20 : Nat) = 20) ∧
 ((Prod.snd (Prod.snd (Lib.cut s [45]))) = true →
 (Den E1 69 [PV.lit (.string (bs (Prod.fst (Prod.snd (Lib.cut s [45]))))), PV.lit (.string (bs [46]))] (.sl 1 false true (List.map strP (Lib.split (Prod.fst (Prod.snd (Lib.cut s [45]))) [46])))) ∧
 ((20 : Nat) = 20) ∧
 ((20 : Nat) = 20) ∧
 (Den E1 59 [verP (numV (List.getD (Lib.split (Prod.fst (Lib.cut s [45])) [46]) (0 : Nat) default)) (numV (List.getD (Lib.split (Prod.fst (Lib.cut s [45])) [46]) (1 : Nat) default)) (numV (List.getD (Lib.split (Prod.fst (Lib.cut s [45])) [46]) (2 : Nat) default)) (.sl 1 false true (List.map strP (Lib.split (Prod.fst (Prod.snd (Lib.cut s [45]))) [46])))] (intP (errV (mayV ⟨numV (List.getD (Lib.split (Prod.fst (Lib.cut s [45])) [46]) (0 : Nat) default), numV (List.getD (Lib.split (Prod.fst (Lib.cut s [45])) [46]) (1 : Nat) default), numV (List.getD (Lib.split (Prod.fst (Lib.cut s [45])) [46]) (2 : Nat) default), 1, false, true, Lib.split (Prod.fst (Prod.snd (Lib.cut s [45]))) [46]⟩)))) ∧
 ((errV (mayV ⟨numV (List.getD (Lib.split (Prod.fst (Lib.cut s [45])) [46]) (0 : Nat) default), numV (List.getD (Lib.split (Prod.fst (Lib.cut s [45])) [46]) (1 : Nat) default), numV (List.getD (Lib.split (Prod.fst (Lib.cut s [45])) [46]) (2 : Nat) default), 1, false, true, Lib.split (Prod.fst (Prod.snd (Lib.cut s [45]))) [46]⟩) != (0 : Int)) = true →
 ((0 : Nat) = 0) ∧
 ((.tup [verP 0 0 0 (.sl 0 true true []), intP 70]) : PV) = r) ∧
 ((errV (mayV ⟨numV (List.getD (Lib.split (Prod.fst (Lib.cut s [45])) [46]) (0 : Nat) default), numV (List.getD (Lib.split (Prod.fst (Lib.cut s [45])) [46]) (1 : Nat) default), numV (List.getD (Lib.split (Prod.fst (Lib.cut s [45])) [46]) (2 : Nat) default), 1, false, true, Lib.split (Prod.fst (Prod.snd (Lib.cut s [45]))) [46]⟩) != (0 : Int)) = false →
 ((20 : Nat) = 20) ∧
 (Den E1 71 [.sl 1 false true (List.map strP (Lib.split (Prod.fst (Prod.snd (Lib.cut s [45]))) [46]))] (.sl 1 false true (List.map strP (Lib.split (Prod.fst (Prod.snd (Lib.cut s [45]))) [46])))) ∧
 ((20 : Nat) = 20) ∧
 ((20 : Nat) = 20) ∧
 ((0 : Nat) = 0) ∧
 ((.tup [verP (numV (List.getD (Lib.split (Prod.fst (Lib.cut s [45])) [46]) (0 : Nat) default)) (numV (List.getD (Lib.split (Prod.fst (Lib.cut s [45])) [46]) (1 : Nat) default)) (numV (List.getD (Lib.split (Prod.fst (Lib.cut s [45])) [46]) (2 : Nat) default)) (.sl 1 false true (List.map strP (Lib.split (Prod.fst (Prod.snd (Lib.cut s [45]))) [46]))), intP 0]) : PV) = r)) ∧
 ((Prod.snd (Prod.snd (Lib.cut s [45]))) = false →
 ((20 : Nat) = 20) ∧
 (Den E1 59 [verP (numV (List.getD (Lib.split (Prod.fst (Lib.cut s [45])) [46]) (0 : Nat) default)) (numV (List.getD (Lib.split (Prod.fst (Lib.cut s [45])) [46]) (1 : Nat) default)) (numV (List.getD (Lib.split (Prod.fst (Lib.cut s [45])) [46]) (2 : Nat) default)) (.sl 0 true true [])] (intP (errV (mayV ⟨numV (List.getD (Lib.split (Prod.fst (Lib.cut s [45])) [46]) (0 : Nat) default), numV (List.getD (Lib.split (Prod.fst (Lib.cut s [45])) [46]) (1 : Nat) default), numV (List.getD (Lib.split (Prod.fst (Lib.cut s [45])) [46]) (2 : Nat) default), 0, true, true, []⟩)))) ∧
 ((errV (mayV ⟨numV (List.getD (Lib.split (Prod.fst (Lib.cut s [45])) [46]) (0 : Nat) default), numV (List.getD (Lib.split (Prod.fst (Lib.cut s [45])) [46]) (1 : Nat) default), numV (List.getD (Lib.split (Prod.fst (Lib.cut s [45])) [46]) (2 : Nat) default), 0, true, true, []⟩) != (0 : Int)) = true →
 ((0 : Nat) = 0) ∧
 ((.tup [verP 0 0 0 (.sl 0 true true []), intP 70]) : PV) = r) ∧
 ((errV (mayV ⟨numV (List.getD (Lib.split (Prod.fst (Lib.cut s [45])) [46]) (0 : Nat) default), numV (List.getD (Lib.split (Prod.fst (Lib.cut s [45])) [46]) (1 : Nat) default), numV (List.getD (Lib.split (Prod.fst (Lib.cut s [45])) [46]) (2 : Nat) default), 0, true, true, []⟩) != (0 : Int)) = false →
 ((20 : Nat) = 20) ∧
 (Den E1 71 [.sl 0 true true []] (.sl 0 true true [])) ∧
 ((20 : Nat) = 20) ∧
 ((20 : Nat) = 20) ∧
 ((0 : Nat) = 0) ∧
 ((.tup [verP (numV (List.getD (Lib.split (Prod.fst (Lib.cut s [45])) [46]) (0 : Nat) default)) (numV (List.getD (Lib.split (Prod.fst (Lib.cut s [45])) [46]) (1 : Nat) default)) (numV (List.getD (Lib.split (Prod.fst (Lib.cut s [45])) [46]) (2 : Nat) default)) (.sl 0 true true []), intP 0]) : PV) = r)))))))) := by kernel_rfl
end Go.Proofs.YtlhfgonjcpapnaaGreatDoor.Abs

set_option maxRecDepth 20000
namespace Go.Proofs.YtlhfgonjcpapnaaGreatDoor.Abs
open Go Go.Proofs
theorem dec_bound : ∀ (l : List UInt8) (k acc : Nat), l.all isDig = true → l.length + k ≤ 10 → acc < 10 ^ k → l.foldl (fun n b => 10 * n + (b.toNat - 48)) acc < 10 ^ (l.length + k)
  | [], k, acc, _, _, h => by simpa using h
  | c :: r, k, acc, ha, hk, hacc => by
    simp only [List.all_cons, Bool.and_eq_true] at ha
    obtain ⟨hc, hr⟩ := ha
    simp only [isDig, Bool.and_eq_true, decide_eq_true_eq] at hc
    simp only [List.length_cons] at hk ⊢
    have hp : 10 ^ (k + 1) = 10 * 10 ^ k := by rw [Nat.pow_succ, Nat.mul_comm]
    have := dec_bound r (k + 1) (10 * acc + (c.toNat - 48)) hr (by omega) (by omega)
    rw [show r.length + 1 + k = r.length + (k + 1) by omega]
    exact this
theorem digits_all {s : List UInt8} (h : digitsL s = true) : s.all isDig = true ∧ s ≠ [] := by
  simp only [digitsL, Bool.and_eq_true, Bool.not_eq_true'] at h
  exact ⟨h.1, by rintro rfl; simp at h⟩
theorem decV_lt {s : List UInt8} (h : digitsL s = true) (hl : s.length ≤ 10) : decV s < 10000000000 := by
  have := dec_bound s 0 0 (digits_all h).1 (by omega) (by simp)
  have h2 : 10 ^ (s.length + 0) ≤ 10 ^ 10 := Nat.pow_le_pow_right (by omega) (by omega)
  have h3 : (10 : Nat) ^ 10 = 10000000000 := by decide
  unfold decV
  omega
theorem parse_dec' : ∀ (l : List UInt8) (k acc : Nat), l.all isDig = true → l.length + k ≤ 10 → acc < 10 ^ k → Lib.parseUintM (2 ^ 64 - 1) acc l = .ok (l.foldl (fun n b => 10 * n + (b.toNat - 48)) acc)
  | [], _, _, _, _, _ => rfl
  | c :: r, k, acc, ha, hk, hacc => by
    simp only [List.all_cons, Bool.and_eq_true] at ha
    obtain ⟨hc, hr⟩ := ha
    simp only [isDig, Bool.and_eq_true, decide_eq_true_eq] at hc
    simp only [List.length_cons] at hk
    have hp : 10 ^ (k + 1) = 10 * 10 ^ k := by rw [Nat.pow_succ, Nat.mul_comm]
    have hle : 10 ^ k ≤ 10 ^ 9 := Nat.pow_le_pow_right (by omega) (by omega)
    have hn : acc * 10 + (c.toNat - 48) < 10 ^ (k + 1) := by omega
    have h9 : (10 : Nat) ^ 9 = 1000000000 := by decide
    have h64 : (2 : Nat) ^ 64 = 18446744073709551616 := by decide
    unfold Lib.parseUintM
    rw [if_pos hc, if_neg (by omega), if_neg (by omega), parse_dec' r (k + 1) _ hr (by omega) hn, List.foldl_cons, Nat.mul_comm acc 10]
theorem den_ParseUint (s : List UInt8) (hd : digitsL s = true) (hl : s.length ≤ 10) : Den E1 110 [strP s, intP 10, intP 64] (.tup [.lit (.int .u64 (decV s)), .lit .nilIface]) := by
  obtain ⟨ha, hn⟩ := digits_all hd
  refine den_intr (F := parseP) rfl ?_
  have hp : Lib.parseUintB 64 (bs s).data.toList = .ok (decV s) := by
    show Lib.parseUintB 64 s = _
    unfold Lib.parseUintB
    rw [if_neg hn]
    exact parse_dec' s 0 0 ha (by omega) (by simp)
  show (if (10 : Int) = 10 ∧ (64 : Int) = 64 ∧ (bs s).size ≤ 9223372036854775806 then match Lib.parseUintB 64 (bs s).data.toList with
    | .ok u => some (PV.tup [.lit (.int .u64 u), .lit .nilIface])
    | _ => none else none) = _
  rw [if_pos ⟨rfl, rfl, by rw [size_bs]; omega⟩, hp]
theorem wrap_u32' {n : Nat} (h : n < 10000000000) : IntKind.wrap IntKind.u32 (n : Int) = ((n % 4294967296 : Nat) : Int) := by
  simp only [IntKind.wrap, IntKind.bits, IntKind.signed, Bool.false_and, Bool.false_eq_true, if_false]
  omega
theorem numV_of {s : List UInt8} (h : numOk s = true) : numV s = IntKind.wrap IntKind.u32 (decV s) := by simp [numV, h]
theorem numV_no {s : List UInt8} (h : numOk s = false) : numV s = 0 := by simp [numV, h]
theorem numB_of {s : List UInt8} (h : numOk s = true) : numB s = decide ((decV s : Int) ≤ 2147483647) := by
  simp only [numB, h, Bool.true_and]
  rw [Bool.eq_iff_iff]; simp; omega
theorem numB_no {s : List UInt8} (h : numOk s = false) : numB s = false := by simp [numB, h]
theorem den_version_number (s : List UInt8) (hs : small s.length) : Den E1 70 [strP s] (.tup [.lit (.int .u32 (numV s)), bolP (numB s)]) := by
  refine den1 2000 _ rfl (by kernel_rfl) rfl rfl rfl (Eq.mpr (version_number_go s _) ⟨den_version_digits s hs, fun h1 => ⟨den_version_plain s (digits_all h1).2, fun h2 => ?_, fun h2 => ⟨fun h3 => ?_, fun h3 => ?_⟩⟩, fun h1 => ?_⟩)
  · have : numOk s = false := by simp only [Bool.not_eq_true'] at h2; simp [numOk, h2]
    rw [numV_no this, numB_no this]
  · have : numOk s = false := by simp only [decide_eq_true_eq, size_bs] at h3; simp [numOk]; omega
    rw [numV_no this, numB_no this]
  · simp only [decide_eq_false_iff_not, size_bs] at h3
    simp only [Bool.not_eq_false'] at h2
    have hl : s.length ≤ 10 := by omega
    have : numOk s = true := by simp [numOk, h1, h2, hl]
    refine ⟨den_ParseUint s h1 hl, ?_⟩
    rw [numV_of this, numB_of this, wrap_u32' (decV_lt h1 hl)]
  · have : numOk s = false := by simp [numOk, h1]
    rw [numV_no this, numB_no this]
theorem dec_snoc (l : List UInt8) (b : UInt8) : decV (l ++ [b]) = 10 * decV l + (b.toNat - 48) := by simp [decV, List.foldl_append]
end Go.Proofs.YtlhfgonjcpapnaaGreatDoor.Abs

set_option maxRecDepth 20000
namespace Go.Proofs.YtlhfgonjcpapnaaGreatDoor.Abs
open Go Go.Proofs
theorem cut_le1 (s sep : List UInt8) : (Lib.cut s sep).1.length ≤ s.length := by
  rcases Lib.index_spec s sep with ⟨h, _⟩ | ⟨i, h, _⟩
  · simp [Lib.cut, h]
  · have hc : Lib.cut s sep = (s.take i, s.drop (i + sep.length), true) := by simp [Lib.cut, h]
    rw [hc]; simp; omega
theorem cut_le2 (s sep : List UInt8) : (Lib.cut s sep).2.1.length ≤ s.length := by
  rcases Lib.index_spec s sep with ⟨h, _⟩ | ⟨i, h, _⟩
  · simp [Lib.cut, h]
  · have hc : Lib.cut s sep = (s.take i, s.drop (i + sep.length), true) := by simp [Lib.cut, h]
    rw [hc]; simp
theorem split_le (sep : List UInt8) (hs : sep ≠ []) : ∀ (n : Nat) (s : List UInt8), s.length ≤ n → ((Lib.split s sep).length ≤ s.length + 1 ∧ ∀ p ∈ Lib.split s sep, p.length ≤ s.length) := by
  intro n
  induction n with
  | zero =>
    intro s hn
    rw [split_cut s sep hs]
    have hnf : (Lib.cut s sep).2.2 = false := by
      cases h : (Lib.cut s sep).2.2 with
      | false => rfl
      | true => have := cut_short s sep hs h; omega
    rw [hnf]
    simp only [Bool.false_eq_true, if_false, List.length_singleton, List.mem_singleton]
    exact ⟨by omega, fun p hp => by subst hp; exact cut_le1 s sep⟩
  | succ n ih =>
    intro s hn
    rw [split_cut s sep hs]
    cases h : (Lib.cut s sep).2.2 with
    | false =>
      simp only [Bool.false_eq_true, if_false, List.length_singleton, List.mem_singleton]
      exact ⟨by omega, fun p hp => by subst hp; exact cut_le1 s sep⟩
    | true =>
      have hc := cut_short s sep hs h
      obtain ⟨h1, h2⟩ := ih (Lib.cut s sep).2.1 (by omega)
      simp only [if_true, List.length_cons, List.mem_cons]
      refine ⟨by omega, fun p hp => ?_⟩
      rcases hp with rfl | hp
      · exact cut_le1 s sep
      · have := h2 p hp; omega
theorem split_ne (s sep : List UInt8) (hs : sep ≠ []) : Lib.split s sep ≠ [] := by rw [split_cut s sep hs]; simp
theorem den_Split (s sep : List UInt8) (hs : sep ≠ []) (h : s.length < 4294967281) : Den E1 69 [strP s, strP sep] (.sl 1 false true (List.map strP (Lib.split s sep))) := by
  refine den_intr (F := splitP) rfl ?_
  show (if (bs s).size < 4294967281 ∧ 1 ≤ (bs sep).size then _ else _) = _
  have hl : 0 < sep.length := List.length_pos_iff.2 hs
  rw [if_pos ⟨by rw [size_bs]; exact h, by rw [size_bs]; omega⟩]
  congr 2
  have hb := Lib.splitB_data (bs sep) 0 (Lib.countB (bs s) (bs sep)) (bs s)
  have hsp : Lib.split s sep = (Lib.splitB (bs sep) 0 (Lib.countB (bs s) (bs sep)) (bs s)).map (·.data.toList) := by rw [hb]; rfl
  rw [hsp, List.map_map]
  apply List.map_congr_left
  intro x _
  rfl
theorem getD_mem {α : Type} {l : List α} {i : Nat} (h : i < l.length) (d : α) : l.getD i d ∈ l := by
  rw [List.getD_eq_getElem?_getD, List.getElem?_eq_getElem h]; exact List.getElem_mem h
theorem numV_u32 (s : List UInt8) : u32 (numV s) := by
  unfold numV u32
  split
  · simp only [IntKind.wrap, IntKind.bits, IntKind.signed, Bool.false_and, Bool.false_eq_true, if_false]
    omega
  · omega
theorem raw_ok (fl : Bool) (s : List UInt8) (hl : s.length ≤ 128) : (rawV fl s).ok := by
  have hc2 := cut_le2 s [45]
  have hs := split_le [46] (by simp) _ (Lib.cut s [45]).2.1 (Nat.le_refl _)
  refine ⟨numV_u32 _, numV_u32 _, numV_u32 _, ?_, ?_, ?_⟩
  · show slOk 1 (if (Lib.cut s [45]).2.2 then 1 else 0) (!(Lib.cut s [45]).2.2) (preV s).length
    unfold preV
    cases (Lib.cut s [45]).2.2 with
    | true => exact ⟨fun h => by simp at h, fun _ => rfl⟩
    | false => exact ⟨fun _ => rfl, fun h => by simp at h⟩
  · show small (preV s).length
    unfold preV small
    split
    · have := hs.1; omega
    · simp
  · intro p hp
    have hp : p ∈ preV s := hp
    unfold preV at hp
    unfold small
    split at hp
    · have := hs.2 p hp; omega
    · simp at hp
theorem raw_may (s : List UInt8) : mayV (rawV false s) = mayV (rawV true s) := rfl
theorem rd_no {s : List UInt8} (h : rdOk0 s = false) (fl : Bool) : (.tup [verP 0 0 0 (.sl 0 true true []), intP 70] : PV) = .tup [(rdV fl s).p, intP (errV (rdOk s))] := by
  rw [rdV_eq, rdOk_eq, rdV0, h]
  rfl
theorem rd_yes {s : List UInt8} (h : rdOk0 s = true) (fl : Bool) : (.tup [(rawV fl s).p, intP 0] : PV) = .tup [(rdV fl s).p, intP (errV (rdOk s))] := by
  rw [rdV_eq, rdOk_eq, rdV0, h]
  rfl
theorem rd_ok {s : List UInt8} (fl : Bool) : (rdV fl s).ok := by
  rw [rdV_eq, rdV0]
  split
  · rename_i h
    have : s.length ≤ 128 := by simp only [rdOk0, Bool.and_eq_true, decide_eq_true_eq] at h; exact h.1.1.1.1.1
    exact raw_ok fl s this
  · exact zV_ok
theorem rd_may {s : List UInt8} (fl : Bool) : mayV (rdV fl s) = true := by
  rw [rdV_eq, rdV0]
  split
  · rename_i h
    simp only [rdOk0, Bool.and_eq_true] at h
    cases fl
    · rw [raw_may]; exact h.2
    · exact h.2
  · exact zV_may
theorem getW {W : List (List UInt8)} {i : Nat} (h : i < W.length) : (List.map strP W)[i]? = some (.lit (.string (bs (W.getD i default)))) := by
  rw [List.getElem?_map, List.getElem?_eq_getElem h, getD_lt h]; rfl
theorem raw_t {s : List UInt8} (h : (Lib.cut s [45]).2.2 = true) (fl : Bool) : rawV fl s = ⟨numV ((wordsV s).getD 0 default), numV ((wordsV s).getD 1 default), numV ((wordsV s).getD 2 default), 1, false, fl, Lib.split (Lib.cut s [45]).2.1 [46]⟩ := by
  simp only [rawV, h, preV, if_true]; rfl
theorem raw_f {s : List UInt8} (h : (Lib.cut s [45]).2.2 = false) (fl : Bool) : rawV fl s = ⟨numV ((wordsV s).getD 0 default), numV ((wordsV s).getD 1 default), numV ((wordsV s).getD 2 default), 0, true, true, []⟩ := by
  simp only [rawV, h, preV, if_false]; rfl
theorem den_version_Read (s : List UInt8) (hs : small s.length) : Den E1 34 [strP s] (.tup [(rdV true s).p, intP (errV (rdOk s))]) := by
  have h0 := version_Read_go s (.tup [(rdV true s).p, intP (errV (rdOk s))])
  by_cases hl : s.length ≤ 128
  · have hc1 := cut_le1 s [45]
    have hc2 := cut_le2 s [45]
    have hsp := split_le [46] (by simp) _ (Lib.cut s [45]).1 (Nat.le_refl _)
    have hwd : ∀ i, i < (wordsV s).length → small ((wordsV s).getD i default).length := fun i hi => by
      have : ((wordsV s).getD i default).length ≤ (Lib.cut s [45]).1.length := hsp.2 _ (getD_mem hi default)
      unfold small
      omega
    refine den1 2000 _ rfl (by kernel_rfl) rfl rfl rfl (Eq.mpr h0 ⟨fun h => ?_, fun h => ⟨den_Cut s [45] (by omega), den_Split _ _ (by simp) (by omega), fun h1 => ⟨rfl, rd_no ?_ true⟩, fun h1 => ?_⟩⟩)
    · simp only [decide_eq_true_eq, size_bs] at h; omega
    · have h1' : ¬ (wordsV s).length = 3 := by
        intro e
        have e' : (Lib.split (Lib.cut s [45]).1 [46]).length = 3 := e
        simp [e'] at h1
      simp [rdOk0, h1']
    · have h3 : (wordsV s).length = 3 := by
        have h1' : (((List.map strP (wordsV s)).length : Int) != 3) = false := h1
        simp only [List.length_map, bne_eq_false_iff_eq] at h1'
        omega
      refine ⟨⟨by omega, rfl, rfl⟩, getW (W := wordsV s) (by omega), den_version_number _ (hwd 0 (by omega)), fun h2 => ⟨rfl, rd_no ?_ true⟩, fun h2 => ⟨rfl, ⟨by omega, rfl, rfl⟩, getW (W := wordsV s) (by omega), den_version_number _ (hwd 1 (by omega)), fun h4 => ⟨rfl, rd_no ?_ true⟩, fun h4 => ⟨rfl, ⟨by omega, rfl, rfl⟩, getW (W := wordsV s) (by omega), den_version_number _ (hwd 2 (by omega)), fun h5 => ⟨rfl, rd_no ?_ true⟩, fun h5 => ⟨rfl, fun h6 => ?_, fun h6 => ?_⟩⟩⟩⟩
      · have h2' : numB ((wordsV s).getD 0 []) = false := not_eq.1 h2
        simp only [rdOk0, h2', Bool.and_false, Bool.false_and]
      · have h2' : numB ((wordsV s).getD 1 []) = false := not_eq.1 h4
        simp only [rdOk0, h2', Bool.and_false, Bool.false_and]
      · have h2' : numB ((wordsV s).getD 2 []) = false := not_eq.1 h5
        simp only [rdOk0, h2', Bool.and_false, Bool.false_and]
      · have b0 : numB ((wordsV s).getD 0 []) = true := not_eq.2 h2
        have b1 : numB ((wordsV s).getD 1 []) = true := not_eq.2 h4
        have b2 : numB ((wordsV s).getD 2 []) = true := not_eq.2 h5
        have hr := raw_ok true s hl
        rw [raw_t h6] at hr
        have hk : rdOk0 s = mayV (rawV true s) := by simp only [rdOk0, hl, h3, b0, b1, b2, decide_true, Bool.true_and, beq_self_eq_true]
        rw [raw_t h6] at hk
        refine ⟨den_Split _ _ (by simp) (by omega), rfl, rfl, den_version_May _ hr, fun h7 => ⟨rfl, rd_no ?_ true⟩, fun h7 => ⟨rfl, den_Clip 1 false true _ ⟨fun h => by simp at h, fun _ => rfl⟩, rfl, rfl, rfl, ?_⟩⟩
        · rw [hk]; rw [errV_ne] at h7; exact not_eq.1 h7
        · rw [errV_ne] at h7
          have := rd_yes (s := s) (by rw [hk]; exact not_eq.2 h7) true
          rw [raw_t h6] at this
          exact this
      · have b0 : numB ((wordsV s).getD 0 []) = true := not_eq.2 h2
        have b1 : numB ((wordsV s).getD 1 []) = true := not_eq.2 h4
        have b2 : numB ((wordsV s).getD 2 []) = true := not_eq.2 h5
        have hr := raw_ok true s hl
        rw [raw_f h6] at hr
        have hk : rdOk0 s = mayV (rawV true s) := by simp only [rdOk0, hl, h3, b0, b1, b2, decide_true, Bool.true_and, beq_self_eq_true]
        rw [raw_f h6] at hk
        refine ⟨rfl, den_version_May _ hr, fun h7 => ⟨rfl, rd_no ?_ true⟩, fun h7 => ⟨rfl, den_Clip 0 true true [] ⟨fun _ => rfl, fun h => by simp at h⟩, rfl, rfl, rfl, ?_⟩⟩
        · rw [hk]; rw [errV_ne] at h7; exact not_eq.1 h7
        · rw [errV_ne] at h7
          have := rd_yes (s := s) (by rw [hk]; exact not_eq.2 h7) true
          rw [raw_f h6] at this
          exact this
  · refine den1 2000 _ rfl (by kernel_rfl) rfl rfl rfl (Eq.mpr h0 ⟨fun h => ⟨rfl, rd_no ?_ true⟩, fun h => ?_⟩)
    · simp [rdOk0, hl]
    · simp only [decide_eq_false_iff_not, size_bs] at h; omega
end Go.Proofs.YtlhfgonjcpapnaaGreatDoor.Abs

namespace Go.Proofs.YtlhfgonjcpapnaaGreatDoor.Abs
open Go Go.Proofs
def strings_trimLeftASCII_S0 (s : List UInt8) (root : PV) (j : Nat → AV) (jr : Nat → Row) (g : Nat) : St :=
  { t := [strA (bs s), .pv (.ptr root 0)] ++ jj j 2 14, h := [List.replicate 16 row0], g := g }
theorem strings_trimLeftASCII_go (s : List UInt8) (root : PV) (r : PV) : FnGo E1 Tryz.f152 [strP s, .ptr root 0] r 2000 (.mask (iv [(2, 15)]) []) =
  (AtAll Tryz.f152 r 0 (strings_trimLeftASCII_S0 s root)) := by kernel_rfl
theorem strings_trimLeftASCII_go_S0 (s : List UInt8) (root : PV) (j : Nat → AV) (jr : Nat → Row) (g : Nat) (r : PV) : LoopGo E1 Tryz.f152 r 0 2000 (.fork (.res (bolP (trimC (↑(UInt8.toNat (List.getD s (0 : Nat) 0)) : Int))) (.fork (.hole 0) (.mask (iv [(2, 15)]) []))) (.hole 0)) (strings_trimLeftASCII_S0 s root j jr g) =
  (((decide ((↑(ByteArray.size (bs s)) : Int) > (0 : Int))) = true →
 (((0 : Int) ≤ (0 : Int)) ∧ ((0 : Nat) < ByteArray.size (bs s))) ∧
 (Den E1 176 [.ptr root 0, .lit (.int .u8 ((↑(UInt8.toNat (List.getD s (0 : Nat) 0)) : Int)))] (bolP (trimC (↑(UInt8.toNat (List.getD s (0 : Nat) 0)) : Int)))) ∧
 ((!trimC (↑(UInt8.toNat (List.getD s (0 : Nat) 0)) : Int)) = true →
 ((strP s) : PV) = r) ∧
 ((!trimC (↑(UInt8.toNat (List.getD s (0 : Nat) 0)) : Int)) = false →
 (((0 : Int) ≤ (1 : Int)) ∧ ((1 : Int) ≤ (↑(ByteArray.size (bs s)) : Int))) ∧
 (AtAll Tryz.f152 r 0 (strings_trimLeftASCII_S0 (Array.toList (ByteArray.extract (bs s) (1 : Nat) (ByteArray.size (bs s))).1) root)))) ∧
 ((decide ((↑(ByteArray.size (bs s)) : Int) > (0 : Int))) = false →
 ((strP s) : PV) = r)) := by kernel_rfl
end Go.Proofs.YtlhfgonjcpapnaaGreatDoor.Abs

set_option maxRecDepth 20000
namespace Go.Proofs.YtlhfgonjcpapnaaGreatDoor.Abs
open Go Go.Proofs
theorem contains_go (c : Int) (p r : PV) : FnGo E1 Tryz.f176 [.ptr aSetP 0, .lit (.int .u8 c)] r 2000 (.val p (.hole 0)) = ((0 ≤ c ∧ c < ((256 : Nat) : Int)) ∧ aSetP.cells[0 + c.toNat * 1]? = some p ∧ p = r) := by kernel_rfl
theorem aSet_get (n : Nat) (h : n < 256) : aSetP.cells[n]? = some (bolP (trimC n)) := by
  show ((List.range 256).map fun (c : Nat) => bolP (trimC c))[n]? = _
  rw [List.getElem?_map, List.getElem?_range h]
  rfl
theorem den_contains (b : UInt8) : Den E1 176 [.ptr aSetP 0, .lit (.int .u8 b.toNat)] (bolP (trimC b.toNat)) := by
  have hb : b.toNat < 256 := b.toNat_lt
  refine den1 2000 _ rfl (by kernel_rfl) rfl rfl rfl (Eq.mpr (contains_go b.toNat (bolP (trimC b.toNat)) _) ⟨⟨by omega, by omega⟩, ?_, rfl⟩)
  rw [Int.toNat_natCast, Nat.zero_add, Nat.mul_one]
  exact aSet_get b.toNat hb
theorem den_makeSet : Den E1 151 [strP [60, 62, 61, 126, 94]] (.tup [aSetP, bolP true]) :=
  den1 2000 _ rfl (by kernel_rfl) rfl rfl rfl (Eq.mpr (strings_makeASCIISet_go _) (by
    refine ⟨by decide, by decide, rfl, by decide, by decide, rfl, by decide, by decide, rfl, by decide, by decide, rfl, by decide, by decide, rfl, rfl, rfl, ?_⟩
    kernel_rfl))
theorem trim_S0 : ∀ (s : List UInt8) j jr g, LoopAt E1 Tryz.f152 (strP (trimL s)) 0 (strings_trimLeftASCII_S0 s aSetP j jr g)
  | [], j, jr, g => by
    refine loop_go 2000 _ (Eq.mpr (strings_trimLeftASCII_go_S0 [] aSetP j jr g _) ⟨fun h => ?_, fun h => rfl⟩)
    simp [size_bs] at h
  | c :: s, j, jr, g => by
    refine loop_go 2000 _ (Eq.mpr (strings_trimLeftASCII_go_S0 (c :: s) aSetP j jr g _) ⟨fun h => ⟨⟨by omega, by simp [size_bs]⟩, den_contains c, fun h1 => ?_, fun h1 => ⟨⟨by omega, by simp [size_bs]; omega⟩, fun j jr g => ?_⟩⟩, fun h => ?_⟩)
    · have h1' : trimC c.toNat = false := not_eq.1 h1
      have e2 : trimL (c :: s) = c :: s := by simp [trimL, h1']
      rw [e2]
      try rfl
    · have h1' : trimC c.toNat = true := not_eq.2 h1
      have e : (ByteArray.extract (bs (c :: s)) 1 (ByteArray.size (bs (c :: s)))).1.toList = s := by
        rw [extract_bs, size_bs]
        simp
      have e2 : trimL (c :: s) = trimL s := by simp [trimL, h1']
      rw [e, e2]
      exact trim_S0 s j jr g
    · simp [size_bs] at h
theorem den_trimASCII (s : List UInt8) : Den E1 152 [strP s, .ptr aSetP 0] (strP (trimL s)) :=
  den1 2000 _ rfl (by kernel_rfl) rfl rfl rfl (Eq.mpr (strings_trimLeftASCII_go s aSetP _) fun j jr g => trim_S0 s j jr g)
theorem den_TrimLeft (s : List UInt8) : Den E1 127 [strP s, strP [60, 62, 61, 126, 94]] (strP (trimL s)) := by
  refine den1 2000 _ rfl (by kernel_rfl) rfl rfl rfl (Eq.mpr (strings_TrimLeft_go s _) ⟨fun h => ?_, fun h => ⟨?_, rfl, ?_, rfl⟩⟩)
  · rw [toList_bs, toList_bs] at h
    have : s = [] := eq_of_beq h
    subst this; rfl
  · have := den_makeSet
    exact this
  · have := den_trimASCII s
    exact this
end Go.Proofs.YtlhfgonjcpapnaaGreatDoor.Abs

namespace Go.Proofs.YtlhfgonjcpapnaaGreatDoor.Abs
open Go Go.Proofs
def span_meet_S0 (l : List I) (m : List I) (k : Nat) (k' : Nat) (nl : Bool) (full : Bool) (nl' : Bool) (full' : Bool) (i : Int) (j : Nat → AV) (jr : Nat → Row) (g : Nat) : St :=
  { t := [j 0, .pv (.sl k' nl' full' (List.map I.p m)), j 2, j 3, j 4, .pv (.sl 0 true true [])] ++ jj j 6 6 ++ [.pv (.sl k nl full (List.map I.p l)), intA ((↑(List.length (List.map I.p l)) : Int)), intA i] ++ jj j 15 37, h := [List.replicate 7 row0 ++ [jr 7, row0, jr 9, jr 10, jr 11, row0, row0, row0, row0, row0, row0, row0, row0, row0, row0, row0, row0, row0, row0, row0, row0, row0, row0, row0, row0, row0, row0, row0, row0, row0, row0, row0, row0, row0, row0, row0, row0, row0, row0, jr 46] ++ List.replicate 5 row0], g := g }
def span_meet_S1 (l : List I) (m : List I) (k : Nat) (k' : Nat) (nl : Bool) (full : Bool) (nl' : Bool) (full' : Bool) (i : Int) (q : Int) (gx : Nat) (j : Nat → AV) (jr : Nat → Row) (g : Nat) : St :=
  { t := [j 0, .pv (.sl k' nl' full' (List.map I.p m)), j 2, j 3, j 4, .pv (.sl 0 true true []), j 6, .mptr 0 7 gx 0 0, j 8, j 9, j 10, j 11, .pv (.sl k nl full (List.map I.p l)), intA ((↑(List.length (List.map I.p l)) : Int)), intA i, j 15, j 16, j 17, .pv (.sl k' nl' full' (List.map I.p m)), intA ((↑(List.length (List.map I.p m)) : Int)), intA q] ++ jj j 21 31, h := [List.replicate 7 row0 ++ [⟨gx, .box (.pv (I.p (gI l i))) false⟩, row0, jr 9, jr 10, jr 11, row0, row0, row0, row0, row0, row0, row0, row0, row0, row0, row0, row0, row0, row0, row0, row0, row0, row0, row0, row0, row0, row0, row0, row0, row0, row0, row0, row0, row0, row0, row0, row0, row0, row0, jr 46] ++ List.replicate 5 row0], g := g }
def span_meet_S2 (l : List I) (m : List I) (k : Nat) (k' : Nat) (nl : Bool) (full : Bool) (nl' : Bool) (full' : Bool) (i : Int) (q : Int) (gx : Nat) (gm : Nat) (n : Nat) (xsI : List PV) (j : Nat → AV) (jr : Nat → Row) (g : Nat) : St :=
  { t := [j 0, .pv (.sl k' nl' full' (List.map I.p m)), j 2, j 3, j 4, .msl 0 47 gm 0 n false, j 6, .mptr 0 7 gx 0 0, j 8, j 9, j 10, j 11, .pv (.sl k nl full (List.map I.p l)), intA ((↑(List.length (List.map I.p l)) : Int)), intA i, j 15, j 16, j 17, .pv (.sl k' nl' full' (List.map I.p m)), intA ((↑(List.length (List.map I.p m)) : Int)), intA q] ++ jj j 21 31, h := [List.replicate 7 row0 ++ [⟨gx, .box (.pv (I.p (gI l i))) false⟩, row0, jr 9, jr 10, jr 11, row0, row0, row0, row0, row0, row0, row0, row0, row0, row0, row0, row0, row0, row0, row0, row0, row0, row0, row0, row0, row0, row0, row0, row0, row0, row0, row0, row0, row0, row0, row0, row0, row0, row0, jr 46, ⟨gm, .row 11 63 xsI false⟩] ++ List.replicate 4 row0], g := g }
def span_meet_S3 (l : List I) (m : List I) (k : Nat) (k' : Nat) (nl : Bool) (full : Bool) (nl' : Bool) (full' : Bool) (i : Int) (gm : Nat) (n : Nat) (xsI : List PV) (j : Nat → AV) (jr : Nat → Row) (g : Nat) : St :=
  { t := [j 0, .pv (.sl k' nl' full' (List.map I.p m)), j 2, j 3, j 4, .msl 0 47 gm 0 n false] ++ jj j 6 6 ++ [.pv (.sl k nl full (List.map I.p l)), intA ((↑(List.length (List.map I.p l)) : Int)), intA i] ++ jj j 15 37, h := [List.replicate 7 row0 ++ [jr 7, row0, jr 9, jr 10, jr 11, row0, row0, row0, row0, row0, row0, row0, row0, row0, row0, row0, row0, row0, row0, row0, row0, row0, row0, row0, row0, row0, row0, row0, row0, row0, row0, row0, row0, row0, row0, row0, row0, row0, row0, jr 46, ⟨gm, .row 11 63 xsI false⟩] ++ List.replicate 4 row0], g := g }
theorem span_meet_go (l : List I) (m : List I) (k : Nat) (k' : Nat) (nl : Bool) (full : Bool) (nl' : Bool) (full' : Bool) (r : PV) : FnGo E1 Tryz.f62 [.sl k nl full (List.map I.p l), .sl k' nl' full' (List.map I.p m)] r 2000 (.mask (iv [(0, 0), (2, 4), (6, 11), (15, 51)]) [7, 9, 10, 11, 46]) =
  (AtAll Tryz.f62 r 0 (span_meet_S0 l m k k' nl full nl' full' 0)) := by kernel_rfl
theorem span_meet_go_S0 (l : List I) (m : List I) (k : Nat) (k' : Nat) (nl : Bool) (full : Bool) (nl' : Bool) (full' : Bool) (i : Int) (j : Nat → AV) (jr : Nat → Row) (g : Nat) (r : PV) : LoopGo E1 Tryz.f62 r 0 2000 (.fork (.val (I.p (gI l i)) (.mask (iv [(0, 0), (2, 4), (6, 6), (8, 11), (15, 17), (21, 51)]) [9, 10, 11, 46])) (.res (.sl 0 true true []) (.hole 0))) (span_meet_S0 l m k k' nl full nl' full' i j jr g) =
  (((decide (i < (↑(List.length (List.map I.p l)) : Int))) = true →
 (((0 : Int) ≤ i) ∧ ((nl = false) ∧ (k = 11))) ∧
 (((List.map I.p l)[Int.toNat i]?) = some (I.p (gI l i))) ∧
 ((g + 1 + 2) = g + 1 + 2) ∧
 (AtAll Tryz.f62 r 1 (span_meet_S1 l m k k' nl full nl' full' i 0 (g + 1 + 2)))) ∧
 ((decide (i < (↑(List.length (List.map I.p l)) : Int))) = false →
 (Den E1 54 [.sl 0 true true []] (.sl 0 true true [])) ∧
 ((.sl 0 true true []) : PV) = r)) := by kernel_rfl
theorem span_meet_go_S1 (l : List I) (m : List I) (k : Nat) (k' : Nat) (nl : Bool) (full : Bool) (nl' : Bool) (full' : Bool) (i : Int) (q : Int) (gx : Nat) (j : Nat → AV) (jr : Nat → Row) (g : Nat) (r : PV) : LoopGo E1 Tryz.f62 r 1 2000 (.fork (.val (I.p (gI m q)) (.res (Ed.p ⟨(I.lo (gI l i)), (I.lopen (gI l i)), false⟩) (.res (Ed.p ⟨(I.hi (gI l i)), (!I.hopen (gI l i)), (I.less (gI l i))⟩) (.res (Ed.p ⟨(I.lo (gI m q)), (I.lopen (gI m q)), false⟩) (.res (intP (befE ⟨I.lo (gI l i), I.lopen (gI l i), false⟩ ⟨I.lo (gI m q), I.lopen (gI m q), false⟩)) (.fork (.res (Ed.p ⟨(I.lo (gI m q)), (I.lopen (gI m q)), false⟩) (.res (Ed.p ⟨(I.hi (gI m q)), (!I.hopen (gI m q)), (I.less (gI m q))⟩) (.res (intP (befE ⟨I.hi (gI m q), !I.hopen (gI m q), I.less (gI m q)⟩ ⟨I.hi (gI l i), !I.hopen (gI l i), I.less (gI l i)⟩)) (.fork (.res (Ed.p ⟨(I.hi (gI m q)), (!I.hopen (gI m q)), (I.less (gI m q))⟩) (.res (I.p ⟨(I.lo (gI m q)), (I.lopen (gI m q)), (if Ed.less ⟨I.hi (gI m q), !I.hopen (gI m q), I.less (gI m q)⟩ = true then zV else I.hi (gI m q)), (if Ed.less ⟨I.hi (gI m q), !I.hopen (gI m q), I.less (gI m q)⟩ = true then false else !!I.hopen (gI m q)), (I.less (gI m q))⟩) (.lit (.lit (.mask (iv [(0, 0), (2, 4), (6, 6), (8, 11), (15, 17), (21, 51)]) [9, 10, 11, 46]))))) (.res (I.p ⟨(I.lo (gI m q)), (I.lopen (gI m q)), (if Ed.less ⟨I.hi (gI l i), !I.hopen (gI l i), I.less (gI l i)⟩ = true then zV else I.hi (gI l i)), (if Ed.less ⟨I.hi (gI l i), !I.hopen (gI l i), I.less (gI l i)⟩ = true then false else !!I.hopen (gI l i)), (I.less (gI l i))⟩) (.lit (.lit (.mask (iv [(0, 0), (2, 4), (6, 6), (8, 11), (15, 17), (21, 51)]) [9, 10, 11, 46])))))))) (.res (Ed.p ⟨(I.hi (gI m q)), (!I.hopen (gI m q)), (I.less (gI m q))⟩) (.res (intP (befE ⟨I.hi (gI m q), !I.hopen (gI m q), I.less (gI m q)⟩ ⟨I.hi (gI l i), !I.hopen (gI l i), I.less (gI l i)⟩)) (.fork (.res (Ed.p ⟨(I.hi (gI m q)), (!I.hopen (gI m q)), (I.less (gI m q))⟩) (.res (I.p ⟨(I.lo (gI l i)), (I.lopen (gI l i)), (if Ed.less ⟨I.hi (gI m q), !I.hopen (gI m q), I.less (gI m q)⟩ = true then zV else I.hi (gI m q)), (if Ed.less ⟨I.hi (gI m q), !I.hopen (gI m q), I.less (gI m q)⟩ = true then false else !!I.hopen (gI m q)), (I.less (gI m q))⟩) (.lit (.lit (.mask (iv [(0, 0), (2, 4), (6, 6), (8, 11), (15, 17), (21, 51)]) [9, 10, 11, 46]))))) (.res (I.p ⟨(I.lo (gI l i)), (I.lopen (gI l i)), (if Ed.less ⟨I.hi (gI l i), !I.hopen (gI l i), I.less (gI l i)⟩ = true then zV else I.hi (gI l i)), (if Ed.less ⟨I.hi (gI l i), !I.hopen (gI l i), I.less (gI l i)⟩ = true then false else !!I.hopen (gI l i)), (I.less (gI l i))⟩) (.lit (.lit (.mask (iv [(0, 0), (2, 4), (6, 6), (8, 11), (15, 17), (21, 51)]) [9, 10, 11, 46]))))))))))))) (.mask (iv [(0, 0), (2, 4), (6, 11), (15, 51)]) [7, 9, 10, 11, 46])) (span_meet_S1 l m k k' nl full nl' full' i q gx j jr g) =
  (((decide (q < (↑(List.length (List.map I.p m)) : Int))) = true →
 (((0 : Int) ≤ q) ∧ ((nl' = false) ∧ (k' = 11))) ∧
 (((List.map I.p m)[Int.toNat q]?) = some (I.p (gI m q))) ∧
 ((g + 1 + 2) = g + 1 + 2) ∧
 (gx = gx) ∧
 (Den E1 37 [I.p (gI l i)] (Ed.p ⟨(I.lo (gI l i)), (I.lopen (gI l i)), false⟩)) ∧
 (gx = gx) ∧
 (Den E1 38 [I.p (gI l i)] (Ed.p ⟨(I.hi (gI l i)), (!I.hopen (gI l i)), (I.less (gI l i))⟩)) ∧
 ((g + 1 + 4 + 4) = g + 1 + 4 + 4) ∧
 ((g + 1 + 4 + 5) = g + 1 + 4 + 5) ∧
 ((g + 1 + 4 + 4) = g + 1 + 4 + 4) ∧
 ((g + 1 + 2) = g + 1 + 2) ∧
 (Den E1 37 [I.p (gI m q)] (Ed.p ⟨(I.lo (gI m q)), (I.lopen (gI m q)), false⟩)) ∧
 (Den E1 36 [Ed.p ⟨(I.lo (gI l i)), (I.lopen (gI l i)), false⟩, Ed.p ⟨(I.lo (gI m q)), (I.lopen (gI m q)), false⟩] (intP (befE ⟨I.lo (gI l i), I.lopen (gI l i), false⟩ ⟨I.lo (gI m q), I.lopen (gI m q), false⟩))) ∧
 ((decide (befE ⟨I.lo (gI l i), I.lopen (gI l i), false⟩ ⟨I.lo (gI m q), I.lopen (gI m q), false⟩ < (0 : Int))) = true →
 ((g + 1 + 2) = g + 1 + 2) ∧
 (Den E1 37 [I.p (gI m q)] (Ed.p ⟨(I.lo (gI m q)), (I.lopen (gI m q)), false⟩)) ∧
 ((g + 1 + 4 + 4) = g + 1 + 4 + 4) ∧
 ((g + 1 + 2) = g + 1 + 2) ∧
 (Den E1 38 [I.p (gI m q)] (Ed.p ⟨(I.hi (gI m q)), (!I.hopen (gI m q)), (I.less (gI m q))⟩)) ∧
 ((g + 1 + 4 + 5) = g + 1 + 4 + 5) ∧
 (Den E1 36 [Ed.p ⟨(I.hi (gI m q)), (!I.hopen (gI m q)), (I.less (gI m q))⟩, Ed.p ⟨(I.hi (gI l i)), (!I.hopen (gI l i)), (I.less (gI l i))⟩] (intP (befE ⟨I.hi (gI m q), !I.hopen (gI m q), I.less (gI m q)⟩ ⟨I.hi (gI l i), !I.hopen (gI l i), I.less (gI l i)⟩))) ∧
 ((decide (befE ⟨I.hi (gI m q), !I.hopen (gI m q), I.less (gI m q)⟩ ⟨I.hi (gI l i), !I.hopen (gI l i), I.less (gI l i)⟩ < (0 : Int))) = true →
 ((g + 1 + 2) = g + 1 + 2) ∧
 (Den E1 38 [I.p (gI m q)] (Ed.p ⟨(I.hi (gI m q)), (!I.hopen (gI m q)), (I.less (gI m q))⟩)) ∧
 ((g + 1 + 4 + 5) = g + 1 + 4 + 5) ∧
 ((g + 1 + 4 + 4) = g + 1 + 4 + 4) ∧
 ((g + 1 + 4 + 5) = g + 1 + 4 + 5) ∧
 (Den E1 89 [Ed.p ⟨(I.lo (gI m q)), (I.lopen (gI m q)), false⟩, Ed.p ⟨(I.hi (gI m q)), (!I.hopen (gI m q)), (I.less (gI m q))⟩] (I.p ⟨(I.lo (gI m q)), (I.lopen (gI m q)), (if Ed.less ⟨I.hi (gI m q), !I.hopen (gI m q), I.less (gI m q)⟩ = true then zV else I.hi (gI m q)), (if Ed.less ⟨I.hi (gI m q), !I.hopen (gI m q), I.less (gI m q)⟩ = true then false else !!I.hopen (gI m q)), (I.less (gI m q))⟩)) ∧
 ((g + 1 + 4 + 8 + 5 + 3 + 5 + 3 + 4) = g + 1 + 4 + 8 + 5 + 3 + 5 + 3 + 4) ∧
 (((11 : Nat) = 11) ∧ ((1 : Nat) ≤ (1 : Nat))) ∧
 (((0 : Nat) = 0) ∧ (true = true)) ∧
 (AtAll Tryz.f62 r 1 (span_meet_S2 l m k k' nl full nl' full' i (IntKind.i64.wrap (q + (1 : Int))) gx (g + 1 + 4 + 8 + 5 + 3 + 5 + 3 + 5) 1 [I.p ⟨(I.lo (gI m q)), (I.lopen (gI m q)), (if Ed.less ⟨I.hi (gI m q), !I.hopen (gI m q), I.less (gI m q)⟩ = true then zV else I.hi (gI m q)), (if Ed.less ⟨I.hi (gI m q), !I.hopen (gI m q), I.less (gI m q)⟩ = true then false else !!I.hopen (gI m q)), (I.less (gI m q))⟩]))) ∧
 ((decide (befE ⟨I.hi (gI m q), !I.hopen (gI m q), I.less (gI m q)⟩ ⟨I.hi (gI l i), !I.hopen (gI l i), I.less (gI l i)⟩ < (0 : Int))) = false →
 ((g + 1 + 4 + 4) = g + 1 + 4 + 4) ∧
 ((g + 1 + 4 + 5) = g + 1 + 4 + 5) ∧
 (Den E1 89 [Ed.p ⟨(I.lo (gI m q)), (I.lopen (gI m q)), false⟩, Ed.p ⟨(I.hi (gI l i)), (!I.hopen (gI l i)), (I.less (gI l i))⟩] (I.p ⟨(I.lo (gI m q)), (I.lopen (gI m q)), (if Ed.less ⟨I.hi (gI l i), !I.hopen (gI l i), I.less (gI l i)⟩ = true then zV else I.hi (gI l i)), (if Ed.less ⟨I.hi (gI l i), !I.hopen (gI l i), I.less (gI l i)⟩ = true then false else !!I.hopen (gI l i)), (I.less (gI l i))⟩)) ∧
 ((g + 1 + 4 + 8 + 5 + 3 + 5 + 4) = g + 1 + 4 + 8 + 5 + 3 + 5 + 4) ∧
 (((11 : Nat) = 11) ∧ ((1 : Nat) ≤ (1 : Nat))) ∧
 (((0 : Nat) = 0) ∧ (true = true)) ∧
 (AtAll Tryz.f62 r 1 (span_meet_S2 l m k k' nl full nl' full' i (IntKind.i64.wrap (q + (1 : Int))) gx (g + 1 + 4 + 8 + 5 + 3 + 5 + 5) 1 [I.p ⟨(I.lo (gI m q)), (I.lopen (gI m q)), (if Ed.less ⟨I.hi (gI l i), !I.hopen (gI l i), I.less (gI l i)⟩ = true then zV else I.hi (gI l i)), (if Ed.less ⟨I.hi (gI l i), !I.hopen (gI l i), I.less (gI l i)⟩ = true then false else !!I.hopen (gI l i)), (I.less (gI l i))⟩])))) ∧
 ((decide (befE ⟨I.lo (gI l i), I.lopen (gI l i), false⟩ ⟨I.lo (gI m q), I.lopen (gI m q), false⟩ < (0 : Int))) = false →
 ((g + 1 + 2) = g + 1 + 2) ∧
 (Den E1 38 [I.p (gI m q)] (Ed.p ⟨(I.hi (gI m q)), (!I.hopen (gI m q)), (I.less (gI m q))⟩)) ∧
 ((g + 1 + 4 + 5) = g + 1 + 4 + 5) ∧
 (Den E1 36 [Ed.p ⟨(I.hi (gI m q)), (!I.hopen (gI m q)), (I.less (gI m q))⟩, Ed.p ⟨(I.hi (gI l i)), (!I.hopen (gI l i)), (I.less (gI l i))⟩] (intP (befE ⟨I.hi (gI m q), !I.hopen (gI m q), I.less (gI m q)⟩ ⟨I.hi (gI l i), !I.hopen (gI l i), I.less (gI l i)⟩))) ∧
 ((decide (befE ⟨I.hi (gI m q), !I.hopen (gI m q), I.less (gI m q)⟩ ⟨I.hi (gI l i), !I.hopen (gI l i), I.less (gI l i)⟩ < (0 : Int))) = true →
 ((g + 1 + 2) = g + 1 + 2) ∧
 (Den E1 38 [I.p (gI m q)] (Ed.p ⟨(I.hi (gI m q)), (!I.hopen (gI m q)), (I.less (gI m q))⟩)) ∧
 ((g + 1 + 4 + 5) = g + 1 + 4 + 5) ∧
 ((g + 1 + 4 + 4) = g + 1 + 4 + 4) ∧
 ((g + 1 + 4 + 5) = g + 1 + 4 + 5) ∧
 (Den E1 89 [Ed.p ⟨(I.lo (gI l i)), (I.lopen (gI l i)), false⟩, Ed.p ⟨(I.hi (gI m q)), (!I.hopen (gI m q)), (I.less (gI m q))⟩] (I.p ⟨(I.lo (gI l i)), (I.lopen (gI l i)), (if Ed.less ⟨I.hi (gI m q), !I.hopen (gI m q), I.less (gI m q)⟩ = true then zV else I.hi (gI m q)), (if Ed.less ⟨I.hi (gI m q), !I.hopen (gI m q), I.less (gI m q)⟩ = true then false else !!I.hopen (gI m q)), (I.less (gI m q))⟩)) ∧
 ((g + 1 + 4 + 8 + 5 + 5 + 3 + 4) = g + 1 + 4 + 8 + 5 + 5 + 3 + 4) ∧
 (((11 : Nat) = 11) ∧ ((1 : Nat) ≤ (1 : Nat))) ∧
 (((0 : Nat) = 0) ∧ (true = true)) ∧
 (AtAll Tryz.f62 r 1 (span_meet_S2 l m k k' nl full nl' full' i (IntKind.i64.wrap (q + (1 : Int))) gx (g + 1 + 4 + 8 + 5 + 5 + 3 + 5) 1 [I.p ⟨(I.lo (gI l i)), (I.lopen (gI l i)), (if Ed.less ⟨I.hi (gI m q), !I.hopen (gI m q), I.less (gI m q)⟩ = true then zV else I.hi (gI m q)), (if Ed.less ⟨I.hi (gI m q), !I.hopen (gI m q), I.less (gI m q)⟩ = true then false else !!I.hopen (gI m q)), (I.less (gI m q))⟩]))) ∧
 ((decide (befE ⟨I.hi (gI m q), !I.hopen (gI m q), I.less (gI m q)⟩ ⟨I.hi (gI l i), !I.hopen (gI l i), I.less (gI l i)⟩ < (0 : Int))) = false →
 ((g + 1 + 4 + 4) = g + 1 + 4 + 4) ∧
 ((g + 1 + 4 + 5) = g + 1 + 4 + 5) ∧
 (Den E1 89 [Ed.p ⟨(I.lo (gI l i)), (I.lopen (gI l i)), false⟩, Ed.p ⟨(I.hi (gI l i)), (!I.hopen (gI l i)), (I.less (gI l i))⟩] (I.p ⟨(I.lo (gI l i)), (I.lopen (gI l i)), (if Ed.less ⟨I.hi (gI l i), !I.hopen (gI l i), I.less (gI l i)⟩ = true then zV else I.hi (gI l i)), (if Ed.less ⟨I.hi (gI l i), !I.hopen (gI l i), I.less (gI l i)⟩ = true then false else !!I.hopen (gI l i)), (I.less (gI l i))⟩)) ∧
 ((g + 1 + 4 + 8 + 5 + 5 + 4) = g + 1 + 4 + 8 + 5 + 5 + 4) ∧
 (((11 : Nat) = 11) ∧ ((1 : Nat) ≤ (1 : Nat))) ∧
 (((0 : Nat) = 0) ∧ (true = true)) ∧
 (AtAll Tryz.f62 r 1 (span_meet_S2 l m k k' nl full nl' full' i (IntKind.i64.wrap (q + (1 : Int))) gx (g + 1 + 4 + 8 + 5 + 5 + 5) 1 [I.p ⟨(I.lo (gI l i)), (I.lopen (gI l i)), (if Ed.less ⟨I.hi (gI l i), !I.hopen (gI l i), I.less (gI l i)⟩ = true then zV else I.hi (gI l i)), (if Ed.less ⟨I.hi (gI l i), !I.hopen (gI l i), I.less (gI l i)⟩ = true then false else !!I.hopen (gI l i)), (I.less (gI l i))⟩]))))) ∧
 ((decide (q < (↑(List.length (List.map I.p m)) : Int))) = false →
 AtAll Tryz.f62 r 0 (span_meet_S0 l m k k' nl full nl' full' (IntKind.i64.wrap (i + (1 : Int)))))) := by kernel_rfl
theorem span_meet_go_S2 (l : List I) (m : List I) (k : Nat) (k' : Nat) (nl : Bool) (full : Bool) (nl' : Bool) (full' : Bool) (i : Int) (q : Int) (gx : Nat) (gm : Nat) (n : Nat) (xs : List I) (j : Nat → AV) (jr : Nat → Row) (g : Nat) (r : PV) : LoopGo E1 Tryz.f62 r 1 2000 (.fork (.val (I.p (gI m q)) (.res (Ed.p ⟨(I.lo (gI l i)), (I.lopen (gI l i)), false⟩) (.res (Ed.p ⟨(I.hi (gI l i)), (!I.hopen (gI l i)), (I.less (gI l i))⟩) (.res (Ed.p ⟨(I.lo (gI m q)), (I.lopen (gI m q)), false⟩) (.res (intP (befE ⟨I.lo (gI l i), I.lopen (gI l i), false⟩ ⟨I.lo (gI m q), I.lopen (gI m q), false⟩)) (.fork (.res (Ed.p ⟨(I.lo (gI m q)), (I.lopen (gI m q)), false⟩) (.res (Ed.p ⟨(I.hi (gI m q)), (!I.hopen (gI m q)), (I.less (gI m q))⟩) (.res (intP (befE ⟨I.hi (gI m q), !I.hopen (gI m q), I.less (gI m q)⟩ ⟨I.hi (gI l i), !I.hopen (gI l i), I.less (gI l i)⟩)) (.fork (.res (Ed.p ⟨(I.hi (gI m q)), (!I.hopen (gI m q)), (I.less (gI m q))⟩) (.res (I.p ⟨(I.lo (gI m q)), (I.lopen (gI m q)), (if Ed.less ⟨I.hi (gI m q), !I.hopen (gI m q), I.less (gI m q)⟩ = true then zV else I.hi (gI m q)), (if Ed.less ⟨I.hi (gI m q), !I.hopen (gI m q), I.less (gI m q)⟩ = true then false else !!I.hopen (gI m q)), (I.less (gI m q))⟩) (.lit (.mask (iv [(0, 0), (2, 4), (6, 6), (8, 11), (15, 17), (21, 51)]) [9, 10, 11, 46])))) (.res (I.p ⟨(I.lo (gI m q)), (I.lopen (gI m q)), (if Ed.less ⟨I.hi (gI l i), !I.hopen (gI l i), I.less (gI l i)⟩ = true then zV else I.hi (gI l i)), (if Ed.less ⟨I.hi (gI l i), !I.hopen (gI l i), I.less (gI l i)⟩ = true then false else !!I.hopen (gI l i)), (I.less (gI l i))⟩) (.lit (.mask (iv [(0, 0), (2, 4), (6, 6), (8, 11), (15, 17), (21, 51)]) [9, 10, 11, 46]))))))) (.res (Ed.p ⟨(I.hi (gI m q)), (!I.hopen (gI m q)), (I.less (gI m q))⟩) (.res (intP (befE ⟨I.hi (gI m q), !I.hopen (gI m q), I.less (gI m q)⟩ ⟨I.hi (gI l i), !I.hopen (gI l i), I.less (gI l i)⟩)) (.fork (.res (Ed.p ⟨(I.hi (gI m q)), (!I.hopen (gI m q)), (I.less (gI m q))⟩) (.res (I.p ⟨(I.lo (gI l i)), (I.lopen (gI l i)), (if Ed.less ⟨I.hi (gI m q), !I.hopen (gI m q), I.less (gI m q)⟩ = true then zV else I.hi (gI m q)), (if Ed.less ⟨I.hi (gI m q), !I.hopen (gI m q), I.less (gI m q)⟩ = true then false else !!I.hopen (gI m q)), (I.less (gI m q))⟩) (.lit (.mask (iv [(0, 0), (2, 4), (6, 6), (8, 11), (15, 17), (21, 51)]) [9, 10, 11, 46])))) (.res (I.p ⟨(I.lo (gI l i)), (I.lopen (gI l i)), (if Ed.less ⟨I.hi (gI l i), !I.hopen (gI l i), I.less (gI l i)⟩ = true then zV else I.hi (gI l i)), (if Ed.less ⟨I.hi (gI l i), !I.hopen (gI l i), I.less (gI l i)⟩ = true then false else !!I.hopen (gI l i)), (I.less (gI l i))⟩) (.lit (.mask (iv [(0, 0), (2, 4), (6, 6), (8, 11), (15, 17), (21, 51)]) [9, 10, 11, 46])))))))))))) (.mask (iv [(0, 0), (2, 4), (6, 11), (15, 51)]) [7, 9, 10, 11, 46])) (span_meet_S2 l m k k' nl full nl' full' i q gx gm n (List.map I.p xs) j jr g) =
  (((decide (q < (↑(List.length (List.map I.p m)) : Int))) = true →
 (((0 : Int) ≤ q) ∧ ((nl' = false) ∧ (k' = 11))) ∧
 (((List.map I.p m)[Int.toNat q]?) = some (I.p (gI m q))) ∧
 ((g + 1 + 2) = g + 1 + 2) ∧
 (gx = gx) ∧
 (Den E1 37 [I.p (gI l i)] (Ed.p ⟨(I.lo (gI l i)), (I.lopen (gI l i)), false⟩)) ∧
 (gx = gx) ∧
 (Den E1 38 [I.p (gI l i)] (Ed.p ⟨(I.hi (gI l i)), (!I.hopen (gI l i)), (I.less (gI l i))⟩)) ∧
 ((g + 1 + 4 + 4) = g + 1 + 4 + 4) ∧
 ((g + 1 + 4 + 5) = g + 1 + 4 + 5) ∧
 ((g + 1 + 4 + 4) = g + 1 + 4 + 4) ∧
 ((g + 1 + 2) = g + 1 + 2) ∧
 (Den E1 37 [I.p (gI m q)] (Ed.p ⟨(I.lo (gI m q)), (I.lopen (gI m q)), false⟩)) ∧
 (Den E1 36 [Ed.p ⟨(I.lo (gI l i)), (I.lopen (gI l i)), false⟩, Ed.p ⟨(I.lo (gI m q)), (I.lopen (gI m q)), false⟩] (intP (befE ⟨I.lo (gI l i), I.lopen (gI l i), false⟩ ⟨I.lo (gI m q), I.lopen (gI m q), false⟩))) ∧
 ((decide (befE ⟨I.lo (gI l i), I.lopen (gI l i), false⟩ ⟨I.lo (gI m q), I.lopen (gI m q), false⟩ < (0 : Int))) = true →
 ((g + 1 + 2) = g + 1 + 2) ∧
 (Den E1 37 [I.p (gI m q)] (Ed.p ⟨(I.lo (gI m q)), (I.lopen (gI m q)), false⟩)) ∧
 ((g + 1 + 4 + 4) = g + 1 + 4 + 4) ∧
 ((g + 1 + 2) = g + 1 + 2) ∧
 (Den E1 38 [I.p (gI m q)] (Ed.p ⟨(I.hi (gI m q)), (!I.hopen (gI m q)), (I.less (gI m q))⟩)) ∧
 ((g + 1 + 4 + 5) = g + 1 + 4 + 5) ∧
 (Den E1 36 [Ed.p ⟨(I.hi (gI m q)), (!I.hopen (gI m q)), (I.less (gI m q))⟩, Ed.p ⟨(I.hi (gI l i)), (!I.hopen (gI l i)), (I.less (gI l i))⟩] (intP (befE ⟨I.hi (gI m q), !I.hopen (gI m q), I.less (gI m q)⟩ ⟨I.hi (gI l i), !I.hopen (gI l i), I.less (gI l i)⟩))) ∧
 ((decide (befE ⟨I.hi (gI m q), !I.hopen (gI m q), I.less (gI m q)⟩ ⟨I.hi (gI l i), !I.hopen (gI l i), I.less (gI l i)⟩ < (0 : Int))) = true →
 ((g + 1 + 2) = g + 1 + 2) ∧
 (Den E1 38 [I.p (gI m q)] (Ed.p ⟨(I.hi (gI m q)), (!I.hopen (gI m q)), (I.less (gI m q))⟩)) ∧
 ((g + 1 + 4 + 5) = g + 1 + 4 + 5) ∧
 ((g + 1 + 4 + 4) = g + 1 + 4 + 4) ∧
 ((g + 1 + 4 + 5) = g + 1 + 4 + 5) ∧
 (Den E1 89 [Ed.p ⟨(I.lo (gI m q)), (I.lopen (gI m q)), false⟩, Ed.p ⟨(I.hi (gI m q)), (!I.hopen (gI m q)), (I.less (gI m q))⟩] (I.p ⟨(I.lo (gI m q)), (I.lopen (gI m q)), (if Ed.less ⟨I.hi (gI m q), !I.hopen (gI m q), I.less (gI m q)⟩ = true then zV else I.hi (gI m q)), (if Ed.less ⟨I.hi (gI m q), !I.hopen (gI m q), I.less (gI m q)⟩ = true then false else !!I.hopen (gI m q)), (I.less (gI m q))⟩)) ∧
 ((g + 1 + 4 + 8 + 5 + 3 + 5 + 3 + 4) = g + 1 + 4 + 8 + 5 + 3 + 5 + 3 + 4) ∧
 (((11 : Nat) = 11) ∧ ((1 : Nat) ≤ (1 : Nat))) ∧
 (gm = gm) ∧
 ((false = false) ∧ (((11 : Nat) = 11) ∧ (((63 : Nat) = 63) ∧ ((((0 : Nat) + n) = List.length (List.map I.p xs)) ∧ ((fitsRow (n + 1) (104 : Nat)) = true))))) ∧
 (∀ (j' : Nat → AV) (jr' : Nat → Row) (g' : Nat), LoopAt E1 Tryz.f62 r 1 (span_meet_S2 l m k k' nl full nl' full' i (IntKind.i64.wrap (q + (1 : Int))) gx (g + 1 + 4 + 8 + 5 + 3 + 5 + 3 + 5) (n + 1) (List.drop (0 : Nat) (List.map I.p xs) ++ List.take (1 : Nat) (List.drop (0 : Nat) [PV.agg [PV.lit (Value.int IntKind.u32 (V.a (I.lo (gI m q)))), PV.lit (Value.int IntKind.u32 (V.b (I.lo (gI m q)))), PV.lit (Value.int IntKind.u32 (V.c (I.lo (gI m q)))), V.q (I.lo (gI m q)), PV.lit (Value.bool (I.lopen (gI m q))), PV.lit (Value.int IntKind.u32 (V.a (if Ed.less ⟨I.hi (gI m q), !I.hopen (gI m q), I.less (gI m q)⟩ = true then zV else I.hi (gI m q)))), PV.lit (Value.int IntKind.u32 (V.b (if Ed.less ⟨I.hi (gI m q), !I.hopen (gI m q), I.less (gI m q)⟩ = true then zV else I.hi (gI m q)))), PV.lit (Value.int IntKind.u32 (V.c (if Ed.less ⟨I.hi (gI m q), !I.hopen (gI m q), I.less (gI m q)⟩ = true then zV else I.hi (gI m q)))), V.q (if Ed.less ⟨I.hi (gI m q), !I.hopen (gI m q), I.less (gI m q)⟩ = true then zV else I.hi (gI m q)), PV.lit (Value.bool (if Ed.less ⟨I.hi (gI m q), !I.hopen (gI m q), I.less (gI m q)⟩ = true then false else !!I.hopen (gI m q))), PV.lit (Value.bool (I.less (gI m q)))]])) j' jr' g'))) ∧
 ((decide (befE ⟨I.hi (gI m q), !I.hopen (gI m q), I.less (gI m q)⟩ ⟨I.hi (gI l i), !I.hopen (gI l i), I.less (gI l i)⟩ < (0 : Int))) = false →
 ((g + 1 + 4 + 4) = g + 1 + 4 + 4) ∧
 ((g + 1 + 4 + 5) = g + 1 + 4 + 5) ∧
 (Den E1 89 [Ed.p ⟨(I.lo (gI m q)), (I.lopen (gI m q)), false⟩, Ed.p ⟨(I.hi (gI l i)), (!I.hopen (gI l i)), (I.less (gI l i))⟩] (I.p ⟨(I.lo (gI m q)), (I.lopen (gI m q)), (if Ed.less ⟨I.hi (gI l i), !I.hopen (gI l i), I.less (gI l i)⟩ = true then zV else I.hi (gI l i)), (if Ed.less ⟨I.hi (gI l i), !I.hopen (gI l i), I.less (gI l i)⟩ = true then false else !!I.hopen (gI l i)), (I.less (gI l i))⟩)) ∧
 ((g + 1 + 4 + 8 + 5 + 3 + 5 + 4) = g + 1 + 4 + 8 + 5 + 3 + 5 + 4) ∧
 (((11 : Nat) = 11) ∧ ((1 : Nat) ≤ (1 : Nat))) ∧
 (gm = gm) ∧
 ((false = false) ∧ (((11 : Nat) = 11) ∧ (((63 : Nat) = 63) ∧ ((((0 : Nat) + n) = List.length (List.map I.p xs)) ∧ ((fitsRow (n + 1) (104 : Nat)) = true))))) ∧
 (∀ (j' : Nat → AV) (jr' : Nat → Row) (g' : Nat), LoopAt E1 Tryz.f62 r 1 (span_meet_S2 l m k k' nl full nl' full' i (IntKind.i64.wrap (q + (1 : Int))) gx (g + 1 + 4 + 8 + 5 + 3 + 5 + 5) (n + 1) (List.drop (0 : Nat) (List.map I.p xs) ++ List.take (1 : Nat) (List.drop (0 : Nat) [PV.agg [PV.lit (Value.int IntKind.u32 (V.a (I.lo (gI m q)))), PV.lit (Value.int IntKind.u32 (V.b (I.lo (gI m q)))), PV.lit (Value.int IntKind.u32 (V.c (I.lo (gI m q)))), V.q (I.lo (gI m q)), PV.lit (Value.bool (I.lopen (gI m q))), PV.lit (Value.int IntKind.u32 (V.a (if Ed.less ⟨I.hi (gI l i), !I.hopen (gI l i), I.less (gI l i)⟩ = true then zV else I.hi (gI l i)))), PV.lit (Value.int IntKind.u32 (V.b (if Ed.less ⟨I.hi (gI l i), !I.hopen (gI l i), I.less (gI l i)⟩ = true then zV else I.hi (gI l i)))), PV.lit (Value.int IntKind.u32 (V.c (if Ed.less ⟨I.hi (gI l i), !I.hopen (gI l i), I.less (gI l i)⟩ = true then zV else I.hi (gI l i)))), V.q (if Ed.less ⟨I.hi (gI l i), !I.hopen (gI l i), I.less (gI l i)⟩ = true then zV else I.hi (gI l i)), PV.lit (Value.bool (if Ed.less ⟨I.hi (gI l i), !I.hopen (gI l i), I.less (gI l i)⟩ = true then false else !!I.hopen (gI l i))), PV.lit (Value.bool (I.less (gI l i)))]])) j' jr' g')))) ∧
 ((decide (befE ⟨I.lo (gI l i), I.lopen (gI l i), false⟩ ⟨I.lo (gI m q), I.lopen (gI m q), false⟩ < (0 : Int))) = false →
 ((g + 1 + 2) = g + 1 + 2) ∧
 (Den E1 38 [I.p (gI m q)] (Ed.p ⟨(I.hi (gI m q)), (!I.hopen (gI m q)), (I.less (gI m q))⟩)) ∧
 ((g + 1 + 4 + 5) = g + 1 + 4 + 5) ∧
 (Den E1 36 [Ed.p ⟨(I.hi (gI m q)), (!I.hopen (gI m q)), (I.less (gI m q))⟩, Ed.p ⟨(I.hi (gI l i)), (!I.hopen (gI l i)), (I.less (gI l i))⟩] (intP (befE ⟨I.hi (gI m q), !I.hopen (gI m q), I.less (gI m q)⟩ ⟨I.hi (gI l i), !I.hopen (gI l i), I.less (gI l i)⟩))) ∧
 ((decide (befE ⟨I.hi (gI m q), !I.hopen (gI m q), I.less (gI m q)⟩ ⟨I.hi (gI l i), !I.hopen (gI l i), I.less (gI l i)⟩ < (0 : Int))) = true →
 ((g + 1 + 2) = g + 1 + 2) ∧
 (Den E1 38 [I.p (gI m q)] (Ed.p ⟨(I.hi (gI m q)), (!I.hopen (gI m q)), (I.less (gI m q))⟩)) ∧
 ((g + 1 + 4 + 5) = g + 1 + 4 + 5) ∧
 ((g + 1 + 4 + 4) = g + 1 + 4 + 4) ∧
 ((g + 1 + 4 + 5) = g + 1 + 4 + 5) ∧
 (Den E1 89 [Ed.p ⟨(I.lo (gI l i)), (I.lopen (gI l i)), false⟩, Ed.p ⟨(I.hi (gI m q)), (!I.hopen (gI m q)), (I.less (gI m q))⟩] (I.p ⟨(I.lo (gI l i)), (I.lopen (gI l i)), (if Ed.less ⟨I.hi (gI m q), !I.hopen (gI m q), I.less (gI m q)⟩ = true then zV else I.hi (gI m q)), (if Ed.less ⟨I.hi (gI m q), !I.hopen (gI m q), I.less (gI m q)⟩ = true then false else !!I.hopen (gI m q)), (I.less (gI m q))⟩)) ∧
 ((g + 1 + 4 + 8 + 5 + 5 + 3 + 4) = g + 1 + 4 + 8 + 5 + 5 + 3 + 4) ∧
 (((11 : Nat) = 11) ∧ ((1 : Nat) ≤ (1 : Nat))) ∧
 (gm = gm) ∧
 ((false = false) ∧ (((11 : Nat) = 11) ∧ (((63 : Nat) = 63) ∧ ((((0 : Nat) + n) = List.length (List.map I.p xs)) ∧ ((fitsRow (n + 1) (104 : Nat)) = true))))) ∧
 (∀ (j' : Nat → AV) (jr' : Nat → Row) (g' : Nat), LoopAt E1 Tryz.f62 r 1 (span_meet_S2 l m k k' nl full nl' full' i (IntKind.i64.wrap (q + (1 : Int))) gx (g + 1 + 4 + 8 + 5 + 5 + 3 + 5) (n + 1) (List.drop (0 : Nat) (List.map I.p xs) ++ List.take (1 : Nat) (List.drop (0 : Nat) [PV.agg [PV.lit (Value.int IntKind.u32 (V.a (I.lo (gI l i)))), PV.lit (Value.int IntKind.u32 (V.b (I.lo (gI l i)))), PV.lit (Value.int IntKind.u32 (V.c (I.lo (gI l i)))), V.q (I.lo (gI l i)), PV.lit (Value.bool (I.lopen (gI l i))), PV.lit (Value.int IntKind.u32 (V.a (if Ed.less ⟨I.hi (gI m q), !I.hopen (gI m q), I.less (gI m q)⟩ = true then zV else I.hi (gI m q)))), PV.lit (Value.int IntKind.u32 (V.b (if Ed.less ⟨I.hi (gI m q), !I.hopen (gI m q), I.less (gI m q)⟩ = true then zV else I.hi (gI m q)))), PV.lit (Value.int IntKind.u32 (V.c (if Ed.less ⟨I.hi (gI m q), !I.hopen (gI m q), I.less (gI m q)⟩ = true then zV else I.hi (gI m q)))), V.q (if Ed.less ⟨I.hi (gI m q), !I.hopen (gI m q), I.less (gI m q)⟩ = true then zV else I.hi (gI m q)), PV.lit (Value.bool (if Ed.less ⟨I.hi (gI m q), !I.hopen (gI m q), I.less (gI m q)⟩ = true then false else !!I.hopen (gI m q))), PV.lit (Value.bool (I.less (gI m q)))]])) j' jr' g'))) ∧
 ((decide (befE ⟨I.hi (gI m q), !I.hopen (gI m q), I.less (gI m q)⟩ ⟨I.hi (gI l i), !I.hopen (gI l i), I.less (gI l i)⟩ < (0 : Int))) = false →
 ((g + 1 + 4 + 4) = g + 1 + 4 + 4) ∧
 ((g + 1 + 4 + 5) = g + 1 + 4 + 5) ∧
 (Den E1 89 [Ed.p ⟨(I.lo (gI l i)), (I.lopen (gI l i)), false⟩, Ed.p ⟨(I.hi (gI l i)), (!I.hopen (gI l i)), (I.less (gI l i))⟩] (I.p ⟨(I.lo (gI l i)), (I.lopen (gI l i)), (if Ed.less ⟨I.hi (gI l i), !I.hopen (gI l i), I.less (gI l i)⟩ = true then zV else I.hi (gI l i)), (if Ed.less ⟨I.hi (gI l i), !I.hopen (gI l i), I.less (gI l i)⟩ = true then false else !!I.hopen (gI l i)), (I.less (gI l i))⟩)) ∧
 ((g + 1 + 4 + 8 + 5 + 5 + 4) = g + 1 + 4 + 8 + 5 + 5 + 4) ∧
 (((11 : Nat) = 11) ∧ ((1 : Nat) ≤ (1 : Nat))) ∧
 (gm = gm) ∧
 ((false = false) ∧ (((11 : Nat) = 11) ∧ (((63 : Nat) = 63) ∧ ((((0 : Nat) + n) = List.length (List.map I.p xs)) ∧ ((fitsRow (n + 1) (104 : Nat)) = true))))) ∧
 (∀ (j' : Nat → AV) (jr' : Nat → Row) (g' : Nat), LoopAt E1 Tryz.f62 r 1 (span_meet_S2 l m k k' nl full nl' full' i (IntKind.i64.wrap (q + (1 : Int))) gx (g + 1 + 4 + 8 + 5 + 5 + 5) (n + 1) (List.drop (0 : Nat) (List.map I.p xs) ++ List.take (1 : Nat) (List.drop (0 : Nat) [PV.agg [PV.lit (Value.int IntKind.u32 (V.a (I.lo (gI l i)))), PV.lit (Value.int IntKind.u32 (V.b (I.lo (gI l i)))), PV.lit (Value.int IntKind.u32 (V.c (I.lo (gI l i)))), V.q (I.lo (gI l i)), PV.lit (Value.bool (I.lopen (gI l i))), PV.lit (Value.int IntKind.u32 (V.a (if Ed.less ⟨I.hi (gI l i), !I.hopen (gI l i), I.less (gI l i)⟩ = true then zV else I.hi (gI l i)))), PV.lit (Value.int IntKind.u32 (V.b (if Ed.less ⟨I.hi (gI l i), !I.hopen (gI l i), I.less (gI l i)⟩ = true then zV else I.hi (gI l i)))), PV.lit (Value.int IntKind.u32 (V.c (if Ed.less ⟨I.hi (gI l i), !I.hopen (gI l i), I.less (gI l i)⟩ = true then zV else I.hi (gI l i)))), V.q (if Ed.less ⟨I.hi (gI l i), !I.hopen (gI l i), I.less (gI l i)⟩ = true then zV else I.hi (gI l i)), PV.lit (Value.bool (if Ed.less ⟨I.hi (gI l i), !I.hopen (gI l i), I.less (gI l i)⟩ = true then false else !!I.hopen (gI l i))), PV.lit (Value.bool (I.less (gI l i)))]])) j' jr' g'))))) ∧
 ((decide (q < (↑(List.length (List.map I.p m)) : Int))) = false →
 AtAll Tryz.f62 r 0 (span_meet_S3 l m k k' nl full nl' full' (IntKind.i64.wrap (i + (1 : Int))) gm n (List.map I.p xs)))) := by kernel_rfl
theorem span_meet_go_S3 (l : List I) (m : List I) (k : Nat) (k' : Nat) (nl : Bool) (full : Bool) (nl' : Bool) (full' : Bool) (i : Int) (gm : Nat) (n : Nat) (xs : List I) (j : Nat → AV) (jr : Nat → Row) (g : Nat) (r : PV) : LoopGo E1 Tryz.f62 r 0 2000 (.fork (.val (I.p (gI l i)) (.mask (iv [(0, 0), (2, 4), (6, 6), (8, 11), (15, 17), (21, 51)]) [9, 10, 11, 46])) (.frz [.sl 11 false false (List.map I.p xs)] [List.replicate 7 row0 ++ [jr 7, row0, jr 9, jr 10, jr 11, row0, row0, row0, row0, row0, row0, row0, row0, row0, row0, row0, row0, row0, row0, row0, row0, row0, row0, row0, row0, row0, row0, row0, row0, row0, row0, row0, row0, row0, row0, row0, row0, row0, row0, jr 46, ⟨gm, .row 11 63 (List.map I.p xs) true⟩] ++ List.replicate 4 row0] (.res (resL (joinS xs)) (.hole 0)))) (span_meet_S3 l m k k' nl full nl' full' i gm n (List.map I.p xs) j jr g) =
  (((decide (i < (↑(List.length (List.map I.p l)) : Int))) = true →
 (((0 : Int) ≤ i) ∧ ((nl = false) ∧ (k = 11))) ∧
 (((List.map I.p l)[Int.toNat i]?) = some (I.p (gI l i))) ∧
 ((g + 1 + 2) = g + 1 + 2) ∧
 (AtAll Tryz.f62 r 1 (span_meet_S2 l m k k' nl full nl' full' i 0 (g + 1 + 2) gm n (List.map I.p xs)))) ∧
 ((decide (i < (↑(List.length (List.map I.p l)) : Int))) = false →
 (frzs frzDepth [.msl 0 47 gm 0 n false] [List.replicate 7 row0 ++ [jr 7, row0, jr 9, jr 10, jr 11, row0, row0, row0, row0, row0, row0, row0, row0, row0, row0, row0, row0, row0, row0, row0, row0, row0, row0, row0, row0, row0, row0, row0, row0, row0, row0, row0, row0, row0, row0, row0, row0, row0, row0, jr 46, ⟨gm, .row 11 63 (List.map I.p xs) false⟩] ++ List.replicate 4 row0] = some ([.sl 11 false false (List.map I.p xs)], [List.replicate 7 row0 ++ [jr 7, row0, jr 9, jr 10, jr 11, row0, row0, row0, row0, row0, row0, row0, row0, row0, row0, row0, row0, row0, row0, row0, row0, row0, row0, row0, row0, row0, row0, row0, row0, row0, row0, row0, row0, row0, row0, row0, row0, row0, row0, jr 46, ⟨gm, .row 11 63 (List.map I.p xs) true⟩] ++ List.replicate 4 row0])) ∧
 (Den E1 54 [.sl 11 false false (List.map I.p xs)] (resL (joinS xs))) ∧
 ((resL (joinS xs)) : PV) = r)) := by kernel_rfl
end Go.Proofs.YtlhfgonjcpapnaaGreatDoor.Abs

set_option maxRecDepth 20000
namespace Go.Proofs.YtlhfgonjcpapnaaGreatDoor.Abs
open Go Go.Proofs
theorem ok_get {l : List I} {i : Nat} (h : ∀ x ∈ l, x.ok) (hi : i < l.length) : (l.getD i default).ok := h _ (getD_mem hi default)
theorem meet1S_ok {x y : I} (hx : x.ok) (hy : y.ok) : (meet1S x y).ok := by
  unfold meet1S
  refine bet_ok ?_ ?_
  · split
    · exact hy.lo
    · exact hx.lo
  · split
    · exact hy.hi
    · exact hx.hi
theorem meet1S_of {x y : I} {a b : Bool} (h1 : decide (befE x.low y.low < 0) = a) (h2 : decide (befE y.high x.high < 0) = b) : meet1S x y = betE (if a then y.low else x.low) (if b then y.high else x.high) := by
  subst h1; subst h2
  simp only [meet1S, decide_eq_true_eq]
section
variable (l m : List I) (k k' : Nat) (nl full nl' full' : Bool)
theorem smeet_S2 (hll : l.length < 1000000) (hlm : m.length < 1000000) (hsl : slOk 11 k nl l.length) (hsm : slOk 11 k' nl' m.length) (hgl : ∀ x ∈ l, x.ok) (hgm : ∀ x ∈ m, x.ok) (i : Nat) (hil : i < l.length) {r : PV} : ∀ (n q : Nat) (xs : List I) (gx gm : Nat) j jr g, q + n = m.length → xs.length + n < 1000000 →
    (∀ gm j jr g, LoopAt E1 Tryz.f62 r 0 (span_meet_S3 l m k k' nl full nl' full' (i + 1 : Nat) gm (xs.length + n) (List.map I.p (xs ++ (m.drop q).map fun y => meet1S (l.getD i default) y)) j jr g)) →
    LoopAt E1 Tryz.f62 r 1 (span_meet_S2 l m k k' nl full nl' full' i q gx gm xs.length (List.map I.p xs) j jr g) := by
  have hw1 : IntKind.wrap IntKind.i64 ((i : Int) + 1) = ((i + 1 : Nat) : Int) := wrap_i64 _ (by omega) (by omega)
  have hx := ok_get hgl hil
  intro n
  induction n with
  | zero =>
    intro q xs gx gm j0 jr0 g0 hq hb next
    refine loop_go 2000 _ (Eq.mpr (span_meet_go_S2 l m k k' nl full nl' full' i q gx gm xs.length xs j0 jr0 g0 _) ⟨fun h => ?_, fun h j jr g => ?_⟩)
    · simp only [decide_eq_true_eq, List.length_map] at h; omega
    · rw [hw1]
      have := next gm j jr g
      rw [List.drop_eq_nil_of_le (by omega), List.map_nil, List.append_nil] at this
      exact this
  | succ n ih =>
    intro q xs gx gm j0 jr0 g0 hq hb next
    have hql : q < m.length := by omega
    have hy := ok_get hgm hql
    have hq0 : (0 : Int) ≤ (q : Int) ∧ nl' = false ∧ k' = 11 := ⟨by omega, sl_at hsm hql⟩
    have hgq := getI hql
    have hw2 : IntKind.wrap IntKind.i64 ((q : Int) + 1) = ((q + 1 : Nat) : Int) := wrap_i64 _ (by omega) (by omega)
    have hf : xs.length = (List.map I.p xs).length ∧ fitsRow (xs.length + 1) 104 = true := ⟨by simp, fits_104 (by omega)⟩
    have fin : ∀ (z : I) gx gm j jr g, meet1S (l.getD i default) (m.getD q default) = z → LoopAt E1 Tryz.f62 r 1 (span_meet_S2 l m k k' nl full nl' full' i (q + 1 : Nat) gx gm (xs.length + 1) (List.map I.p xs ++ [I.p z]) j jr g) := by
      intro z gx gm j jr g hz
      have := ih (q + 1) (xs ++ [z]) gx gm j jr g (by omega) (by simp; omega) fun gm j jr g => by
        have := next gm j jr g
        rw [drop_get hql, List.map_cons, hz] at this
        have e : (xs ++ [z]).length + n = xs.length + (n + 1) := by simp; omega
        rw [e, List.append_assoc]
        exact this
      rw [List.length_append, List.map_append] at this
      exact this
    have hb1 := den_before (l.getD i default).low (m.getD q default).low hx.lo hy.lo
    have hb2 := den_before (m.getD q default).high (l.getD i default).high hy.hi hx.hi
    refine loop_go 2000 _ (Eq.mpr (span_meet_go_S2 l m k k' nl full nl' full' i q gx gm xs.length xs j0 jr0 g0 _) ⟨fun h => ?_, fun h => ?_⟩)
    · simp only [hw2, Int.toNat_natCast, gI_nat, gI_zero, Nat.zero_add, eq_self, true_and, and_true, Nat.le_refl]
      exact ⟨hq0, hgq, den_low _, den_high _, den_low _, hb1,
        fun h1 => ⟨den_low _, den_high _, hb2, fun h2 => ⟨den_high _, den_between (m.getD q default).low (m.getD q default).high, hf, fun j jr g => fin (betE (m.getD q default).low (m.getD q default).high) _ _ j jr g (meet1S_of h1 h2)⟩,
          fun h2 => ⟨den_between (m.getD q default).low (l.getD i default).high, hf, fun j jr g => fin (betE (m.getD q default).low (l.getD i default).high) _ _ j jr g (meet1S_of h1 h2)⟩⟩,
        fun h1 => ⟨den_high _, hb2, fun h2 => ⟨den_high _, den_between (l.getD i default).low (m.getD q default).high, hf, fun j jr g => fin (betE (l.getD i default).low (m.getD q default).high) _ _ j jr g (meet1S_of h1 h2)⟩,
          fun h2 => ⟨den_between (l.getD i default).low (l.getD i default).high, hf, fun j jr g => fin (betE (l.getD i default).low (l.getD i default).high) _ _ j jr g (meet1S_of h1 h2)⟩⟩⟩
    · simp only [decide_eq_false_iff_not, List.length_map] at h; omega
theorem smeet_S1 (hll : l.length < 1000000) (hlm : m.length < 1000000) (hsl : slOk 11 k nl l.length) (hsm : slOk 11 k' nl' m.length) (hgl : ∀ x ∈ l, x.ok) (hgm : ∀ x ∈ m, x.ok) (i : Nat) (hil : i < l.length) {r : PV} (gx : Nat) (j0 : Nat → AV) (jr0 : Nat → Row) (g0 : Nat) (hm0 : 0 < m.length)
    (next : ∀ gm j jr g, LoopAt E1 Tryz.f62 r 0 (span_meet_S3 l m k k' nl full nl' full' (i + 1 : Nat) gm m.length (List.map I.p (m.map fun y => meet1S (l.getD i default) y)) j jr g)) :
    LoopAt E1 Tryz.f62 r 1 (span_meet_S1 l m k k' nl full nl' full' i 0 gx j0 jr0 g0) := by
  have hx := ok_get hgl hil
  have hy := ok_get hgm hm0
  have hq0 : (0 : Int) ≤ (0 : Int) ∧ nl' = false ∧ k' = 11 := ⟨by omega, sl_at hsm hm0⟩
  have hgq := getI hm0
  have hz : Int.toNat 0 = 0 := rfl
  have hw2 : IntKind.wrap IntKind.i64 ((0 : Int) + 1) = ((1 : Nat) : Int) := rfl
  have fin : ∀ (z : I) gx gm j jr g, meet1S (l.getD i default) (m.getD 0 default) = z → LoopAt E1 Tryz.f62 r 1 (span_meet_S2 l m k k' nl full nl' full' i (1 : Nat) gx gm 1 [I.p z] j jr g) := by
    intro z gx gm j jr g hzz
    refine smeet_S2 l m k k' nl full nl' full' hll hlm hsl hsm hgl hgm i hil (m.length - 1) 1 [z] gx gm j jr g (by omega) (by simp; omega) fun gm j jr g => ?_
    have := next gm j jr g
    have e : m = m.getD 0 default :: m.drop 1 := by rw [← drop_get hm0]; try rfl
    have e2 : (m.map fun y => meet1S (l.getD i default) y) = [z] ++ (m.drop 1).map fun y => meet1S (l.getD i default) y := by
      conv => lhs; rw [e]
      rw [List.map_cons, hzz]; try rfl
    have e3 : [z].length + (m.length - 1) = m.length := by simp; omega
    rw [e2] at this
    rw [e3]
    exact this
  have hb1 := den_before (l.getD i default).low (m.getD 0 default).low hx.lo hy.lo
  have hb2 := den_before (m.getD 0 default).high (l.getD i default).high hy.hi hx.hi
  refine loop_go 2000 _ (Eq.mpr (span_meet_go_S1 l m k k' nl full nl' full' i 0 gx j0 jr0 g0 _) ⟨fun h => ?_, fun h => ?_⟩)
  · simp only [hw2, hz, Int.toNat_natCast, gI_nat, gI_zero, Nat.zero_add, eq_self, true_and, and_true, Nat.le_refl]
    exact ⟨hq0, hgq, den_low _, den_high _, den_low _, hb1,
      fun h1 => ⟨den_low _, den_high _, hb2, fun h2 => ⟨den_high _, den_between (m.getD 0 default).low (m.getD 0 default).high, fun j jr g => fin (betE (m.getD 0 default).low (m.getD 0 default).high) _ _ j jr g (meet1S_of h1 h2)⟩,
        fun h2 => ⟨den_between (m.getD 0 default).low (l.getD i default).high, fun j jr g => fin (betE (m.getD 0 default).low (l.getD i default).high) _ _ j jr g (meet1S_of h1 h2)⟩⟩,
      fun h1 => ⟨den_high _, hb2, fun h2 => ⟨den_high _, den_between (l.getD i default).low (m.getD 0 default).high, fun j jr g => fin (betE (l.getD i default).low (m.getD 0 default).high) _ _ j jr g (meet1S_of h1 h2)⟩,
        fun h2 => ⟨den_between (l.getD i default).low (l.getD i default).high, fun j jr g => fin (betE (l.getD i default).low (l.getD i default).high) _ _ j jr g (meet1S_of h1 h2)⟩⟩⟩
  · simp only [decide_eq_false_iff_not, List.length_map] at h; omega
theorem smeet_S3 (hll : l.length < 1000000) (hlm : m.length < 1000000) (hb : l.length * m.length < 1000000) (hsl : slOk 11 k nl l.length) (hsm : slOk 11 k' nl' m.length) (hgl : ∀ x ∈ l, x.ok) (hgm : ∀ x ∈ m, x.ok) (hm0 : 0 < m.length) : ∀ (n i : Nat) (xs : List I) (gm : Nat) j jr g, i + n = l.length → xs.length = i * m.length →
    (Den E1 54 [listP 11 false false (xs ++ (l.drop i).flatMap fun x => m.map fun y => meet1S x y)] (resL (joinS (xs ++ (l.drop i).flatMap fun x => m.map fun y => meet1S x y)))) →
    LoopAt E1 Tryz.f62 (resL (joinS (xs ++ (l.drop i).flatMap fun x => m.map fun y => meet1S x y))) 0 (span_meet_S3 l m k k' nl full nl' full' i gm xs.length (List.map I.p xs) j jr g) := by
  intro n
  induction n with
  | zero =>
    intro i xs gm j0 jr0 g0 hi hxl hj
    have hxb : xs.length < 1000000 := by
      rw [hxl, show i = l.length by omega]; exact hb
    rw [List.drop_eq_nil_of_le (by omega), List.flatMap_nil, List.append_nil] at hj
    refine loop_go 2000 _ (Eq.mpr (span_meet_go_S3 l m k k' nl full nl' full' i gm xs.length xs j0 jr0 g0 _) ⟨fun h => ?_, fun h => ?_⟩)
    · simp only [decide_eq_true_eq, List.length_map] at h; omega
    · rw [List.drop_eq_nil_of_le (by omega), List.flatMap_nil, List.append_nil]
      exact ⟨frzs_msl rfl (by simp) rfl, hj, rfl⟩
  | succ n ih =>
    intro i xs gm j0 jr0 g0 hi hxl hj
    have hil : i < l.length := by omega
    have hi0 : (0 : Int) ≤ (i : Int) ∧ nl = false ∧ k = 11 := ⟨by omega, sl_at hsl hil⟩
    have hgi := getI hil
    have hmul : (i + 1) * m.length ≤ l.length * m.length := Nat.mul_le_mul_right _ (by omega)
    rw [Nat.add_mul, Nat.one_mul] at hmul
    have hst : (l.drop i).flatMap (fun x => m.map fun y => meet1S x y) = (m.map fun y => meet1S (l.getD i default) y) ++ (l.drop (i + 1)).flatMap fun x => m.map fun y => meet1S x y := by
      rw [drop_get hil, List.flatMap_cons]
    rw [hst, ← List.append_assoc] at hj ⊢
    refine loop_go 2000 _ (Eq.mpr (span_meet_go_S3 l m k k' nl full nl' full' i gm xs.length xs j0 jr0 g0 _) ⟨fun h => ⟨hi0, hgi, rfl, fun j jr g => ?_⟩, fun h => ?_⟩)
    · refine smeet_S2 l m k k' nl full nl' full' hll hlm hsl hsm hgl hgm i hil m.length 0 xs _ gm j jr g (by omega) (by omega) fun gm j jr g => ?_
      have hlen : (xs ++ m.map fun y => meet1S (l.getD i default) y).length = xs.length + m.length := by simp
      have := ih (i + 1) (xs ++ m.map fun y => meet1S (l.getD i default) y) gm j jr g (by omega) (by rw [hlen, hxl, Nat.add_mul, Nat.one_mul]) hj
      rw [hlen] at this
      exact this
    · simp only [decide_eq_false_iff_not, List.length_map] at h; omega
theorem smeet_S0 (hll : l.length < 1000000) (hlm : m.length < 1000000) (hb : l.length * m.length < 1000000) (hsl : slOk 11 k nl l.length) (hsm : slOk 11 k' nl' m.length) (hgl : ∀ x ∈ l, x.ok) (hgm : ∀ x ∈ m, x.ok) : ∀ (n i : Nat) j jr g, i + n = l.length → (m.length = 0 ∨ i = 0) →
    (l ≠ [] → m ≠ [] → Den E1 54 [listP 11 false false ((l.drop i).flatMap fun x => m.map fun y => meet1S x y)] (resL (joinS ((l.drop i).flatMap fun x => m.map fun y => meet1S x y)))) →
    LoopAt E1 Tryz.f62 (resL (joinS ((l.drop i).flatMap fun x => m.map fun y => meet1S x y))) 0 (span_meet_S0 l m k k' nl full nl' full' i j jr g) := by
  have hdj : Den E1 54 [.sl 0 true true []] (.sl 0 true true []) := den_join20 [] 0 true true ⟨fun _ => rfl, fun h => by cases h⟩ (by simp) (by simp [delN]) (fun x hx => by simp at hx)
  intro n
  induction n with
  | zero =>
    intro i j0 jr0 g0 hi h0 hj
    refine loop_go 2000 _ (Eq.mpr (span_meet_go_S0 l m k k' nl full nl' full' i j0 jr0 g0 _) ⟨fun h => ?_, fun h => ?_⟩)
    · simp only [decide_eq_true_eq, List.length_map] at h; omega
    · rw [List.drop_eq_nil_of_le (by omega)]
      exact ⟨hdj, rfl⟩
  | succ n ih =>
    intro i j0 jr0 g0 hi h0 hj
    have hil : i < l.length := by omega
    have hi0 : (0 : Int) ≤ (i : Int) ∧ nl = false ∧ k = 11 := ⟨by omega, sl_at hsl hil⟩
    have hgi := getI hil
    have hw1 : IntKind.wrap IntKind.i64 ((i : Int) + 1) = ((i + 1 : Nat) : Int) := wrap_i64 _ (by omega) (by omega)
    have hst : (l.drop i).flatMap (fun x => m.map fun y => meet1S x y) = (m.map fun y => meet1S (l.getD i default) y) ++ (l.drop (i + 1)).flatMap fun x => m.map fun y => meet1S x y := by
      rw [drop_get hil, List.flatMap_cons]
    rw [hst] at hj ⊢
    refine loop_go 2000 _ (Eq.mpr (span_meet_go_S0 l m k k' nl full nl' full' i j0 jr0 g0 _) ⟨fun h => ⟨hi0, hgi, rfl, fun j jr g => ?_⟩, fun h => ?_⟩)
    · rcases Nat.eq_zero_or_pos m.length with hm | hm
      · have hm' : m = [] := List.length_eq_zero_iff.1 hm
        refine loop_go 2000 _ (Eq.mpr (span_meet_go_S1 l m k k' nl full nl' full' i 0 _ j jr g _) ⟨fun h => ?_, fun h j jr g => ?_⟩)
        · simp only [decide_eq_true_eq, List.length_map, hm] at h; omega
        · rw [hw1, hm']
          rw [hm'] at ih
          exact ih (i + 1) j jr g (by omega) (.inl rfl) fun _ h => absurd rfl h
      · have hi0 : i = 0 := by omega
        subst hi0
        have hj' := hj (by rintro rfl; simp at hil) (by rintro rfl; simp at hm)
        refine smeet_S1 l m k k' nl full nl' full' hll hlm hsl hsm hgl hgm 0 hil _ j jr g hm fun gm j jr g => ?_
        have hlen : (m.map fun y => meet1S (l.getD 0 default) y).length = m.length := by simp
        have := smeet_S3 l m k k' nl full nl' full' hll hlm hb hsl hsm hgl hgm hm n 1 (m.map fun y => meet1S (l.getD 0 default) y) gm j jr g (by omega) (by rw [hlen, Nat.one_mul]) hj'
        rw [hlen] at this
        exact this
    · simp only [decide_eq_false_iff_not, List.length_map] at h; omega
theorem den_span_meet (hll : l.length < 1000000) (hlm : m.length < 1000000) (hb : l.length * m.length < 1000000) (hsl : slOk 11 k nl l.length) (hsm : slOk 11 k' nl' m.length) (hgl : ∀ x ∈ l, x.ok) (hgm : ∀ x ∈ m, x.ok)
    (hj : l ≠ [] → m ≠ [] → Den E1 54 [listP 11 false false (l.flatMap fun x => m.map fun y => meet1S x y)] (resL (joinS (l.flatMap fun x => m.map fun y => meet1S x y)))) :
    Den E1 62 [listP k nl full l, listP k' nl' full' m] (resL (meetS l m)) :=
  den1 2000 _ rfl (by kernel_rfl) rfl rfl rfl (Eq.mpr (span_meet_go l m k k' nl full nl' full' _) fun j jr g => smeet_S0 l m k k' nl full nl' full' hll hlm hb hsl hsm hgl hgm l.length 0 j jr g (by omega) (.inr rfl) hj)
theorem meets_ok (hgl : ∀ x ∈ l, x.ok) (hgm : ∀ x ∈ m, x.ok) : ∀ x ∈ (l.flatMap fun x => m.map fun y => meet1S x y), x.ok := by
  intro z hz
  obtain ⟨x, hx, hz⟩ := List.mem_flatMap.1 hz
  obtain ⟨y, hy, rfl⟩ := List.mem_map.1 hz
  exact meet1S_ok (hgl x hx) (hgm y hy)
theorem meets_len : (l.flatMap fun x => m.map fun y => meet1S x y).length = l.length * m.length := by
  induction l with
  | nil => simp
  | cons x l ih => rw [List.flatMap_cons, List.length_append, ih, List.length_map, List.length_cons, Nat.add_mul, Nat.one_mul, Nat.add_comm]
theorem den_span_meet20 (hb : l.length * m.length < 20) (hll : l.length < 1000000) (hlm : m.length < 1000000) (hsl : slOk 11 k nl l.length) (hsm : slOk 11 k' nl' m.length) (hgl : ∀ x ∈ l, x.ok) (hgm : ∀ x ∈ m, x.ok) :
    Den E1 62 [listP k nl full l, listP k' nl' full' m] (resL (meetS l m)) := by
  refine den_span_meet l m k k' nl full nl' full' hll hlm (by omega) hsl hsm hgl hgm fun h1 h2 => ?_
  have hlen := meets_len l m
  have h1' := List.length_pos_iff.2 h1
  have h2' := List.length_pos_iff.2 h2
  have hpos := Nat.mul_pos h1' h2'
  exact den_join20 _ 11 false false ⟨fun h => by simp at h, fun _ => rfl⟩ (by rw [hlen]; omega) (Nat.lt_of_le_of_lt (delN_le _) (by rw [hlen]; omega)) (meets_ok l m hgl hgm)
end
end Go.Proofs.YtlhfgonjcpapnaaGreatDoor.Abs

namespace Go.Proofs.YtlhfgonjcpapnaaGreatDoor.Abs
open Go Go.Proofs
theorem span_compared_go (s : List UInt8) (r : PV) : FnGo E1 Tryz.f91 [strP s] r 2000 (.res (strP (trimL s)) (.res (.tup [V.p (rdV true (trimL s)), intP (errV (rdOk (trimL s)))]) (.fork (.hole 0) (.fork (.br true (.res (.sl 11 false true [I.p ⟨(rdV true (trimL s)), false, zV, false, true⟩]) (.res (resL (joinS [downI (rdV true (trimL s)) false])) (.res (resL (meetS [⟨rdV true (trimL s), false, zV, false, true⟩] (joinS [downI (rdV true (trimL s)) false]))) (.hole 0))))) (.fork (.res (.sl 11 false true [I.p ⟨(rdV true (trimL s)), false, zV, false, true⟩]) (.res (resL (joinS [downI (rdV true (trimL s)) false])) (.res (resL (meetS [⟨rdV true (trimL s), false, zV, false, true⟩] (joinS [downI (rdV true (trimL s)) false]))) (.hole 0)))) (.fork (.res (resL (joinS [downI (rdV true (trimL s)) true])) (.hole 0)) (.fork (.res (resL (joinS [downI (rdV true (trimL s)) false])) (.hole 0)) (.fork (.res (.sl 11 false true [I.p ⟨(rdV true (trimL s)), true, zV, false, true⟩]) (.hole 0)) (.fork (.res (.sl 11 false true [I.p ⟨(rdV true (trimL s)), false, zV, false, true⟩]) (.hole 0)) (.fork (.fork (.res (.tup [V.p (nextV (rdV true (trimL s)) (0 : Int)), intP (nextE (rdV true (trimL s)) (0 : Int))]) (.fork (.res (.sl 11 false true [I.p ⟨(rdV true (trimL s)), false, zV, false, true⟩]) (.hole 0)) (.res (.tup [verP (V.a (nextV (rdV true (trimL s)) (0 : Int))) (V.b (nextV (rdV true (trimL s)) (0 : Int))) (V.c (nextV (rdV true (trimL s)) (0 : Int))) (.sl 1 false true [strP [48]]), intP 0]) (.res (.sl 11 false true [I.p ⟨(rdV true (trimL s)), false, zV, false, true⟩]) (.res (resL (joinS [downI ⟨V.a (nextV (rdV true (trimL s)) (0 : Int)), V.b (nextV (rdV true (trimL s)) (0 : Int)), V.c (nextV (rdV true (trimL s)) (0 : Int)), 1, false, true, [[48]]⟩ true])) (.res (resL (meetS [⟨rdV true (trimL s), false, zV, false, true⟩] (joinS [downI ⟨V.a (nextV (rdV true (trimL s)) (0 : Int)), V.b (nextV (rdV true (trimL s)) (0 : Int)), V.c (nextV (rdV true (trimL s)) (0 : Int)), 1, false, true, [[48]]⟩ true]))) (.hole 0))))))) (.fork (.res (.tup [V.p (nextV (rdV true (trimL s)) (1 : Int)), intP (nextE (rdV true (trimL s)) (1 : Int))]) (.fork (.res (.sl 11 false true [I.p ⟨(rdV true (trimL s)), false, zV, false, true⟩]) (.hole 0)) (.res (.tup [verP (V.a (nextV (rdV true (trimL s)) (1 : Int))) (V.b (nextV (rdV true (trimL s)) (1 : Int))) (V.c (nextV (rdV true (trimL s)) (1 : Int))) (.sl 1 false true [strP [48]]), intP 0]) (.res (.sl 11 false true [I.p ⟨(rdV true (trimL s)), false, zV, false, true⟩]) (.res (resL (joinS [downI ⟨V.a (nextV (rdV true (trimL s)) (1 : Int)), V.b (nextV (rdV true (trimL s)) (1 : Int)), V.c (nextV (rdV true (trimL s)) (1 : Int)), 1, false, true, [[48]]⟩ true])) (.res (resL (meetS [⟨rdV true (trimL s), false, zV, false, true⟩] (joinS [downI ⟨V.a (nextV (rdV true (trimL s)) (1 : Int)), V.b (nextV (rdV true (trimL s)) (1 : Int)), V.c (nextV (rdV true (trimL s)) (1 : Int)), 1, false, true, [[48]]⟩ true]))) (.hole 0))))))) (.res (.tup [V.p (nextV (rdV true (trimL s)) (2 : Int)), intP (nextE (rdV true (trimL s)) (2 : Int))]) (.fork (.res (.sl 11 false true [I.p ⟨(rdV true (trimL s)), false, zV, false, true⟩]) (.hole 0)) (.res (.tup [verP (V.a (nextV (rdV true (trimL s)) (2 : Int))) (V.b (nextV (rdV true (trimL s)) (2 : Int))) (V.c (nextV (rdV true (trimL s)) (2 : Int))) (.sl 1 false true [strP [48]]), intP 0]) (.res (.sl 11 false true [I.p ⟨(rdV true (trimL s)), false, zV, false, true⟩]) (.res (resL (joinS [downI ⟨V.a (nextV (rdV true (trimL s)) (2 : Int)), V.b (nextV (rdV true (trimL s)) (2 : Int)), V.c (nextV (rdV true (trimL s)) (2 : Int)), 1, false, true, [[48]]⟩ true])) (.res (resL (meetS [⟨rdV true (trimL s), false, zV, false, true⟩] (joinS [downI ⟨V.a (nextV (rdV true (trimL s)) (2 : Int)), V.b (nextV (rdV true (trimL s)) (2 : Int)), V.c (nextV (rdV true (trimL s)) (2 : Int)), 1, false, true, [[48]]⟩ true]))) (.hole 0))))))))) (.fork (.res (.tup [V.p (nextV (rdV true (trimL s)) (1 : Int)), intP (nextE (rdV true (trimL s)) (1 : Int))]) (.fork (.res (.sl 11 false true [I.p ⟨(rdV true (trimL s)), false, zV, false, true⟩]) (.hole 0)) (.res (.tup [verP (V.a (nextV (rdV true (trimL s)) (1 : Int))) (V.b (nextV (rdV true (trimL s)) (1 : Int))) (V.c (nextV (rdV true (trimL s)) (1 : Int))) (.sl 1 false true [strP [48]]), intP 0]) (.res (.sl 11 false true [I.p ⟨(rdV true (trimL s)), false, zV, false, true⟩]) (.res (resL (joinS [downI ⟨V.a (nextV (rdV true (trimL s)) (1 : Int)), V.b (nextV (rdV true (trimL s)) (1 : Int)), V.c (nextV (rdV true (trimL s)) (1 : Int)), 1, false, true, [[48]]⟩ true])) (.res (resL (meetS [⟨rdV true (trimL s), false, zV, false, true⟩] (joinS [downI ⟨V.a (nextV (rdV true (trimL s)) (1 : Int)), V.b (nextV (rdV true (trimL s)) (1 : Int)), V.c (nextV (rdV true (trimL s)) (1 : Int)), 1, false, true, [[48]]⟩ true]))) (.hole 0))))))) (.hole 0)))))))))))) =
  ((Den E1 127 [strP s, strP [60, 62, 61, 126, 94]] (strP (trimL s))) ∧
 (Den E1 34 [strP (trimL s)] (.tup [V.p (rdV true (trimL s)), intP (errV (rdOk (trimL s)))])) ∧
 ((10 : Nat) = 10) ∧
 ((errV (rdOk (trimL s)) != (0 : Int)) = true →
 ((.tup [.sl 0 true true [], bolP false]) : PV) = r) ∧
 ((errV (rdOk (trimL s)) != (0 : Int)) = false →
 (((0 : Int) ≤ IntKind.i64.wrap ((↑(ByteArray.size (bs s)) : Int) - (↑(ByteArray.size (bs (trimL s))) : Int))) ∧ (IntKind.i64.wrap ((↑(ByteArray.size (bs s)) : Int) - (↑(ByteArray.size (bs (trimL s))) : Int)) ≤ (↑(ByteArray.size (bs s)) : Int))) ∧
 ((ByteArray.toList (ByteArray.extract (bs s) (0 : Nat) (Int.toNat (IntKind.i64.wrap ((↑(ByteArray.size (bs s)) : Int) - (↑(ByteArray.size (bs (trimL s))) : Int))))) == ByteArray.toList (bs [])) = true →
 ((ByteArray.toList (ByteArray.extract (bs s) (0 : Nat) (Int.toNat (IntKind.i64.wrap ((↑(ByteArray.size (bs s)) : Int) - (↑(ByteArray.size (bs (trimL s))) : Int))))) == ByteArray.toList (bs [])) = true) ∧
 ((10 : Nat) = 10) ∧
 (Den E1 128 [V.p (rdV true (trimL s)), bolP false] (.sl 11 false true [I.p ⟨(rdV true (trimL s)), false, zV, false, true⟩])) ∧
 ((10 : Nat) = 10) ∧
 (Den E1 129 [V.p (rdV true (trimL s)), bolP false] (resL (joinS [downI (rdV true (trimL s)) false]))) ∧
 (Den E1 62 [.sl 11 false true [I.p ⟨(rdV true (trimL s)), false, zV, false, true⟩], resL (joinS [downI (rdV true (trimL s)) false])] (resL (meetS [⟨rdV true (trimL s), false, zV, false, true⟩] (joinS [downI (rdV true (trimL s)) false])))) ∧
 ((.tup [resL (meetS [⟨rdV true (trimL s), false, zV, false, true⟩] (joinS [downI (rdV true (trimL s)) false])), bolP true]) : PV) = r) ∧
 ((ByteArray.toList (ByteArray.extract (bs s) (0 : Nat) (Int.toNat (IntKind.i64.wrap ((↑(ByteArray.size (bs s)) : Int) - (↑(ByteArray.size (bs (trimL s))) : Int))))) == ByteArray.toList (bs [])) = false →
 ((ByteArray.toList (ByteArray.extract (bs s) (0 : Nat) (Int.toNat (IntKind.i64.wrap ((↑(ByteArray.size (bs s)) : Int) - (↑(ByteArray.size (bs (trimL s))) : Int))))) == ByteArray.toList (bs [61])) = true →
 ((10 : Nat) = 10) ∧
 (Den E1 128 [V.p (rdV true (trimL s)), bolP false] (.sl 11 false true [I.p ⟨(rdV true (trimL s)), false, zV, false, true⟩])) ∧
 ((10 : Nat) = 10) ∧
 (Den E1 129 [V.p (rdV true (trimL s)), bolP false] (resL (joinS [downI (rdV true (trimL s)) false]))) ∧
 (Den E1 62 [.sl 11 false true [I.p ⟨(rdV true (trimL s)), false, zV, false, true⟩], resL (joinS [downI (rdV true (trimL s)) false])] (resL (meetS [⟨rdV true (trimL s), false, zV, false, true⟩] (joinS [downI (rdV true (trimL s)) false])))) ∧
 ((.tup [resL (meetS [⟨rdV true (trimL s), false, zV, false, true⟩] (joinS [downI (rdV true (trimL s)) false])), bolP true]) : PV) = r) ∧
 ((ByteArray.toList (ByteArray.extract (bs s) (0 : Nat) (Int.toNat (IntKind.i64.wrap ((↑(ByteArray.size (bs s)) : Int) - (↑(ByteArray.size (bs (trimL s))) : Int))))) == ByteArray.toList (bs [61])) = false →
 ((ByteArray.toList (ByteArray.extract (bs s) (0 : Nat) (Int.toNat (IntKind.i64.wrap ((↑(ByteArray.size (bs s)) : Int) - (↑(ByteArray.size (bs (trimL s))) : Int))))) == ByteArray.toList (bs [60])) = true →
 ((10 : Nat) = 10) ∧
 (Den E1 129 [V.p (rdV true (trimL s)), bolP true] (resL (joinS [downI (rdV true (trimL s)) true]))) ∧
 ((.tup [resL (joinS [downI (rdV true (trimL s)) true]), bolP true]) : PV) = r) ∧
 ((ByteArray.toList (ByteArray.extract (bs s) (0 : Nat) (Int.toNat (IntKind.i64.wrap ((↑(ByteArray.size (bs s)) : Int) - (↑(ByteArray.size (bs (trimL s))) : Int))))) == ByteArray.toList (bs [60])) = false →
 ((ByteArray.toList (ByteArray.extract (bs s) (0 : Nat) (Int.toNat (IntKind.i64.wrap ((↑(ByteArray.size (bs s)) : Int) - (↑(ByteArray.size (bs (trimL s))) : Int))))) == ByteArray.toList (bs [60, 61])) = true →
 ((10 : Nat) = 10) ∧
 (Den E1 129 [V.p (rdV true (trimL s)), bolP false] (resL (joinS [downI (rdV true (trimL s)) false]))) ∧
 ((.tup [resL (joinS [downI (rdV true (trimL s)) false]), bolP true]) : PV) = r) ∧
 ((ByteArray.toList (ByteArray.extract (bs s) (0 : Nat) (Int.toNat (IntKind.i64.wrap ((↑(ByteArray.size (bs s)) : Int) - (↑(ByteArray.size (bs (trimL s))) : Int))))) == ByteArray.toList (bs [60, 61])) = false →
 ((ByteArray.toList (ByteArray.extract (bs s) (0 : Nat) (Int.toNat (IntKind.i64.wrap ((↑(ByteArray.size (bs s)) : Int) - (↑(ByteArray.size (bs (trimL s))) : Int))))) == ByteArray.toList (bs [62])) = true →
 ((10 : Nat) = 10) ∧
 (Den E1 128 [V.p (rdV true (trimL s)), bolP true] (.sl 11 false true [I.p ⟨(rdV true (trimL s)), true, zV, false, true⟩])) ∧
 ((.tup [.sl 11 false true [I.p ⟨(rdV true (trimL s)), true, zV, false, true⟩], bolP true]) : PV) = r) ∧
 ((ByteArray.toList (ByteArray.extract (bs s) (0 : Nat) (Int.toNat (IntKind.i64.wrap ((↑(ByteArray.size (bs s)) : Int) - (↑(ByteArray.size (bs (trimL s))) : Int))))) == ByteArray.toList (bs [62])) = false →
 ((ByteArray.toList (ByteArray.extract (bs s) (0 : Nat) (Int.toNat (IntKind.i64.wrap ((↑(ByteArray.size (bs s)) : Int) - (↑(ByteArray.size (bs (trimL s))) : Int))))) == ByteArray.toList (bs [62, 61])) = true →
 ((10 : Nat) = 10) ∧
 (Den E1 128 [V.p (rdV true (trimL s)), bolP false] (.sl 11 false true [I.p ⟨(rdV true (trimL s)), false, zV, false, true⟩])) ∧
 ((.tup [.sl 11 false true [I.p ⟨(rdV true (trimL s)), false, zV, false, true⟩], bolP true]) : PV) = r) ∧
 ((ByteArray.toList (ByteArray.extract (bs s) (0 : Nat) (Int.toNat (IntKind.i64.wrap ((↑(ByteArray.size (bs s)) : Int) - (↑(ByteArray.size (bs (trimL s))) : Int))))) == ByteArray.toList (bs [62, 61])) = false →
 ((ByteArray.toList (ByteArray.extract (bs s) (0 : Nat) (Int.toNat (IntKind.i64.wrap ((↑(ByteArray.size (bs s)) : Int) - (↑(ByteArray.size (bs (trimL s))) : Int))))) == ByteArray.toList (bs [94])) = true →
 ((10 : Nat) = 10) ∧
 ((decide (V.a (rdV true (trimL s)) > (0 : Int))) = true →
 ((10 : Nat) = 10) ∧
 (Den E1 130 [V.p (rdV true (trimL s)), intP 0] (.tup [V.p (nextV (rdV true (trimL s)) (0 : Int)), intP (nextE (rdV true (trimL s)) (0 : Int))])) ∧
 ((48 : Nat) = 48) ∧
 ((nextE (rdV true (trimL s)) (0 : Int) != (0 : Int)) = true →
 ((10 : Nat) = 10) ∧
 (Den E1 128 [V.p (rdV true (trimL s)), bolP false] (.sl 11 false true [I.p ⟨(rdV true (trimL s)), false, zV, false, true⟩])) ∧
 ((.tup [.sl 11 false true [I.p ⟨(rdV true (trimL s)), false, zV, false, true⟩], bolP true]) : PV) = r) ∧
 ((nextE (rdV true (trimL s)) (0 : Int) != (0 : Int)) = false →
 ((48 : Nat) = 48) ∧
 (Den E1 131 [V.p (nextV (rdV true (trimL s)) (0 : Int))] (.tup [verP (V.a (nextV (rdV true (trimL s)) (0 : Int))) (V.b (nextV (rdV true (trimL s)) (0 : Int))) (V.c (nextV (rdV true (trimL s)) (0 : Int))) (.sl 1 false true [strP [48]]), intP 0])) ∧
 ((48 : Nat) = 48) ∧
 ((10 : Nat) = 10) ∧
 (Den E1 128 [V.p (rdV true (trimL s)), bolP false] (.sl 11 false true [I.p ⟨(rdV true (trimL s)), false, zV, false, true⟩])) ∧
 ((48 : Nat) = 48) ∧
 (Den E1 129 [verP (V.a (nextV (rdV true (trimL s)) (0 : Int))) (V.b (nextV (rdV true (trimL s)) (0 : Int))) (V.c (nextV (rdV true (trimL s)) (0 : Int))) (.sl 1 false true [strP [48]]), bolP true] (resL (joinS [downI ⟨V.a (nextV (rdV true (trimL s)) (0 : Int)), V.b (nextV (rdV true (trimL s)) (0 : Int)), V.c (nextV (rdV true (trimL s)) (0 : Int)), 1, false, true, [[48]]⟩ true]))) ∧
 (Den E1 62 [.sl 11 false true [I.p ⟨(rdV true (trimL s)), false, zV, false, true⟩], resL (joinS [downI ⟨V.a (nextV (rdV true (trimL s)) (0 : Int)), V.b (nextV (rdV true (trimL s)) (0 : Int)), V.c (nextV (rdV true (trimL s)) (0 : Int)), 1, false, true, [[48]]⟩ true])] (resL (meetS [⟨rdV true (trimL s), false, zV, false, true⟩] (joinS [downI ⟨V.a (nextV (rdV true (trimL s)) (0 : Int)), V.b (nextV (rdV true (trimL s)) (0 : Int)), V.c (nextV (rdV true (trimL s)) (0 : Int)), 1, false, true, [[48]]⟩ true])))) ∧
 ((.tup [resL (meetS [⟨rdV true (trimL s), false, zV, false, true⟩] (joinS [downI ⟨V.a (nextV (rdV true (trimL s)) (0 : Int)), V.b (nextV (rdV true (trimL s)) (0 : Int)), V.c (nextV (rdV true (trimL s)) (0 : Int)), 1, false, true, [[48]]⟩ true])), bolP true]) : PV) = r)) ∧
 ((decide (V.a (rdV true (trimL s)) > (0 : Int))) = false →
 ((10 : Nat) = 10) ∧
 ((decide (V.b (rdV true (trimL s)) > (0 : Int))) = true →
 ((10 : Nat) = 10) ∧
 (Den E1 130 [V.p (rdV true (trimL s)), intP 1] (.tup [V.p (nextV (rdV true (trimL s)) (1 : Int)), intP (nextE (rdV true (trimL s)) (1 : Int))])) ∧
 ((51 : Nat) = 51) ∧
 ((nextE (rdV true (trimL s)) (1 : Int) != (0 : Int)) = true →
 ((10 : Nat) = 10) ∧
 (Den E1 128 [V.p (rdV true (trimL s)), bolP false] (.sl 11 false true [I.p ⟨(rdV true (trimL s)), false, zV, false, true⟩])) ∧
 ((.tup [.sl 11 false true [I.p ⟨(rdV true (trimL s)), false, zV, false, true⟩], bolP true]) : PV) = r) ∧
 ((nextE (rdV true (trimL s)) (1 : Int) != (0 : Int)) = false →
 ((51 : Nat) = 51) ∧
 (Den E1 131 [V.p (nextV (rdV true (trimL s)) (1 : Int))] (.tup [verP (V.a (nextV (rdV true (trimL s)) (1 : Int))) (V.b (nextV (rdV true (trimL s)) (1 : Int))) (V.c (nextV (rdV true (trimL s)) (1 : Int))) (.sl 1 false true [strP [48]]), intP 0])) ∧
 ((51 : Nat) = 51) ∧
 ((10 : Nat) = 10) ∧
 (Den E1 128 [V.p (rdV true (trimL s)), bolP false] (.sl 11 false true [I.p ⟨(rdV true (trimL s)), false, zV, false, true⟩])) ∧
 ((51 : Nat) = 51) ∧
 (Den E1 129 [verP (V.a (nextV (rdV true (trimL s)) (1 : Int))) (V.b (nextV (rdV true (trimL s)) (1 : Int))) (V.c (nextV (rdV true (trimL s)) (1 : Int))) (.sl 1 false true [strP [48]]), bolP true] (resL (joinS [downI ⟨V.a (nextV (rdV true (trimL s)) (1 : Int)), V.b (nextV (rdV true (trimL s)) (1 : Int)), V.c (nextV (rdV true (trimL s)) (1 : Int)), 1, false, true, [[48]]⟩ true]))) ∧
 (Den E1 62 [.sl 11 false true [I.p ⟨(rdV true (trimL s)), false, zV, false, true⟩], resL (joinS [downI ⟨V.a (nextV (rdV true (trimL s)) (1 : Int)), V.b (nextV (rdV true (trimL s)) (1 : Int)), V.c (nextV (rdV true (trimL s)) (1 : Int)), 1, false, true, [[48]]⟩ true])] (resL (meetS [⟨rdV true (trimL s), false, zV, false, true⟩] (joinS [downI ⟨V.a (nextV (rdV true (trimL s)) (1 : Int)), V.b (nextV (rdV true (trimL s)) (1 : Int)), V.c (nextV (rdV true (trimL s)) (1 : Int)), 1, false, true, [[48]]⟩ true])))) ∧
 ((.tup [resL (meetS [⟨rdV true (trimL s), false, zV, false, true⟩] (joinS [downI ⟨V.a (nextV (rdV true (trimL s)) (1 : Int)), V.b (nextV (rdV true (trimL s)) (1 : Int)), V.c (nextV (rdV true (trimL s)) (1 : Int)), 1, false, true, [[48]]⟩ true])), bolP true]) : PV) = r)) ∧
 ((decide (V.b (rdV true (trimL s)) > (0 : Int))) = false →
 ((10 : Nat) = 10) ∧
 (Den E1 130 [V.p (rdV true (trimL s)), intP 2] (.tup [V.p (nextV (rdV true (trimL s)) (2 : Int)), intP (nextE (rdV true (trimL s)) (2 : Int))])) ∧
 ((50 : Nat) = 50) ∧
 ((nextE (rdV true (trimL s)) (2 : Int) != (0 : Int)) = true →
 ((10 : Nat) = 10) ∧
 (Den E1 128 [V.p (rdV true (trimL s)), bolP false] (.sl 11 false true [I.p ⟨(rdV true (trimL s)), false, zV, false, true⟩])) ∧
 ((.tup [.sl 11 false true [I.p ⟨(rdV true (trimL s)), false, zV, false, true⟩], bolP true]) : PV) = r) ∧
 ((nextE (rdV true (trimL s)) (2 : Int) != (0 : Int)) = false →
 ((50 : Nat) = 50) ∧
 (Den E1 131 [V.p (nextV (rdV true (trimL s)) (2 : Int))] (.tup [verP (V.a (nextV (rdV true (trimL s)) (2 : Int))) (V.b (nextV (rdV true (trimL s)) (2 : Int))) (V.c (nextV (rdV true (trimL s)) (2 : Int))) (.sl 1 false true [strP [48]]), intP 0])) ∧
 ((50 : Nat) = 50) ∧
 ((10 : Nat) = 10) ∧
 (Den E1 128 [V.p (rdV true (trimL s)), bolP false] (.sl 11 false true [I.p ⟨(rdV true (trimL s)), false, zV, false, true⟩])) ∧
 ((50 : Nat) = 50) ∧
 (Den E1 129 [verP (V.a (nextV (rdV true (trimL s)) (2 : Int))) (V.b (nextV (rdV true (trimL s)) (2 : Int))) (V.c (nextV (rdV true (trimL s)) (2 : Int))) (.sl 1 false true [strP [48]]), bolP true] (resL (joinS [downI ⟨V.a (nextV (rdV true (trimL s)) (2 : Int)), V.b (nextV (rdV true (trimL s)) (2 : Int)), V.c (nextV (rdV true (trimL s)) (2 : Int)), 1, false, true, [[48]]⟩ true]))) ∧
 (Den E1 62 [.sl 11 false true [I.p ⟨(rdV true (trimL s)), false, zV, false, true⟩], resL (joinS [downI ⟨V.a (nextV (rdV true (trimL s)) (2 : Int)), V.b (nextV (rdV true (trimL s)) (2 : Int)), V.c (nextV (rdV true (trimL s)) (2 : Int)), 1, false, true, [[48]]⟩ true])] (resL (meetS [⟨rdV true (trimL s), false, zV, false, true⟩] (joinS [downI ⟨V.a (nextV (rdV true (trimL s)) (2 : Int)), V.b (nextV (rdV true (trimL s)) (2 : Int)), V.c (nextV (rdV true (trimL s)) (2 : Int)), 1, false, true, [[48]]⟩ true])))) ∧
 ((.tup [resL (meetS [⟨rdV true (trimL s), false, zV, false, true⟩] (joinS [downI ⟨V.a (nextV (rdV true (trimL s)) (2 : Int)), V.b (nextV (rdV true (trimL s)) (2 : Int)), V.c (nextV (rdV true (trimL s)) (2 : Int)), 1, false, true, [[48]]⟩ true])), bolP true]) : PV) = r)))) ∧
 ((ByteArray.toList (ByteArray.extract (bs s) (0 : Nat) (Int.toNat (IntKind.i64.wrap ((↑(ByteArray.size (bs s)) : Int) - (↑(ByteArray.size (bs (trimL s))) : Int))))) == ByteArray.toList (bs [94])) = false →
 ((ByteArray.toList (ByteArray.extract (bs s) (0 : Nat) (Int.toNat (IntKind.i64.wrap ((↑(ByteArray.size (bs s)) : Int) - (↑(ByteArray.size (bs (trimL s))) : Int))))) == ByteArray.toList (bs [126])) = true →
 ((10 : Nat) = 10) ∧
 (Den E1 130 [V.p (rdV true (trimL s)), intP 1] (.tup [V.p (nextV (rdV true (trimL s)) (1 : Int)), intP (nextE (rdV true (trimL s)) (1 : Int))])) ∧
 ((45 : Nat) = 45) ∧
 ((nextE (rdV true (trimL s)) (1 : Int) != (0 : Int)) = true →
 ((10 : Nat) = 10) ∧
 (Den E1 128 [V.p (rdV true (trimL s)), bolP false] (.sl 11 false true [I.p ⟨(rdV true (trimL s)), false, zV, false, true⟩])) ∧
 ((.tup [.sl 11 false true [I.p ⟨(rdV true (trimL s)), false, zV, false, true⟩], bolP true]) : PV) = r) ∧
 ((nextE (rdV true (trimL s)) (1 : Int) != (0 : Int)) = false →
 ((45 : Nat) = 45) ∧
 (Den E1 131 [V.p (nextV (rdV true (trimL s)) (1 : Int))] (.tup [verP (V.a (nextV (rdV true (trimL s)) (1 : Int))) (V.b (nextV (rdV true (trimL s)) (1 : Int))) (V.c (nextV (rdV true (trimL s)) (1 : Int))) (.sl 1 false true [strP [48]]), intP 0])) ∧
 ((45 : Nat) = 45) ∧
 ((10 : Nat) = 10) ∧
 (Den E1 128 [V.p (rdV true (trimL s)), bolP false] (.sl 11 false true [I.p ⟨(rdV true (trimL s)), false, zV, false, true⟩])) ∧
 ((45 : Nat) = 45) ∧
 (Den E1 129 [verP (V.a (nextV (rdV true (trimL s)) (1 : Int))) (V.b (nextV (rdV true (trimL s)) (1 : Int))) (V.c (nextV (rdV true (trimL s)) (1 : Int))) (.sl 1 false true [strP [48]]), bolP true] (resL (joinS [downI ⟨V.a (nextV (rdV true (trimL s)) (1 : Int)), V.b (nextV (rdV true (trimL s)) (1 : Int)), V.c (nextV (rdV true (trimL s)) (1 : Int)), 1, false, true, [[48]]⟩ true]))) ∧
 (Den E1 62 [.sl 11 false true [I.p ⟨(rdV true (trimL s)), false, zV, false, true⟩], resL (joinS [downI ⟨V.a (nextV (rdV true (trimL s)) (1 : Int)), V.b (nextV (rdV true (trimL s)) (1 : Int)), V.c (nextV (rdV true (trimL s)) (1 : Int)), 1, false, true, [[48]]⟩ true])] (resL (meetS [⟨rdV true (trimL s), false, zV, false, true⟩] (joinS [downI ⟨V.a (nextV (rdV true (trimL s)) (1 : Int)), V.b (nextV (rdV true (trimL s)) (1 : Int)), V.c (nextV (rdV true (trimL s)) (1 : Int)), 1, false, true, [[48]]⟩ true])))) ∧
 ((.tup [resL (meetS [⟨rdV true (trimL s), false, zV, false, true⟩] (joinS [downI ⟨V.a (nextV (rdV true (trimL s)) (1 : Int)), V.b (nextV (rdV true (trimL s)) (1 : Int)), V.c (nextV (rdV true (trimL s)) (1 : Int)), 1, false, true, [[48]]⟩ true])), bolP true]) : PV) = r)) ∧
 ((ByteArray.toList (ByteArray.extract (bs s) (0 : Nat) (Int.toNat (IntKind.i64.wrap ((↑(ByteArray.size (bs s)) : Int) - (↑(ByteArray.size (bs (trimL s))) : Int))))) == ByteArray.toList (bs [126])) = false →
 ((.tup [.sl 0 true true [], bolP false]) : PV) = r)))))))))) := by kernel_rfl
end Go.Proofs.YtlhfgonjcpapnaaGreatDoor.Abs

set_option maxRecDepth 20000
set_option maxHeartbeats 1000000
namespace Go.Proofs.YtlhfgonjcpapnaaGreatDoor.Abs
open Go Go.Proofs
theorem stepS_len (out : List I) (x : I) : (stepS out x).length ≤ out.length + 1 := by
  unfold stepS
  split
  · simp
  · split
    · split
      · rw [List.length_set]; omega
      · omega
    · simp
theorem foldS_len : ∀ (l out : List I), (l.foldl stepS out).length ≤ out.length + l.length
  | [], out => by simp
  | x :: l, out => by
    have h1 := foldS_len l (stepS out x)
    have h2 := stepS_len out x
    simp only [List.foldl_cons, List.length_cons]
    omega
theorem joinS_len (l : List I) : (joinS l).length ≤ l.length := by
  have h := foldS_len (sortS (l.filter fun x => !deadI x)) []
  rw [sortS_len] at h
  have h2 := List.length_filter_le (fun x => !deadI x) l
  simp only [List.length_nil, Nat.zero_add] at h
  unfold joinS
  omega
theorem mem_insS {s : List I} {x y : I} (h : y ∈ insS s x) : y ∈ s ∨ y = x := by
  unfold insS at h
  rcases List.mem_append.1 h with h | h
  · exact .inl (List.mem_of_mem_take h)
  · rcases List.mem_cons.1 h with h | h
    · exact .inr h
    · exact .inl (List.mem_of_mem_drop h)
theorem mem_sortS {l : List I} {y : I} : y ∈ sortS l → y ∈ l := by
  have : ∀ (l s : List I), y ∈ l.foldl insS s → y ∈ s ∨ y ∈ l := by
    intro l
    induction l with
    | nil => intro s h; exact .inl h
    | cons x l ih =>
      intro s h
      rcases ih _ h with h | h
      · rcases mem_insS h with h | h
        · exact .inl h
        · exact .inr (List.mem_cons.2 (.inl h))
      · exact .inr (List.mem_cons.2 (.inr h))
  intro h
  rcases this l [] h with h | h
  · simp at h
  · exact h
theorem stepS_all {P : I → Prop} (hb : ∀ x y, P x → P y → P (betE x.low y.high)) {out : List I} {x : I} (ho : ∀ y ∈ out, P y) (hx : P x) : ∀ y ∈ stepS out x, P y := by
  unfold stepS
  split
  · intro y hy; rw [List.mem_singleton.1 hy]; exact hx
  · rename_i hne
    have hlt : out.length - 1 < out.length := by
      have : out ≠ [] := by rintro rfl; simp at hne
      have := List.length_pos_iff.2 this
      omega
    split
    · split
      · intro y hy
        rcases List.mem_or_eq_of_mem_set hy with hy | rfl
        · exact ho y hy
        · exact hb _ _ (ho _ (getD_mem hlt default)) hx
      · exact ho
    · intro y hy
      rcases List.mem_append.1 hy with hy | hy
      · exact ho y hy
      · rw [List.mem_singleton.1 hy]; exact hx
theorem joinS_all {P : I → Prop} (hb : ∀ x y, P x → P y → P (betE x.low y.high)) {l : List I} (hl : ∀ x ∈ l, P x) : ∀ y ∈ joinS l, P y := by
  have : ∀ (l out : List I), (∀ x ∈ l, P x) → (∀ y ∈ out, P y) → ∀ y ∈ l.foldl stepS out, P y := by
    intro l
    induction l with
    | nil => intro out _ h; exact h
    | cons x l ih => intro out h1 h2; exact ih _ (fun y hy => h1 y (List.mem_cons_of_mem _ hy)) (stepS_all hb h2 (h1 x (List.mem_cons_self ..)))
  unfold joinS
  exact this _ [] (fun x hx => hl x (List.mem_filter.1 (mem_sortS hx)).1) (by simp)
theorem joinS_ok {l : List I} (hl : ∀ x ∈ l, x.ok) : ∀ y ∈ joinS l, y.ok := joinS_all (P := I.ok) (fun x y hx hy => bet_ok hx.lo hy.hi) hl
theorem meetS_ok {l m : List I} (hl : ∀ x ∈ l, x.ok) (hm : ∀ x ∈ m, x.ok) : ∀ y ∈ meetS l m, y.ok := joinS_ok (meets_ok l m hl hm)
theorem meetS_len (l m : List I) : (meetS l m).length ≤ l.length * m.length := by
  have := joinS_len (l.flatMap fun x => m.map fun y => meet1S x y)
  rw [meets_len] at this
  exact this
theorem one_ok {x : I} (h : x.ok) : ∀ y ∈ [x], y.ok := fun y hy => by rw [List.mem_singleton.1 hy]; exact h
theorem down_ok {v : V} (hv : v.ok) (o : Bool) : (downI v o).ok := ⟨bottom_ok, hv⟩
theorem from_ok {v : V} (hv : v.ok) (o : Bool) : (fromI v o).ok := ⟨hv, zV_ok⟩
theorem tw_sl (l : List I) : slOk 11 (twK l) (twN l) l.length := by
  unfold twK twN
  refine ⟨fun h => by simpa using h, fun h => ?_⟩
  have : ¬ l.length = 0 := by simpa using h
  rw [if_neg this]
theorem den_meet_fd (v w : V) (o p : Bool) (hv : v.ok) (hw : w.ok) : Den E1 62 [.sl 11 false true [itvP v.a v.b v.c (preP v.k v.nl v.full v.pre) o 0 0 0 (.sl 0 true true []) false true], resL (joinS [downI w p])] (resL (meetS [⟨v, o, zV, false, true⟩] (joinS [downI w p]))) := by
  have hl := joinS_len [downI w p]
  simp only [List.length_singleton] at hl
  exact den_span_meet20 [fromI v o] (joinS [downI w p]) 11 _ false true _ _ (by simp only [List.length_singleton, Nat.one_mul]; omega) (by simp) (by omega) ⟨(by simp), fun _ => rfl⟩ (tw_sl _) (one_ok (from_ok hv o)) (joinS_ok (one_ok (down_ok hw p)))
theorem res_fd {c : LF × Bool} {v w : V} {o p : Bool} (h : c = (lfR (meetS [fromI v o] (joinS [downI w p])), true)) : (.tup [resL (meetS [⟨v, o, zV, false, true⟩] (joinS [downI w p])), bolP true] : PV) = .tup [c.1.p, bolP c.2] := by rw [h]; try rfl
theorem res_d {c : LF × Bool} {w : V} {p : Bool} (h : c = (lfR (joinS [downI w p]), true)) : (.tup [resL (joinS [downI w p]), bolP true] : PV) = .tup [c.1.p, bolP c.2] := by rw [h]; try rfl
theorem res_f {c : LF × Bool} {v : V} {o : Bool} (h : c = (lf1 (fromI v o), true)) : (.tup [.sl 11 false true [itvP v.a v.b v.c (preP v.k v.nl v.full v.pre) o 0 0 0 (.sl 0 true true []) false true], bolP true] : PV) = .tup [c.1.p, bolP c.2] := by rw [h]; try rfl
theorem res_no {c : LF × Bool} (h : c = (lf0, false)) : (.tup [.sl 0 true true [], bolP false] : PV) = .tup [c.1.p, bolP c.2] := by rw [h]; try rfl
theorem wrap_u32_of {n : Int} (h0 : 0 ≤ n) (h : n < 4294967296) : IntKind.wrap IntKind.u32 n = n := by
  simp only [IntKind.wrap, IntKind.bits, IntKind.signed, Bool.false_and, Bool.false_eq_true, if_false]
  omega
theorem next_num {x : Int} (hx : u32 x) (h1 : x ≤ 2147483647) (h2 : ¬ x = 2147483647) : IntKind.wrap IntKind.u32 (x + 1) = x + 1 := wrap_u32_of (by have := hx.1; omega) (by omega)
theorem mayV_iff (v : V) : mayV v = true ↔ v.a ≤ 2147483647 ∧ v.b ≤ 2147483647 ∧ v.c ≤ 2147483647 ∧ v.pre.length ≤ 8 ∧ v.pre.all identL = true := by
  simp only [mayV, Bool.and_eq_true, decide_eq_true_eq, and_assoc]
theorem next_is (v : V) (hv : v.ok) (n : Int) (h0 : 0 ≤ n) (h2 : n ≤ 2) : (nextV v n).ok ∧ mayV (nextV v n) = true := by
  cases hn : nextOk v n with
  | false =>
    have : nextV v n = zV := by simp [nextV, hn]
    rw [this]; exact ⟨zV_ok, zV_may⟩
  | true =>
    have hn' := hn
    simp only [nextOk, Bool.and_eq_true, Bool.not_eq_true', Bool.and_eq_false_iff, beq_eq_false_iff_ne, ne_eq] at hn'
    obtain ⟨⟨⟨hm, ha⟩, hb⟩, hc⟩ := hn'
    obtain ⟨ma, mb, mc, _, _⟩ := (mayV_iff v).1 hm
    have hz : u32 0 := ⟨by omega, by omega⟩
    have hs : slOk 1 0 true 0 := ⟨fun _ => rfl, fun h => by cases h⟩
    rcases (show n = 0 ∨ n = 1 ∨ n = 2 by omega) with rfl | rfl | rfl
    · have h := next_num hv.a ma (by simpa using ha)
      have ha' : ¬ v.a = 2147483647 := by simpa using ha
      have e : nextV v 0 = ⟨v.a + 1, 0, 0, 0, true, true, []⟩ := by simp [nextV, hn, h]
      rw [e]
      exact ⟨⟨⟨by have := hv.a.1; show 0 ≤ v.a + 1; omega, by show v.a + 1 < _; omega⟩, hz, hz, hs, by unfold small; simp, fun s hs => by simp at hs⟩, (mayV_iff _).2 ⟨by show v.a + 1 ≤ _; omega, by simp, by simp, by simp, by simp⟩⟩
    · have hb' : ¬ v.b = 2147483647 := by simpa using hb
      have h := next_num hv.b mb hb'
      have e : nextV v 1 = ⟨v.a, v.b + 1, 0, 0, true, true, []⟩ := by simp [nextV, hn, h]
      rw [e]
      exact ⟨⟨hv.a, ⟨by have := hv.b.1; show 0 ≤ v.b + 1; omega, by show v.b + 1 < _; omega⟩, hz, hs, by unfold small; simp, fun s hs => by simp at hs⟩, (mayV_iff _).2 ⟨ma, by show v.b + 1 ≤ _; omega, by simp, by simp, by simp⟩⟩
    · have hc' : ¬ v.c = 2147483647 := by simpa using hc
      have h := next_num hv.c mc hc'
      have e : nextV v 2 = ⟨v.a, v.b, v.c + 1, 0, true, true, []⟩ := by simp [nextV, hn, h]
      rw [e]
      exact ⟨⟨hv.a, hv.b, ⟨by have := hv.c.1; show 0 ≤ v.c + 1; omega, by show v.c + 1 < _; omega⟩, hs, by unfold small; simp, fun s hs => by simp at hs⟩, (mayV_iff _).2 ⟨ma, mb, by show v.c + 1 ≤ _; omega, by simp, by simp⟩⟩
theorem least_is {v : V} (hv : v.ok) (hm : mayV v = true) : (leastV v).ok ∧ mayV (leastV v) = true := by
  obtain ⟨ma, mb, mc, _, _⟩ := (mayV_iff v).1 hm
  refine ⟨⟨hv.a, hv.b, hv.c, ⟨fun h => by simp [leastV] at h, fun _ => rfl⟩, by simp [leastV, small], fun s hs => by simp [leastV] at hs; simp [hs, small]⟩, (mayV_iff _).2 ⟨ma, mb, mc, by simp [leastV], ?_⟩⟩
  show [[(48 : UInt8)]].all identL = true
  decide
theorem nextE_ne {v : V} {n : Int} : (nextE v n != 0) = !nextOk v n := by
  unfold nextE
  cases h : nextOk v n with
  | true =>
    have : mayV v = true := by simp only [nextOk, Bool.and_eq_true] at h; exact h.1.1.1
    simp [this]
  | false => cases mayV v <;> simp
theorem trim_le : ∀ s : List UInt8, (trimL s).length ≤ s.length
  | [] => by simp [trimL]
  | c :: s => by
    have := trim_le s
    unfold trimL at this ⊢
    rw [List.dropWhile_cons]
    split
    · simp only [List.length_cons]; omega
    · simp
theorem sign_sl (s : List UInt8) (hs : small s.length) : ByteArray.extract (bs s) 0 (Int.toNat (IntKind.wrap IntKind.i64 ((↑(ByteArray.size (bs s)) : Int) - (↑(ByteArray.size (bs (trimL s))) : Int)))) = bs (signL s) := by
  have := trim_le s
  unfold small at hs
  rw [extract_bs, size_bs, size_bs, wrap_i64 _ (by omega) (by omega)]
  unfold signL
  rw [List.drop_zero, Nat.sub_zero]
  congr 3
  omega
theorem upto_yes {v : V} {n : Int} (h : nextOk v n = true) : uptoS v n = lfR (meetS [fromI v false] (joinS [downI (leastV (nextV v n)) true])) := by simp [uptoS, h]
theorem upto_no {v : V} {n : Int} (h : nextOk v n = false) : uptoS v n = lf1 (fromI v false) := by simp [uptoS, h]
theorem den_span_compared (s : List UInt8) (hs : small s.length) : Den E1 91 [strP s] (.tup [(cmprS s).1.p, bolP (cmprS s).2]) := by
  have hle := trim_le s
  have ht : small (trimL s).length := by unfold small at hs ⊢; omega
  have hv : (rdV true (trimL s)).ok := rd_ok true
  have hm : mayV (rdV true (trimL s)) = true := rd_may true
  have h0 := span_compared_go s (.tup [(cmprS s).1.p, bolP (cmprS s).2])
  simp only [sign_sl s hs, toList_bs, errV_ne, nextE_ne] at h0
  refine den1 2000 _ rfl (by kernel_rfl) rfl rfl rfl (Eq.mpr h0 ?_)
  generalize hV : rdV true (trimL s) = v at hv hm ⊢
  have b1 := fun o => den_span_below v o hv
  have hup : ∀ n : Int, 0 ≤ n → n ≤ 2 → nextOk v n = true → (leastV (nextV v n)).ok := fun n h0 h2 hk => (least_is (next_is v hv n h0 h2).1 (next_is v hv n h0 h2).2).1
  have sg : ∀ {a : List UInt8}, (signL s == a) = true → signL s = a := fun h => eq_of_beq h
  have ns : ∀ {a : List UInt8}, (signL s == a) = false → ¬ signL s = a := fun h e => by rw [e] at h; simp at h
  refine ⟨den_TrimLeft s, ?_, trivial, fun h => ?_, fun h => ⟨?_, fun h1 => ?_, fun h1 => ⟨fun h2 => ?_, fun h2 => ⟨fun h3 => ?_, fun h3 => ⟨fun h4 => ?_, fun h4 => ⟨fun h5 => ?_, fun h5 => ⟨fun h6 => ?_, fun h6 => ⟨fun h7 => ?_, fun h7 => ⟨fun h8 => ?_, fun h8 => ?_⟩⟩⟩⟩⟩⟩⟩⟩⟩
  · have := den_version_Read (trimL s) ht
    rw [hV] at this
    exact this
  · exact res_no (by have h' : rdOk (trimL s) = false := not_eq.1 h; simp [cmprS, h'])
  · unfold small at hs
    simp only [size_bs]
    rw [wrap_i64 _ (by omega) (by omega)]
    omega
  · have h' : rdOk (trimL s) = true := not_eq.2 h
    exact ⟨h1, trivial, den_from v false, trivial, b1 false, den_meet_fd v v false false hv hv, res_fd (v := v) (w := v) (by simp [cmprS, h', hV, sg h1])⟩
  · have h' : rdOk (trimL s) = true := not_eq.2 h
    exact ⟨trivial, den_from v false, trivial, b1 false, den_meet_fd v v false false hv hv, res_fd (v := v) (w := v) (by simp [cmprS, h', hV, sg h2])⟩
  · have h' : rdOk (trimL s) = true := not_eq.2 h
    exact ⟨trivial, b1 true, res_d (by simp [cmprS, h', hV, sg h3])⟩
  · have h' : rdOk (trimL s) = true := not_eq.2 h
    exact ⟨trivial, b1 false, res_d (by simp [cmprS, h', hV, sg h4])⟩
  · have h' : rdOk (trimL s) = true := not_eq.2 h
    exact ⟨trivial, den_from v true, res_f (by simp [cmprS, h', hV, sg h5])⟩
  · have h' : rdOk (trimL s) = true := not_eq.2 h
    exact ⟨trivial, den_from v false, res_f (by simp [cmprS, h', hV, sg h6])⟩
  · have h' : rdOk (trimL s) = true := not_eq.2 h
    have hc : cmprS s = (uptoS v (kindV v), true) := by simp [cmprS, h', hV, sg h7]
    have no : ∀ n : Int, kindV v = n → nextOk v n = false → cmprS s = (lf1 (fromI v false), true) := fun n hk hn => by rw [hc, hk, upto_no hn]
    have yes : ∀ n : Int, kindV v = n → nextOk v n = true → cmprS s = (lfR (meetS [fromI v false] (joinS [downI (leastV (nextV v n)) true])), true) := fun n hk hn => by rw [hc, hk, upto_yes hn]
    refine ⟨trivial, fun h8 => ⟨trivial, den_Next v hv 0 (by omega) (by omega), trivial, fun h9 => ⟨trivial, den_from v false, res_f (no 0 ?_ (not_eq.1 h9))⟩, fun h9 => ⟨trivial, den_Least _ (next_is v hv 0 (by omega) (by omega)).1 (next_is v hv 0 (by omega) (by omega)).2, trivial, trivial, den_from v false, trivial, den_span_below _ true (hup 0 (by omega) (by omega) (not_eq.2 h9)), den_meet_fd v (leastV (nextV v 0)) false true hv (hup 0 (by omega) (by omega) (not_eq.2 h9)), res_fd (yes 0 ?_ (not_eq.2 h9))⟩⟩,
      fun h8 => ⟨trivial, fun h10 => ⟨trivial, den_Next v hv 1 (by omega) (by omega), trivial, fun h9 => ⟨trivial, den_from v false, res_f (no 1 ?_ (not_eq.1 h9))⟩, fun h9 => ⟨trivial, den_Least _ (next_is v hv 1 (by omega) (by omega)).1 (next_is v hv 1 (by omega) (by omega)).2, trivial, trivial, den_from v false, trivial, den_span_below _ true (hup 1 (by omega) (by omega) (not_eq.2 h9)), den_meet_fd v (leastV (nextV v 1)) false true hv (hup 1 (by omega) (by omega) (not_eq.2 h9)), res_fd (yes 1 ?_ (not_eq.2 h9))⟩⟩,
        fun h10 => ⟨trivial, den_Next v hv 2 (by omega) (by omega), trivial, fun h9 => ⟨trivial, den_from v false, res_f (no 2 ?_ (not_eq.1 h9))⟩, fun h9 => ⟨trivial, den_Least _ (next_is v hv 2 (by omega) (by omega)).1 (next_is v hv 2 (by omega) (by omega)).2, trivial, trivial, den_from v false, trivial, den_span_below _ true (hup 2 (by omega) (by omega) (not_eq.2 h9)), den_meet_fd v (leastV (nextV v 2)) false true hv (hup 2 (by omega) (by omega) (not_eq.2 h9)), res_fd (yes 2 ?_ (not_eq.2 h9))⟩⟩⟩⟩
    all_goals simp only [decide_eq_true_eq, decide_eq_false_iff_not] at h8
    all_goals try simp only [decide_eq_true_eq, decide_eq_false_iff_not] at h10
    all_goals unfold kindV
    · rw [if_pos h8]
    · rw [if_pos h8]
    · rw [if_neg h8, if_pos h10]
    · rw [if_neg h8, if_pos h10]
    · rw [if_neg h8, if_neg h10]
    · rw [if_neg h8, if_neg h10]
  · have h' : rdOk (trimL s) = true := not_eq.2 h
    have hc : cmprS s = (uptoS v 1, true) := by simp [cmprS, h', hV, sg h8]
    exact ⟨trivial, den_Next v hv 1 (by omega) (by omega), trivial, fun h9 => ⟨trivial, den_from v false, res_f (v := v) (o := false) (hc.trans (by rw [upto_no (not_eq.1 h9)]))⟩, fun h9 => ⟨trivial, den_Least _ (next_is v hv 1 (by omega) (by omega)).1 (next_is v hv 1 (by omega) (by omega)).2, trivial, trivial, den_from v false, trivial, den_span_below _ true (hup 1 (by omega) (by omega) (not_eq.2 h9)), den_meet_fd v (leastV (nextV v 1)) false true hv (hup 1 (by omega) (by omega) (not_eq.2 h9)), res_fd (v := v) (w := leastV (nextV v 1)) (o := false) (p := true) (hc.trans (by rw [upto_yes (not_eq.2 h9)]))⟩⟩
  · have h' : rdOk (trimL s) = true := not_eq.2 h
    exact res_no (by simp [cmprS, h', ns h1, ns h2, ns h3, ns h4, ns h5, ns h6, ns h7, ns h8])
end Go.Proofs.YtlhfgonjcpapnaaGreatDoor.Abs

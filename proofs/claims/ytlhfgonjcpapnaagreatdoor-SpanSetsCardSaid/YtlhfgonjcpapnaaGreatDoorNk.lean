/-
  The abstract machine over the model, its soundness, walks of the program's functions and what they compute. Conditions: the values are of their types.
-/
import Derived.Test.YtlhfgonjcpapnaaGreatDoorNj

set_option linter.all false
set_option linter.unnecessarySimpa false

namespace Go.Proofs.YtlhfgonjcpapnaaGreatDoor.Abs
open Go Go.Proofs
structure good (x : I) : Prop where
  ok : x.ok
  lo : mayV x.lo = true
  hi : mayV x.hi = true
def goods (l : List I) : Prop := ∀ x ∈ l, good x
theorem den_ref08_high (x y : I) (hx : good x) (hy : good y) : Den E1 100 [x.p, y.p] (intP (highI x y)) := by
  refine den1 2000 _ rfl (by kernel_rfl) rfl rfl rfl (Eq.mpr (ref08_high_go x y _) ?_)
  refine ⟨rfl, fun h => ⟨rfl, h, rfl, fun h2 => ?_, fun h2 => ⟨rfl, h, ?_⟩⟩, fun h => ⟨rfl, fun h2 => ⟨rfl, h, rfl, h, ?_⟩, fun h2 => ⟨rfl, rfl, den_ref07_Cmp _ _ hx.ok.hi hy.ok.hi (may_len hx.hi) (may_len hy.hi), fun h3 => ?_, fun h3 => ⟨rfl, rfl, fun h4 => ?_, fun h4 => ⟨rfl, fun h5 => ?_, fun h5 => ?_⟩⟩⟩⟩⟩
  · simp [highI, h, h2]
  · simp [highI, h, h2]
  · simp [highI, h, h2]
  · simp only [highI, h, h2, h3]; rfl
  · simp only [highI, h, h2, h3, h4]; rfl
  · rw [h5] at h4; simp only [highI, h, h2, h3, h4, h5]; rfl
  · rw [h5] at h4; simp only [highI, h, h2, h3, h4, h5]; rfl
theorem getI {l : List I} {i : Nat} (h : i < l.length) : (List.map I.p l)[i]? = some (I.p (l.getD i default)) := by
  simp [h]
theorem goods_get {l : List I} {i : Nat} (h : goods l) (hi : i < l.length) : good (l.getD i default) := by
  rw [getD_lt hi]; exact h _ (by simp)
theorem drop_get {l : List I} {i : Nat} (h : i < l.length) : l.drop i = l.getD i default :: l.drop (i + 1) := by
  rw [List.drop_eq_getElem_cons h, getD_lt h]
theorem set_map {l : List I} {i : Nat} (x : I) : List.set (List.map I.p l) i (I.p x) = List.map I.p (l.set i x) := by
  rw [List.map_set]
theorem goods_set {l : List I} {i : Nat} {x : I} (h : goods l) (hx : good x) : goods (l.set i x) := by
  intro y hy
  rcases List.mem_or_eq_of_mem_set hy with h1 | rfl
  · exact h y h1
  · exact hx
theorem goods_snoc {l : List I} {x : I} (h : goods l) (hx : good x) : goods (l ++ [x]) := by
  intro y hy
  rcases List.mem_append.1 hy with h1 | h1
  · exact h y h1
  · simp at h1; subst h1; exact hx
theorem good_up {y x : I} (hy : good y) (hx : good x) : good (upR y x) := ⟨⟨hy.ok.lo, hx.ok.hi⟩, hy.lo, hx.hi⟩
theorem fits_104 {n : Nat} (h : n ≤ 1000000) : fitsRow n 104 = true := by
  unfold fitsRow room47 maxInt
  simp only [Bool.and_eq_true, decide_eq_true_eq]
  omega
theorem resL_cons {l : List I} (h : l ≠ []) : resL l = .sl 11 false false (List.map I.p l) := by
  have : l.length ≠ 0 := fun e => h (List.length_eq_zero_iff.1 e)
  simp [resL, listP, twK, twN, this]
theorem shift_back {s xs : List I} {q : Nat} (h0 : 0 < q) (hq : q ≤ s.length) (hx : ∀ x, xs.set q x = s.take q ++ x :: s.drop q) (x : I) : (xs.set q (xs.getD (q - 1) default)).set (q - 1) x = s.take (q - 1) ++ x :: s.drop (q - 1) := by
  obtain ⟨q, rfl⟩ : ∃ n, q = n + 1 := ⟨q - 1, by omega⟩
  simp only [Nat.add_sub_cancel]
  have hql : q < s.length := by omega
  have ha : xs.getD q default = s.getD q default := by
    have h1 : (xs.set (q + 1) default)[q]? = (s.take (q + 1) ++ default :: s.drop (q + 1))[q]? := by rw [hx]
    rw [List.getElem?_set_ne (by omega), List.getElem?_append_left (by simp; omega), List.getElem?_take, if_pos (by omega)] at h1
    simp only [List.getD_eq_getElem?_getD, h1]
  have ht : s.take (q + 1) = s.take q ++ [s.getD q default] := by rw [List.take_succ_eq_append_getElem hql, getD_lt hql]
  rw [ha, hx, ht, List.append_assoc, List.set_append_right _ _ (by simp; omega)]
  have e : q - (s.take q).length = 0 := by simp; omega
  rw [e, drop_get hql]
  rfl
section
variable (l : List I) (k : Nat) (nl full : Bool)
theorem join_S7 (xs : List I) (hgx : goods xs) (hlx : xs.length < 1000000) : ∀ (n i : Nat) (ys : List I) (gm go : Nat) j jr g, i + n = xs.length → ys ≠ [] → ys.length ≤ i → goods ys →
    LoopAt E1 Tryz.f58 (resL ((xs.drop i).foldl stepR ys)) 3 (ref08_join_S7 l k nl full i gm xs.length go ys.length (List.map I.p xs) (List.map I.p ys) j jr g) := by
  intro n
  induction n with
  | zero =>
    intro i ys gm go j jr g hi hy hle hgy
    refine loop_go 2000 _ (Eq.mpr (ref08_join_go_S7 l k nl full i gm xs.length go ys.length xs ys j jr g _) ⟨fun h => ?_, fun h => ?_⟩)
    · simp only [decide_eq_true_eq] at h; omega
    · rw [List.drop_eq_nil_of_le (by omega), List.foldl_nil]
      exact frz_msl rfl (by simp) (resL_cons hy)
  | succ n ih =>
    intro i ys gm go j0 jr0 g0 hi hy hle hgy
    have hix : i < xs.length := by omega
    have hyl : 1 ≤ ys.length := List.length_pos_iff.2 hy
    have hw1 : IntKind.wrap IntKind.i64 ((ys.length : Int) - 1) = ((ys.length - 1 : Nat) : Int) := by rw [wrap_i64 _ (by omega) (by omega)]; omega
    have hw2 : IntKind.wrap IntKind.i64 ((i : Int) + 1) = ((i + 1 : Nat) : Int) := wrap_i64 _ (by omega) (by omega)
    have hgx' := goods_get hgx hix
    have hgy' := goods_get hgy (show ys.length - 1 < ys.length by omega)
    have hdy := getI (l := ys) (show ys.length - 1 < ys.length by omega)
    have hdx := getI (l := xs) hix
    have hne : ys.isEmpty = false := by simpa using hy
    rw [drop_get hix, List.foldl_cons]
    have hst : stepR ys (xs.getD i default) = if touchI (ys.getD (ys.length - 1) default) (xs.getD i default) then
        (if highI (ys.getD (ys.length - 1) default) (xs.getD i default) < 0 then ys.set (ys.length - 1) (upR (ys.getD (ys.length - 1) default) (xs.getD i default)) else ys) else ys ++ [xs.getD i default] := by
      unfold stepR; rw [hne]; rfl
    refine loop_go 2000 _ (Eq.mpr (ref08_join_go_S7 l k nl full i gm xs.length go ys.length xs ys j0 jr0 g0 _) ⟨fun h => ?_, fun h => ?_⟩)
    · simp only [hw1, hw2, Int.toNat_natCast, gI_nat, gI_zero, Nat.zero_add, eq_self, true_and, and_true]
      refine ⟨fun _ => ⟨by omega, hdy, by omega, hdx, den_touch _ _ hgy'.ok hgx'.ok hgy'.hi hgx'.lo, fun ht => ⟨by omega, hdy, by omega, hdx, den_ref08_high _ _ hgy' hgx', fun hh => ⟨by omega, hdx, by omega, hdy, by omega, hdx, by omega, ?_, fun j jr g => ?_⟩, fun hh j jr g => ?_⟩, fun ht => ⟨by omega, hdx, by omega, ?_, fun j jr g => ?_⟩⟩, fun h0 => ?_⟩
      · rw [List.getElem?_set_self (by simp; omega)]
      · have e : stepR ys (xs.getD i default) = ys.set (ys.length - 1) (upR (ys.getD (ys.length - 1) default) (xs.getD i default)) := by
          rw [hst, if_pos ht, if_pos (by simpa using hh)]
        rw [e]
        have hs2 : ∀ v : PV, List.set (List.set (List.map I.p ys) (ys.length - 1) v) (ys.length - 1) (I.p (upR (ys.getD (ys.length - 1) default) (xs.getD i default))) = List.map I.p (ys.set (ys.length - 1) (upR (ys.getD (ys.length - 1) default) (xs.getD i default))) := by
          intro v; rw [List.set_set, set_map]
        have := ih (i + 1) (ys.set (ys.length - 1) (upR (ys.getD (ys.length - 1) default) (xs.getD i default))) gm go j jr g (by omega) (by simpa using hy) (by simp; omega) (goods_set hgy (good_up hgy' hgx'))
        rw [List.length_set] at this
        rw [← hs2] at this
        exact this
      · have e : stepR ys (xs.getD i default) = ys := by
          rw [hst, if_pos ht, if_neg (by simpa using hh)]
        rw [e]
        exact ih (i + 1) ys gm go j jr g (by omega) hy (by omega) hgy
      · exact ⟨by simp, fits_104 (by omega)⟩
      · have e : stepR ys (xs.getD i default) = ys ++ [xs.getD i default] := by
          rw [hst, ht]; rfl
        rw [e]
        have := ih (i + 1) (ys ++ [xs.getD i default]) gm (g0 + 4 + 3 + 14 + 6) j jr g (by omega) (by simp) (by simp; omega) (goods_snoc hgy hgx')
        rw [List.length_append, List.map_append] at this
        exact this
      · simp only [decide_eq_false_iff_not] at h0; omega
    · simp only [decide_eq_false_iff_not] at h; omega
theorem join_S6 (xs : List I) (hgx : goods xs) (hlx : xs.length < 1000000) (h0 : xs ≠ []) (gm : Nat) (z : Row) (j0 : Nat → AV) (jr0 : Nat → Row) (g0 : Nat) :
    LoopAt E1 Tryz.f58 (resL (xs.foldl stepR [])) 3 (ref08_join_S6 l k nl full 0 gm xs.length (List.map I.p xs) z j0 jr0 g0) := by
  have hix : 0 < xs.length := List.length_pos_iff.2 h0
  have hw2 : IntKind.wrap IntKind.i64 ((0 : Int) + 1) = ((1 : Nat) : Int) := rfl
  have hz : Int.toNat 0 = 0 := rfl
  refine loop_go 2000 _ (Eq.mpr (ref08_join_go_S6 l k nl full 0 gm xs.length xs z j0 jr0 g0 _) ⟨fun h => ?_, fun h => ?_⟩)
  · simp only [hw2, hz, Nat.zero_add, eq_self, true_and, and_true]
    refine ⟨by omega, getI hix, by omega, fun j jr g => ?_⟩
    have := join_S7 l k nl full xs hgx hlx (xs.length - 1) 1 [xs.getD 0 default] gm (g0 + 4 + 3 + 14 + 6) j jr g (by omega) (by simp) (by simp) (fun y hy => by simp at hy; subst hy; rw [← List.getD_eq_getElem?_getD]; exact goods_get hgx hix)
    have e : xs.foldl stepR [] = (xs.drop 1).foldl stepR [xs.getD 0 default] := by
      cases xs with
      | nil => exact absurd rfl h0
      | cons x xs => rfl
    rw [e]
    exact this
  · simp only [decide_eq_false_iff_not] at h; omega
theorem join_S2 (i : Nat) (hll : l.length < 1000000) (hil : i < l.length) (hsl : slOk 11 k nl l.length) {r : PV} {s : List I} {p : Nat} (hp : p ≤ s.length) (hls : s.length < 1000000)
    (next : ∀ gm j jr g, LoopAt E1 Tryz.f58 r 0 (ref08_join_S3 l k nl full (i + 1 : Nat) gm (s.length + 1) (List.map I.p (s.take p ++ l.getD i default :: s.drop p)) j jr g)) :
    ∀ (n q : Nat) (xs : List I) (gm : Nat) j jr g, p + n = q → q ≤ s.length → xs.length = s.length + 1 → (∀ x, xs.set q x = s.take q ++ x :: s.drop q) →
    LoopAt E1 Tryz.f58 r 2 (ref08_join_S2 l k nl full i p q gm (s.length + 1) (List.map I.p xs) j jr g) := by
  have hw1 : IntKind.wrap IntKind.i64 ((i : Int) + 1) = ((i + 1 : Nat) : Int) := wrap_i64 _ (by omega) (by omega)
  intro n
  induction n with
  | zero =>
    intro q xs gm j jr g hq hqs hxl hx
    have hpq : p = q := by omega
    subst hpq
    refine loop_go 2000 _ (Eq.mpr (ref08_join_go_S2 l k nl full i p p gm (s.length + 1) xs j jr g _) ⟨fun h => ?_, fun h => ?_⟩)
    · simp at h
    · simp only [hw1, Int.toNat_natCast, gI_nat, gI_zero, Nat.zero_add, eq_self, true_and, and_true]
      refine ⟨⟨by omega, sl_at hsl hil⟩, getI hil, by omega, getI (by omega), fun j jr g => ?_⟩
      have := next gm j jr g
      rw [← hx, List.map_set] at this
      exact this
  | succ n ih =>
    intro q xs gm j jr g hq hqs hxl hx
    have hw2 : IntKind.wrap IntKind.i64 ((q : Int) - 1) = ((q - 1 : Nat) : Int) := by rw [wrap_i64 _ (by omega) (by omega)]; omega
    refine loop_go 2000 _ (Eq.mpr (ref08_join_go_S2 l k nl full i p q gm (s.length + 1) xs j jr g _) ⟨fun h => ?_, fun h => ?_⟩)
    · simp only [hw2, Int.toNat_natCast, gI_nat, gI_zero, Nat.zero_add, eq_self, true_and, and_true]
      refine ⟨by omega, getI (by omega), by omega, getI (by omega), fun j jr g => ?_⟩
      have := ih (q - 1) (xs.set q (xs.getD (q - 1) default)) gm j jr g (by omega) (by omega) (by simpa using hxl) fun x => ?_
      · rw [List.map_set] at this
        exact this
      · exact shift_back (by omega) hqs hx x
    · simp only [decide_eq_false_iff_not] at h; omega
theorem insPos_le (s : List I) (x : I) : ∀ p, insPos s x p ≤ p
  | 0 => Nat.le_refl _
  | p + 1 => by
    unfold insPos
    split
    · exact Nat.le_succ_of_le (insPos_le s x p)
    · exact Nat.le_refl _
theorem insR_len (s : List I) (x : I) : (insR s x).length = s.length + 1 := by
  have := insPos_le s x s.length
  unfold insR
  simp
  omega
theorem goods_ins {s : List I} {x : I} (hs : goods s) (hx : good x) : goods (insR s x) := by
  intro y hy
  unfold insR at hy
  rcases List.mem_append.1 hy with h | h
  · exact hs y (List.mem_of_mem_take h)
  · rcases List.mem_cons.1 h with rfl | h
    · exact hx
    · exact hs y (List.mem_of_mem_drop h)
def zI : I := ⟨⟨0, 0, 0, 0, true, true, []⟩, false, ⟨0, 0, 0, 0, true, true, []⟩, false, false⟩
theorem snoc_set (s : List I) (x : I) : (s ++ [zI]).set s.length x = s.take s.length ++ x :: s.drop s.length := by
  simp
theorem join_S4 (i : Nat) (hll : l.length < 1000000) (hil : i < l.length) (hsl : slOk 11 k nl l.length) (hgl : goods l) {r : PV} {s : List I} (hgs : goods s) (hls : s.length < 1000000) : ∀ (p : Nat) (gm : Nat) j jr g, p ≤ s.length →
    (∀ gm j jr g, LoopAt E1 Tryz.f58 r 0 (ref08_join_S3 l k nl full (i + 1 : Nat) gm (s.length + 1) (List.map I.p (s.take (insPos s (l.getD i default) p) ++ l.getD i default :: s.drop (insPos s (l.getD i default) p))) j jr g)) →
    LoopAt E1 Tryz.f58 r 1 (ref08_join_S4 l k nl full i p gm s.length (List.map I.p s) j jr g) := by
  have hx := goods_get hgl hil
  have hwn : IntKind.wrap IntKind.i64 (((s.length + 1 : Nat) : Int) - 1) = (s.length : Int) := by rw [wrap_i64 _ (by omega) (by omega)]; omega
  intro p
  induction p with
  | zero =>
    intro gm j0 jr0 g0 hp next
    refine loop_go 2000 _ (Eq.mpr (ref08_join_go_S4 l k nl full i (0 : Nat) gm s.length s j0 jr0 g0 _) ⟨fun h => ?_, fun h => ?_⟩)
    · simp at h
    · simp only [hwn, Nat.zero_add, eq_self, true_and, and_true]
      refine ⟨by omega, ⟨by simp, fits_104 (by omega)⟩, fun j jr g => ?_⟩
      have := join_S2 l k nl full i hll hil hsl (r := r) (s := s) (p := 0) hp hls next s.length s.length (s ++ [zI]) (g0 + 17 + 3) j jr g (by omega) (Nat.le_refl _) (by simp) (snoc_set s)
      rw [List.map_append] at this
      exact this
  | succ p ih =>
    intro gm j0 jr0 g0 hp next
    have hw2 : IntKind.wrap IntKind.i64 (((p + 1 : Nat) : Int) - 1) = (p : Int) := by rw [wrap_i64 _ (by omega) (by omega)]; omega
    have hs := goods_get hgs (show p < s.length by omega)
    unfold insPos at next
    refine loop_go 2000 _ (Eq.mpr (ref08_join_go_S4 l k nl full i (p + 1 : Nat) gm s.length s j0 jr0 g0 _) ⟨fun h => ?_, fun h => ?_⟩)
    · simp only [hw2, hwn, Int.toNat_natCast, gI_nat, gI_zero, Nat.zero_add, eq_self, true_and, and_true]
      refine ⟨by omega, getI (by omega), ⟨by omega, sl_at hsl hil⟩, getI hil, den_ref08_low ⟨_, _⟩ ⟨_, _⟩ hs.ok.lo hx.ok.lo hs.lo hx.lo, fun hh j jr g => ?_, fun hh => ⟨by omega, ⟨by simp, fits_104 (by omega)⟩, fun j jr g => ?_⟩⟩
      · rw [if_pos (by simpa [I.lb] using hh)] at next
        exact ih gm j jr g (by omega) next
      · rw [if_neg (by simpa [I.lb] using hh)] at next
        have := join_S2 l k nl full i hll hil hsl (r := r) (s := s) (p := p + 1) hp hls next (s.length - (p + 1)) s.length (s ++ [zI]) (g0 + 17 + 3) j jr g (by omega) (Nat.le_refl _) (by simp) (snoc_set s)
        rw [List.map_append] at this
        exact this
    · simp only [decide_eq_false_iff_not] at h; omega
theorem join_S3 (hll : l.length < 1000000) (hsl : slOk 11 k nl l.length) (hgl : goods l) : ∀ (n i : Nat) (s : List I) (gm : Nat) j jr g, i + n = l.length → s ≠ [] → s.length ≤ i → goods s →
    LoopAt E1 Tryz.f58 (resL ((sortR (l.drop i) s).foldl stepR [])) 0 (ref08_join_S3 l k nl full i gm s.length (List.map I.p s) j jr g) := by
  intro n
  induction n with
  | zero =>
    intro i s gm j0 jr0 g0 hi h0 hs hgs
    refine loop_go 2000 _ (Eq.mpr (ref08_join_go_S3 l k nl full i gm s.length s j0 jr0 g0 _) ⟨fun h => ?_, fun h j jr g => ?_⟩)
    · simp only [decide_eq_true_eq, List.length_map] at h; omega
    · rw [List.drop_eq_nil_of_le (by omega)]
      exact join_S6 l k nl full s hgs (by omega) h0 gm _ j jr g
  | succ n ih =>
    intro i s gm j0 jr0 g0 hi h0 hs hgs
    have hil : i < l.length := by omega
    have hx := goods_get hgl hil
    have hw1 : IntKind.wrap IntKind.i64 ((i : Int) + 1) = ((i + 1 : Nat) : Int) := wrap_i64 _ (by omega) (by omega)
    have hst : sortR (l.drop i) s = sortR (l.drop (i + 1)) (if emptyI (l.getD i default) then s else insR s (l.getD i default)) := by
      rw [drop_get hil]; rfl
    rw [hst]
    refine loop_go 2000 _ (Eq.mpr (ref08_join_go_S3 l k nl full i gm s.length s j0 jr0 g0 _) ⟨fun h => ?_, fun h => ?_⟩)
    · simp only [hw1, Int.toNat_natCast, gI_nat, gI_zero]
      refine ⟨⟨by omega, sl_at hsl hil⟩, getI hil, den_empty _ hx.ok hx.lo hx.hi, fun he j jr g => ?_, fun he j jr g => ?_⟩
      · rw [if_pos he]
        exact ih (i + 1) s gm j jr g (by omega) h0 (by omega) hgs
      · rw [he]
        refine join_S4 l k nl full i hll hil hsl hgl hgs (by omega) s.length gm j jr g (Nat.le_refl _) fun gm j jr g => ?_
        have := ih (i + 1) (insR s (l.getD i default)) gm j jr g (by omega) (by unfold insR; simp) (by rw [insR_len]; omega) (goods_ins hgs hx)
        rw [insR_len] at this
        exact this
    · simp only [decide_eq_false_iff_not, List.length_map] at h; omega
theorem join_S0 (hll : l.length < 1000000) (hsl : slOk 11 k nl l.length) (hgl : goods l) : ∀ (n i : Nat) j jr g, i + n = l.length →
    LoopAt E1 Tryz.f58 (resL ((sortR (l.drop i) []).foldl stepR [])) 0 (ref08_join_S0 l k nl full i j jr g) := by
  intro n
  induction n with
  | zero =>
    intro i j0 jr0 g0 hi
    refine loop_go 2000 _ (Eq.mpr (ref08_join_go_S0 l k nl full i j0 jr0 g0 _) ⟨fun h => ?_, fun h j jr g => ?_⟩)
    · simp only [decide_eq_true_eq, List.length_map] at h; omega
    · rw [List.drop_eq_nil_of_le (by omega)]
      exact loop_go 2000 _ (Eq.mpr (ref08_join_go_S5 l k nl full _ j jr g _) rfl)
  | succ n ih =>
    intro i j0 jr0 g0 hi
    have hil : i < l.length := by omega
    have hx := goods_get hgl hil
    have hw1 : IntKind.wrap IntKind.i64 ((i : Int) + 1) = ((i + 1 : Nat) : Int) := wrap_i64 _ (by omega) (by omega)
    have hst : sortR (l.drop i) [] = sortR (l.drop (i + 1)) (if emptyI (l.getD i default) then [] else [l.getD i default]) := by
      rw [drop_get hil]; rfl
    rw [hst]
    refine loop_go 2000 _ (Eq.mpr (ref08_join_go_S0 l k nl full i j0 jr0 g0 _) ⟨fun h => ?_, fun h => ?_⟩)
    · simp only [hw1, Int.toNat_natCast, gI_nat, gI_zero]
      refine ⟨⟨by omega, sl_at hsl hil⟩, getI hil, den_empty _ hx.ok hx.lo hx.hi, fun he j jr g => ?_, fun he j jr g => ?_⟩
      · rw [if_pos he]
        exact ih (i + 1) j jr g (by omega)
      · rw [he]
        refine loop_go 2000 _ (Eq.mpr (ref08_join_go_S1 l k nl full i j jr g _) ⟨rfl, ⟨rfl, Nat.le_refl _⟩, ⟨rfl, rfl⟩, fun j jr g1 => ?_⟩)
        refine join_S2 l k nl full i hll hil hsl (s := []) (p := 0) (Nat.le_refl _) (by simp) (fun gm j jr g => ?_) 0 0 [zI] _ j jr g1 rfl (Nat.le_refl _) rfl (fun x => rfl)
        exact join_S3 l k nl full hll hsl hgl n (i + 1) [l.getD i default] gm j jr g (by omega) (by simp) (by simp) (fun y hy => by simp at hy; subst hy; rw [← List.getD_eq_getElem?_getD]; exact hx)
    · simp only [decide_eq_false_iff_not, List.length_map] at h; omega
theorem den_ref08_join (hll : l.length < 1000000) (hsl : slOk 11 k nl l.length) (hgl : goods l) : Den E1 58 [listP k nl full l] (resL (joinR l)) :=
  den1 2000 _ rfl (by kernel_rfl) rfl rfl rfl (Eq.mpr (ref08_join_go l k nl full _) fun j jr g => join_S0 l k nl full hll hsl hgl l.length 0 j jr g (by omega))
end
end Go.Proofs.YtlhfgonjcpapnaaGreatDoor.Abs

namespace Go.Proofs.YtlhfgonjcpapnaaGreatDoor.Abs
open Go Go.Proofs
def idxI (p : I → Bool) (l : List I) : Int := if l.findIdx p < l.length then (l.findIdx p : Int) else -1
end Go.Proofs.YtlhfgonjcpapnaaGreatDoor.Abs

namespace Go.Proofs.YtlhfgonjcpapnaaGreatDoor.Abs
open Go Go.Proofs
def ref08_meet_S0 (l : List I) (m : List I) (k : Nat) (k' : Nat) (nl : Bool) (full : Bool) (nl' : Bool) (full' : Bool) (i : Int) (j : Nat → AV) (jr : Nat → Row) (g : Nat) : St :=
  { t := [.pv (.sl k nl full (List.map I.p l)), .pv (.sl k' nl' full' (List.map I.p m)), j 2, j 3, j 4, .pv (.sl 0 true true []), intA i] ++ jj j 7 58, h := [[row0, row0, row0, row0, row0, row0, row0, row0, jr 8, row0, row0, row0, row0, row0, row0, row0, row0, row0, row0, row0, row0, row0, row0, row0, row0, row0, row0, row0, row0, row0, row0, row0, row0, row0, row0, row0, row0, row0, row0, row0, row0, row0, row0, row0, row0, row0, row0, row0, row0, row0, row0, row0, row0, row0, row0, row0, row0, row0, row0, row0, row0, jr 61, row0, row0, row0]], g := g }
def ref08_meet_S1 (l : List I) (m : List I) (k : Nat) (k' : Nat) (nl : Bool) (full : Bool) (nl' : Bool) (full' : Bool) (i : Int) (q : Int) (j : Nat → AV) (jr : Nat → Row) (g : Nat) : St :=
  { t := [.pv (.sl k nl full (List.map I.p l)), .pv (.sl k' nl' full' (List.map I.p m)), j 2, j 3, j 4, .pv (.sl 0 true true []), intA i, intA q] ++ jj j 8 57, h := [[row0, row0, row0, row0, row0, row0, row0, row0, jr 8, row0, row0, row0, row0, row0, row0, row0, row0, row0, row0, row0, row0, row0, row0, row0, row0, row0, row0, row0, row0, row0, row0, row0, row0, row0, row0, row0, row0, row0, row0, row0, row0, row0, row0, row0, row0, row0, row0, row0, row0, row0, row0, row0, row0, row0, row0, row0, row0, row0, row0, row0, row0, jr 61, row0, row0, row0]], g := g }
def ref08_meet_S2 (l : List I) (m : List I) (k : Nat) (k' : Nat) (nl : Bool) (full : Bool) (nl' : Bool) (full' : Bool) (i : Int) (q : Int) (gm : Nat) (n : Nat) (xsI : List PV) (j : Nat → AV) (jr : Nat → Row) (g : Nat) : St :=
  { t := [.pv (.sl k nl full (List.map I.p l)), .pv (.sl k' nl' full' (List.map I.p m)), j 2, j 3, j 4, .msl 0 62 gm 0 n false, intA i, intA q] ++ jj j 8 57, h := [[row0, row0, row0, row0, row0, row0, row0, row0, jr 8, row0, row0, row0, row0, row0, row0, row0, row0, row0, row0, row0, row0, row0, row0, row0, row0, row0, row0, row0, row0, row0, row0, row0, row0, row0, row0, row0, row0, row0, row0, row0, row0, row0, row0, row0, row0, row0, row0, row0, row0, row0, row0, row0, row0, row0, row0, row0, row0, row0, row0, row0, row0, jr 61, ⟨gm, .row 11 63 xsI false⟩, row0, row0]], g := g }
def ref08_meet_S3 (l : List I) (m : List I) (k : Nat) (k' : Nat) (nl : Bool) (full : Bool) (nl' : Bool) (full' : Bool) (i : Int) (gm : Nat) (n : Nat) (xsI : List PV) (j : Nat → AV) (jr : Nat → Row) (g : Nat) : St :=
  { t := [.pv (.sl k nl full (List.map I.p l)), .pv (.sl k' nl' full' (List.map I.p m)), j 2, j 3, j 4, .msl 0 62 gm 0 n false, intA i] ++ jj j 7 58, h := [[row0, row0, row0, row0, row0, row0, row0, row0, jr 8, row0, row0, row0, row0, row0, row0, row0, row0, row0, row0, row0, row0, row0, row0, row0, row0, row0, row0, row0, row0, row0, row0, row0, row0, row0, row0, row0, row0, row0, row0, row0, row0, row0, row0, row0, row0, row0, row0, row0, row0, row0, row0, row0, row0, row0, row0, row0, row0, row0, row0, row0, row0, jr 61, ⟨gm, .row 11 63 xsI false⟩, row0, row0]], g := g }
theorem ref08_meet_go (l : List I) (m : List I) (k : Nat) (k' : Nat) (nl : Bool) (full : Bool) (nl' : Bool) (full' : Bool) (r : PV) : FnGo E1 Tryz.f61 [.sl k nl full (List.map I.p l), .sl k' nl' full' (List.map I.p m)] r 2000 (.mask (iv [(2, 4), (7, 64)]) [8, 61]) =
  (AtAll Tryz.f61 r 0 (ref08_meet_S0 l m k k' nl full nl' full' 0)) := by kernel_rfl
theorem ref08_meet_go_S0 (l : List I) (m : List I) (k : Nat) (k' : Nat) (nl : Bool) (full : Bool) (nl' : Bool) (full' : Bool) (i : Int) (j : Nat → AV) (jr : Nat → Row) (g : Nat) (r : PV) : LoopGo E1 Tryz.f61 r 0 2000 (.fork (.mask (iv [(2, 4), (8, 64)]) [8, 61]) (.res (.sl 0 true true []) (.hole 0))) (ref08_meet_S0 l m k k' nl full nl' full' i j jr g) =
  (((decide (i < (↑(List.length (List.map I.p l)) : Int))) = true →
 AtAll Tryz.f61 r 1 (ref08_meet_S1 l m k k' nl full nl' full' i 0)) ∧
 ((decide (i < (↑(List.length (List.map I.p l)) : Int))) = false →
 (Den E1 58 [.sl 0 true true []] (.sl 0 true true [])) ∧
 ((.sl 0 true true []) : PV) = r)) := by kernel_rfl
theorem ref08_meet_go_S1 (l : List I) (m : List I) (k : Nat) (k' : Nat) (nl : Bool) (full : Bool) (nl' : Bool) (full' : Bool) (i : Int) (q : Int) (j : Nat → AV) (jr : Nat → Row) (g : Nat) (r : PV) : LoopGo E1 Tryz.f61 r 1 2000 (.fork (.val (I.p (gI l i)) (.val (I.p (gI m q)) (.res (intP (lowB { v := I.lo (gI l i), op := I.lopen (gI l i) } { v := I.lo (gI m q), op := I.lopen (gI m q) })) (.fork (.val (I.p (gI m q)) (.val (I.p (gI m q)) (.res (intP (highI (gI m q) ⟨I.lo (gI m q), I.lopen (gI m q), I.hi (gI l i), I.hopen (gI l i), I.less (gI l i)⟩)) (.fork (.val (I.p (gI m q)) (.val (I.p (gI m q)) (.lit (.lit (.mask (iv [(2, 4), (8, 64)]) [8, 61]))))) (.lit (.lit (.mask (iv [(2, 4), (8, 64)]) [8, 61]))))))) (.val (I.p (gI m q)) (.res (intP (highI (gI m q) (gI l i))) (.fork (.val (I.p (gI m q)) (.val (I.p (gI m q)) (.lit (.lit (.mask (iv [(2, 4), (8, 64)]) [8, 61]))))) (.lit (.lit (.mask (iv [(2, 4), (8, 64)]) [8, 61])))))))))) (.mask (iv [(2, 4), (7, 64)]) [8, 61])) (ref08_meet_S1 l m k k' nl full nl' full' i q j jr g) =
  (((decide (q < (↑(List.length (List.map I.p m)) : Int))) = true →
 (((0 : Int) ≤ i) ∧ ((nl = false) ∧ (k = 11))) ∧
 (((List.map I.p l)[Int.toNat i]?) = some (I.p (gI l i))) ∧
 ((g + 4 + 4) = g + 4 + 4) ∧
 ((g + 4 + 4) = g + 4 + 4) ∧
 (((0 : Int) ≤ q) ∧ ((nl' = false) ∧ (k' = 11))) ∧
 (((List.map I.p m)[Int.toNat q]?) = some (I.p (gI m q))) ∧
 (Den E1 44 [Bd.p ⟨(I.lo (gI l i)), (I.lopen (gI l i))⟩, Bd.p ⟨(I.lo (gI m q)), (I.lopen (gI m q))⟩] (intP (lowB { v := I.lo (gI l i), op := I.lopen (gI l i) } { v := I.lo (gI m q), op := I.lopen (gI m q) }))) ∧
 ((decide (lowB { v := I.lo (gI l i), op := I.lopen (gI l i) } { v := I.lo (gI m q), op := I.lopen (gI m q) } < (0 : Int))) = true →
 (((0 : Int) ≤ q) ∧ ((nl' = false) ∧ (k' = 11))) ∧
 (((List.map I.p m)[Int.toNat q]?) = some (I.p (gI m q))) ∧
 ((g + 4 + 4) = g + 4 + 4) ∧
 (((0 : Int) ≤ q) ∧ ((nl' = false) ∧ (k' = 11))) ∧
 (((List.map I.p m)[Int.toNat q]?) = some (I.p (gI m q))) ∧
 ((g + 4 + 4) = g + 4 + 4) ∧
 (Den E1 100 [I.p (gI m q), I.p ⟨(I.lo (gI m q)), (I.lopen (gI m q)), (I.hi (gI l i)), (I.hopen (gI l i)), (I.less (gI l i))⟩] (intP (highI (gI m q) ⟨I.lo (gI m q), I.lopen (gI m q), I.hi (gI l i), I.hopen (gI l i), I.less (gI l i)⟩))) ∧
 ((decide (highI (gI m q) ⟨I.lo (gI m q), I.lopen (gI m q), I.hi (gI l i), I.hopen (gI l i), I.less (gI l i)⟩ < (0 : Int))) = true →
 (((0 : Int) ≤ q) ∧ ((nl' = false) ∧ (k' = 11))) ∧
 (((List.map I.p m)[Int.toNat q]?) = some (I.p (gI m q))) ∧
 ((g + 4 + 4) = g + 4 + 4) ∧
 (((0 : Int) ≤ q) ∧ ((nl' = false) ∧ (k' = 11))) ∧
 (((List.map I.p m)[Int.toNat q]?) = some (I.p (gI m q))) ∧
 ((g + 4 + 4) = g + 4 + 4) ∧
 ((g + 4 + 4) = g + 4 + 4) ∧
 ((g + 4 + 6 + 9 + 7 + 7 + 7 + 7 + 2) = g + 4 + 6 + 9 + 7 + 7 + 7 + 7 + 2) ∧
 (((11 : Nat) = 11) ∧ ((1 : Nat) ≤ (1 : Nat))) ∧
 (((0 : Nat) = 0) ∧ (true = true)) ∧
 (AtAll Tryz.f61 r 1 (ref08_meet_S2 l m k k' nl full nl' full' i (IntKind.i64.wrap (q + (1 : Int))) (g + 4 + 6 + 9 + 7 + 7 + 7 + 7 + 3) 1 [I.p (gI m q)]))) ∧
 ((decide (highI (gI m q) ⟨I.lo (gI m q), I.lopen (gI m q), I.hi (gI l i), I.hopen (gI l i), I.less (gI l i)⟩ < (0 : Int))) = false →
 ((g + 4 + 4) = g + 4 + 4) ∧
 ((g + 4 + 6 + 9 + 7 + 7 + 2) = g + 4 + 6 + 9 + 7 + 7 + 2) ∧
 (((11 : Nat) = 11) ∧ ((1 : Nat) ≤ (1 : Nat))) ∧
 (((0 : Nat) = 0) ∧ (true = true)) ∧
 (AtAll Tryz.f61 r 1 (ref08_meet_S2 l m k k' nl full nl' full' i (IntKind.i64.wrap (q + (1 : Int))) (g + 4 + 6 + 9 + 7 + 7 + 3) 1 [I.p ⟨(I.lo (gI m q)), (I.lopen (gI m q)), (I.hi (gI l i)), (I.hopen (gI l i)), (I.less (gI l i))⟩])))) ∧
 ((decide (lowB { v := I.lo (gI l i), op := I.lopen (gI l i) } { v := I.lo (gI m q), op := I.lopen (gI m q) } < (0 : Int))) = false →
 (((0 : Int) ≤ q) ∧ ((nl' = false) ∧ (k' = 11))) ∧
 (((List.map I.p m)[Int.toNat q]?) = some (I.p (gI m q))) ∧
 ((g + 4 + 4) = g + 4 + 4) ∧
 (Den E1 100 [I.p (gI m q), I.p (gI l i)] (intP (highI (gI m q) (gI l i)))) ∧
 ((decide (highI (gI m q) (gI l i) < (0 : Int))) = true →
 (((0 : Int) ≤ q) ∧ ((nl' = false) ∧ (k' = 11))) ∧
 (((List.map I.p m)[Int.toNat q]?) = some (I.p (gI m q))) ∧
 ((g + 4 + 4) = g + 4 + 4) ∧
 (((0 : Int) ≤ q) ∧ ((nl' = false) ∧ (k' = 11))) ∧
 (((List.map I.p m)[Int.toNat q]?) = some (I.p (gI m q))) ∧
 ((g + 4 + 4) = g + 4 + 4) ∧
 ((g + 4 + 4) = g + 4 + 4) ∧
 ((g + 4 + 6 + 9 + 7 + 7 + 7 + 2) = g + 4 + 6 + 9 + 7 + 7 + 7 + 2) ∧
 (((11 : Nat) = 11) ∧ ((1 : Nat) ≤ (1 : Nat))) ∧
 (((0 : Nat) = 0) ∧ (true = true)) ∧
 (AtAll Tryz.f61 r 1 (ref08_meet_S2 l m k k' nl full nl' full' i (IntKind.i64.wrap (q + (1 : Int))) (g + 4 + 6 + 9 + 7 + 7 + 7 + 3) 1 [I.p ⟨(I.lo (gI l i)), (I.lopen (gI l i)), (I.hi (gI m q)), (I.hopen (gI m q)), (I.less (gI m q))⟩]))) ∧
 ((decide (highI (gI m q) (gI l i) < (0 : Int))) = false →
 ((g + 4 + 4) = g + 4 + 4) ∧
 ((g + 4 + 6 + 9 + 7 + 2) = g + 4 + 6 + 9 + 7 + 2) ∧
 (((11 : Nat) = 11) ∧ ((1 : Nat) ≤ (1 : Nat))) ∧
 (((0 : Nat) = 0) ∧ (true = true)) ∧
 (AtAll Tryz.f61 r 1 (ref08_meet_S2 l m k k' nl full nl' full' i (IntKind.i64.wrap (q + (1 : Int))) (g + 4 + 6 + 9 + 7 + 3) 1 [I.p (gI l i)]))))) ∧
 ((decide (q < (↑(List.length (List.map I.p m)) : Int))) = false →
 AtAll Tryz.f61 r 0 (ref08_meet_S0 l m k k' nl full nl' full' (IntKind.i64.wrap (i + (1 : Int)))))) := by kernel_rfl
theorem ref08_meet_go_S2 (l : List I) (m : List I) (k : Nat) (k' : Nat) (nl : Bool) (full : Bool) (nl' : Bool) (full' : Bool) (i : Int) (q : Int) (gm : Nat) (n : Nat) (xs : List I) (j : Nat → AV) (jr : Nat → Row) (g : Nat) (r : PV) : LoopGo E1 Tryz.f61 r 1 2000 (.fork (.val (I.p (gI l i)) (.val (I.p (gI m q)) (.res (intP (lowB { v := I.lo (gI l i), op := I.lopen (gI l i) } { v := I.lo (gI m q), op := I.lopen (gI m q) })) (.fork (.val (I.p (gI m q)) (.val (I.p (gI m q)) (.res (intP (highI (gI m q) ⟨I.lo (gI m q), I.lopen (gI m q), I.hi (gI l i), I.hopen (gI l i), I.less (gI l i)⟩)) (.fork (.val (I.p (gI m q)) (.val (I.p (gI m q)) (.lit (.mask (iv [(2, 4), (8, 64)]) [8, 61])))) (.lit (.mask (iv [(2, 4), (8, 64)]) [8, 61])))))) (.val (I.p (gI m q)) (.res (intP (highI (gI m q) (gI l i))) (.fork (.val (I.p (gI m q)) (.val (I.p (gI m q)) (.lit (.mask (iv [(2, 4), (8, 64)]) [8, 61])))) (.lit (.mask (iv [(2, 4), (8, 64)]) [8, 61]))))))))) (.mask (iv [(2, 4), (7, 64)]) [8, 61])) (ref08_meet_S2 l m k k' nl full nl' full' i q gm n (List.map I.p xs) j jr g) =
  (((decide (q < (↑(List.length (List.map I.p m)) : Int))) = true →
 (((0 : Int) ≤ i) ∧ ((nl = false) ∧ (k = 11))) ∧
 (((List.map I.p l)[Int.toNat i]?) = some (I.p (gI l i))) ∧
 ((g + 4 + 4) = g + 4 + 4) ∧
 ((g + 4 + 4) = g + 4 + 4) ∧
 (((0 : Int) ≤ q) ∧ ((nl' = false) ∧ (k' = 11))) ∧
 (((List.map I.p m)[Int.toNat q]?) = some (I.p (gI m q))) ∧
 (Den E1 44 [Bd.p ⟨(I.lo (gI l i)), (I.lopen (gI l i))⟩, Bd.p ⟨(I.lo (gI m q)), (I.lopen (gI m q))⟩] (intP (lowB { v := I.lo (gI l i), op := I.lopen (gI l i) } { v := I.lo (gI m q), op := I.lopen (gI m q) }))) ∧
 ((decide (lowB { v := I.lo (gI l i), op := I.lopen (gI l i) } { v := I.lo (gI m q), op := I.lopen (gI m q) } < (0 : Int))) = true →
 (((0 : Int) ≤ q) ∧ ((nl' = false) ∧ (k' = 11))) ∧
 (((List.map I.p m)[Int.toNat q]?) = some (I.p (gI m q))) ∧
 ((g + 4 + 4) = g + 4 + 4) ∧
 (((0 : Int) ≤ q) ∧ ((nl' = false) ∧ (k' = 11))) ∧
 (((List.map I.p m)[Int.toNat q]?) = some (I.p (gI m q))) ∧
 ((g + 4 + 4) = g + 4 + 4) ∧
 (Den E1 100 [I.p (gI m q), I.p ⟨(I.lo (gI m q)), (I.lopen (gI m q)), (I.hi (gI l i)), (I.hopen (gI l i)), (I.less (gI l i))⟩] (intP (highI (gI m q) ⟨I.lo (gI m q), I.lopen (gI m q), I.hi (gI l i), I.hopen (gI l i), I.less (gI l i)⟩))) ∧
 ((decide (highI (gI m q) ⟨I.lo (gI m q), I.lopen (gI m q), I.hi (gI l i), I.hopen (gI l i), I.less (gI l i)⟩ < (0 : Int))) = true →
 (((0 : Int) ≤ q) ∧ ((nl' = false) ∧ (k' = 11))) ∧
 (((List.map I.p m)[Int.toNat q]?) = some (I.p (gI m q))) ∧
 ((g + 4 + 4) = g + 4 + 4) ∧
 (((0 : Int) ≤ q) ∧ ((nl' = false) ∧ (k' = 11))) ∧
 (((List.map I.p m)[Int.toNat q]?) = some (I.p (gI m q))) ∧
 ((g + 4 + 4) = g + 4 + 4) ∧
 ((g + 4 + 4) = g + 4 + 4) ∧
 ((g + 4 + 6 + 9 + 7 + 7 + 7 + 7 + 2) = g + 4 + 6 + 9 + 7 + 7 + 7 + 7 + 2) ∧
 (((11 : Nat) = 11) ∧ ((1 : Nat) ≤ (1 : Nat))) ∧
 (gm = gm) ∧
 ((false = false) ∧ (((11 : Nat) = 11) ∧ (((63 : Nat) = 63) ∧ ((((0 : Nat) + n) = List.length (List.map I.p xs)) ∧ ((fitsRow (n + 1) (104 : Nat)) = true))))) ∧
 (∀ (j' : Nat → AV) (jr' : Nat → Row) (g' : Nat), LoopAt E1 Tryz.f61 r 1 (ref08_meet_S2 l m k k' nl full nl' full' i (IntKind.i64.wrap (q + (1 : Int))) (g + 4 + 6 + 9 + 7 + 7 + 7 + 7 + 3) (n + 1) (List.drop (0 : Nat) (List.map I.p xs) ++ List.take (1 : Nat) (List.drop (0 : Nat) [PV.agg [PV.lit (Value.int IntKind.u32 (V.a (I.lo (gI m q)))), PV.lit (Value.int IntKind.u32 (V.b (I.lo (gI m q)))), PV.lit (Value.int IntKind.u32 (V.c (I.lo (gI m q)))), V.q (I.lo (gI m q)), PV.lit (Value.bool (I.lopen (gI m q))), PV.lit (Value.int IntKind.u32 (V.a (I.hi (gI m q)))), PV.lit (Value.int IntKind.u32 (V.b (I.hi (gI m q)))), PV.lit (Value.int IntKind.u32 (V.c (I.hi (gI m q)))), V.q (I.hi (gI m q)), PV.lit (Value.bool (I.hopen (gI m q))), PV.lit (Value.bool (I.less (gI m q)))]])) j' jr' g'))) ∧
 ((decide (highI (gI m q) ⟨I.lo (gI m q), I.lopen (gI m q), I.hi (gI l i), I.hopen (gI l i), I.less (gI l i)⟩ < (0 : Int))) = false →
 ((g + 4 + 4) = g + 4 + 4) ∧
 ((g + 4 + 6 + 9 + 7 + 7 + 2) = g + 4 + 6 + 9 + 7 + 7 + 2) ∧
 (((11 : Nat) = 11) ∧ ((1 : Nat) ≤ (1 : Nat))) ∧
 (gm = gm) ∧
 ((false = false) ∧ (((11 : Nat) = 11) ∧ (((63 : Nat) = 63) ∧ ((((0 : Nat) + n) = List.length (List.map I.p xs)) ∧ ((fitsRow (n + 1) (104 : Nat)) = true))))) ∧
 (∀ (j' : Nat → AV) (jr' : Nat → Row) (g' : Nat), LoopAt E1 Tryz.f61 r 1 (ref08_meet_S2 l m k k' nl full nl' full' i (IntKind.i64.wrap (q + (1 : Int))) (g + 4 + 6 + 9 + 7 + 7 + 3) (n + 1) (List.drop (0 : Nat) (List.map I.p xs) ++ List.take (1 : Nat) (List.drop (0 : Nat) [PV.agg [PV.lit (Value.int IntKind.u32 (V.a (I.lo (gI m q)))), PV.lit (Value.int IntKind.u32 (V.b (I.lo (gI m q)))), PV.lit (Value.int IntKind.u32 (V.c (I.lo (gI m q)))), V.q (I.lo (gI m q)), PV.lit (Value.bool (I.lopen (gI m q))), PV.lit (Value.int IntKind.u32 (V.a (I.hi (gI l i)))), PV.lit (Value.int IntKind.u32 (V.b (I.hi (gI l i)))), PV.lit (Value.int IntKind.u32 (V.c (I.hi (gI l i)))), V.q (I.hi (gI l i)), PV.lit (Value.bool (I.hopen (gI l i))), PV.lit (Value.bool (I.less (gI l i)))]])) j' jr' g')))) ∧
 ((decide (lowB { v := I.lo (gI l i), op := I.lopen (gI l i) } { v := I.lo (gI m q), op := I.lopen (gI m q) } < (0 : Int))) = false →
 (((0 : Int) ≤ q) ∧ ((nl' = false) ∧ (k' = 11))) ∧
 (((List.map I.p m)[Int.toNat q]?) = some (I.p (gI m q))) ∧
 ((g + 4 + 4) = g + 4 + 4) ∧
 (Den E1 100 [I.p (gI m q), I.p (gI l i)] (intP (highI (gI m q) (gI l i)))) ∧
 ((decide (highI (gI m q) (gI l i) < (0 : Int))) = true →
 (((0 : Int) ≤ q) ∧ ((nl' = false) ∧ (k' = 11))) ∧
 (((List.map I.p m)[Int.toNat q]?) = some (I.p (gI m q))) ∧
 ((g + 4 + 4) = g + 4 + 4) ∧
 (((0 : Int) ≤ q) ∧ ((nl' = false) ∧ (k' = 11))) ∧
 (((List.map I.p m)[Int.toNat q]?) = some (I.p (gI m q))) ∧
 ((g + 4 + 4) = g + 4 + 4) ∧
 ((g + 4 + 4) = g + 4 + 4) ∧
 ((g + 4 + 6 + 9 + 7 + 7 + 7 + 2) = g + 4 + 6 + 9 + 7 + 7 + 7 + 2) ∧
 (((11 : Nat) = 11) ∧ ((1 : Nat) ≤ (1 : Nat))) ∧
 (gm = gm) ∧
 ((false = false) ∧ (((11 : Nat) = 11) ∧ (((63 : Nat) = 63) ∧ ((((0 : Nat) + n) = List.length (List.map I.p xs)) ∧ ((fitsRow (n + 1) (104 : Nat)) = true))))) ∧
 (∀ (j' : Nat → AV) (jr' : Nat → Row) (g' : Nat), LoopAt E1 Tryz.f61 r 1 (ref08_meet_S2 l m k k' nl full nl' full' i (IntKind.i64.wrap (q + (1 : Int))) (g + 4 + 6 + 9 + 7 + 7 + 7 + 3) (n + 1) (List.drop (0 : Nat) (List.map I.p xs) ++ List.take (1 : Nat) (List.drop (0 : Nat) [PV.agg [PV.lit (Value.int IntKind.u32 (V.a (I.lo (gI l i)))), PV.lit (Value.int IntKind.u32 (V.b (I.lo (gI l i)))), PV.lit (Value.int IntKind.u32 (V.c (I.lo (gI l i)))), V.q (I.lo (gI l i)), PV.lit (Value.bool (I.lopen (gI l i))), PV.lit (Value.int IntKind.u32 (V.a (I.hi (gI m q)))), PV.lit (Value.int IntKind.u32 (V.b (I.hi (gI m q)))), PV.lit (Value.int IntKind.u32 (V.c (I.hi (gI m q)))), V.q (I.hi (gI m q)), PV.lit (Value.bool (I.hopen (gI m q))), PV.lit (Value.bool (I.less (gI m q)))]])) j' jr' g'))) ∧
 ((decide (highI (gI m q) (gI l i) < (0 : Int))) = false →
 ((g + 4 + 4) = g + 4 + 4) ∧
 ((g + 4 + 6 + 9 + 7 + 2) = g + 4 + 6 + 9 + 7 + 2) ∧
 (((11 : Nat) = 11) ∧ ((1 : Nat) ≤ (1 : Nat))) ∧
 (gm = gm) ∧
 ((false = false) ∧ (((11 : Nat) = 11) ∧ (((63 : Nat) = 63) ∧ ((((0 : Nat) + n) = List.length (List.map I.p xs)) ∧ ((fitsRow (n + 1) (104 : Nat)) = true))))) ∧
 (∀ (j' : Nat → AV) (jr' : Nat → Row) (g' : Nat), LoopAt E1 Tryz.f61 r 1 (ref08_meet_S2 l m k k' nl full nl' full' i (IntKind.i64.wrap (q + (1 : Int))) (g + 4 + 6 + 9 + 7 + 3) (n + 1) (List.drop (0 : Nat) (List.map I.p xs) ++ List.take (1 : Nat) (List.drop (0 : Nat) [PV.agg [PV.lit (Value.int IntKind.u32 (V.a (I.lo (gI l i)))), PV.lit (Value.int IntKind.u32 (V.b (I.lo (gI l i)))), PV.lit (Value.int IntKind.u32 (V.c (I.lo (gI l i)))), V.q (I.lo (gI l i)), PV.lit (Value.bool (I.lopen (gI l i))), PV.lit (Value.int IntKind.u32 (V.a (I.hi (gI l i)))), PV.lit (Value.int IntKind.u32 (V.b (I.hi (gI l i)))), PV.lit (Value.int IntKind.u32 (V.c (I.hi (gI l i)))), V.q (I.hi (gI l i)), PV.lit (Value.bool (I.hopen (gI l i))), PV.lit (Value.bool (I.less (gI l i)))]])) j' jr' g'))))) ∧
 ((decide (q < (↑(List.length (List.map I.p m)) : Int))) = false →
 AtAll Tryz.f61 r 0 (ref08_meet_S3 l m k k' nl full nl' full' (IntKind.i64.wrap (i + (1 : Int))) gm n (List.map I.p xs)))) := by kernel_rfl
theorem ref08_meet_go_S3 (l : List I) (m : List I) (k : Nat) (k' : Nat) (nl : Bool) (full : Bool) (nl' : Bool) (full' : Bool) (i : Int) (gm : Nat) (n : Nat) (xs : List I) (j : Nat → AV) (jr : Nat → Row) (g : Nat) (r : PV) : LoopGo E1 Tryz.f61 r 0 2000 (.fork (.mask (iv [(2, 4), (8, 64)]) [8, 61]) (.frz [.sl 11 false false (List.map I.p xs)] [[row0, row0, row0, row0, row0, row0, row0, row0, jr 8, row0, row0, row0, row0, row0, row0, row0, row0, row0, row0, row0, row0, row0, row0, row0, row0, row0, row0, row0, row0, row0, row0, row0, row0, row0, row0, row0, row0, row0, row0, row0, row0, row0, row0, row0, row0, row0, row0, row0, row0, row0, row0, row0, row0, row0, row0, row0, row0, row0, row0, row0, row0, jr 61, ⟨gm, .row 11 63 (List.map I.p xs) true⟩, row0, row0]] (.res (resL (joinR xs)) (.hole 0)))) (ref08_meet_S3 l m k k' nl full nl' full' i gm n (List.map I.p xs) j jr g) =
  (((decide (i < (↑(List.length (List.map I.p l)) : Int))) = true →
 AtAll Tryz.f61 r 1 (ref08_meet_S2 l m k k' nl full nl' full' i 0 gm n (List.map I.p xs))) ∧
 ((decide (i < (↑(List.length (List.map I.p l)) : Int))) = false →
 (frzs frzDepth [.msl 0 62 gm 0 n false] [[row0, row0, row0, row0, row0, row0, row0, row0, jr 8, row0, row0, row0, row0, row0, row0, row0, row0, row0, row0, row0, row0, row0, row0, row0, row0, row0, row0, row0, row0, row0, row0, row0, row0, row0, row0, row0, row0, row0, row0, row0, row0, row0, row0, row0, row0, row0, row0, row0, row0, row0, row0, row0, row0, row0, row0, row0, row0, row0, row0, row0, row0, jr 61, ⟨gm, .row 11 63 (List.map I.p xs) false⟩, row0, row0]] = some ([.sl 11 false false (List.map I.p xs)], [[row0, row0, row0, row0, row0, row0, row0, row0, jr 8, row0, row0, row0, row0, row0, row0, row0, row0, row0, row0, row0, row0, row0, row0, row0, row0, row0, row0, row0, row0, row0, row0, row0, row0, row0, row0, row0, row0, row0, row0, row0, row0, row0, row0, row0, row0, row0, row0, row0, row0, row0, row0, row0, row0, row0, row0, row0, row0, row0, row0, row0, row0, jr 61, ⟨gm, .row 11 63 (List.map I.p xs) true⟩, row0, row0]])) ∧
 (Den E1 58 [.sl 11 false false (List.map I.p xs)] (resL (joinR xs))) ∧
 ((resL (joinR xs)) : PV) = r)) := by kernel_rfl
end Go.Proofs.YtlhfgonjcpapnaaGreatDoor.Abs

namespace Go.Proofs.YtlhfgonjcpapnaaGreatDoor.Abs
open Go Go.Proofs
theorem frzs_msl {h h1 : Heap} {d s g n k : Nat} {full fz : Bool} {e : TypeId} {xs : List PV} (hb : hget h d s = ⟨g, .row k e xs fz⟩) (hn : xs.length = n) (hm : marks [(d, s)] h = h1) : frzs frzDepth [.msl d s g 0 n full] h = some ([.sl k false full xs], h1) := by
  have hp : pk h frzDepth (.msl d s g 0 n full) = some (.sl k false full xs, [(d, s)]) := pk_msl hb hn
  simp only [frzs, pks, hp, Option.bind_some, Option.map_some, List.append_nil]
  rw [hm]
theorem good_meet1 {x y : I} (hx : good x) (hy : good y) : good (meet1 x y) := by
  unfold meet1
  simp only []
  split
  · split
    · exact ⟨⟨hy.ok.lo, hy.ok.hi⟩, hy.lo, hy.hi⟩
    · exact ⟨⟨hy.ok.lo, hx.ok.hi⟩, hy.lo, hx.hi⟩
  · split
    · exact ⟨⟨hx.ok.lo, hy.ok.hi⟩, hx.lo, hy.hi⟩
    · exact hx
def mixL (x y : I) : I := ⟨y.lo, y.lopen, x.hi, x.hopen, x.less⟩
theorem good_mix {x y : I} (hx : good x) (hy : good y) : good (mixL x y) := ⟨⟨hy.ok.lo, hx.ok.hi⟩, hy.lo, hx.hi⟩
theorem meet1_a {x y : I} (h1 : decide (lowB x.lb y.lb < 0) = true) (h2 : decide (highI y (mixL x y) < 0) = true) : meet1 x y = y := by
  simp only [decide_eq_true_eq] at h1 h2
  unfold meet1
  simp only [h1, if_true]
  exact if_pos h2
theorem meet1_b {x y : I} (h1 : decide (lowB x.lb y.lb < 0) = true) (h2 : decide (highI y (mixL x y) < 0) = false) : meet1 x y = mixL x y := by
  simp only [decide_eq_true_eq, decide_eq_false_iff_not] at h1 h2
  unfold meet1
  simp only [h1, if_true]
  exact if_neg h2
theorem meet1_c {x y : I} (h1 : decide (lowB x.lb y.lb < 0) = false) (h2 : decide (highI y x < 0) = true) : meet1 x y = mixL y x := by
  simp only [decide_eq_true_eq, decide_eq_false_iff_not] at h1 h2
  unfold meet1
  simp only [h1, if_false]
  exact if_pos h2
theorem meet1_d {x y : I} (h1 : decide (lowB x.lb y.lb < 0) = false) (h2 : decide (highI y x < 0) = false) : meet1 x y = x := by
  simp only [decide_eq_false_iff_not] at h1 h2
  unfold meet1
  simp only [h1, if_false]
  exact if_neg h2
section
variable (l m : List I) (k k' : Nat) (nl full nl' full' : Bool)
theorem meet_S2 (hll : l.length < 1000000) (hlm : m.length < 1000000) (hsl : slOk 11 k nl l.length) (hsm : slOk 11 k' nl' m.length) (hgl : goods l) (hgm : goods m) (i : Nat) (hil : i < l.length) {r : PV} : ∀ (n q : Nat) (xs : List I) (gm : Nat) j jr g, q + n = m.length → xs.length + n < 1000000 →
    (∀ gm j jr g, LoopAt E1 Tryz.f61 r 0 (ref08_meet_S3 l m k k' nl full nl' full' (i + 1 : Nat) gm (xs.length + n) (List.map I.p (xs ++ (m.drop q).map fun y => meet1 (l.getD i default) y)) j jr g)) →
    LoopAt E1 Tryz.f61 r 1 (ref08_meet_S2 l m k k' nl full nl' full' i q gm xs.length (List.map I.p xs) j jr g) := by
  have hw1 : IntKind.wrap IntKind.i64 ((i : Int) + 1) = ((i + 1 : Nat) : Int) := wrap_i64 _ (by omega) (by omega)
  have hx := goods_get hgl hil
  have hi0 : (0 : Int) ≤ (i : Int) ∧ nl = false ∧ k = 11 := ⟨by omega, sl_at hsl hil⟩
  have hgi := getI hil
  intro n
  induction n with
  | zero =>
    intro q xs gm j0 jr0 g0 hq hb next
    refine loop_go 2000 _ (Eq.mpr (ref08_meet_go_S2 l m k k' nl full nl' full' i q gm xs.length xs j0 jr0 g0 _) ⟨fun h => ?_, fun h j jr g => ?_⟩)
    · simp only [decide_eq_true_eq, List.length_map] at h; omega
    · rw [hw1]
      have := next gm j jr g
      rw [List.drop_eq_nil_of_le (by omega), List.map_nil, List.append_nil] at this
      exact this
  | succ n ih =>
    intro q xs gm j0 jr0 g0 hq hb next
    have hql : q < m.length := by omega
    have hy := goods_get hgm hql
    have hq0 : (0 : Int) ≤ (q : Int) ∧ nl' = false ∧ k' = 11 := ⟨by omega, sl_at hsm hql⟩
    have hgq := getI hql
    have hw2 : IntKind.wrap IntKind.i64 ((q : Int) + 1) = ((q + 1 : Nat) : Int) := wrap_i64 _ (by omega) (by omega)
    have hf : xs.length = (List.map I.p xs).length ∧ fitsRow (xs.length + 1) 104 = true := ⟨by simp, fits_104 (by omega)⟩
    have fin : ∀ (z : I) gm j jr g, meet1 (l.getD i default) (m.getD q default) = z → LoopAt E1 Tryz.f61 r 1 (ref08_meet_S2 l m k k' nl full nl' full' i (q + 1 : Nat) gm (xs.length + 1) (List.map I.p xs ++ [I.p z]) j jr g) := by
      intro z gm j jr g hz
      have := ih (q + 1) (xs ++ [z]) gm j jr g (by omega) (by simp; omega) fun gm j jr g => by
        have := next gm j jr g
        rw [drop_get hql, List.map_cons, hz] at this
        have e : (xs ++ [z]).length + n = xs.length + (n + 1) := by simp; omega
        rw [e, List.append_assoc]
        exact this
      rw [List.length_append, List.map_append] at this
      exact this
    refine loop_go 2000 _ (Eq.mpr (ref08_meet_go_S2 l m k k' nl full nl' full' i q gm xs.length xs j0 jr0 g0 _) ⟨fun h => ?_, fun h => ?_⟩)
    · simp only [hw2, Int.toNat_natCast, gI_nat, gI_zero, Nat.zero_add, eq_self, true_and, and_true, Nat.le_refl]
      exact ⟨hi0, hgi, hq0, hgq, den_ref08_low ⟨_, _⟩ ⟨_, _⟩ hx.ok.lo hy.ok.lo hx.lo hy.lo, fun h1 => ⟨hq0, hgq, hq0, hgq, den_ref08_high _ (mixL (l.getD i default) (m.getD q default)) hy (good_mix hx hy), fun h2 => ⟨hq0, hgq, hq0, hgq, hf, fun j jr g => fin _ _ j jr g (meet1_a h1 h2)⟩, fun h2 => ⟨hf, fun j jr g => fin (mixL (l.getD i default) (m.getD q default)) _ j jr g (meet1_b h1 h2)⟩⟩,
        fun h1 => ⟨hq0, hgq, den_ref08_high _ _ hy hx, fun h2 => ⟨hq0, hgq, hq0, hgq, hf, fun j jr g => fin (mixL (m.getD q default) (l.getD i default)) _ j jr g (meet1_c h1 h2)⟩, fun h2 => ⟨hf, fun j jr g => fin _ _ j jr g (meet1_d h1 h2)⟩⟩⟩
    · simp only [decide_eq_false_iff_not, List.length_map] at h; omega
theorem meet_S1 (hll : l.length < 1000000) (hlm : m.length < 1000000) (hsl : slOk 11 k nl l.length) (hsm : slOk 11 k' nl' m.length) (hgl : goods l) (hgm : goods m) (i : Nat) (hil : i < l.length) {r : PV} (j0 : Nat → AV) (jr0 : Nat → Row) (g0 : Nat) (hm0 : 0 < m.length)
    (next : ∀ gm j jr g, LoopAt E1 Tryz.f61 r 0 (ref08_meet_S3 l m k k' nl full nl' full' (i + 1 : Nat) gm m.length (List.map I.p (m.map fun y => meet1 (l.getD i default) y)) j jr g)) :
    LoopAt E1 Tryz.f61 r 1 (ref08_meet_S1 l m k k' nl full nl' full' i 0 j0 jr0 g0) := by
  have hx := goods_get hgl hil
  have hi0 : (0 : Int) ≤ (i : Int) ∧ nl = false ∧ k = 11 := ⟨by omega, sl_at hsl hil⟩
  have hgi := getI hil
  have hy := goods_get hgm hm0
  have hq0 : (0 : Int) ≤ (0 : Int) ∧ nl' = false ∧ k' = 11 := ⟨by omega, sl_at hsm hm0⟩
  have hgq := getI hm0
  have hz : Int.toNat 0 = 0 := rfl
  have hw2 : IntKind.wrap IntKind.i64 ((0 : Int) + 1) = ((1 : Nat) : Int) := rfl
  have fin : ∀ (z : I) gm j jr g, meet1 (l.getD i default) (m.getD 0 default) = z → LoopAt E1 Tryz.f61 r 1 (ref08_meet_S2 l m k k' nl full nl' full' i (1 : Nat) gm 1 [I.p z] j jr g) := by
    intro z gm j jr g hzz
    refine meet_S2 l m k k' nl full nl' full' hll hlm hsl hsm hgl hgm i hil (m.length - 1) 1 [z] gm j jr g (by omega) (by simp; omega) fun gm j jr g => ?_
    have := next gm j jr g
    have e : m = m.getD 0 default :: m.drop 1 := by rw [← drop_get hm0]; rfl
    have e2 : (m.map fun y => meet1 (l.getD i default) y) = [z] ++ (m.drop 1).map fun y => meet1 (l.getD i default) y := by
      conv => lhs; rw [e]
      rw [List.map_cons, hzz]; rfl
    have e3 : [z].length + (m.length - 1) = m.length := by simp; omega
    rw [e2] at this
    rw [e3]
    exact this
  refine loop_go 2000 _ (Eq.mpr (ref08_meet_go_S1 l m k k' nl full nl' full' i 0 j0 jr0 g0 _) ⟨fun h => ?_, fun h => ?_⟩)
  · simp only [hw2, hz, Int.toNat_natCast, gI_nat, gI_zero, Nat.zero_add, eq_self, true_and, and_true, Nat.le_refl]
    exact ⟨hi0, hgi, hq0, hgq, den_ref08_low ⟨_, _⟩ ⟨_, _⟩ hx.ok.lo hy.ok.lo hx.lo hy.lo, fun h1 => ⟨hq0, hgq, hq0, hgq, den_ref08_high _ (mixL (l.getD i default) (m.getD 0 default)) hy (good_mix hx hy), fun h2 => ⟨hq0, hgq, hq0, hgq, fun j jr g => fin _ _ j jr g (meet1_a h1 h2)⟩, fun h2 j jr g => fin (mixL (l.getD i default) (m.getD 0 default)) _ j jr g (meet1_b h1 h2)⟩,
      fun h1 => ⟨hq0, hgq, den_ref08_high _ _ hy hx, fun h2 => ⟨hq0, hgq, hq0, hgq, fun j jr g => fin (mixL (m.getD 0 default) (l.getD i default)) _ j jr g (meet1_c h1 h2)⟩, fun h2 j jr g => fin _ _ j jr g (meet1_d h1 h2)⟩⟩
  · simp only [decide_eq_false_iff_not, List.length_map] at h; omega
theorem meet_S3 (hll : l.length < 1000000) (hlm : m.length < 1000000) (hb : l.length * m.length < 1000000) (hsl : slOk 11 k nl l.length) (hsm : slOk 11 k' nl' m.length) (hgl : goods l) (hgm : goods m) (hm0 : 0 < m.length) : ∀ (n i : Nat) (xs : List I) (gm : Nat) j jr g, i + n = l.length → xs.length = i * m.length → goods xs →
    LoopAt E1 Tryz.f61 (resL (joinR (xs ++ (l.drop i).flatMap fun x => m.map fun y => meet1 x y))) 0 (ref08_meet_S3 l m k k' nl full nl' full' i gm xs.length (List.map I.p xs) j jr g) := by
  intro n
  induction n with
  | zero =>
    intro i xs gm j0 jr0 g0 hi hxl hgx
    have hxb : xs.length < 1000000 := by
      rw [hxl, show i = l.length by omega]; exact hb
    refine loop_go 2000 _ (Eq.mpr (ref08_meet_go_S3 l m k k' nl full nl' full' i gm xs.length xs j0 jr0 g0 _) ⟨fun h => ?_, fun h => ?_⟩)
    · simp only [decide_eq_true_eq, List.length_map] at h; omega
    · rw [List.drop_eq_nil_of_le (by omega), List.flatMap_nil, List.append_nil]
      exact ⟨frzs_msl rfl (by simp) rfl, den_ref08_join xs 11 false false hxb ⟨by simp, fun _ => rfl⟩ hgx, rfl⟩
  | succ n ih =>
    intro i xs gm j0 jr0 g0 hi hxl hgx
    have hil : i < l.length := by omega
    have hmul : (i + 1) * m.length ≤ l.length * m.length := Nat.mul_le_mul_right _ (by omega)
    rw [Nat.add_mul, Nat.one_mul] at hmul
    have hst : (l.drop i).flatMap (fun x => m.map fun y => meet1 x y) = (m.map fun y => meet1 (l.getD i default) y) ++ (l.drop (i + 1)).flatMap fun x => m.map fun y => meet1 x y := by
      rw [drop_get hil, List.flatMap_cons]
    rw [hst, ← List.append_assoc]
    refine loop_go 2000 _ (Eq.mpr (ref08_meet_go_S3 l m k k' nl full nl' full' i gm xs.length xs j0 jr0 g0 _) ⟨fun h j jr g => ?_, fun h => ?_⟩)
    · refine meet_S2 l m k k' nl full nl' full' hll hlm hsl hsm hgl hgm i hil m.length 0 xs gm j jr g (by omega) (by omega) fun gm j jr g => ?_
      have hlen : (xs ++ m.map fun y => meet1 (l.getD i default) y).length = xs.length + m.length := by simp
      have := ih (i + 1) (xs ++ m.map fun y => meet1 (l.getD i default) y) gm j jr g (by omega) (by rw [hlen, hxl, Nat.add_mul, Nat.one_mul]) (fun z hz => ?_)
      · rw [hlen] at this
        exact this
      · rcases List.mem_append.1 hz with hz | hz
        · exact hgx z hz
        · obtain ⟨y, hy, rfl⟩ := List.mem_map.1 hz
          exact good_meet1 (goods_get hgl hil) (hgm y hy)
    · simp only [decide_eq_false_iff_not, List.length_map] at h; omega
theorem meet_S0 (hll : l.length < 1000000) (hlm : m.length < 1000000) (hb : l.length * m.length < 1000000) (hsl : slOk 11 k nl l.length) (hsm : slOk 11 k' nl' m.length) (hgl : goods l) (hgm : goods m) : ∀ (n i : Nat) j jr g, i + n = l.length → (m.length = 0 ∨ i = 0) →
    LoopAt E1 Tryz.f61 (resL (joinR ((l.drop i).flatMap fun x => m.map fun y => meet1 x y))) 0 (ref08_meet_S0 l m k k' nl full nl' full' i j jr g) := by
  have hdj : Den E1 58 [.sl 0 true true []] (.sl 0 true true []) := den_ref08_join [] 0 true true (by simp) ⟨fun _ => rfl, fun h => by cases h⟩ (fun x hx => by simp at hx)
  intro n
  induction n with
  | zero =>
    intro i j0 jr0 g0 hi h0
    refine loop_go 2000 _ (Eq.mpr (ref08_meet_go_S0 l m k k' nl full nl' full' i j0 jr0 g0 _) ⟨fun h => ?_, fun h => ?_⟩)
    · simp only [decide_eq_true_eq, List.length_map] at h; omega
    · rw [List.drop_eq_nil_of_le (by omega)]
      exact ⟨hdj, rfl⟩
  | succ n ih =>
    intro i j0 jr0 g0 hi h0
    have hil : i < l.length := by omega
    have hw1 : IntKind.wrap IntKind.i64 ((i : Int) + 1) = ((i + 1 : Nat) : Int) := wrap_i64 _ (by omega) (by omega)
    have hst : (l.drop i).flatMap (fun x => m.map fun y => meet1 x y) = (m.map fun y => meet1 (l.getD i default) y) ++ (l.drop (i + 1)).flatMap fun x => m.map fun y => meet1 x y := by
      rw [drop_get hil, List.flatMap_cons]
    rw [hst]
    refine loop_go 2000 _ (Eq.mpr (ref08_meet_go_S0 l m k k' nl full nl' full' i j0 jr0 g0 _) ⟨fun h j jr g => ?_, fun h => ?_⟩)
    · rcases Nat.eq_zero_or_pos m.length with hm | hm
      · have hm' : m = [] := List.length_eq_zero_iff.1 hm
        refine loop_go 2000 _ (Eq.mpr (ref08_meet_go_S1 l m k k' nl full nl' full' i 0 j jr g _) ⟨fun h => ?_, fun h j jr g => ?_⟩)
        · simp only [decide_eq_true_eq, List.length_map, hm] at h; omega
        · rw [hw1, hm']
          rw [hm'] at ih
          exact ih (i + 1) j jr g (by omega) (.inl rfl)
      · have hi0 : i = 0 := by omega
        subst hi0
        refine meet_S1 l m k k' nl full nl' full' hll hlm hsl hsm hgl hgm 0 hil j jr g hm fun gm j jr g => ?_
        have hlen : (m.map fun y => meet1 (l.getD 0 default) y).length = m.length := by simp
        have := meet_S3 l m k k' nl full nl' full' hll hlm hb hsl hsm hgl hgm hm n 1 (m.map fun y => meet1 (l.getD 0 default) y) gm j jr g (by omega) (by rw [hlen, Nat.one_mul]) (fun z hz => by
          obtain ⟨y, hy, rfl⟩ := List.mem_map.1 hz
          exact good_meet1 (goods_get hgl hil) (hgm y hy))
        rw [hlen] at this
        exact this
    · simp only [decide_eq_false_iff_not, List.length_map] at h; omega
theorem den_ref08_meet (hll : l.length < 1000000) (hlm : m.length < 1000000) (hb : l.length * m.length < 1000000) (hsl : slOk 11 k nl l.length) (hsm : slOk 11 k' nl' m.length) (hgl : goods l) (hgm : goods m) :
    Den E1 61 [listP k nl full l, listP k' nl' full' m] (resL (meetR l m)) :=
  den1 2000 _ rfl (by kernel_rfl) rfl rfl rfl (Eq.mpr (ref08_meet_go l m k k' nl full nl' full' _) fun j jr g => meet_S0 l m k k' nl full nl' full' hll hlm hb hsl hsm hgl hgm l.length 0 j jr g (by omega) (.inr rfl))
end
end Go.Proofs.YtlhfgonjcpapnaaGreatDoor.Abs

namespace Go.Proofs.YtlhfgonjcpapnaaGreatDoor.Abs
open Go Go.Proofs
def An {α : Type} (f : α → α → Int) : Prop := ∀ a b, f b a = - f a b
theorem An.lex {α : Type} {f g : α → α → Int} (hf : An f) (hg : An g) : An (lex2 f g) := by
  intro a b
  unfold lex2
  rw [hf a b, hg a b]
  by_cases h : f a b = 0
  · simp [h]
  · rw [if_pos (by omega), if_pos h]
theorem cmpI_neg (x y : Int) : cmpI y x = - cmpI x y := by
  unfold cmpI
  by_cases h1 : x < y
  · rw [if_neg (by omega), if_pos (by omega), if_pos h1]; rfl
  · by_cases h2 : x > y
    · rw [if_pos (by omega), if_neg h1, if_pos h2]
    · rw [if_neg (by omega), if_neg (by omega), if_neg h1, if_neg h2]; rfl
theorem An.key {α : Type} (k : α → Int) : An (fun a b => cmpI (k a) (k b)) := fun a b => cmpI_neg _ _
theorem An.list {α : Type} {f : α → α → Int} (hf : An f) : An (lexL f) := by
  intro x
  induction x with
  | nil => intro y; cases y <;> rfl
  | cons a x ih =>
    intro y
    cases y with
    | nil => rfl
    | cons b y =>
      simp only [lexL]
      rw [hf a b, ih y]
      by_cases h : f a b = 0
      · simp [h]
      · rw [if_pos (by omega), if_pos h]
theorem An.congr {α : Type} {f g : α → α → Int} (h : ∀ a b, f a b = g a b) (hg : An g) : An f := by
  have : f = g := by funext a b; exact h a b
  rw [this]; exact hg
theorem an_cmpV : An cmpV := An.congr cmpV_lex (An.lex (An.key V.a) (An.lex (An.key V.b) (An.lex (An.key V.c) (An.lex (An.key relV) fun v w => An.list (An.congr ordL_lex (An.lex (An.key rankL) (An.lex (An.key lenL) (An.congr cmpS_lex (An.list (An.key fun a : UInt8 => (a.toNat : Int))))))) v.pre w.pre))))
theorem right_all {l : List I} (h : mayR l = true) : ∀ x ∈ l, rightI x = true ∧ emptyI x = false := by
  simp only [mayR, Bool.and_eq_true, List.all_eq_true] at h
  intro x hx
  have := h.1.2 x hx
  simpa using this
theorem good_of_right {x : I} (hx : x.ok) (h : rightI x = true) : good x := ⟨hx, right_lo h, right_hi h⟩
theorem not_eq {b : Bool} : ((!b) = true → b = false) ∧ ((!b) = false → b = true) := by cases b <;> simp
end Go.Proofs.YtlhfgonjcpapnaaGreatDoor.Abs

namespace Go.Proofs.YtlhfgonjcpapnaaGreatDoor.Abs
open Go Go.Proofs
def deadI (x : I) : Bool := decide (befE x.low x.high ≥ 0)
def zV : V := ⟨0, 0, 0, 0, true, true, []⟩
def betE (a b : Ed) : I := ⟨a.v, a.behind, if b.less then zV else b.v, if b.less then false else !b.behind, b.less⟩
def delL (l : List I) : List I := l.filter (fun x => !deadI x) ++ List.replicate (l.length - (l.filter (fun x => !deadI x)).length) zI
def delN (l : List I) : Nat := (l.filter (fun x => !deadI x)).length
def insPosS (s : List I) (x : I) : Nat → Nat
  | 0 => 0
  | k + 1 => if befE x.low (s.getD k default).low < 0 then insPosS s x k else k + 1
def insS (s : List I) (x : I) : List I := s.take (insPosS s x s.length) ++ x :: s.drop (insPosS s x s.length)
def sortS (l : List I) : List I := l.foldl insS []
def stepS (out : List I) (x : I) : List I :=
  if out.isEmpty then [x]
  else if befE (out.getD (out.length - 1) default).high x.low ≥ 0 then
    (if befE (out.getD (out.length - 1) default).high x.high < 0 then out.set (out.length - 1) (betE (out.getD (out.length - 1) default).low x.high) else out)
  else out ++ [x]
def joinS (l : List I) : List I := (sortS (l.filter fun x => !deadI x)).foldl stepS []
def insDown (a : Nat) : Nat → List I → List I
  | 0, l => l
  | j + 1, l => if a < j + 1 ∧ befE (l.getD (j + 1) default).low (l.getD j default).low < 0 then insDown a j ((l.set (j + 1) (l.getD j default)).set j (l.getD (j + 1) default)) else l
def insRange (a b : Nat) (l : List I) : List I := (List.range (b - (a + 1))).foldl (fun l t => insDown a (a + 1 + t) l) l
def symL (a m b : Nat) (l : List I) : List I := l.take a ++ ((l.take m).drop a).merge ((l.take b).drop m) (fun x y => decide (befE y.low x.low ≥ 0)) ++ l.drop b
def sortN (n : Nat) (l : List I) : List I := sortS (l.take n) ++ l.drop n
end Go.Proofs.YtlhfgonjcpapnaaGreatDoor.Abs

namespace Go.Proofs.YtlhfgonjcpapnaaGreatDoor.Abs
open Go Go.Proofs
theorem span_join_1_go (x : I) (r : PV) : FnGo E1 Tryz.f96 [I.p x] r 2000 (.res (Ed.p ⟨(I.lo x), (I.lopen x), false⟩) (.res (Ed.p ⟨(I.hi x), (!I.hopen x), (I.less x)⟩) (.res (intP (befE ⟨I.lo x, I.lopen x, false⟩ ⟨I.hi x, !I.hopen x, I.less x⟩)) (.hole 0)))) =
  (((0 : Nat) = 0) ∧
 (Den E1 37 [I.p x] (Ed.p ⟨(I.lo x), (I.lopen x), false⟩)) ∧
 ((0 : Nat) = 0) ∧
 (Den E1 38 [I.p x] (Ed.p ⟨(I.hi x), (!I.hopen x), (I.less x)⟩)) ∧
 (Den E1 36 [Ed.p ⟨(I.lo x), (I.lopen x), false⟩, Ed.p ⟨(I.hi x), (!I.hopen x), (I.less x)⟩] (intP (befE ⟨I.lo x, I.lopen x, false⟩ ⟨I.hi x, !I.hopen x, I.less x⟩))) ∧
 (bolP (decide (befE ⟨I.lo x, I.lopen x, false⟩ ⟨I.hi x, !I.hopen x, I.less x⟩ ≥ (0 : Int)))) = r) := by kernel_rfl
theorem span_join_2_go (x : I) (y : I) (r : PV) : FnGo E1 Tryz.f98 [I.p x, I.p y] r 2000 (.res (Ed.p ⟨(I.lo x), (I.lopen x), false⟩) (.res (Ed.p ⟨(I.lo y), (I.lopen y), false⟩) (.res (intP (befE ⟨I.lo x, I.lopen x, false⟩ ⟨I.lo y, I.lopen y, false⟩)) (.hole 0)))) =
  (((0 : Nat) = 0) ∧
 (Den E1 37 [I.p x] (Ed.p ⟨(I.lo x), (I.lopen x), false⟩)) ∧
 ((1 : Nat) = 1) ∧
 (Den E1 37 [I.p y] (Ed.p ⟨(I.lo y), (I.lopen y), false⟩)) ∧
 (Den E1 36 [Ed.p ⟨(I.lo x), (I.lopen x), false⟩, Ed.p ⟨(I.lo y), (I.lopen y), false⟩] (intP (befE ⟨I.lo x, I.lopen x, false⟩ ⟨I.lo y, I.lopen y, false⟩))) ∧
 (intP (befE ⟨I.lo x, I.lopen x, false⟩ ⟨I.lo y, I.lopen y, false⟩)) = r) := by kernel_rfl
theorem span_between_go (a : Ed) (b : Ed) (r : PV) : FnGo E1 Tryz.f89 [Ed.p ⟨(Ed.v a), (Ed.behind a), (Ed.less a)⟩, Ed.p ⟨(Ed.v b), (Ed.behind b), (Ed.less b)⟩] r 2000 (.fork (.hole 0) (.hole 0)) =
  (((0 : Nat) = 0) ∧
 ((0 : Nat) = 0) ∧
 ((1 : Nat) = 1) ∧
 ((11 : Nat) = 11) ∧
 ((1 : Nat) = 1) ∧
 ((!Ed.less b) = true →
 ((1 : Nat) = 1) ∧
 ((1 : Nat) = 1) ∧
 ((11 : Nat) = 11) ∧
 ((11 : Nat) = 11) ∧
 ((2 : Nat) = 2) ∧
 (I.p ⟨(Ed.v a), (Ed.behind a), (Ed.v b), (!Ed.behind b), (Ed.less b)⟩) = r) ∧
 ((!Ed.less b) = false →
 ((11 : Nat) = 11) ∧
 ((2 : Nat) = 2) ∧
 (itvP (V.a (Ed.v a)) (V.b (Ed.v a)) (V.c (Ed.v a)) (V.q (Ed.v a)) (Ed.behind a) 0 0 0 (.sl 0 true true []) false (Ed.less b)) = r)) := by kernel_rfl
def slices_IndexFunc_api_Interval_api_Interval_D_S0 (l : List I) (k : Nat) (nl : Bool) (full : Bool) (i : Int) (j : Nat → AV) (jr : Nat → Row) (g : Nat) : St :=
  { t := [.pv (.sl k nl full (List.map I.p l)), .pv (.clo (.func 96) [] [])] ++ jj j 2 5 ++ [intA ((↑(List.length (List.map I.p l)) : Int)), intA i] ++ jj j 9 10, h := [List.replicate 19 row0], g := g }
theorem slices_IndexFunc_api_Interval_api_Interval_D_go (l : List I) (k : Nat) (nl : Bool) (full : Bool) (r : PV) : FnGo E1 Tryz.f121 [.sl k nl full (List.map I.p l), .clo (.func 96) [] []] r 2000 (.mask (iv [(2, 6), (9, 18)]) []) =
  (AtAll Tryz.f121 r 0 (slices_IndexFunc_api_Interval_api_Interval_D_S0 l k nl full 0)) := by kernel_rfl
theorem slices_IndexFunc_api_Interval_api_Interval_D_go_S0 (l : List I) (k : Nat) (nl : Bool) (full : Bool) (i : Int) (j : Nat → AV) (jr : Nat → Row) (g : Nat) (r : PV) : LoopGo E1 Tryz.f121 r 0 2000 (.fork (.val (I.p (gI l i)) (.res (bolP (deadI (gI l i))) (.fork (.hole 0) (.mask (iv [(2, 6), (9, 18)]) [])))) (.hole 0)) (slices_IndexFunc_api_Interval_api_Interval_D_S0 l k nl full i j jr g) =
  (((decide (i < (↑(List.length (List.map I.p l)) : Int))) = true →
 (((0 : Int) ≤ i) ∧ ((nl = false) ∧ (k = 11))) ∧
 (((List.map I.p l)[Int.toNat i]?) = some (I.p (gI l i))) ∧
 (Den E1 96 [I.p (gI l i)] (bolP (deadI (gI l i)))) ∧
 ((deadI (gI l i)) = true →
 (intP i) = r) ∧
 ((deadI (gI l i)) = false →
 AtAll Tryz.f121 r 0 (slices_IndexFunc_api_Interval_api_Interval_D_S0 l k nl full (IntKind.i64.wrap (i + (1 : Int)))))) ∧
 ((decide (i < (↑(List.length (List.map I.p l)) : Int))) = false →
 (intP (-1)) = r)) := by kernel_rfl
theorem slices_Clone_api_Interval_api_Interval_O_go (l : List I) (k : Nat) (full : Bool) (kk : Nat) (ee : TypeId) (xs : List PV) (off m : Nat) (fu : Bool) : FnGoO E1 Tryz.f95 [.sl k false full (List.map I.p l)] kk ee xs off m fu 2000 (.lit (.fork (.hole 0) (.lit (.hole 0)))) =
  ((((false = true → (List.map I.p l) = [])) ∧ ((false = false → k = 11))) ∧
 ((List.isEmpty (List.map I.p l)) = true →
 False) ∧
 ((List.isEmpty (List.map I.p l)) = false →
 ((true = true) ∧ (((11 : Nat) = 11) ∧ ((fitsRow ((0 : Nat) + List.length (List.map I.p l)) (104 : Nat)) = true))) ∧
 (((0 : Nat) = off) ∧ ((((0 : Nat) + List.length (List.map I.p l)) = m) ∧ (false = fu))) ∧
 ((5 : Nat) = 5) ∧
 ((11 : Nat) = kk) ∧
 ((63 : Nat) = ee) ∧
 ([] ++ List.map I.p l) = xs)) := by kernel_rfl
theorem slices_Clone_api_Interval_api_Interval_P_go (k : Nat) (full : Bool) (r : PV) : FnGoP E1 Tryz.f95 [.sl k true full []] r 2000 (.lit (.hole 0)) =
  (((.sl 0 true true []) : PV) = r) := by kernel_rfl
def slices_DeleteFunc_api_Interval_api_Interval_S0 (l : List I) (n : Nat) (fu : Bool) (i : Int) (q : Int) (xsI : List PV) (j : Nat → AV) (jr : Nat → Row) (g : Nat) : St :=
  { t := [.msl 0 0 0 0 n fu, .pv (.clo (.func 96) [] []), j 2, j 3, j 4, intA q, intA i] ++ jj j 7 35, h := [[⟨0, .row 11 63 xsI false⟩], List.replicate 7 row0 ++ [jr 7] ++ List.replicate 34 row0], g := g }
theorem slices_DeleteFunc_api_Interval_api_Interval_go (l : List I) (n : Nat) (fu : Bool) (v : AV) (rs : List Row) : FnGoC E1 Tryz.f94 [.msl 0 0 0 0 n fu, .pv (.clo (.func 96) [] [])] [⟨0, .row 11 63 (List.map I.p l) false⟩] v rs 2000 (.frz [.sl 11 false fu (List.map I.p l), .clo (.func 96) [] []] [[⟨0, .row 11 63 (List.map I.p l) true⟩], List.replicate 42 row0] (.res (intP (idxI deadI l)) (.fork (.hole 0) (.mask (iv [(2, 4), (7, 41)]) [7])))) =
  ((frzs frzDepth [.msl 0 0 0 0 n fu, .pv (.clo (.func 96) [] [])] [[⟨0, .row 11 63 (List.map I.p l) false⟩], List.replicate 42 row0] = some ([.sl 11 false fu (List.map I.p l), .clo (.func 96) [] []], [[⟨0, .row 11 63 (List.map I.p l) true⟩], List.replicate 42 row0])) ∧
 (Den E1 121 [.sl 11 false fu (List.map I.p l), .clo (.func 96) [] []] (intP (idxI deadI l))) ∧
 ((idxI deadI l == (-1 : Int)) = true →
 ((0 : Nat) = 0) ∧
 ((0 : Nat) = 0) ∧
 ((.msl 0 0 0 0 n fu) = v) ∧
 [⟨0, .row 11 63 (List.map I.p l) false⟩] = rs) ∧
 ((idxI deadI l == (-1 : Int)) = false →
 ∀ (j' : Nat → AV) (jr' : Nat → Row) (g' : Nat), LoopAtC E1 Tryz.f94 1 v rs 0 (slices_DeleteFunc_api_Interval_api_Interval_S0 l n fu (IntKind.i64.wrap (idxI deadI l + (1 : Int))) (idxI deadI l) (List.map I.p l) j' jr' g'))) := by kernel_rfl
theorem slices_DeleteFunc_api_Interval_api_Interval_go_S0 (l : List I) (n : Nat) (fu : Bool) (i : Int) (q : Int) (xs : List I) (j : Nat → AV) (jr : Nat → Row) (g : Nat) (v : AV) (rs : List Row) : LoopGoC E1 Tryz.f94 1 v rs 0 2000 (.fork (.val (I.p (List.getD xs ((0 : Nat) + Int.toNat i) default)) (.res (bolP (deadI (List.getD xs ((0 : Nat) + Int.toNat i) default))) (.fork (.val (I.p (List.getD xs ((0 : Nat) + Int.toNat q) default)) (.mask (iv [(2, 4), (7, 41)]) [7])) (.mask (iv [(2, 4), (7, 41)]) [7])))) (.fork (.hole 0) (.hole 0))) (slices_DeleteFunc_api_Interval_api_Interval_S0 l n fu i q (List.map I.p xs) j jr g) =
  (((decide (i < (↑n : Int))) = true →
 ((0 : Nat) = 0) ∧
 (((0 : Int) ≤ i) ∧ ((i < (↑n : Int)) ∧ ((11 : Nat) = 11))) ∧
 ((0 : Nat) = 0) ∧
 (((List.map I.p xs)[(0 : Nat) + Int.toNat i]?) = some (I.p (List.getD xs ((0 : Nat) + Int.toNat i) default))) ∧
 ((g + 4 + 4) = g + 4 + 4) ∧
 ((g + 4 + 4) = g + 4 + 4) ∧
 (Den E1 96 [I.p (List.getD xs ((0 : Nat) + Int.toNat i) default)] (bolP (deadI (List.getD xs ((0 : Nat) + Int.toNat i) default)))) ∧
 ((!deadI (List.getD xs ((0 : Nat) + Int.toNat i) default)) = true →
 ((g + 4 + 4) = g + 4 + 4) ∧
 ((0 : Nat) = 0) ∧
 (((0 : Int) ≤ q) ∧ ((q < (↑n : Int)) ∧ ((11 : Nat) = 11))) ∧
 ((0 : Nat) = 0) ∧
 ((0 : Nat) = 0) ∧
 (((List.map I.p xs)[(0 : Nat) + Int.toNat q]?) = some (I.p (List.getD xs ((0 : Nat) + Int.toNat q) default))) ∧
 (∀ (j' : Nat → AV) (jr' : Nat → Row) (g' : Nat), LoopAtC E1 Tryz.f94 1 v rs 0 (slices_DeleteFunc_api_Interval_api_Interval_S0 l n fu (IntKind.i64.wrap (i + (1 : Int))) (IntKind.i64.wrap (q + (1 : Int))) (List.set (List.map I.p xs) ((0 : Nat) + Int.toNat q) (PV.agg [PV.lit (Value.int IntKind.u32 (V.a (I.lo (List.getD xs ((0 : Nat) + Int.toNat i) default)))), PV.lit (Value.int IntKind.u32 (V.b (I.lo (List.getD xs ((0 : Nat) + Int.toNat i) default)))), PV.lit (Value.int IntKind.u32 (V.c (I.lo (List.getD xs ((0 : Nat) + Int.toNat i) default)))), V.q (I.lo (List.getD xs ((0 : Nat) + Int.toNat i) default)), PV.lit (Value.bool (I.lopen (List.getD xs ((0 : Nat) + Int.toNat i) default))), PV.lit (Value.int IntKind.u32 (V.a (I.hi (List.getD xs ((0 : Nat) + Int.toNat i) default)))), PV.lit (Value.int IntKind.u32 (V.b (I.hi (List.getD xs ((0 : Nat) + Int.toNat i) default)))), PV.lit (Value.int IntKind.u32 (V.c (I.hi (List.getD xs ((0 : Nat) + Int.toNat i) default)))), V.q (I.hi (List.getD xs ((0 : Nat) + Int.toNat i) default)), PV.lit (Value.bool (I.hopen (List.getD xs ((0 : Nat) + Int.toNat i) default))), PV.lit (Value.bool (I.less (List.getD xs ((0 : Nat) + Int.toNat i) default)))])) j' jr' g'))) ∧
 ((!deadI (List.getD xs ((0 : Nat) + Int.toNat i) default)) = false →
 ∀ (j' : Nat → AV) (jr' : Nat → Row) (g' : Nat), LoopAtC E1 Tryz.f94 1 v rs 0 (slices_DeleteFunc_api_Interval_api_Interval_S0 l n fu (IntKind.i64.wrap (i + (1 : Int))) q (List.map I.p xs) j' jr' g'))) ∧
 ((decide (i < (↑n : Int))) = false →
 (((0 : Int) ≤ q) ∧ (q ≤ (↑n : Int))) ∧
 ((0 : Nat) = 0) ∧
 ((11 : Nat) = 11) ∧
 ((0 : Nat) = 0) ∧
 ((n - Int.toNat q == (0 : Nat)) = true →
 (((0 : Int) ≤ q) ∧ (q ≤ (↑n : Int))) ∧
 ((0 : Nat) = 0) ∧
 ((11 : Nat) = 11) ∧
 ((0 : Nat) = 0) ∧
 ((0 : Nat) = 0) ∧
 ((.msl 0 0 0 0 (Int.toNat q - (0 : Nat)) (fu && Int.toNat q == n)) = v) ∧
 [⟨0, .row 11 63 (List.map I.p xs) false⟩] = rs) ∧
 ((n - Int.toNat q == (0 : Nat)) = false →
 ((true = true) ∧ (((11 : Nat) = 11) ∧ (((11 : Nat) ≠ (0 : Nat)) ∧ ((0 : Nat) + Int.toNat q + (n - Int.toNat q) ≤ List.length (List.map I.p xs))))) ∧
 (((0 : Int) ≤ q) ∧ (q ≤ (↑n : Int))) ∧
 ((0 : Nat) = 0) ∧
 ((11 : Nat) = 11) ∧
 ((0 : Nat) = 0) ∧
 ((0 : Nat) = 0) ∧
 ((.msl 0 0 0 0 (Int.toNat q - (0 : Nat)) (fu && Int.toNat q == n)) = v) ∧
 [⟨0, .row 11 63 (splice (List.map I.p xs) ((0 : Nat) + Int.toNat q) (List.replicate (n - Int.toNat q) (PV.agg [PV.lit (Value.int IntKind.u32 (0 : Int)), PV.lit (Value.int IntKind.u32 (0 : Int)), PV.lit (Value.int IntKind.u32 (0 : Int)), PV.sl (0 : Nat) true true [], PV.lit (Value.bool false), PV.lit (Value.int IntKind.u32 (0 : Int)), PV.lit (Value.int IntKind.u32 (0 : Int)), PV.lit (Value.int IntKind.u32 (0 : Int)), PV.sl (0 : Nat) true true [], PV.lit (Value.bool false), PV.lit (Value.bool false)]))) false⟩] = rs))) := by kernel_rfl
def slices_insertionSortCmpFunc_api_Interval_S0 (l : List I) (n : Nat) (fu : Bool) (a : Int) (b : Int) (i : Int) (xsI : List PV) (j : Nat → AV) (jr : Nat → Row) (g : Nat) : St :=
  { t := [.msl 0 0 0 0 n fu, intA a, intA b, .pv (.clo (.func 98) [] []), j 4, j 5, j 6, j 7, intA i] ++ jj j 9 44, h := [[⟨0, .row 11 63 xsI false⟩], List.replicate 53 row0], g := g }
def slices_insertionSortCmpFunc_api_Interval_S1 (l : List I) (n : Nat) (fu : Bool) (a : Int) (b : Int) (i : Int) (q : Int) (xsI : List PV) (j : Nat → AV) (jr : Nat → Row) (g : Nat) : St :=
  { t := [.msl 0 0 0 0 n fu, intA a, intA b, .pv (.clo (.func 98) [] []), j 4, j 5, j 6, j 7, intA i, intA q] ++ jj j 10 43, h := [[⟨0, .row 11 63 xsI false⟩], List.replicate 53 row0], g := g }
theorem slices_insertionSortCmpFunc_api_Interval_go (l : List I) (n : Nat) (fu : Bool) (a : Int) (b : Int) (v : AV) (rs : List Row) : FnGoC E1 Tryz.f154 [.msl 0 0 0 0 n fu, intA a, intA b, .pv (.clo (.func 98) [] [])] [⟨0, .row 11 63 (List.map I.p l) false⟩] v rs 2000 (.mask (iv [(4, 7), (9, 52)]) []) =
  (∀ (j' : Nat → AV) (jr' : Nat → Row) (g' : Nat), LoopAtC E1 Tryz.f154 1 v rs 0 (slices_insertionSortCmpFunc_api_Interval_S0 l n fu a b (IntKind.i64.wrap (a + (1 : Int))) (List.map I.p l) j' jr' g')) := by kernel_rfl
theorem slices_insertionSortCmpFunc_api_Interval_go_S0 (l : List I) (n : Nat) (fu : Bool) (a : Int) (b : Int) (i : Int) (xs : List I) (j : Nat → AV) (jr : Nat → Row) (g : Nat) (v : AV) (rs : List Row) : LoopGoC E1 Tryz.f154 1 v rs 0 2000 (.fork (.mask (iv [(4, 7), (10, 52)]) []) (.hole 0)) (slices_insertionSortCmpFunc_api_Interval_S0 l n fu a b i (List.map I.p xs) j jr g) =
  (((decide (i < b)) = true →
 ∀ (j' : Nat → AV) (jr' : Nat → Row) (g' : Nat), LoopAtC E1 Tryz.f154 1 v rs 1 (slices_insertionSortCmpFunc_api_Interval_S1 l n fu a b i i (List.map I.p xs) j' jr' g')) ∧
 ((decide (i < b)) = false →
 ((0 : Nat) = 0) ∧
 ((.pv (.tup [])) = v) ∧
 [⟨0, .row 11 63 (List.map I.p xs) false⟩] = rs)) := by kernel_rfl
theorem slices_insertionSortCmpFunc_api_Interval_go_S1 (l : List I) (n : Nat) (fu : Bool) (a : Int) (b : Int) (i : Int) (q : Int) (xs : List I) (j : Nat → AV) (jr : Nat → Row) (g : Nat) (v : AV) (rs : List Row) : LoopGoC E1 Tryz.f154 1 v rs 1 2000 (.fork (.lts 5 (.val (I.p (List.getD xs ((0 : Nat) + Int.toNat q) default)) (.lts 5 (.val (I.p (List.getD xs ((0 : Nat) + Int.toNat (IntKind.i64.wrap (q - (1 : Int)))) default)) (.lit (.res (intP (befE ⟨I.lo (List.getD xs ((0 : Nat) + Int.toNat q) default), I.lopen (List.getD xs ((0 : Nat) + Int.toNat q) default), false⟩ ⟨I.lo (List.getD xs ((0 : Nat) + Int.toNat (IntKind.i64.wrap (q - (1 : Int)))) default), I.lopen (List.getD xs ((0 : Nat) + Int.toNat (IntKind.i64.wrap (q - (1 : Int)))) default), false⟩)) (.lit (.lit (.fork (.val (I.p (List.getD xs ((0 : Nat) + Int.toNat (IntKind.i64.wrap (q - (1 : Int)))) default)) (.val (I.p (List.getD xs ((0 : Nat) + Int.toNat q) default)) (.val (I.p (List.getD xs ((0 : Nat) + Int.toNat q) default)) (.val (I.p (List.getD xs ((0 : Nat) + Int.toNat (IntKind.i64.wrap (q - (1 : Int)))) default)) (.mask (iv [(4, 7), (10, 52)]) []))))) (.mask (iv [(4, 7), (9, 52)]) [])))))))))) (.lts 14 (.mask (iv [(4, 7), (9, 52)]) []))) (slices_insertionSortCmpFunc_api_Interval_S1 l n fu a b i q (List.map I.p xs) j jr g) =
  (((decide (q > a)) = true →
 ((0 : Nat) = 0) ∧
 (((0 : Int) ≤ q) ∧ ((q < (↑n : Int)) ∧ ((11 : Nat) = 11))) ∧
 ((0 : Nat) = 0) ∧
 (((List.map I.p xs)[(0 : Nat) + Int.toNat q]?) = some (I.p (List.getD xs ((0 : Nat) + Int.toNat q) default))) ∧
 ((0 : Nat) = 0) ∧
 (((0 : Int) ≤ IntKind.i64.wrap (q - (1 : Int))) ∧ ((IntKind.i64.wrap (q - (1 : Int)) < (↑n : Int)) ∧ ((11 : Nat) = 11))) ∧
 ((0 : Nat) = 0) ∧
 (((List.map I.p xs)[(0 : Nat) + Int.toNat (IntKind.i64.wrap (q - (1 : Int)))]?) = some (I.p (List.getD xs ((0 : Nat) + Int.toNat (IntKind.i64.wrap (q - (1 : Int)))) default))) ∧
 (Den E1 98 [I.p (List.getD xs ((0 : Nat) + Int.toNat q) default), I.p (List.getD xs ((0 : Nat) + Int.toNat (IntKind.i64.wrap (q - (1 : Int)))) default)] (intP (befE ⟨I.lo (List.getD xs ((0 : Nat) + Int.toNat q) default), I.lopen (List.getD xs ((0 : Nat) + Int.toNat q) default), false⟩ ⟨I.lo (List.getD xs ((0 : Nat) + Int.toNat (IntKind.i64.wrap (q - (1 : Int)))) default), I.lopen (List.getD xs ((0 : Nat) + Int.toNat (IntKind.i64.wrap (q - (1 : Int)))) default), false⟩))) ∧
 ((decide (befE ⟨I.lo (List.getD xs ((0 : Nat) + Int.toNat q) default), I.lopen (List.getD xs ((0 : Nat) + Int.toNat q) default), false⟩ ⟨I.lo (List.getD xs ((0 : Nat) + Int.toNat (IntKind.i64.wrap (q - (1 : Int)))) default), I.lopen (List.getD xs ((0 : Nat) + Int.toNat (IntKind.i64.wrap (q - (1 : Int)))) default), false⟩ < (0 : Int))) = true →
 ((0 : Nat) = 0) ∧
 (((0 : Int) ≤ IntKind.i64.wrap (q - (1 : Int))) ∧ ((IntKind.i64.wrap (q - (1 : Int)) < (↑n : Int)) ∧ ((11 : Nat) = 11))) ∧
 ((0 : Nat) = 0) ∧
 (((List.map I.p xs)[(0 : Nat) + Int.toNat (IntKind.i64.wrap (q - (1 : Int)))]?) = some (I.p (List.getD xs ((0 : Nat) + Int.toNat (IntKind.i64.wrap (q - (1 : Int)))) default))) ∧
 ((0 : Nat) = 0) ∧
 (((0 : Int) ≤ q) ∧ ((q < (↑n : Int)) ∧ ((11 : Nat) = 11))) ∧
 ((0 : Nat) = 0) ∧
 (((List.map I.p xs)[(0 : Nat) + Int.toNat q]?) = some (I.p (List.getD xs ((0 : Nat) + Int.toNat q) default))) ∧
 ((0 : Nat) = 0) ∧
 (((0 : Int) ≤ q) ∧ ((q < (↑n : Int)) ∧ ((11 : Nat) = 11))) ∧
 ((0 : Nat) = 0) ∧
 ((0 : Nat) = 0) ∧
 (((List.map I.p xs)[(0 : Nat) + Int.toNat q]?) = some (I.p (List.getD xs ((0 : Nat) + Int.toNat q) default))) ∧
 ((0 : Nat) = 0) ∧
 (((0 : Int) ≤ IntKind.i64.wrap (q - (1 : Int))) ∧ ((IntKind.i64.wrap (q - (1 : Int)) < (↑n : Int)) ∧ ((11 : Nat) = 11))) ∧
 ((0 : Nat) = 0) ∧
 ((0 : Nat) = 0) ∧
 (((List.set (List.map I.p xs) ((0 : Nat) + Int.toNat q) (PV.agg [PV.lit (Value.int IntKind.u32 (V.a (I.lo (List.getD xs ((0 : Nat) + Int.toNat (IntKind.i64.wrap (q - (1 : Int)))) default)))), PV.lit (Value.int IntKind.u32 (V.b (I.lo (List.getD xs ((0 : Nat) + Int.toNat (IntKind.i64.wrap (q - (1 : Int)))) default)))), PV.lit (Value.int IntKind.u32 (V.c (I.lo (List.getD xs ((0 : Nat) + Int.toNat (IntKind.i64.wrap (q - (1 : Int)))) default)))), V.q (I.lo (List.getD xs ((0 : Nat) + Int.toNat (IntKind.i64.wrap (q - (1 : Int)))) default)), PV.lit (Value.bool (I.lopen (List.getD xs ((0 : Nat) + Int.toNat (IntKind.i64.wrap (q - (1 : Int)))) default))), PV.lit (Value.int IntKind.u32 (V.a (I.hi (List.getD xs ((0 : Nat) + Int.toNat (IntKind.i64.wrap (q - (1 : Int)))) default)))), PV.lit (Value.int IntKind.u32 (V.b (I.hi (List.getD xs ((0 : Nat) + Int.toNat (IntKind.i64.wrap (q - (1 : Int)))) default)))), PV.lit (Value.int IntKind.u32 (V.c (I.hi (List.getD xs ((0 : Nat) + Int.toNat (IntKind.i64.wrap (q - (1 : Int)))) default)))), V.q (I.hi (List.getD xs ((0 : Nat) + Int.toNat (IntKind.i64.wrap (q - (1 : Int)))) default)), PV.lit (Value.bool (I.hopen (List.getD xs ((0 : Nat) + Int.toNat (IntKind.i64.wrap (q - (1 : Int)))) default))), PV.lit (Value.bool (I.less (List.getD xs ((0 : Nat) + Int.toNat (IntKind.i64.wrap (q - (1 : Int)))) default)))]))[(0 : Nat) + Int.toNat (IntKind.i64.wrap (q - (1 : Int)))]?) = some (I.p (List.getD xs ((0 : Nat) + Int.toNat (IntKind.i64.wrap (q - (1 : Int)))) default))) ∧
 (∀ (j' : Nat → AV) (jr' : Nat → Row) (g' : Nat), LoopAtC E1 Tryz.f154 1 v rs 1 (slices_insertionSortCmpFunc_api_Interval_S1 l n fu a b i (IntKind.i64.wrap (q - (1 : Int))) (List.set (List.set (List.map I.p xs) ((0 : Nat) + Int.toNat q) (PV.agg [PV.lit (Value.int IntKind.u32 (V.a (I.lo (List.getD xs ((0 : Nat) + Int.toNat (IntKind.i64.wrap (q - (1 : Int)))) default)))), PV.lit (Value.int IntKind.u32 (V.b (I.lo (List.getD xs ((0 : Nat) + Int.toNat (IntKind.i64.wrap (q - (1 : Int)))) default)))), PV.lit (Value.int IntKind.u32 (V.c (I.lo (List.getD xs ((0 : Nat) + Int.toNat (IntKind.i64.wrap (q - (1 : Int)))) default)))), V.q (I.lo (List.getD xs ((0 : Nat) + Int.toNat (IntKind.i64.wrap (q - (1 : Int)))) default)), PV.lit (Value.bool (I.lopen (List.getD xs ((0 : Nat) + Int.toNat (IntKind.i64.wrap (q - (1 : Int)))) default))), PV.lit (Value.int IntKind.u32 (V.a (I.hi (List.getD xs ((0 : Nat) + Int.toNat (IntKind.i64.wrap (q - (1 : Int)))) default)))), PV.lit (Value.int IntKind.u32 (V.b (I.hi (List.getD xs ((0 : Nat) + Int.toNat (IntKind.i64.wrap (q - (1 : Int)))) default)))), PV.lit (Value.int IntKind.u32 (V.c (I.hi (List.getD xs ((0 : Nat) + Int.toNat (IntKind.i64.wrap (q - (1 : Int)))) default)))), V.q (I.hi (List.getD xs ((0 : Nat) + Int.toNat (IntKind.i64.wrap (q - (1 : Int)))) default)), PV.lit (Value.bool (I.hopen (List.getD xs ((0 : Nat) + Int.toNat (IntKind.i64.wrap (q - (1 : Int)))) default))), PV.lit (Value.bool (I.less (List.getD xs ((0 : Nat) + Int.toNat (IntKind.i64.wrap (q - (1 : Int)))) default)))])) ((0 : Nat) + Int.toNat (IntKind.i64.wrap (q - (1 : Int)))) (PV.agg [PV.lit (Value.int IntKind.u32 (V.a (I.lo (List.getD xs ((0 : Nat) + Int.toNat q) default)))), PV.lit (Value.int IntKind.u32 (V.b (I.lo (List.getD xs ((0 : Nat) + Int.toNat q) default)))), PV.lit (Value.int IntKind.u32 (V.c (I.lo (List.getD xs ((0 : Nat) + Int.toNat q) default)))), V.q (I.lo (List.getD xs ((0 : Nat) + Int.toNat q) default)), PV.lit (Value.bool (I.lopen (List.getD xs ((0 : Nat) + Int.toNat q) default))), PV.lit (Value.int IntKind.u32 (V.a (I.hi (List.getD xs ((0 : Nat) + Int.toNat q) default)))), PV.lit (Value.int IntKind.u32 (V.b (I.hi (List.getD xs ((0 : Nat) + Int.toNat q) default)))), PV.lit (Value.int IntKind.u32 (V.c (I.hi (List.getD xs ((0 : Nat) + Int.toNat q) default)))), V.q (I.hi (List.getD xs ((0 : Nat) + Int.toNat q) default)), PV.lit (Value.bool (I.hopen (List.getD xs ((0 : Nat) + Int.toNat q) default))), PV.lit (Value.bool (I.less (List.getD xs ((0 : Nat) + Int.toNat q) default)))])) j' jr' g'))) ∧
 ((decide (befE ⟨I.lo (List.getD xs ((0 : Nat) + Int.toNat q) default), I.lopen (List.getD xs ((0 : Nat) + Int.toNat q) default), false⟩ ⟨I.lo (List.getD xs ((0 : Nat) + Int.toNat (IntKind.i64.wrap (q - (1 : Int)))) default), I.lopen (List.getD xs ((0 : Nat) + Int.toNat (IntKind.i64.wrap (q - (1 : Int)))) default), false⟩ < (0 : Int))) = false →
 ∀ (j' : Nat → AV) (jr' : Nat → Row) (g' : Nat), LoopAtC E1 Tryz.f154 1 v rs 0 (slices_insertionSortCmpFunc_api_Interval_S0 l n fu a b (IntKind.i64.wrap (i + (1 : Int))) (List.map I.p xs) j' jr' g'))) ∧
 ((decide (q > a)) = false →
 ∀ (j' : Nat → AV) (jr' : Nat → Row) (g' : Nat), LoopAtC E1 Tryz.f154 1 v rs 0 (slices_insertionSortCmpFunc_api_Interval_S0 l n fu a b (IntKind.i64.wrap (i + (1 : Int))) (List.map I.p xs) j' jr' g'))) := by kernel_rfl
def slices_stableCmpFunc_api_Interval_S0 (l : List I) (n : Nat) (fu : Bool) (a : Int) (b : Int) (xsI : List PV) (j : Nat → AV) (jr : Nat → Row) (g : Nat) : St :=
  { t := [.msl 0 0 0 0 n fu, intA ((↑n : Int)), .pv (.clo (.func 98) [] []), j 3, j 4, j 5, intA 20, intA a, intA b] ++ jj j 9 54, h := [[⟨0, .row 11 63 xsI false⟩], List.replicate 63 row0], g := g }
def slices_stableCmpFunc_api_Interval_S1 (l : List I) (n : Nat) (fu : Bool) (a : Int) (b : Int) (s : Int) (xsI : List PV) (j : Nat → AV) (jr : Nat → Row) (g : Nat) : St :=
  { t := [.msl 0 0 0 0 n fu, intA ((↑n : Int)), .pv (.clo (.func 98) [] []), j 3, j 4, j 5, intA s, intA a, intA b] ++ jj j 9 54, h := [[⟨0, .row 11 63 xsI false⟩], List.replicate 63 row0], g := g }
def slices_stableCmpFunc_api_Interval_S2 (l : List I) (n : Nat) (fu : Bool) (a : Int) (b : Int) (s : Int) (xsI : List PV) (j : Nat → AV) (jr : Nat → Row) (g : Nat) : St :=
  { t := [.msl 0 0 0 0 n fu, intA ((↑n : Int)), .pv (.clo (.func 98) [] []), j 3, j 4, j 5, intA s, intA a, intA b] ++ jj j 9 54, h := [[⟨0, .row 11 63 xsI false⟩], List.replicate 63 row0], g := g }
theorem slices_stableCmpFunc_api_Interval_go (l : List I) (n : Nat) (fu : Bool) (v : AV) (rs : List Row) : FnGoC E1 Tryz.f132 [.msl 0 0 0 0 n fu, intA ((↑n : Int)), .pv (.clo (.func 98) [] [])] [⟨0, .row 11 63 (List.map I.p l) false⟩] v rs 2000 (.mask (iv [(3, 5), (9, 62)]) []) =
  (∀ (j' : Nat → AV) (jr' : Nat → Row) (g' : Nat), LoopAtC E1 Tryz.f132 1 v rs 0 (slices_stableCmpFunc_api_Interval_S0 l n fu 0 20 (List.map I.p l) j' jr' g')) := by kernel_rfl
theorem slices_stableCmpFunc_api_Interval_go_S0 (l : List I) (n : Nat) (fu : Bool) (a : Int) (b : Int) (xs : List I) (j : Nat → AV) (jr : Nat → Row) (g : Nat) (v : AV) (rs : List Row) : LoopGoC E1 Tryz.f132 1 v rs 0 2000 (.fork (.resC (.pv (.tup [])) [⟨0, .row 11 63 (List.map I.p (insRange (Int.toNat a) (Int.toNat b) xs)) false⟩] (.mask (iv [(3, 5), (9, 62)]) [])) (.resC (.pv (.tup [])) [⟨0, .row 11 63 (List.map I.p (insRange (Int.toNat a) (Int.toNat (↑n : Int)) xs)) false⟩] (.mask (iv [(3, 5), (9, 62)]) []))) (slices_stableCmpFunc_api_Interval_S0 l n fu a b (List.map I.p xs) j jr g) =
  (((decide (b ≤ (↑n : Int))) = true →
 ((0 : Nat) = 0) ∧
 (DenC E1 154 [.msl 0 0 0 0 n fu, intA a, intA b, .pv (.clo (.func 98) [] [])] [⟨0, .row 11 63 (List.map I.p xs) false⟩] (.pv (.tup [])) [⟨0, .row 11 63 (List.map I.p (insRange (Int.toNat a) (Int.toNat b) xs)) false⟩]) ∧
 (∀ (j' : Nat → AV) (jr' : Nat → Row) (g' : Nat), LoopAtC E1 Tryz.f132 1 v rs 0 (slices_stableCmpFunc_api_Interval_S0 l n fu b (IntKind.i64.wrap (b + (20 : Int))) (List.map I.p (insRange (Int.toNat a) (Int.toNat b) xs)) j' jr' g'))) ∧
 ((decide (b ≤ (↑n : Int))) = false →
 ((0 : Nat) = 0) ∧
 (DenC E1 154 [.msl 0 0 0 0 n fu, intA a, intA ((↑n : Int)), .pv (.clo (.func 98) [] [])] [⟨0, .row 11 63 (List.map I.p xs) false⟩] (.pv (.tup [])) [⟨0, .row 11 63 (List.map I.p (insRange (Int.toNat a) (Int.toNat (↑n : Int)) xs)) false⟩]) ∧
 (∀ (j' : Nat → AV) (jr' : Nat → Row) (g' : Nat), LoopAtC E1 Tryz.f132 1 v rs 1 (slices_stableCmpFunc_api_Interval_S1 l n fu a b 20 (List.map I.p (insRange (Int.toNat a) (Int.toNat (↑n : Int)) xs)) j' jr' g')))) := by kernel_rfl
theorem slices_stableCmpFunc_api_Interval_go_S1 (l : List I) (n : Nat) (fu : Bool) (a : Int) (b : Int) (s : Int) (xs : List I) (j : Nat → AV) (jr : Nat → Row) (g : Nat) (v : AV) (rs : List Row) : LoopGoC E1 Tryz.f132 1 v rs 1 2000 (.fork (.mask (iv [(3, 5), (9, 62)]) []) (.hole 0)) (slices_stableCmpFunc_api_Interval_S1 l n fu a b s (List.map I.p xs) j jr g) =
  (((decide (s < (↑n : Int))) = true →
 ∀ (j' : Nat → AV) (jr' : Nat → Row) (g' : Nat), LoopAtC E1 Tryz.f132 1 v rs 2 (slices_stableCmpFunc_api_Interval_S2 l n fu 0 (IntKind.i64.wrap ((2 : Int) * s)) s (List.map I.p xs) j' jr' g')) ∧
 ((decide (s < (↑n : Int))) = false →
 ((0 : Nat) = 0) ∧
 ((.pv (.tup [])) = v) ∧
 [⟨0, .row 11 63 (List.map I.p xs) false⟩] = rs)) := by kernel_rfl
theorem slices_stableCmpFunc_api_Interval_go_S2 (l : List I) (n : Nat) (fu : Bool) (a : Int) (b : Int) (s : Int) (xs : List I) (j : Nat → AV) (jr : Nat → Row) (g : Nat) (v : AV) (rs : List Row) : LoopGoC E1 Tryz.f132 1 v rs 2 2000 (.fork (.resC (.pv (.tup [])) [⟨0, .row 11 63 (List.map I.p (symL (Int.toNat a) (Int.toNat (IntKind.i64.wrap (a + s))) (Int.toNat b) xs)) false⟩] (.mask (iv [(3, 5), (9, 62)]) [])) (.fork (.resC (.pv (.tup [])) [⟨0, .row 11 63 (List.map I.p (symL (Int.toNat a) (Int.toNat (IntKind.i64.wrap (a + s))) (Int.toNat (↑n : Int)) xs)) false⟩] (.mask (iv [(3, 5), (9, 62)]) [])) (.mask (iv [(3, 5), (9, 62)]) []))) (slices_stableCmpFunc_api_Interval_S2 l n fu a b s (List.map I.p xs) j jr g) =
  (((decide (b ≤ (↑n : Int))) = true →
 ((0 : Nat) = 0) ∧
 (DenC E1 155 [.msl 0 0 0 0 n fu, intA a, intA (IntKind.i64.wrap (a + s)), intA b, .pv (.clo (.func 98) [] [])] [⟨0, .row 11 63 (List.map I.p xs) false⟩] (.pv (.tup [])) [⟨0, .row 11 63 (List.map I.p (symL (Int.toNat a) (Int.toNat (IntKind.i64.wrap (a + s))) (Int.toNat b) xs)) false⟩]) ∧
 (∀ (j' : Nat → AV) (jr' : Nat → Row) (g' : Nat), LoopAtC E1 Tryz.f132 1 v rs 2 (slices_stableCmpFunc_api_Interval_S2 l n fu b (IntKind.i64.wrap (b + IntKind.i64.wrap ((2 : Int) * s))) s (List.map I.p (symL (Int.toNat a) (Int.toNat (IntKind.i64.wrap (a + s))) (Int.toNat b) xs)) j' jr' g'))) ∧
 ((decide (b ≤ (↑n : Int))) = false →
 ((decide (IntKind.i64.wrap (a + s) < (↑n : Int))) = true →
 ((0 : Nat) = 0) ∧
 (DenC E1 155 [.msl 0 0 0 0 n fu, intA a, intA (IntKind.i64.wrap (a + s)), intA ((↑n : Int)), .pv (.clo (.func 98) [] [])] [⟨0, .row 11 63 (List.map I.p xs) false⟩] (.pv (.tup [])) [⟨0, .row 11 63 (List.map I.p (symL (Int.toNat a) (Int.toNat (IntKind.i64.wrap (a + s))) (Int.toNat (↑n : Int)) xs)) false⟩]) ∧
 (∀ (j' : Nat → AV) (jr' : Nat → Row) (g' : Nat), LoopAtC E1 Tryz.f132 1 v rs 1 (slices_stableCmpFunc_api_Interval_S1 l n fu a b (IntKind.i64.wrap (s * (2 : Int))) (List.map I.p (symL (Int.toNat a) (Int.toNat (IntKind.i64.wrap (a + s))) (Int.toNat (↑n : Int)) xs)) j' jr' g'))) ∧
 ((decide (IntKind.i64.wrap (a + s) < (↑n : Int))) = false →
 ∀ (j' : Nat → AV) (jr' : Nat → Row) (g' : Nat), LoopAtC E1 Tryz.f132 1 v rs 1 (slices_stableCmpFunc_api_Interval_S1 l n fu a b (IntKind.i64.wrap (s * (2 : Int))) (List.map I.p xs) j' jr' g')))) := by kernel_rfl
theorem slices_SortStableFunc_api_Interval_api_Interval_go (l : List I) (n : Nat) (fu : Bool) (v : AV) (rs : List Row) : FnGoC E1 Tryz.f97 [.msl 0 0 0 0 n fu, .pv (.clo (.func 98) [] [])] [⟨0, .row 11 63 (List.map I.p l) false⟩] v rs 2000 (.resC (.pv (.tup [])) [⟨0, .row 11 63 (List.map I.p (sortN n l)) false⟩] (.hole 0)) =
  (((0 : Nat) = 0) ∧
 (DenC E1 132 [.msl 0 0 0 0 n fu, intA ((↑n : Int)), .pv (.clo (.func 98) [] [])] [⟨0, .row 11 63 (List.map I.p l) false⟩] (.pv (.tup [])) [⟨0, .row 11 63 (List.map I.p (sortN n l)) false⟩]) ∧
 ((0 : Nat) = 0) ∧
 ((.pv (.tup [])) = v) ∧
 [⟨0, .row 11 63 (List.map I.p (sortN n l)) false⟩] = rs) := by kernel_rfl
def span_join_S0 (l : List I) (k : Nat) (full : Bool) (i : Int) (ge : Nat) (z : Row) (j : Nat → AV) (jr : Nat → Row) (g : Nat) : St :=
  { t := [j 0, j 1, j 2, .pv (.sl 0 true true [])] ++ jj j 4 8 ++ [.msl 0 8 2 0 (delN l) false, intA ((↑(delN l) : Int)), intA i] ++ jj j 15 48, h := [[row0, row0, row0, row0, row0, jr 5, row0, row0, ⟨ge, .row 11 63 (List.map I.p (sortN (delN l) (delL l))) false⟩, row0, row0, row0, row0, row0, row0, row0, row0, row0, row0, row0, row0, row0, row0, row0, row0, row0, row0, row0, row0, row0, row0, row0, row0, row0, row0, row0, row0, row0, row0, row0, row0, row0, row0, row0, row0, row0, row0, row0, row0, row0, row0, row0, row0, row0, row0, row0, row0, row0, row0, jr 59, z, row0, row0]], g := g }
def span_join_S1 (l : List I) (k : Nat) (full : Bool) (i : Int) (ge : Nat) (gm : Nat) (m : Nat) (ysI : List PV) (j : Nat → AV) (jr : Nat → Row) (g : Nat) : St :=
  { t := [j 0, j 1, j 2, .msl 0 60 gm 0 m false] ++ jj j 4 8 ++ [.msl 0 8 2 0 (delN l) false, intA ((↑(delN l) : Int)), intA i] ++ jj j 15 48, h := [[row0, row0, row0, row0, row0, jr 5, row0, row0, ⟨ge, .row 11 63 (List.map I.p (sortN (delN l) (delL l))) false⟩, row0, row0, row0, row0, row0, row0, row0, row0, row0, row0, row0, row0, row0, row0, row0, row0, row0, row0, row0, row0, row0, row0, row0, row0, row0, row0, row0, row0, row0, row0, row0, row0, row0, row0, row0, row0, row0, row0, row0, row0, row0, row0, row0, row0, row0, row0, row0, row0, row0, row0, jr 59, ⟨gm, .row 11 63 ysI false⟩, row0, row0]], g := g }
theorem span_join_go (l : List I) (k : Nat) (full : Bool) (r : PV) : FnGo E1 Tryz.f54 [.sl k false full (List.map I.p l)] r 2000 (.resO 11 63 (List.map I.p l) 0 (List.length l) false (.resC (.msl 0 0 0 0 (delN l) false) [⟨0, .row 11 63 (List.map I.p (delL l)) false⟩] (.resC (.pv (.tup [])) [⟨0, .row 11 63 (List.map I.p (sortN (delN l) (delL l))) false⟩] (.mask (iv [(0, 2), (4, 11), (15, 62)]) [5, 59])))) =
  ((DenO E1 95 [.sl k false full (List.map I.p l)] 11 63 (List.map I.p l) 0 (List.length l) false) ∧
 ((2 : Nat) = 2) ∧
 (DenC E1 94 [.msl 0 0 0 0 (List.length l) false, .pv (.clo (.func 96) [] [])] [⟨0, .row 11 63 (List.map I.p l) false⟩] (.msl 0 0 0 0 (delN l) false) [⟨0, .row 11 63 (List.map I.p (delL l)) false⟩]) ∧
 ((2 : Nat) = 2) ∧
 (DenC E1 97 [.msl 0 0 0 0 (delN l) false, .pv (.clo (.func 98) [] [])] [⟨0, .row 11 63 (List.map I.p (delL l)) false⟩] (.pv (.tup [])) [⟨0, .row 11 63 (List.map I.p (sortN (delN l) (delL l))) false⟩]) ∧
 (AtAll Tryz.f54 r 0 (span_join_S0 l k full 0 2 row0))) := by kernel_rfl
theorem span_join_go_S0 (l : List I) (k : Nat) (full : Bool) (i : Int) (ge : Nat) (z : Row) (j : Nat → AV) (jr : Nat → Row) (g : Nat) (r : PV) : LoopGo E1 Tryz.f54 r 0 2000 (.fork (.val (I.p (List.getD (sortN (delN l) (delL l)) ((0 : Nat) + Int.toNat i) default)) (.lts 15 (.mask (iv [(0, 2), (4, 11), (15, 62)]) [5, 59]))) (.hole 0)) (span_join_S0 l k full i ge z j jr g) =
  (((decide (i < (↑(delN l) : Int))) = true →
 (ge = 2) ∧
 (((0 : Int) ≤ i) ∧ ((i < (↑(delN l) : Int)) ∧ ((11 : Nat) = 11))) ∧
 (ge = 2) ∧
 (((List.map I.p (sortN (delN l) (delL l)))[(0 : Nat) + Int.toNat i]?) = some (I.p (List.getD (sortN (delN l) (delL l)) ((0 : Nat) + Int.toNat i) default))) ∧
 ((g + 1 + 2) = g + 1 + 2) ∧
 ((g + 1 + 2) = g + 1 + 2) ∧
 ((g + 1 + 4 + 3 + 14 + 2) = g + 1 + 4 + 3 + 14 + 2) ∧
 (((11 : Nat) = 11) ∧ ((1 : Nat) ≤ (1 : Nat))) ∧
 (((0 : Nat) = 0) ∧ (true = true)) ∧
 (AtAll Tryz.f54 r 0 (span_join_S1 l k full (IntKind.i64.wrap (i + (1 : Int))) ge (g + 1 + 4 + 3 + 14 + 3) 1 [I.p (List.getD (sortN (delN l) (delL l)) ((0 : Nat) + Int.toNat i) default)]))) ∧
 ((decide (i < (↑(delN l) : Int))) = false →
 ((.sl 0 true true []) : PV) = r)) := by kernel_rfl
theorem span_join_go_S1 (l : List I) (k : Nat) (full : Bool) (i : Int) (ge : Nat) (gm : Nat) (m : Nat) (ys : List I) (j : Nat → AV) (jr : Nat → Row) (g : Nat) (r : PV) : LoopGo E1 Tryz.f54 r 0 2000 (.fork (.val (I.p (List.getD (sortN (delN l) (delL l)) ((0 : Nat) + Int.toNat i) default)) (.fork (.lts 5 (.val (I.p (List.getD ys ((0 : Nat) + Int.toNat (IntKind.i64.wrap ((↑m : Int) - (1 : Int)))) default)) (.lit (.res (Ed.p ⟨(I.hi (List.getD ys ((0 : Nat) + Int.toNat (IntKind.i64.wrap ((↑m : Int) - (1 : Int)))) default)), (!I.hopen (List.getD ys ((0 : Nat) + Int.toNat (IntKind.i64.wrap ((↑m : Int) - (1 : Int)))) default)), (I.less (List.getD ys ((0 : Nat) + Int.toNat (IntKind.i64.wrap ((↑m : Int) - (1 : Int)))) default))⟩) (.lit (.lit (.res (Ed.p ⟨(I.lo (List.getD (sortN (delN l) (delL l)) ((0 : Nat) + Int.toNat i) default)), (I.lopen (List.getD (sortN (delN l) (delL l)) ((0 : Nat) + Int.toNat i) default)), false⟩) (.lit (.res (intP (befE ⟨I.hi (List.getD ys ((0 : Nat) + Int.toNat (IntKind.i64.wrap ((↑m : Int) - (1 : Int)))) default), !I.hopen (List.getD ys ((0 : Nat) + Int.toNat (IntKind.i64.wrap ((↑m : Int) - (1 : Int)))) default), I.less (List.getD ys ((0 : Nat) + Int.toNat (IntKind.i64.wrap ((↑m : Int) - (1 : Int)))) default)⟩ ⟨I.lo (List.getD (sortN (delN l) (delL l)) ((0 : Nat) + Int.toNat i) default), I.lopen (List.getD (sortN (delN l) (delL l)) ((0 : Nat) + Int.toNat i) default), false⟩)) (.lit (.lit (.fork (.val (I.p (List.getD ys ((0 : Nat) + Int.toNat (IntKind.i64.wrap ((↑m : Int) - (1 : Int)))) default)) (.res (Ed.p ⟨(I.hi (List.getD ys ((0 : Nat) + Int.toNat (IntKind.i64.wrap ((↑m : Int) - (1 : Int)))) default)), (!I.hopen (List.getD ys ((0 : Nat) + Int.toNat (IntKind.i64.wrap ((↑m : Int) - (1 : Int)))) default)), (I.less (List.getD ys ((0 : Nat) + Int.toNat (IntKind.i64.wrap ((↑m : Int) - (1 : Int)))) default))⟩) (.res (Ed.p ⟨(I.hi (List.getD (sortN (delN l) (delL l)) ((0 : Nat) + Int.toNat i) default)), (!I.hopen (List.getD (sortN (delN l) (delL l)) ((0 : Nat) + Int.toNat i) default)), (I.less (List.getD (sortN (delN l) (delL l)) ((0 : Nat) + Int.toNat i) default))⟩) (.res (intP (befE ⟨I.hi (List.getD ys ((0 : Nat) + Int.toNat (IntKind.i64.wrap ((↑m : Int) - (1 : Int)))) default), !I.hopen (List.getD ys ((0 : Nat) + Int.toNat (IntKind.i64.wrap ((↑m : Int) - (1 : Int)))) default), I.less (List.getD ys ((0 : Nat) + Int.toNat (IntKind.i64.wrap ((↑m : Int) - (1 : Int)))) default)⟩ ⟨I.hi (List.getD (sortN (delN l) (delL l)) ((0 : Nat) + Int.toNat i) default), !I.hopen (List.getD (sortN (delN l) (delL l)) ((0 : Nat) + Int.toNat i) default), I.less (List.getD (sortN (delN l) (delL l)) ((0 : Nat) + Int.toNat i) default)⟩)) (.fork (.val (I.p (List.getD ys ((0 : Nat) + Int.toNat (IntKind.i64.wrap ((↑m : Int) - (1 : Int)))) default)) (.res (Ed.p ⟨(I.lo (List.getD ys ((0 : Nat) + Int.toNat (IntKind.i64.wrap ((↑m : Int) - (1 : Int)))) default)), (I.lopen (List.getD ys ((0 : Nat) + Int.toNat (IntKind.i64.wrap ((↑m : Int) - (1 : Int)))) default)), false⟩) (.res (Ed.p ⟨(I.hi (List.getD (sortN (delN l) (delL l)) ((0 : Nat) + Int.toNat i) default)), (!I.hopen (List.getD (sortN (delN l) (delL l)) ((0 : Nat) + Int.toNat i) default)), (I.less (List.getD (sortN (delN l) (delL l)) ((0 : Nat) + Int.toNat i) default))⟩) (.res (I.p ⟨(I.lo (List.getD ys ((0 : Nat) + Int.toNat (IntKind.i64.wrap ((↑m : Int) - (1 : Int)))) default)), (I.lopen (List.getD ys ((0 : Nat) + Int.toNat (IntKind.i64.wrap ((↑m : Int) - (1 : Int)))) default)), (if Ed.less ⟨I.hi (List.getD (sortN (delN l) (delL l)) ((0 : Nat) + Int.toNat i) default), !I.hopen (List.getD (sortN (delN l) (delL l)) ((0 : Nat) + Int.toNat i) default), I.less (List.getD (sortN (delN l) (delL l)) ((0 : Nat) + Int.toNat i) default)⟩ = true then zV else I.hi (List.getD (sortN (delN l) (delL l)) ((0 : Nat) + Int.toNat i) default)), (if Ed.less ⟨I.hi (List.getD (sortN (delN l) (delL l)) ((0 : Nat) + Int.toNat i) default), !I.hopen (List.getD (sortN (delN l) (delL l)) ((0 : Nat) + Int.toNat i) default), I.less (List.getD (sortN (delN l) (delL l)) ((0 : Nat) + Int.toNat i) default)⟩ = true then false else !!I.hopen (List.getD (sortN (delN l) (delL l)) ((0 : Nat) + Int.toNat i) default)), (I.less (List.getD (sortN (delN l) (delL l)) ((0 : Nat) + Int.toNat i) default))⟩) (.val (I.p (List.getD ys ((0 : Nat) + Int.toNat (IntKind.i64.wrap ((↑m : Int) - (1 : Int)))) default)) (.mask (iv [(0, 2), (4, 11), (15, 62)]) [5, 59])))))) (.mask (iv [(0, 2), (4, 11), (15, 62)]) [5, 59])))))) (.lit (.mask (iv [(0, 2), (4, 11), (15, 62)]) [5, 59])))))))))))))) (.lts 13 (.mask (iv [(0, 2), (4, 11), (15, 62)]) [5, 59])))) (.hole 0)) (span_join_S1 l k full i ge gm m (List.map I.p ys) j jr g) =
  (((decide (i < (↑(delN l) : Int))) = true →
 (ge = 2) ∧
 (((0 : Int) ≤ i) ∧ ((i < (↑(delN l) : Int)) ∧ ((11 : Nat) = 11))) ∧
 (ge = 2) ∧
 (((List.map I.p (sortN (delN l) (delL l)))[(0 : Nat) + Int.toNat i]?) = some (I.p (List.getD (sortN (delN l) (delL l)) ((0 : Nat) + Int.toNat i) default))) ∧
 ((g + 1 + 2) = g + 1 + 2) ∧
 ((decide ((↑m : Int) > (0 : Int))) = true →
 (gm = gm) ∧
 (((0 : Int) ≤ IntKind.i64.wrap ((↑m : Int) - (1 : Int))) ∧ ((IntKind.i64.wrap ((↑m : Int) - (1 : Int)) < (↑m : Int)) ∧ ((11 : Nat) = 11))) ∧
 (gm = gm) ∧
 (((List.map I.p ys)[(0 : Nat) + Int.toNat (IntKind.i64.wrap ((↑m : Int) - (1 : Int)))]?) = some (I.p (List.getD ys ((0 : Nat) + Int.toNat (IntKind.i64.wrap ((↑m : Int) - (1 : Int)))) default))) ∧
 (Den E1 38 [I.p (List.getD ys ((0 : Nat) + Int.toNat (IntKind.i64.wrap ((↑m : Int) - (1 : Int)))) default)] (Ed.p ⟨(I.hi (List.getD ys ((0 : Nat) + Int.toNat (IntKind.i64.wrap ((↑m : Int) - (1 : Int)))) default)), (!I.hopen (List.getD ys ((0 : Nat) + Int.toNat (IntKind.i64.wrap ((↑m : Int) - (1 : Int)))) default)), (I.less (List.getD ys ((0 : Nat) + Int.toNat (IntKind.i64.wrap ((↑m : Int) - (1 : Int)))) default))⟩)) ∧
 ((g + 1 + 2) = g + 1 + 2) ∧
 (Den E1 37 [I.p (List.getD (sortN (delN l) (delL l)) ((0 : Nat) + Int.toNat i) default)] (Ed.p ⟨(I.lo (List.getD (sortN (delN l) (delL l)) ((0 : Nat) + Int.toNat i) default)), (I.lopen (List.getD (sortN (delN l) (delL l)) ((0 : Nat) + Int.toNat i) default)), false⟩)) ∧
 (Den E1 36 [Ed.p ⟨(I.hi (List.getD ys ((0 : Nat) + Int.toNat (IntKind.i64.wrap ((↑m : Int) - (1 : Int)))) default)), (!I.hopen (List.getD ys ((0 : Nat) + Int.toNat (IntKind.i64.wrap ((↑m : Int) - (1 : Int)))) default)), (I.less (List.getD ys ((0 : Nat) + Int.toNat (IntKind.i64.wrap ((↑m : Int) - (1 : Int)))) default))⟩, Ed.p ⟨(I.lo (List.getD (sortN (delN l) (delL l)) ((0 : Nat) + Int.toNat i) default)), (I.lopen (List.getD (sortN (delN l) (delL l)) ((0 : Nat) + Int.toNat i) default)), false⟩] (intP (befE ⟨I.hi (List.getD ys ((0 : Nat) + Int.toNat (IntKind.i64.wrap ((↑m : Int) - (1 : Int)))) default), !I.hopen (List.getD ys ((0 : Nat) + Int.toNat (IntKind.i64.wrap ((↑m : Int) - (1 : Int)))) default), I.less (List.getD ys ((0 : Nat) + Int.toNat (IntKind.i64.wrap ((↑m : Int) - (1 : Int)))) default)⟩ ⟨I.lo (List.getD (sortN (delN l) (delL l)) ((0 : Nat) + Int.toNat i) default), I.lopen (List.getD (sortN (delN l) (delL l)) ((0 : Nat) + Int.toNat i) default), false⟩))) ∧
 ((decide (befE ⟨I.hi (List.getD ys ((0 : Nat) + Int.toNat (IntKind.i64.wrap ((↑m : Int) - (1 : Int)))) default), !I.hopen (List.getD ys ((0 : Nat) + Int.toNat (IntKind.i64.wrap ((↑m : Int) - (1 : Int)))) default), I.less (List.getD ys ((0 : Nat) + Int.toNat (IntKind.i64.wrap ((↑m : Int) - (1 : Int)))) default)⟩ ⟨I.lo (List.getD (sortN (delN l) (delL l)) ((0 : Nat) + Int.toNat i) default), I.lopen (List.getD (sortN (delN l) (delL l)) ((0 : Nat) + Int.toNat i) default), false⟩ ≥ (0 : Int))) = true →
 (gm = gm) ∧
 (((0 : Int) ≤ IntKind.i64.wrap ((↑m : Int) - (1 : Int))) ∧ ((IntKind.i64.wrap ((↑m : Int) - (1 : Int)) < (↑m : Int)) ∧ ((11 : Nat) = 11))) ∧
 (gm = gm) ∧
 (((List.map I.p ys)[(0 : Nat) + Int.toNat (IntKind.i64.wrap ((↑m : Int) - (1 : Int)))]?) = some (I.p (List.getD ys ((0 : Nat) + Int.toNat (IntKind.i64.wrap ((↑m : Int) - (1 : Int)))) default))) ∧
 (Den E1 38 [I.p (List.getD ys ((0 : Nat) + Int.toNat (IntKind.i64.wrap ((↑m : Int) - (1 : Int)))) default)] (Ed.p ⟨(I.hi (List.getD ys ((0 : Nat) + Int.toNat (IntKind.i64.wrap ((↑m : Int) - (1 : Int)))) default)), (!I.hopen (List.getD ys ((0 : Nat) + Int.toNat (IntKind.i64.wrap ((↑m : Int) - (1 : Int)))) default)), (I.less (List.getD ys ((0 : Nat) + Int.toNat (IntKind.i64.wrap ((↑m : Int) - (1 : Int)))) default))⟩)) ∧
 ((g + 1 + 2) = g + 1 + 2) ∧
 (Den E1 38 [I.p (List.getD (sortN (delN l) (delL l)) ((0 : Nat) + Int.toNat i) default)] (Ed.p ⟨(I.hi (List.getD (sortN (delN l) (delL l)) ((0 : Nat) + Int.toNat i) default)), (!I.hopen (List.getD (sortN (delN l) (delL l)) ((0 : Nat) + Int.toNat i) default)), (I.less (List.getD (sortN (delN l) (delL l)) ((0 : Nat) + Int.toNat i) default))⟩)) ∧
 (Den E1 36 [Ed.p ⟨(I.hi (List.getD ys ((0 : Nat) + Int.toNat (IntKind.i64.wrap ((↑m : Int) - (1 : Int)))) default)), (!I.hopen (List.getD ys ((0 : Nat) + Int.toNat (IntKind.i64.wrap ((↑m : Int) - (1 : Int)))) default)), (I.less (List.getD ys ((0 : Nat) + Int.toNat (IntKind.i64.wrap ((↑m : Int) - (1 : Int)))) default))⟩, Ed.p ⟨(I.hi (List.getD (sortN (delN l) (delL l)) ((0 : Nat) + Int.toNat i) default)), (!I.hopen (List.getD (sortN (delN l) (delL l)) ((0 : Nat) + Int.toNat i) default)), (I.less (List.getD (sortN (delN l) (delL l)) ((0 : Nat) + Int.toNat i) default))⟩] (intP (befE ⟨I.hi (List.getD ys ((0 : Nat) + Int.toNat (IntKind.i64.wrap ((↑m : Int) - (1 : Int)))) default), !I.hopen (List.getD ys ((0 : Nat) + Int.toNat (IntKind.i64.wrap ((↑m : Int) - (1 : Int)))) default), I.less (List.getD ys ((0 : Nat) + Int.toNat (IntKind.i64.wrap ((↑m : Int) - (1 : Int)))) default)⟩ ⟨I.hi (List.getD (sortN (delN l) (delL l)) ((0 : Nat) + Int.toNat i) default), !I.hopen (List.getD (sortN (delN l) (delL l)) ((0 : Nat) + Int.toNat i) default), I.less (List.getD (sortN (delN l) (delL l)) ((0 : Nat) + Int.toNat i) default)⟩))) ∧
 ((decide (befE ⟨I.hi (List.getD ys ((0 : Nat) + Int.toNat (IntKind.i64.wrap ((↑m : Int) - (1 : Int)))) default), !I.hopen (List.getD ys ((0 : Nat) + Int.toNat (IntKind.i64.wrap ((↑m : Int) - (1 : Int)))) default), I.less (List.getD ys ((0 : Nat) + Int.toNat (IntKind.i64.wrap ((↑m : Int) - (1 : Int)))) default)⟩ ⟨I.hi (List.getD (sortN (delN l) (delL l)) ((0 : Nat) + Int.toNat i) default), !I.hopen (List.getD (sortN (delN l) (delL l)) ((0 : Nat) + Int.toNat i) default), I.less (List.getD (sortN (delN l) (delL l)) ((0 : Nat) + Int.toNat i) default)⟩ < (0 : Int))) = true →
 (gm = gm) ∧
 (((0 : Int) ≤ IntKind.i64.wrap ((↑m : Int) - (1 : Int))) ∧ ((IntKind.i64.wrap ((↑m : Int) - (1 : Int)) < (↑m : Int)) ∧ ((11 : Nat) = 11))) ∧
 (gm = gm) ∧
 (((List.map I.p ys)[(0 : Nat) + Int.toNat (IntKind.i64.wrap ((↑m : Int) - (1 : Int)))]?) = some (I.p (List.getD ys ((0 : Nat) + Int.toNat (IntKind.i64.wrap ((↑m : Int) - (1 : Int)))) default))) ∧
 (Den E1 37 [I.p (List.getD ys ((0 : Nat) + Int.toNat (IntKind.i64.wrap ((↑m : Int) - (1 : Int)))) default)] (Ed.p ⟨(I.lo (List.getD ys ((0 : Nat) + Int.toNat (IntKind.i64.wrap ((↑m : Int) - (1 : Int)))) default)), (I.lopen (List.getD ys ((0 : Nat) + Int.toNat (IntKind.i64.wrap ((↑m : Int) - (1 : Int)))) default)), false⟩)) ∧
 ((g + 1 + 2) = g + 1 + 2) ∧
 (Den E1 38 [I.p (List.getD (sortN (delN l) (delL l)) ((0 : Nat) + Int.toNat i) default)] (Ed.p ⟨(I.hi (List.getD (sortN (delN l) (delL l)) ((0 : Nat) + Int.toNat i) default)), (!I.hopen (List.getD (sortN (delN l) (delL l)) ((0 : Nat) + Int.toNat i) default)), (I.less (List.getD (sortN (delN l) (delL l)) ((0 : Nat) + Int.toNat i) default))⟩)) ∧
 (Den E1 89 [Ed.p ⟨(I.lo (List.getD ys ((0 : Nat) + Int.toNat (IntKind.i64.wrap ((↑m : Int) - (1 : Int)))) default)), (I.lopen (List.getD ys ((0 : Nat) + Int.toNat (IntKind.i64.wrap ((↑m : Int) - (1 : Int)))) default)), false⟩, Ed.p ⟨(I.hi (List.getD (sortN (delN l) (delL l)) ((0 : Nat) + Int.toNat i) default)), (!I.hopen (List.getD (sortN (delN l) (delL l)) ((0 : Nat) + Int.toNat i) default)), (I.less (List.getD (sortN (delN l) (delL l)) ((0 : Nat) + Int.toNat i) default))⟩] (I.p ⟨(I.lo (List.getD ys ((0 : Nat) + Int.toNat (IntKind.i64.wrap ((↑m : Int) - (1 : Int)))) default)), (I.lopen (List.getD ys ((0 : Nat) + Int.toNat (IntKind.i64.wrap ((↑m : Int) - (1 : Int)))) default)), (if Ed.less ⟨I.hi (List.getD (sortN (delN l) (delL l)) ((0 : Nat) + Int.toNat i) default), !I.hopen (List.getD (sortN (delN l) (delL l)) ((0 : Nat) + Int.toNat i) default), I.less (List.getD (sortN (delN l) (delL l)) ((0 : Nat) + Int.toNat i) default)⟩ = true then zV else I.hi (List.getD (sortN (delN l) (delL l)) ((0 : Nat) + Int.toNat i) default)), (if Ed.less ⟨I.hi (List.getD (sortN (delN l) (delL l)) ((0 : Nat) + Int.toNat i) default), !I.hopen (List.getD (sortN (delN l) (delL l)) ((0 : Nat) + Int.toNat i) default), I.less (List.getD (sortN (delN l) (delL l)) ((0 : Nat) + Int.toNat i) default)⟩ = true then false else !!I.hopen (List.getD (sortN (delN l) (delL l)) ((0 : Nat) + Int.toNat i) default)), (I.less (List.getD (sortN (delN l) (delL l)) ((0 : Nat) + Int.toNat i) default))⟩)) ∧
 (gm = gm) ∧
 (((0 : Int) ≤ IntKind.i64.wrap ((↑m : Int) - (1 : Int))) ∧ ((IntKind.i64.wrap ((↑m : Int) - (1 : Int)) < (↑m : Int)) ∧ ((11 : Nat) = 11))) ∧
 (gm = gm) ∧
 (gm = gm) ∧
 (((List.map I.p ys)[(0 : Nat) + Int.toNat (IntKind.i64.wrap ((↑m : Int) - (1 : Int)))]?) = some (I.p (List.getD ys ((0 : Nat) + Int.toNat (IntKind.i64.wrap ((↑m : Int) - (1 : Int)))) default))) ∧
 (∀ (j' : Nat → AV) (jr' : Nat → Row) (g' : Nat), LoopAt E1 Tryz.f54 r 0 (span_join_S1 l k full (IntKind.i64.wrap (i + (1 : Int))) ge gm m (List.set (List.map I.p ys) ((0 : Nat) + Int.toNat (IntKind.i64.wrap ((↑m : Int) - (1 : Int)))) (PV.agg [PV.lit (Value.int IntKind.u32 (V.a (I.lo (List.getD ys ((0 : Nat) + Int.toNat (IntKind.i64.wrap ((↑m : Int) - (1 : Int)))) default)))), PV.lit (Value.int IntKind.u32 (V.b (I.lo (List.getD ys ((0 : Nat) + Int.toNat (IntKind.i64.wrap ((↑m : Int) - (1 : Int)))) default)))), PV.lit (Value.int IntKind.u32 (V.c (I.lo (List.getD ys ((0 : Nat) + Int.toNat (IntKind.i64.wrap ((↑m : Int) - (1 : Int)))) default)))), V.q (I.lo (List.getD ys ((0 : Nat) + Int.toNat (IntKind.i64.wrap ((↑m : Int) - (1 : Int)))) default)), PV.lit (Value.bool (I.lopen (List.getD ys ((0 : Nat) + Int.toNat (IntKind.i64.wrap ((↑m : Int) - (1 : Int)))) default))), PV.lit (Value.int IntKind.u32 (V.a (if Ed.less ⟨I.hi (List.getD (sortN (delN l) (delL l)) ((0 : Nat) + Int.toNat i) default), !I.hopen (List.getD (sortN (delN l) (delL l)) ((0 : Nat) + Int.toNat i) default), I.less (List.getD (sortN (delN l) (delL l)) ((0 : Nat) + Int.toNat i) default)⟩ = true then zV else I.hi (List.getD (sortN (delN l) (delL l)) ((0 : Nat) + Int.toNat i) default)))), PV.lit (Value.int IntKind.u32 (V.b (if Ed.less ⟨I.hi (List.getD (sortN (delN l) (delL l)) ((0 : Nat) + Int.toNat i) default), !I.hopen (List.getD (sortN (delN l) (delL l)) ((0 : Nat) + Int.toNat i) default), I.less (List.getD (sortN (delN l) (delL l)) ((0 : Nat) + Int.toNat i) default)⟩ = true then zV else I.hi (List.getD (sortN (delN l) (delL l)) ((0 : Nat) + Int.toNat i) default)))), PV.lit (Value.int IntKind.u32 (V.c (if Ed.less ⟨I.hi (List.getD (sortN (delN l) (delL l)) ((0 : Nat) + Int.toNat i) default), !I.hopen (List.getD (sortN (delN l) (delL l)) ((0 : Nat) + Int.toNat i) default), I.less (List.getD (sortN (delN l) (delL l)) ((0 : Nat) + Int.toNat i) default)⟩ = true then zV else I.hi (List.getD (sortN (delN l) (delL l)) ((0 : Nat) + Int.toNat i) default)))), V.q (if Ed.less ⟨I.hi (List.getD (sortN (delN l) (delL l)) ((0 : Nat) + Int.toNat i) default), !I.hopen (List.getD (sortN (delN l) (delL l)) ((0 : Nat) + Int.toNat i) default), I.less (List.getD (sortN (delN l) (delL l)) ((0 : Nat) + Int.toNat i) default)⟩ = true then zV else I.hi (List.getD (sortN (delN l) (delL l)) ((0 : Nat) + Int.toNat i) default)), PV.lit (Value.bool (if Ed.less ⟨I.hi (List.getD (sortN (delN l) (delL l)) ((0 : Nat) + Int.toNat i) default), !I.hopen (List.getD (sortN (delN l) (delL l)) ((0 : Nat) + Int.toNat i) default), I.less (List.getD (sortN (delN l) (delL l)) ((0 : Nat) + Int.toNat i) default)⟩ = true then false else !!I.hopen (List.getD (sortN (delN l) (delL l)) ((0 : Nat) + Int.toNat i) default))), PV.lit (Value.bool (I.less (List.getD (sortN (delN l) (delL l)) ((0 : Nat) + Int.toNat i) default)))])) j' jr' g'))) ∧
 ((decide (befE ⟨I.hi (List.getD ys ((0 : Nat) + Int.toNat (IntKind.i64.wrap ((↑m : Int) - (1 : Int)))) default), !I.hopen (List.getD ys ((0 : Nat) + Int.toNat (IntKind.i64.wrap ((↑m : Int) - (1 : Int)))) default), I.less (List.getD ys ((0 : Nat) + Int.toNat (IntKind.i64.wrap ((↑m : Int) - (1 : Int)))) default)⟩ ⟨I.hi (List.getD (sortN (delN l) (delL l)) ((0 : Nat) + Int.toNat i) default), !I.hopen (List.getD (sortN (delN l) (delL l)) ((0 : Nat) + Int.toNat i) default), I.less (List.getD (sortN (delN l) (delL l)) ((0 : Nat) + Int.toNat i) default)⟩ < (0 : Int))) = false →
 AtAll Tryz.f54 r 0 (span_join_S1 l k full (IntKind.i64.wrap (i + (1 : Int))) ge gm m (List.map I.p ys)))) ∧
 ((decide (befE ⟨I.hi (List.getD ys ((0 : Nat) + Int.toNat (IntKind.i64.wrap ((↑m : Int) - (1 : Int)))) default), !I.hopen (List.getD ys ((0 : Nat) + Int.toNat (IntKind.i64.wrap ((↑m : Int) - (1 : Int)))) default), I.less (List.getD ys ((0 : Nat) + Int.toNat (IntKind.i64.wrap ((↑m : Int) - (1 : Int)))) default)⟩ ⟨I.lo (List.getD (sortN (delN l) (delL l)) ((0 : Nat) + Int.toNat i) default), I.lopen (List.getD (sortN (delN l) (delL l)) ((0 : Nat) + Int.toNat i) default), false⟩ ≥ (0 : Int))) = false →
 ((g + 1 + 2) = g + 1 + 2) ∧
 ((g + 1 + 4 + 3 + 14 + 2) = g + 1 + 4 + 3 + 14 + 2) ∧
 (((11 : Nat) = 11) ∧ ((1 : Nat) ≤ (1 : Nat))) ∧
 (gm = gm) ∧
 ((false = false) ∧ (((11 : Nat) = 11) ∧ (((63 : Nat) = 63) ∧ ((((0 : Nat) + m) = List.length (List.map I.p ys)) ∧ ((fitsRow (m + 1) (104 : Nat)) = true))))) ∧
 (∀ (j' : Nat → AV) (jr' : Nat → Row) (g' : Nat), LoopAt E1 Tryz.f54 r 0 (span_join_S1 l k full (IntKind.i64.wrap (i + (1 : Int))) ge (g + 1 + 4 + 3 + 14 + 3) (m + 1) (List.drop (0 : Nat) (List.map I.p ys) ++ List.take (1 : Nat) (List.drop (0 : Nat) [PV.agg [PV.lit (Value.int IntKind.u32 (V.a (I.lo (List.getD (sortN (delN l) (delL l)) ((0 : Nat) + Int.toNat i) default)))), PV.lit (Value.int IntKind.u32 (V.b (I.lo (List.getD (sortN (delN l) (delL l)) ((0 : Nat) + Int.toNat i) default)))), PV.lit (Value.int IntKind.u32 (V.c (I.lo (List.getD (sortN (delN l) (delL l)) ((0 : Nat) + Int.toNat i) default)))), V.q (I.lo (List.getD (sortN (delN l) (delL l)) ((0 : Nat) + Int.toNat i) default)), PV.lit (Value.bool (I.lopen (List.getD (sortN (delN l) (delL l)) ((0 : Nat) + Int.toNat i) default))), PV.lit (Value.int IntKind.u32 (V.a (I.hi (List.getD (sortN (delN l) (delL l)) ((0 : Nat) + Int.toNat i) default)))), PV.lit (Value.int IntKind.u32 (V.b (I.hi (List.getD (sortN (delN l) (delL l)) ((0 : Nat) + Int.toNat i) default)))), PV.lit (Value.int IntKind.u32 (V.c (I.hi (List.getD (sortN (delN l) (delL l)) ((0 : Nat) + Int.toNat i) default)))), V.q (I.hi (List.getD (sortN (delN l) (delL l)) ((0 : Nat) + Int.toNat i) default)), PV.lit (Value.bool (I.hopen (List.getD (sortN (delN l) (delL l)) ((0 : Nat) + Int.toNat i) default))), PV.lit (Value.bool (I.less (List.getD (sortN (delN l) (delL l)) ((0 : Nat) + Int.toNat i) default)))]])) j' jr' g')))) ∧
 ((decide ((↑m : Int) > (0 : Int))) = false →
 ((g + 1 + 2) = g + 1 + 2) ∧
 ((g + 1 + 4 + 3 + 14 + 2) = g + 1 + 4 + 3 + 14 + 2) ∧
 (((11 : Nat) = 11) ∧ ((1 : Nat) ≤ (1 : Nat))) ∧
 (gm = gm) ∧
 ((false = false) ∧ (((11 : Nat) = 11) ∧ (((63 : Nat) = 63) ∧ ((((0 : Nat) + m) = List.length (List.map I.p ys)) ∧ ((fitsRow (m + 1) (104 : Nat)) = true))))) ∧
 (∀ (j' : Nat → AV) (jr' : Nat → Row) (g' : Nat), LoopAt E1 Tryz.f54 r 0 (span_join_S1 l k full (IntKind.i64.wrap (i + (1 : Int))) ge (g + 1 + 4 + 3 + 14 + 3) (m + 1) (List.drop (0 : Nat) (List.map I.p ys) ++ List.take (1 : Nat) (List.drop (0 : Nat) [PV.agg [PV.lit (Value.int IntKind.u32 (V.a (I.lo (List.getD (sortN (delN l) (delL l)) ((0 : Nat) + Int.toNat i) default)))), PV.lit (Value.int IntKind.u32 (V.b (I.lo (List.getD (sortN (delN l) (delL l)) ((0 : Nat) + Int.toNat i) default)))), PV.lit (Value.int IntKind.u32 (V.c (I.lo (List.getD (sortN (delN l) (delL l)) ((0 : Nat) + Int.toNat i) default)))), V.q (I.lo (List.getD (sortN (delN l) (delL l)) ((0 : Nat) + Int.toNat i) default)), PV.lit (Value.bool (I.lopen (List.getD (sortN (delN l) (delL l)) ((0 : Nat) + Int.toNat i) default))), PV.lit (Value.int IntKind.u32 (V.a (I.hi (List.getD (sortN (delN l) (delL l)) ((0 : Nat) + Int.toNat i) default)))), PV.lit (Value.int IntKind.u32 (V.b (I.hi (List.getD (sortN (delN l) (delL l)) ((0 : Nat) + Int.toNat i) default)))), PV.lit (Value.int IntKind.u32 (V.c (I.hi (List.getD (sortN (delN l) (delL l)) ((0 : Nat) + Int.toNat i) default)))), V.q (I.hi (List.getD (sortN (delN l) (delL l)) ((0 : Nat) + Int.toNat i) default)), PV.lit (Value.bool (I.hopen (List.getD (sortN (delN l) (delL l)) ((0 : Nat) + Int.toNat i) default))), PV.lit (Value.bool (I.less (List.getD (sortN (delN l) (delL l)) ((0 : Nat) + Int.toNat i) default)))]])) j' jr' g')))) ∧
 ((decide (i < (↑(delN l) : Int))) = false →
 ∃ hp, frz frzDepth (.msl 0 60 gm 0 m false) [[row0, row0, row0, row0, row0, jr 5, row0, row0, ⟨ge, .row 11 63 (List.map I.p (sortN (delN l) (delL l))) false⟩, row0, row0, row0, row0, row0, row0, row0, row0, row0, row0, row0, row0, row0, row0, row0, row0, row0, row0, row0, row0, row0, row0, row0, row0, row0, row0, row0, row0, row0, row0, row0, row0, row0, row0, row0, row0, row0, row0, row0, row0, row0, row0, row0, row0, row0, row0, row0, row0, row0, row0, jr 59, ⟨gm, .row 11 63 (List.map I.p ys) false⟩, row0, row0]] = some (r, hp))) := by kernel_rfl
theorem slices_DeleteFunc_api_Interval_api_Interval_N_go (k : Nat) (nl : Bool) (full : Bool) (v : AV) (rs : List Row) : FnGoC E1 Tryz.f94 [.pv (.sl k nl full []), .pv (.clo (.func 96) [] [])] [] v rs 2000 (.res (intP (-1)) (.lit (.hole 0))) =
  ((Den E1 121 [.sl k nl full [], .clo (.func 96) [] []] (intP (-1))) ∧
 ((.pv (.sl k nl full [])) = v) ∧
 [] = rs) := by kernel_rfl
theorem slices_insertionSortCmpFunc_api_Interval_N_go (k : Nat) (nl : Bool) (full : Bool) (v : AV) (rs : List Row) : FnGoC E1 Tryz.f154 [.pv (.sl k nl full []), intA 0, intA 0, .pv (.clo (.func 98) [] [])] [] v rs 2000 (.go (.lit (.hole 0))) =
  (((.pv (.tup [])) = v) ∧
 [] = rs) := by kernel_rfl
theorem slices_stableCmpFunc_api_Interval_N_go (k : Nat) (nl : Bool) (full : Bool) (v : AV) (rs : List Row) : FnGoC E1 Tryz.f132 [.pv (.sl k nl full []), intA 0, .pv (.clo (.func 98) [] [])] [] v rs 2000 (.go (.lit (.resC (.pv (.tup [])) [] (.go (.lit (.hole 0)))))) =
  ((DenC E1 154 [.pv (.sl k nl full []), intA 0, intA 0, .pv (.clo (.func 98) [] [])] [] (.pv (.tup [])) []) ∧
 ((.pv (.tup [])) = v) ∧
 [] = rs) := by kernel_rfl
theorem slices_SortStableFunc_api_Interval_api_Interval_N_go (k : Nat) (nl : Bool) (full : Bool) (v : AV) (rs : List Row) : FnGoC E1 Tryz.f97 [.pv (.sl k nl full []), .pv (.clo (.func 98) [] [])] [] v rs 2000 (.resC (.pv (.tup [])) [] (.hole 0)) =
  ((DenC E1 132 [.pv (.sl k nl full []), intA 0, .pv (.clo (.func 98) [] [])] [] (.pv (.tup [])) []) ∧
 ((.pv (.tup [])) = v) ∧
 [] = rs) := by kernel_rfl
theorem span_join_N_go (k : Nat) (full : Bool) (r : PV) : FnGo E1 Tryz.f54 [.sl k true full []] r 2000 (.res (.sl 0 true true []) (.resC (.pv (.sl 0 true true [])) [] (.resC (.pv (.tup [])) [] (.go (.lit (.hole 0)))))) =
  ((Den E1 95 [.sl k true full []] (.sl 0 true true [])) ∧
 (DenC E1 94 [.pv (.sl 0 true true []), .pv (.clo (.func 96) [] [])] [] (.pv (.sl 0 true true [])) []) ∧
 (DenC E1 97 [.pv (.sl 0 true true []), .pv (.clo (.func 98) [] [])] [] (.pv (.tup [])) []) ∧
 ((.sl 0 true true []) : PV) = r) := by kernel_rfl
theorem slices_Clone_api_Interval_api_Interval_E_P_go (k : Nat) (full : Bool) (r : PV) : FnGoP E1 Tryz.f95 [.sl k false full []] r 2000 (.lit (.lit (.hole 0))) =
  ((((false = true → ([] : List PV) = [])) ∧ ((false = false → k = 11))) ∧
 ((.sl 11 false true []) : PV) = r) := by kernel_rfl
theorem span_join_E_go (k : Nat) (full : Bool) (r : PV) : FnGo E1 Tryz.f54 [.sl k false full []] r 2000 (.res (.sl 11 false true []) (.resC (.pv (.sl 11 false true [])) [] (.resC (.pv (.tup [])) [] (.go (.lit (.hole 0)))))) =
  ((Den E1 95 [.sl k false full []] (.sl 11 false true [])) ∧
 (DenC E1 94 [.pv (.sl 11 false true []), .pv (.clo (.func 96) [] [])] [] (.pv (.sl 11 false true [])) []) ∧
 (DenC E1 97 [.pv (.sl 11 false true []), .pv (.clo (.func 98) [] [])] [] (.pv (.tup [])) []) ∧
 ((.sl 0 true true []) : PV) = r) := by kernel_rfl
end Go.Proofs.YtlhfgonjcpapnaaGreatDoor.Abs

namespace Go.Proofs.YtlhfgonjcpapnaaGreatDoor.Abs
open Go Go.Proofs
theorem den_dead (x : I) (hx : x.ok) : Den E1 96 [x.p] (bolP (deadI x)) :=
  den1 2000 _ rfl (by kernel_rfl) rfl rfl rfl (Eq.mpr (span_join_1_go x _) ⟨rfl, den_low x, rfl, den_high x, den_before x.low x.high hx.lo hx.hi, rfl⟩)
theorem den_ordS (x y : I) (hx : x.ok) (hy : y.ok) : Den E1 98 [x.p, y.p] (intP (befE x.low y.low)) :=
  den1 2000 _ rfl (by kernel_rfl) rfl rfl rfl (Eq.mpr (span_join_2_go x y _) ⟨rfl, den_low x, rfl, den_low y, den_before x.low y.low hx.lo hy.lo, rfl⟩)
theorem den_between (a b : Ed) : Den E1 89 [a.p, b.p] (betE a b).p := by
  refine den1 2000 _ rfl (by kernel_rfl) rfl rfl rfl (Eq.mpr (span_between_go a b _) ?_)
  refine ⟨rfl, rfl, rfl, rfl, rfl, fun h => ⟨rfl, rfl, rfl, rfl, rfl, ?_⟩, fun h => ⟨rfl, rfl, ?_⟩⟩
  · have h' : b.less = false := not_eq.1 h
    simp only [betE, I.p, h']
    rfl
  · have h' : b.less = true := not_eq.2 h
    simp only [betE, I.p, h']
    rfl
theorem den_IndexFuncD (l : List I) (k : Nat) (nl full : Bool) (hsl : slOk 11 k nl l.length) (hll : l.length < 1000000) (hok : ∀ x ∈ l, x.ok) :
    Den E1 121 [listP k nl full l, .clo (.func 96) [] []] (intP (idxI deadI l)) := by
  refine den1 2000 _ rfl (by kernel_rfl) rfl rfl rfl (Eq.mpr (slices_IndexFunc_api_Interval_api_Interval_D_go l k nl full _) fun j jr g => ?_)
  have H : ∀ (n i : Nat) j jr g, i + n = l.length → (l.findIdx deadI = i + (l.drop i).findIdx deadI) → LoopAt E1 Tryz.f121 (intP (idxI deadI l)) 0 (slices_IndexFunc_api_Interval_api_Interval_D_S0 l k nl full i j jr g) := by
    intro n
    induction n with
    | zero =>
      intro i j jr g hi hd
      refine loop_go 2000 _ (Eq.mpr (slices_IndexFunc_api_Interval_api_Interval_D_go_S0 l k nl full i j jr g _) ⟨fun h => ?_, fun h => ?_⟩)
      · simp only [decide_eq_true_eq, List.length_map] at h; omega
      · unfold idxI
        rw [if_neg (by rw [hd]; omega)]
    | succ n ih =>
      intro i j jr g hi hd
      have hil : i < l.length := by omega
      have hw1 : IntKind.wrap IntKind.i64 ((i : Int) + 1) = ((i + 1 : Nat) : Int) := wrap_i64 _ (by omega) (by omega)
      refine loop_go 2000 _ (Eq.mpr (slices_IndexFunc_api_Interval_api_Interval_D_go_S0 l k nl full i j jr g _) ⟨fun h => ?_, fun h => ?_⟩)
      · simp only [hw1, Int.toNat_natCast, gI_nat, gI_zero]
        rw [drop_get hil, List.findIdx_cons] at hd
        refine ⟨⟨by omega, sl_at hsl hil⟩, getI hil, den_dead _ (by rw [getD_lt hil]; exact hok _ (by simp)), fun he => ?_, fun he j jr g => ?_⟩
        · rw [he] at hd
          have hd' : l.findIdx deadI = i := hd
          unfold idxI
          rw [hd', if_pos hil]
        · rw [he] at hd
          exact ih (i + 1) j jr g (by omega) (by rw [hd]; simp only [cond_false]; omega)
      · simp only [decide_eq_false_iff_not, List.length_map] at h; omega
  exact H l.length 0 j jr g (by omega) (by simp)
theorem denO_CloneI (l : List I) (k : Nat) (full : Bool) (hsl : slOk 11 k false l.length) (hll : l.length < 1000000) (h0 : l ≠ []) : DenO E1 95 [listP k false full l] 11 63 (List.map I.p l) 0 l.length false := by
  refine denO_go 2000 _ rfl (by kernel_rfl) rfl rfl rfl rfl (Eq.mpr (slices_Clone_api_Interval_api_Interval_O_go l k full _ _ _ _ _ _) ⟨⟨fun h => (by cases h), fun _ => hsl.2 rfl⟩, fun h => ?_, fun h => ?_⟩)
  · have : l = [] := by simpa using h
    exact h0 this
  · refine ⟨⟨rfl, rfl, fits_104 (by simp; omega)⟩, ⟨rfl, by simp, rfl⟩, rfl, rfl, rfl, rfl⟩
theorem del_of_none {l : List I} (h : (idxI deadI l == (-1 : Int)) = true) : delN l = l.length ∧ delL l = l := by
  have h1 : l.filter (fun x => !deadI x) = l := by
    rw [List.filter_eq_self]
    intro x hx
    unfold idxI at h
    split at h
    · rename_i hh
      simp only [beq_iff_eq] at h
      omega
    · rename_i hh
      have : deadI x = false := by
        cases hd : deadI x with
        | false => rfl
        | true => exact absurd (List.findIdx_lt_length_of_exists ⟨x, hx, hd⟩) hh
      simp [this]
  unfold delN delL
  rw [h1]
  simp
theorem frzs_msl2 {h h1 : Heap} {d s g n k : Nat} {full fz : Bool} {e : TypeId} {xs : List PV} {p : PV} (hb : hget h d s = ⟨g, .row k e xs fz⟩) (hn : xs.length = n) (hm : marks [(d, s)] h = h1) : frzs frzDepth [.msl d s g 0 n full, .pv p] h = some ([.sl k false full xs, p], h1) := by
  have hp : pk h frzDepth (.msl d s g 0 n full) = some (.sl k false full xs, [(d, s)]) := pk_msl hb hn
  have hq : pk h frzDepth (.pv p) = some (p, []) := rfl
  simp only [frzs, pks, hp, hq, Option.bind_some, Option.map_some, List.append_nil]
  rw [hm]
theorem splice_end {l : List I} {q : Nat} (hq : q ≤ l.length) : splice (List.map I.p l) q (List.replicate (l.length - q) zI.p) = List.map I.p (l.take q ++ List.replicate (l.length - q) zI) := by
  unfold splice
  rw [List.length_replicate, List.drop_eq_nil_of_le (by simp; omega), List.append_nil, List.map_append, List.map_take, List.map_replicate]
theorem del_loop (l : List I) (fu : Bool) (hll : l.length < 1000000) (hok : ∀ x ∈ l, x.ok) : ∀ (n i q : Nat) (xs : List I) j jr g, i + n = l.length → xs.length = l.length → xs.take q = (l.take i).filter (fun x => !deadI x) → xs.drop i = l.drop i → q < i → q = ((l.take i).filter (fun x => !deadI x)).length →
    LoopAtC E1 Tryz.f94 1 (.msl 0 0 0 0 (delN l) (fu && delN l == l.length)) [⟨0, .row 11 63 (List.map I.p (delL l)) false⟩] 0 (slices_DeleteFunc_api_Interval_api_Interval_S0 l l.length fu i q (List.map I.p xs) j jr g) := by
  intro n
  induction n with
  | zero =>
    intro i q xs j jr g hi hxl hxt hxd hqi hq
    have hil : i = l.length := by omega
    rw [hil, List.take_length] at hxt hq
    have hdn : delN l = q := hq.symm
    have hdl : delL l = xs.take q ++ List.replicate (l.length - q) zI := by unfold delL; rw [hxt, ← hq]
    refine loopC_go 2000 _ (Eq.mpr (slices_DeleteFunc_api_Interval_api_Interval_go_S0 l l.length fu i q xs j jr g _ _) ⟨fun h => ?_, fun h => ?_⟩)
    · simp only [decide_eq_true_eq] at h; omega
    · simp only [Int.toNat_natCast, gI_nat, gI_zero, Nat.zero_add, Nat.sub_zero, eq_self, true_and, and_true]
      refine ⟨by omega, fun h0 => ?_, fun h0 => ⟨⟨by decide, by simp; omega⟩, by omega, by rw [hdn], ?_⟩⟩
      · simp only [beq_iff_eq] at h0; omega
      · rw [hdl]
        have := splice_end (l := xs) (q := q) (by omega)
        rw [hxl] at this
        rw [← this]
        rfl
  | succ n ih =>
    intro i q xs j0 jr0 g0 hi hxl hxt hxd hqi hq
    have hil : i < l.length := by omega
    have hw1 : IntKind.wrap IntKind.i64 ((i : Int) + 1) = ((i + 1 : Nat) : Int) := wrap_i64 _ (by omega) (by omega)
    have hw2 : IntKind.wrap IntKind.i64 ((q : Int) + 1) = ((q + 1 : Nat) : Int) := wrap_i64 _ (by omega) (by omega)
    have hxi : xs.getD i default = l.getD i default := by
      have h1 := drop_get (l := xs) (i := i) (by omega)
      have h2 := drop_get (l := l) (i := i) hil
      rw [h1, h2] at hxd
      exact (List.cons.inj hxd).1
    have hxd1 : xs.drop (i + 1) = l.drop (i + 1) := by
      have h1 := drop_get (l := xs) (i := i) (by omega)
      have h2 := drop_get (l := l) (i := i) hil
      rw [h1, h2] at hxd
      exact (List.cons.inj hxd).2
    have hokx : (l.getD i default).ok := by rw [getD_lt hil]; exact hok _ (by simp)
    have htk : (l.take (i + 1)).filter (fun x => !deadI x) = (l.take i).filter (fun x => !deadI x) ++ (if deadI (l.getD i default) then [] else [l.getD i default]) := by
      rw [List.take_succ_eq_append_getElem hil, List.filter_append, getD_lt hil]
      cases hdd : deadI l[i] <;> simp [List.filter, hdd]
    refine loopC_go 2000 _ (Eq.mpr (slices_DeleteFunc_api_Interval_api_Interval_go_S0 l l.length fu i q xs j0 jr0 g0 _ _) ⟨fun h => ?_, fun h => ?_⟩)
    · simp only [hw1, hw2, Int.toNat_natCast, gI_nat, gI_zero, Nat.zero_add, eq_self, true_and, and_true]
      refine ⟨by omega, getI (by omega), den_dead _ (by rw [hxi]; exact hokx), fun he => ⟨by omega, getI (by omega), fun j jr g => ?_⟩, fun he j jr g => ?_⟩
      · have he' : deadI (l.getD i default) = false := by rw [← hxi]; exact not_eq.1 he
        rw [he'] at htk
        have := ih (i + 1) (q + 1) (xs.set q (xs.getD i default)) j jr g (by omega) (by simpa using hxl) (by
          rw [htk, ← hxt, hxi, List.take_succ_eq_append_getElem (by simp; omega), List.take_set_of_le (Nat.le_refl _)]
          simp) (by rw [List.drop_set_of_lt (by omega), hxd1]) (by omega) (by rw [htk, hq]; simp)
        rw [List.map_set] at this
        exact this
      · have he' : deadI (l.getD i default) = true := by rw [← hxi]; exact not_eq.2 he
        rw [he'] at htk
        exact ih (i + 1) q xs j jr g (by omega) hxl (by rw [hxt, htk]; simp) hxd1 (by omega) (by rw [htk, hq]; simp)
    · simp only [decide_eq_false_iff_not] at h; omega
theorem denC_DeleteFunc (l : List I) (fu : Bool) (hll : l.length < 1000000) (hok : ∀ x ∈ l, x.ok) :
    DenC E1 94 [.msl 0 0 0 0 l.length fu, .pv (.clo (.func 96) [] [])] [⟨0, .row 11 63 (List.map I.p l) false⟩] (.msl 0 0 0 0 (delN l) (fu && delN l == l.length)) [⟨0, .row 11 63 (List.map I.p (delL l)) false⟩] := by
  refine denC_go 2000 _ (fn := Tryz.f94) (by kernel_rfl) rfl (Eq.mpr (slices_DeleteFunc_api_Interval_api_Interval_go l l.length fu _ _) ⟨?_, den_IndexFuncD l 11 false fu ⟨fun h => (by cases h), fun _ => rfl⟩ hll hok, fun h => ?_, fun h => ?_⟩)
  · exact frzs_msl2 rfl (by simp) rfl
  · obtain ⟨h1, h2⟩ := del_of_none h
    rw [h1, h2]
    exact ⟨rfl, rfl, by simp, rfl⟩
  · have hfi : l.findIdx deadI < l.length := by
      unfold idxI at h
      split at h
      · assumption
      · cases h
    have hid : idxI deadI l = ((l.findIdx deadI : Nat) : Int) := by unfold idxI; rw [if_pos hfi]
    have hw : IntKind.wrap IntKind.i64 (((l.findIdx deadI : Nat) : Int) + 1) = ((l.findIdx deadI + 1 : Nat) : Int) := wrap_i64 _ (by omega) (by omega)
    rw [hid, hw]
    intro j jr g
    have hft : (l.take (l.findIdx deadI + 1)).filter (fun x => !deadI x) = l.take (l.findIdx deadI) := by
      rw [List.take_succ_eq_append_getElem hfi, List.filter_append]
      have hd : deadI l[l.findIdx deadI] = true := List.findIdx_getElem (w := hfi)
      have e1 : (l.take (l.findIdx deadI)).filter (fun x => !deadI x) = l.take (l.findIdx deadI) := by
        rw [List.filter_eq_self]
        intro x hx
        obtain ⟨i, hi, rfl⟩ := List.mem_take_iff_getElem.1 hx
        have : deadI l[i] = false := List.not_of_lt_findIdx (p := deadI) (by omega)
        simp [this]
      rw [e1]
      simp [hd]
    exact del_loop l fu hll hok (l.length - (l.findIdx deadI + 1)) (l.findIdx deadI + 1) (l.findIdx deadI) l j jr g (by omega) rfl (by rw [hft]) rfl (by omega) (by rw [hft]; simp; omega)
theorem ins_down (s t p : List I) (x : I) : insDown p.length (p.length + s.length) (p ++ s ++ x :: t) = p ++ insS s x ++ t := by
  have H : ∀ (n : Nat) (s t : List I), s.length = n → insDown p.length (p.length + n) (p ++ s ++ x :: t) = p ++ (s.take (insPosS s x n) ++ x :: s.drop (insPosS s x n)) ++ t := by
    intro n
    induction n with
    | zero =>
      intro s t hs
      have : s = [] := List.length_eq_zero_iff.1 hs
      subst this
      cases p with
      | nil => rfl
      | cons y p =>
        have e : (y :: p).length + 0 = p.length + 1 := rfl
        rw [e]
        unfold insDown
        rw [if_neg (by simp)]
        simp [insPosS]
    | succ n ih =>
      intro s t hs
      obtain ⟨s, y, rfl⟩ : ∃ s' y, s = s' ++ [y] := ⟨s.dropLast, s.getLast (by intro e; rw [e] at hs; simp at hs), (List.dropLast_concat_getLast _).symm⟩
      have hsl : s.length = n := by simpa using hs
      have e : p.length + (n + 1) = (p.length + n) + 1 := by omega
      have hL : p ++ (s ++ [y]) ++ x :: t = (p ++ s) ++ y :: x :: t := by simp
      have g1 : ((p ++ s) ++ y :: x :: t).getD (p.length + n + 1) default = x := by
        rw [List.getD_eq_getElem?_getD, List.getElem?_append_right (by simp; omega)]
        have : p.length + n + 1 - (p ++ s).length = 1 := by simp; omega
        rw [this]; rfl
      have g0 : ((p ++ s) ++ y :: x :: t).getD (p.length + n) default = y := by
        rw [List.getD_eq_getElem?_getD, List.getElem?_append_right (by simp; omega)]
        have : p.length + n - (p ++ s).length = 0 := by simp; omega
        rw [this]; rfl
      have hset : (((p ++ s) ++ y :: x :: t).set (p.length + n + 1) y).set (p.length + n) x = p ++ s ++ x :: (y :: t) := by
        rw [List.set_append_right _ _ (by simp; omega)]
        have e1 : p.length + n + 1 - (p ++ s).length = 1 := by simp; omega
        rw [e1, List.set_append_right _ _ (by simp; omega)]
        have e2 : p.length + n - (p ++ s).length = 0 := by simp; omega
        rw [e2]; rfl
      have hpre : ∀ m, m ≤ n → insPosS (s ++ [y]) x m = insPosS s x m := by
        intro m
        induction m with
        | zero => intro _; rfl
        | succ m ihm =>
          intro hm
          have gd : (s ++ [y]).getD m default = s.getD m default := by
            rw [List.getD_eq_getElem?_getD, List.getElem?_append_left (by omega), List.getD_eq_getElem?_getD]
          simp only [insPosS, gd, ihm (by omega)]
      have hle : ∀ m, insPosS s x m ≤ m := by
        intro m
        induction m with
        | zero => exact Nat.le_refl _
        | succ m ihm =>
          unfold insPosS
          split
          · omega
          · exact Nat.le_refl _
      have gy : (s ++ [y]).getD n default = y := by
        rw [List.getD_eq_getElem?_getD, List.getElem?_append_right (by omega), hsl]
        simp
      rw [e, hL]
      unfold insDown
      rw [g1, g0]
      have hlt : p.length < p.length + n + 1 := by omega
      by_cases hc : befE x.low y.low < 0
      · rw [if_pos ⟨hlt, hc⟩, hset, ih s (y :: t) hsl]
        have : insPosS (s ++ [y]) x (n + 1) = insPosS s x n := by
          simp only [insPosS, gy, hc, if_true]
          exact hpre n (Nat.le_refl _)
        rw [this]
        have := hle n
        rw [List.take_append_of_le_length (by omega), List.drop_append_of_le_length (by omega)]
        simp
      · rw [if_neg (fun h => hc h.2)]
        have : insPosS (s ++ [y]) x (n + 1) = n + 1 := by
          simp only [insPosS, gy, hc, if_false]
        rw [this, List.take_of_length_le (by simp; omega), List.drop_of_length_le (by simp; omega)]
        simp
  exact H s.length s t rfl
theorem insS_len (s : List I) (x : I) : (insS s x).length = s.length + 1 := by
  have : ∀ m, insPosS s x m ≤ m := by
    intro m
    induction m with
    | zero => exact Nat.le_refl _
    | succ m ihm =>
      unfold insPosS
      split
      · omega
      · exact Nat.le_refl _
  have := this s.length
  unfold insS
  simp
  omega
theorem sortS_len (l : List I) : (sortS l).length = l.length := by
  have H : ∀ (l s : List I), (l.foldl insS s).length = s.length + l.length := by
    intro l
    induction l with
    | nil => intro s; rfl
    | cons x l ih => intro s; rw [List.foldl_cons, ih, insS_len, List.length_cons]; omega
  have := H l []
  unfold sortS
  simpa using this
theorem sortS_snoc (l : List I) (x : I) : sortS (l ++ [x]) = insS (sortS l) x := by simp [sortS, List.foldl_append]
theorem insRange_eq (p l t : List I) : insRange p.length (p.length + l.length) (p ++ l ++ t) = p ++ sortS l ++ t := by
  cases l with
  | nil =>
    have : p.length + ([] : List I).length - (p.length + 1) = 0 := by simp
    unfold insRange
    rw [this]
    rfl
  | cons x l =>
    have e : p.length + (x :: l).length - (p.length + 1) = l.length := by simp; omega
    unfold insRange
    rw [e]
    have H : ∀ (n : Nat), n ≤ l.length → (List.range n).foldl (fun l t => insDown p.length (p.length + 1 + t) l) (p ++ (x :: l) ++ t) = p ++ sortS (x :: l.take n) ++ (l.drop n ++ t) := by
      intro n
      induction n with
      | zero => intro _; simp [sortS, insS, insPosS]
      | succ n ih =>
        intro hn
        rw [List.range_succ, List.foldl_append, ih (by omega), List.foldl_cons, List.foldl_nil]
        have hd : l.drop n ++ t = l.getD n default :: (l.drop (n + 1) ++ t) := by rw [drop_get (by omega)]; rfl
        have hl : (sortS (x :: l.take n)).length = n + 1 := by rw [sortS_len]; simp; omega
        have hi := ins_down (sortS (x :: l.take n)) (l.drop (n + 1) ++ t) p (l.getD n default)
        rw [hl] at hi
        have e2 : p.length + 1 + n = p.length + (n + 1) := by omega
        rw [hd, e2, hi, ← sortS_snoc]
        have : x :: l.take n ++ [l.getD n default] = x :: l.take (n + 1) := by
          rw [List.take_succ_eq_append_getElem (by omega), getD_lt (by omega)]; rfl
        rw [this]
    have := H l.length (Nat.le_refl _)
    rw [this, List.take_length, List.drop_length]
    rfl
def insLoop (a : Nat) : Nat → Nat → List I → List I
  | _, 0, l => l
  | i, m + 1, l => insLoop a (i + 1) m (insDown a i l)
theorem range_loop (a : Nat) : ∀ (m i : Nat) (l : List I), (List.range m).foldl (fun l t => insDown a (i + t) l) l = insLoop a i m l := by
  intro m
  induction m with
  | zero => intro i l; rfl
  | succ m ih =>
    intro i l
    rw [List.range_succ_eq_map, List.foldl_cons, List.foldl_map]
    have : (fun (l : List I) (t : Nat) => insDown a (i + Nat.succ t) l) = fun l t => insDown a (i + 1 + t) l := by
      funext l t; rw [show i + Nat.succ t = i + 1 + t by omega]
    rw [this, ih (i + 1)]
    rfl
theorem insDown_len (a : Nat) : ∀ (j : Nat) (l : List I), (insDown a j l).length = l.length := by
  intro j
  induction j with
  | zero => intro l; rfl
  | succ j ih =>
    intro l
    unfold insDown
    split
    · rw [ih]; simp
    · rfl
theorem insDown_ok (a : Nat) : ∀ (j : Nat) (l : List I), j < l.length → (∀ x ∈ l, x.ok) → ∀ x ∈ insDown a j l, x.ok := by
  intro j
  induction j with
  | zero => intro l _ h; exact h
  | succ j ih =>
    intro l hj h
    unfold insDown
    split
    · refine ih _ (by simp; omega) fun x hx => ?_
      rcases List.mem_or_eq_of_mem_set hx with h1 | rfl
      · rcases List.mem_or_eq_of_mem_set h1 with h2 | rfl
        · exact h x h2
        · rw [getD_lt (by omega)]; exact h _ (by simp)
      · rw [getD_lt (by omega)]; exact h _ (by simp)
    · exact h
section
variable (l : List I) (fu : Bool) (a b : Nat)
theorem ins_S1 (n : Nat) (hn : n < 1000000) (i : Nat) (hi : i < n) {v : AV} {rs : List Row} : ∀ (q : Nat) (xs : List I) j jr g, q ≤ i → n ≤ xs.length → (∀ x ∈ xs, x.ok) →
    (∀ j jr g, LoopAtC E1 Tryz.f154 1 v rs 0 (slices_insertionSortCmpFunc_api_Interval_S0 l n fu a b (i + 1 : Nat) (List.map I.p (insDown a q xs)) j jr g)) →
    LoopAtC E1 Tryz.f154 1 v rs 1 (slices_insertionSortCmpFunc_api_Interval_S1 l n fu a b i q (List.map I.p xs) j jr g) := by
  have hw1 : IntKind.wrap IntKind.i64 ((i : Int) + 1) = ((i + 1 : Nat) : Int) := wrap_i64 _ (by omega) (by omega)
  intro q
  induction q with
  | zero =>
    intro xs j0 jr0 g0 hq hxl hok next
    refine loopC_go 2000 _ (Eq.mpr (slices_insertionSortCmpFunc_api_Interval_go_S1 l n fu a b i (0 : Nat) xs j0 jr0 g0 _ _) ⟨fun h => ?_, fun h j jr g => ?_⟩)
    · simp only [decide_eq_true_eq] at h; omega
    · rw [hw1]; exact next j jr g
  | succ q ih =>
    intro xs j0 jr0 g0 hq hxl hok next
    have hw2 : IntKind.wrap IntKind.i64 (((q + 1 : Nat) : Int) - 1) = (q : Int) := by rw [wrap_i64 _ (by omega) (by omega)]; omega
    have ok : ∀ m, m < n → (xs.getD m default).ok := fun m hm => by rw [getD_lt (by omega)]; exact hok _ (by simp)
    unfold insDown at next
    refine loopC_go 2000 _ (Eq.mpr (slices_insertionSortCmpFunc_api_Interval_go_S1 l n fu a b i (q + 1 : Nat) xs j0 jr0 g0 _ _) ⟨fun h => ?_, fun h j jr g => ?_⟩)
    · have ha : a < q + 1 := by simp only [decide_eq_true_eq] at h; omega
      simp only [hw1, hw2, Int.toNat_natCast, gI_nat, gI_zero, Nat.zero_add, eq_self, true_and, and_true]
      have k1 : (0 : Int) ≤ ((q + 1 : Nat) : Int) ∧ ((q + 1 : Nat) : Int) < (n : Int) := by omega
      have k2 : (0 : Int) ≤ (q : Int) ∧ (q : Int) < (n : Int) := by omega
      have m1 := getI (l := xs) (i := q + 1) (by omega)
      have m2 := getI (l := xs) (i := q) (by omega)
      refine ⟨k1, m1, k2, m2, den_ordS _ _ (ok _ (by omega)) (ok _ (by omega)), fun hc => ⟨k2, m2, k1, m1, k1, m1, k2, ?_, fun j jr g => ?_⟩, fun hc j jr g => ?_⟩
      · rw [List.getElem?_set_ne (by omega)]; exact m2
      · have hc' : befE (xs.getD (q + 1) default).low (xs.getD q default).low < 0 := of_decide_eq_true hc
        rw [if_pos ⟨ha, hc'⟩] at next
        have := ih ((xs.set (q + 1) (xs.getD q default)).set q (xs.getD (q + 1) default)) j jr g (by omega) (by simpa using hxl) (fun x hx => by
          rcases List.mem_or_eq_of_mem_set hx with h1 | rfl
          · rcases List.mem_or_eq_of_mem_set h1 with h2 | rfl
            · exact hok x h2
            · exact ok _ (by omega)
          · exact ok _ (by omega)) next
        rw [List.map_set, List.map_set] at this
        exact this
      · have hc' : ¬ befE (xs.getD (q + 1) default).low (xs.getD q default).low < 0 := of_decide_eq_false hc
        rw [if_neg (fun h => hc' h.2)] at next
        exact next j jr g
    · have ha : ¬ a < q + 1 := by simp only [decide_eq_false_iff_not] at h; omega
      rw [if_neg (fun h => ha h.1)] at next
      rw [hw1]; exact next j jr g
theorem ins_S0 (n : Nat) (hn : n < 1000000) (hb : b ≤ n) : ∀ (m i : Nat) (xs : List I) j jr g, (i + m = b ∨ (m = 0 ∧ b ≤ i)) → n ≤ xs.length → (∀ x ∈ xs, x.ok) →
    LoopAtC E1 Tryz.f154 1 (.pv (.tup [])) [⟨0, .row 11 63 (List.map I.p (insLoop a i m xs)) false⟩] 0 (slices_insertionSortCmpFunc_api_Interval_S0 l n fu a b i (List.map I.p xs) j jr g) := by
  intro m
  induction m with
  | zero =>
    intro i xs j0 jr0 g0 hi hxl hok
    refine loopC_go 2000 _ (Eq.mpr (slices_insertionSortCmpFunc_api_Interval_go_S0 l n fu a b i xs j0 jr0 g0 _ _) ⟨fun h => ?_, fun h => ⟨rfl, rfl, rfl⟩⟩)
    simp only [decide_eq_true_eq] at h; omega
  | succ m ih =>
    intro i xs j0 jr0 g0 hi hxl hok
    refine loopC_go 2000 _ (Eq.mpr (slices_insertionSortCmpFunc_api_Interval_go_S0 l n fu a b i xs j0 jr0 g0 _ _) ⟨fun h j jr g => ?_, fun h => ?_⟩)
    · exact ins_S1 l fu a b n hn i (by omega) i xs j jr g (Nat.le_refl _) hxl hok fun j jr g => ih (i + 1) _ j jr g (by omega) (by rw [insDown_len]; exact hxl) (insDown_ok a i xs (by omega) hok)
    · simp only [decide_eq_false_iff_not] at h; omega
theorem denC_insertion (n : Nat) (hn : n < 1000000) (hnl : n ≤ l.length) (hab : a ≤ b) (hb : b ≤ n) (hok : ∀ x ∈ l, x.ok) :
    DenC E1 154 [.msl 0 0 0 0 n fu, intA a, intA b, .pv (.clo (.func 98) [] [])] [⟨0, .row 11 63 (List.map I.p l) false⟩] (.pv (.tup [])) [⟨0, .row 11 63 (List.map I.p (insRange a b l)) false⟩] := by
  have hw : IntKind.wrap IntKind.i64 ((a : Int) + 1) = ((a + 1 : Nat) : Int) := wrap_i64 _ (by omega) (by omega)
  refine denC_go 2000 _ (fn := Tryz.f154) (by kernel_rfl) rfl (Eq.mpr (slices_insertionSortCmpFunc_api_Interval_go l n fu a b _ _) fun j jr g => ?_)
  have e : insRange a b l = insLoop a (a + 1) (b - (a + 1)) l := range_loop a _ _ _
  rw [hw, e]
  exact ins_S0 l fu a b n hn hb (b - (a + 1)) (a + 1) l j jr g (by omega) hnl hok
end
theorem sortN_of {l : List I} {n : Nat} (hn : n ≤ l.length) : insRange 0 n l = sortN n l := by
  have := insRange_eq [] (l.take n) (l.drop n)
  simp only [List.nil_append, List.length_nil, Nat.zero_add, List.length_take, List.take_append_drop, Nat.min_eq_left hn] at this
  exact this
theorem denC_stable20 (l : List I) (n : Nat) (fu : Bool) (hnl : n ≤ l.length) (hn : n < 20) (hok : ∀ x ∈ l, x.ok) :
    DenC E1 132 [.msl 0 0 0 0 n fu, intA n, .pv (.clo (.func 98) [] [])] [⟨0, .row 11 63 (List.map I.p l) false⟩] (.pv (.tup [])) [⟨0, .row 11 63 (List.map I.p (sortN n l)) false⟩] := by
  refine denC_go 2000 _ (fn := Tryz.f132) (by kernel_rfl) rfl (Eq.mpr (slices_stableCmpFunc_api_Interval_go l n fu _ _) fun j jr g => ?_)
  refine loopC_go 2000 _ (Eq.mpr (slices_stableCmpFunc_api_Interval_go_S0 l n fu 0 20 l j jr g _ _) ⟨fun h => ?_, fun h => ⟨rfl, denC_insertion l fu 0 n n (by omega) hnl (Nat.zero_le _) (Nat.le_refl _) hok, fun j jr g => ?_⟩⟩)
  · simp only [decide_eq_true_eq] at h; omega
  · refine loopC_go 2000 _ (Eq.mpr (slices_stableCmpFunc_api_Interval_go_S1 l n fu 0 20 20 _ j jr g _ _) ⟨fun h => ?_, fun h => ⟨rfl, rfl, ?_⟩⟩)
    · simp only [decide_eq_true_eq] at h; omega
    · rw [show Int.toNat 0 = 0 from rfl, Int.toNat_natCast, sortN_of hnl]
theorem denC_SortStable20 (l : List I) (n : Nat) (fu : Bool) (hnl : n ≤ l.length) (hn : n < 20) (hok : ∀ x ∈ l, x.ok) :
    DenC E1 97 [.msl 0 0 0 0 n fu, .pv (.clo (.func 98) [] [])] [⟨0, .row 11 63 (List.map I.p l) false⟩] (.pv (.tup [])) [⟨0, .row 11 63 (List.map I.p (sortN n l)) false⟩] :=
  denC_go 2000 _ (fn := Tryz.f97) (by kernel_rfl) rfl (Eq.mpr (slices_SortStableFunc_api_Interval_api_Interval_go l n fu _ _) ⟨rfl, denC_stable20 l n fu hnl hn hok, rfl, rfl, rfl⟩)
theorem bet_ok {a b : Ed} (ha : a.v.ok) (hb : b.v.ok) : (betE a b).ok := by
  refine ⟨ha, ?_⟩
  unfold betE
  simp only []
  split
  · exact ⟨⟨by decide, by decide⟩, ⟨by decide, by decide⟩, ⟨by decide, by decide⟩, ⟨fun _ => rfl, fun h => (by cases h)⟩, (by unfold small; decide), fun s hs => (by cases hs)⟩
  · exact hb
section
variable (l : List I) (k : Nat) (full : Bool)
theorem sjoin_S1 (S : List I) (hS : S = sortN (delN l) (delL l)) (hlS : delN l ≤ S.length) (hll : l.length < 1000000) (hdl : delN l ≤ l.length) (hokS : ∀ x ∈ S, x.ok) : ∀ (n i : Nat) (ys : List I) (gm : Nat) j jr g, i + n = delN l → ys ≠ [] → ys.length ≤ i → (∀ x ∈ ys, x.ok) →
    LoopAt E1 Tryz.f54 (resL (((S.take (delN l)).drop i).foldl stepS ys)) 0 (span_join_S1 l k full i 2 gm ys.length (List.map I.p ys) j jr g) := by
  intro n
  induction n with
  | zero =>
    intro i ys gm j jr g hi hy hle hoy
    refine loop_go 2000 _ (Eq.mpr (span_join_go_S1 l k full i 2 gm ys.length ys j jr g _) ⟨fun h => ?_, fun h => ?_⟩)
    · simp only [decide_eq_true_eq] at h; omega
    · rw [List.drop_eq_nil_of_le (by simp; omega), List.foldl_nil]
      exact frz_msl rfl (by simp) (resL_cons hy)
  | succ n ih =>
    intro i ys gm j0 jr0 g0 hi hy hle hoy
    have hyl : 1 ≤ ys.length := List.length_pos_iff.2 hy
    have hw1 : IntKind.wrap IntKind.i64 ((ys.length : Int) - 1) = ((ys.length - 1 : Nat) : Int) := by rw [wrap_i64 _ (by omega) (by omega)]; omega
    have hw2 : IntKind.wrap IntKind.i64 ((i : Int) + 1) = ((i + 1 : Nat) : Int) := wrap_i64 _ (by omega) (by omega)
    have hix : i < S.length := by omega
    have hox : (S.getD i default).ok := by rw [getD_lt hix]; exact hokS _ (by simp)
    have hoY : (ys.getD (ys.length - 1) default).ok := by rw [getD_lt (by omega)]; exact hoy _ (by simp)
    have hdy := getI (l := ys) (show ys.length - 1 < ys.length by omega)
    have hdx := getI (l := S) hix
    have hne : ys.isEmpty = false := by simpa using hy
    have hdr : (S.take (delN l)).drop i = S.getD i default :: (S.take (delN l)).drop (i + 1) := by
      rw [drop_get (by simp; omega)]
      congr 1
      rw [List.getD_eq_getElem?_getD, List.getElem?_take, if_pos (by omega), List.getD_eq_getElem?_getD]
    rw [hdr, List.foldl_cons]
    have hst : stepS ys (S.getD i default) = if befE (ys.getD (ys.length - 1) default).high (S.getD i default).low ≥ 0 then
        (if befE (ys.getD (ys.length - 1) default).high (S.getD i default).high < 0 then ys.set (ys.length - 1) (betE (ys.getD (ys.length - 1) default).low (S.getD i default).high) else ys) else ys ++ [S.getD i default] := by
      unfold stepS; rw [hne]; rfl
    rw [hS] at hdx hox hst
    refine loop_go 2000 _ (Eq.mpr (span_join_go_S1 l k full i 2 gm ys.length ys j0 jr0 g0 _) ⟨fun h => ?_, fun h => ?_⟩)
    · simp only [hw1, hw2, Int.toNat_natCast, gI_nat, gI_zero, Nat.zero_add, eq_self, true_and, and_true, Nat.le_refl]
      have k1 : (0 : Int) ≤ (i : Int) ∧ (i : Int) < (delN l : Int) := by omega
      have k2 : (0 : Int) ≤ ((ys.length - 1 : Nat) : Int) ∧ ((ys.length - 1 : Nat) : Int) < (ys.length : Int) := by omega
      refine ⟨k1, hdx, fun _ => ⟨k2, hdy, den_high _, den_low _, den_before (ys.getD (ys.length - 1) default).high ((sortN (delN l) (delL l)).getD i default).low hoY.hi hox.lo, fun ht => ⟨k2, hdy, den_high _, den_high _, den_before (ys.getD (ys.length - 1) default).high ((sortN (delN l) (delL l)).getD i default).high hoY.hi hox.hi,
        fun hh => ⟨k2, hdy, den_low _, den_high _, den_between (ys.getD (ys.length - 1) default).low ((sortN (delN l) (delL l)).getD i default).high, k2, hdy, fun j jr g => ?_⟩, fun hh j jr g => ?_⟩, fun ht => ⟨⟨by simp, fits_104 (by omega)⟩, fun j jr g => ?_⟩⟩, fun h0 => ?_⟩
      · have ht' : befE (ys.getD (ys.length - 1) default).high ((sortN (delN l) (delL l)).getD i default).low ≥ 0 := of_decide_eq_true ht
        have hh' : befE (ys.getD (ys.length - 1) default).high ((sortN (delN l) (delL l)).getD i default).high < 0 := of_decide_eq_true hh
        have e : stepS ys ((sortN (delN l) (delL l)).getD i default) = ys.set (ys.length - 1) (betE (ys.getD (ys.length - 1) default).low ((sortN (delN l) (delL l)).getD i default).high) := by
          rw [hst, if_pos ht', if_pos hh']
        rw [hS, e]
        rw [hS] at ih
        have := ih (i + 1) (ys.set (ys.length - 1) (betE (ys.getD (ys.length - 1) default).low ((sortN (delN l) (delL l)).getD i default).high)) gm j jr g (by omega) (by simpa using hy) (by simp; omega) (fun x hx => by
          rcases List.mem_or_eq_of_mem_set hx with h1 | rfl
          · exact hoy x h1
          · exact bet_ok hoY.lo hox.hi)
        rw [List.length_set, List.map_set] at this
        exact this
      · have ht' : befE (ys.getD (ys.length - 1) default).high ((sortN (delN l) (delL l)).getD i default).low ≥ 0 := of_decide_eq_true ht
        have hh' : ¬ befE (ys.getD (ys.length - 1) default).high ((sortN (delN l) (delL l)).getD i default).high < 0 := of_decide_eq_false hh
        have e : stepS ys ((sortN (delN l) (delL l)).getD i default) = ys := by
          rw [hst, if_pos ht', if_neg hh']
        rw [hS, e]
        rw [hS] at ih
        exact ih (i + 1) ys gm j jr g (by omega) hy (by omega) hoy
      · have ht' : ¬ befE (ys.getD (ys.length - 1) default).high ((sortN (delN l) (delL l)).getD i default).low ≥ 0 := of_decide_eq_false ht
        have e : stepS ys ((sortN (delN l) (delL l)).getD i default) = ys ++ [(sortN (delN l) (delL l)).getD i default] := by
          rw [hst, if_neg ht']
        rw [hS, e]
        rw [hS] at ih
        have := ih (i + 1) (ys ++ [(sortN (delN l) (delL l)).getD i default]) (g0 + 1 + 4 + 3 + 14 + 3) j jr g (by omega) (by simp) (by simp; omega) (fun x hx => by
          rcases List.mem_append.1 hx with h1 | h1
          · exact hoy x h1
          · simp at h1; subst h1; rw [← List.getD_eq_getElem?_getD]; exact hox)
        rw [List.length_append, List.map_append] at this
        exact this
      · simp only [decide_eq_false_iff_not] at h0; omega
    · simp only [decide_eq_false_iff_not] at h; omega
theorem sjoin_S0 (S : List I) (hS : S = sortN (delN l) (delL l)) (hlS : delN l ≤ S.length) (hll : l.length < 1000000) (hdl : delN l ≤ l.length) (hokS : ∀ x ∈ S, x.ok) (z : Row) (j0 : Nat → AV) (jr0 : Nat → Row) (g0 : Nat) :
    LoopAt E1 Tryz.f54 (resL ((S.take (delN l)).foldl stepS [])) 0 (span_join_S0 l k full 0 2 z j0 jr0 g0) := by
  have hz : Int.toNat 0 = 0 := rfl
  have hw2 : IntKind.wrap IntKind.i64 ((0 : Int) + 1) = ((1 : Nat) : Int) := rfl
  refine loop_go 2000 _ (Eq.mpr (span_join_go_S0 l k full 0 2 z j0 jr0 g0 _) ⟨fun h => ?_, fun h => ?_⟩)
  · have h1 : 0 < delN l := by simp only [decide_eq_true_eq] at h; omega
    have hix : 0 < S.length := by omega
    have hdx := getI (l := S) hix
    rw [hS] at hdx
    simp only [hw2, hz, Nat.zero_add, eq_self, true_and, and_true, Nat.le_refl]
    refine ⟨by omega, hdx, fun j jr g => ?_⟩
    have hox : (S.getD 0 default).ok := by rw [getD_lt hix]; exact hokS _ (by simp)
    have := sjoin_S1 l k full S hS hlS hll hdl hokS (delN l - 1) 1 [S.getD 0 default] (g0 + 1 + 4 + 3 + 14 + 3) j jr g (by omega) (by simp) (by simp) (fun x hx => by simp at hx; subst hx; rw [← List.getD_eq_getElem?_getD]; exact hox)
    have e : S.take (delN l) = S.getD 0 default :: (S.take (delN l)).drop 1 := by
      have hd := drop_get (l := S.take (delN l)) (i := 0) (by simp; omega)
      rw [List.drop_zero] at hd
      have h0 : (S.take (delN l)).getD 0 default = S.getD 0 default := by
        rw [List.getD_eq_getElem?_getD, List.getElem?_take, if_pos h1, List.getD_eq_getElem?_getD]
      rw [h0] at hd
      exact hd
    have e2 : (S.take (delN l)).foldl stepS [] = ((S.take (delN l)).drop 1).foldl stepS [S.getD 0 default] := by
      conv => lhs; rw [e]
      rfl
    rw [e2]
    rw [hS] at this ⊢
    exact this
  · have h1 : delN l = 0 := by simp only [decide_eq_false_iff_not] at h; omega
    rw [h1, List.take_zero]
    rfl
end
theorem delN_le (l : List I) : delN l ≤ l.length := List.length_filter_le _ _
theorem delL_len (l : List I) : (delL l).length = l.length := by
  have := delN_le l
  unfold delN at this
  unfold delL
  simp
  omega
theorem delL_ok {l : List I} (h : ∀ x ∈ l, x.ok) : ∀ x ∈ delL l, x.ok := by
  intro x hx
  unfold delL at hx
  rcases List.mem_append.1 hx with h1 | h1
  · exact h x (List.mem_filter.1 h1).1
  · rw [List.eq_of_mem_replicate h1]
    have hz : zV.ok := ⟨⟨by decide, by decide⟩, ⟨by decide, by decide⟩, ⟨by decide, by decide⟩, ⟨fun _ => rfl, fun h => (by cases h)⟩, (by unfold small; decide), fun s hs => (by cases hs)⟩
    exact ⟨hz, hz⟩
theorem insS_mem {s : List I} {x y : I} (h : y ∈ insS s x) : y = x ∨ y ∈ s := by
  unfold insS at h
  rcases List.mem_append.1 h with h1 | h1
  · exact .inr (List.mem_of_mem_take h1)
  · rcases List.mem_cons.1 h1 with rfl | h1
    · exact .inl rfl
    · exact .inr (List.mem_of_mem_drop h1)
theorem sortS_mem {l : List I} {y : I} (h : y ∈ sortS l) : y ∈ l := by
  have H : ∀ (l s : List I), y ∈ l.foldl insS s → y ∈ s ∨ y ∈ l := by
    intro l
    induction l with
    | nil => intro s h; exact .inl h
    | cons x l ih =>
      intro s h
      rcases ih _ h with h1 | h1
      · rcases insS_mem h1 with rfl | h2
        · exact .inr (by simp)
        · exact .inl h2
      · exact .inr (by simp [h1])
  rcases H l [] h with h1 | h1
  · cases h1
  · exact h1
theorem delL_take (l : List I) : (delL l).take (delN l) = l.filter fun x => !deadI x := by
  unfold delL delN
  rw [List.take_append_of_le_length (Nat.le_refl _), List.take_length]
theorem sortN_len {n : Nat} {l : List I} (hn : n ≤ l.length) : (sortN n l).length = l.length := by
  unfold sortN
  rw [List.length_append, sortS_len]
  simp
  omega
theorem sortN_take {n : Nat} {l : List I} (hn : n ≤ l.length) : (sortN n l).take n = sortS (l.take n) := by
  unfold sortN
  have : (sortS (l.take n)).length = n := by rw [sortS_len]; simp; omega
  rw [List.take_append_of_le_length (by omega), List.take_of_length_le (by omega)]
theorem sortN_ok {n : Nat} {l : List I} (h : ∀ x ∈ l, x.ok) : ∀ x ∈ sortN n l, x.ok := by
  intro x hx
  unfold sortN at hx
  rcases List.mem_append.1 hx with h1 | h1
  · exact h x (List.mem_of_mem_take (sortS_mem h1))
  · exact h x (List.mem_of_mem_drop h1)
theorem denC_del_nil (k : Nat) (nl full : Bool) (hsl : slOk 11 k nl 0) : DenC E1 94 [.pv (.sl k nl full []), .pv (.clo (.func 96) [] [])] [] (.pv (.sl k nl full [])) [] :=
  denC_go 2000 _ (fn := Tryz.f94) (by kernel_rfl) rfl (Eq.mpr (slices_DeleteFunc_api_Interval_api_Interval_N_go k nl full _ _) ⟨den_IndexFuncD [] k nl full hsl (by simp) (fun x hx => by cases hx), rfl, rfl⟩)
theorem denC_sort_nil (k : Nat) (nl full : Bool) : DenC E1 97 [.pv (.sl k nl full []), .pv (.clo (.func 98) [] [])] [] (.pv (.tup [])) [] :=
  denC_go 2000 _ (fn := Tryz.f97) (by kernel_rfl) rfl (Eq.mpr (slices_SortStableFunc_api_Interval_api_Interval_N_go k nl full _ _)
    ⟨denC_go 2000 _ (fn := Tryz.f132) (by kernel_rfl) rfl (Eq.mpr (slices_stableCmpFunc_api_Interval_N_go k nl full _ _)
      ⟨denC_go 2000 _ (fn := Tryz.f154) (by kernel_rfl) rfl (Eq.mpr (slices_insertionSortCmpFunc_api_Interval_N_go k nl full _ _) ⟨rfl, rfl⟩), rfl, rfl⟩), rfl, rfl⟩)
theorem den_join_of (l : List I) (k : Nat) (nl full : Bool) (hsl : slOk 11 k nl l.length) (hll : l.length < 1000000) (hok : ∀ x ∈ l, x.ok)
    (hsort : DenC E1 97 [.msl 0 0 0 0 (delN l) false, .pv (.clo (.func 98) [] [])] [⟨0, .row 11 63 (List.map I.p (delL l)) false⟩] (.pv (.tup [])) [⟨0, .row 11 63 (List.map I.p (sortN (delN l) (delL l))) false⟩]) :
    Den E1 54 [listP k nl full l] (resL (joinS l)) := by
  by_cases h0 : l = []
  · subst h0
    cases nl with
    | true =>
      refine den1 2000 _ rfl (by kernel_rfl) rfl rfl rfl (Eq.mpr (span_join_N_go k full _) ⟨?_, denC_del_nil 0 true true ⟨fun _ => rfl, fun h => (by cases h)⟩, denC_sort_nil 0 true true, rfl⟩)
      exact denP_go 2000 _ rfl (by kernel_rfl) rfl rfl rfl rfl (Eq.mpr (slices_Clone_api_Interval_api_Interval_P_go k full _) rfl)
    | false =>
      have hk := hsl.2 rfl
      refine den1 2000 _ rfl (by kernel_rfl) rfl rfl rfl (Eq.mpr (span_join_E_go k full _) ⟨?_, denC_del_nil 11 false true ⟨fun h => (by cases h), fun _ => rfl⟩, denC_sort_nil 11 false true, rfl⟩)
      exact denP_go 2000 _ rfl (by kernel_rfl) rfl rfl rfl rfl (Eq.mpr (slices_Clone_api_Interval_api_Interval_E_P_go k full _) ⟨⟨fun h => (by cases h), fun _ => hk⟩, rfl⟩)
  · have hnl : nl = false := by
      cases nl with
      | false => rfl
      | true => exact absurd (List.length_eq_zero_iff.1 (hsl.1 rfl)) h0
    subst hnl
    have hd := delN_le l
    have hdl := delL_len l
    refine den1 2000 _ rfl (by kernel_rfl) rfl rfl rfl (Eq.mpr (span_join_go l k full _) ⟨denO_CloneI l k full hsl hll h0, rfl, denC_DeleteFunc l false hll hok, rfl, hsort, fun j jr g => ?_⟩)
    have := sjoin_S0 l k full (sortN (delN l) (delL l)) rfl (by rw [sortN_len (by omega)]; omega) hll hd (sortN_ok (delL_ok hok)) row0 j jr g
    rw [sortN_take (by omega), delL_take] at this
    exact this
theorem den_join20 (l : List I) (k : Nat) (nl full : Bool) (hsl : slOk 11 k nl l.length) (hll : l.length < 1000000) (hfew : delN l < 20) (hok : ∀ x ∈ l, x.ok) : Den E1 54 [listP k nl full l] (resL (joinS l)) :=
  den_join_of l k nl full hsl hll hok (denC_SortStable20 (delL l) (delN l) false (by rw [delL_len]; exact delN_le l) hfew (delL_ok hok))
end Go.Proofs.YtlhfgonjcpapnaaGreatDoor.Abs

namespace Go.Proofs.YtlhfgonjcpapnaaGreatDoor.Abs
open Go Go.Proofs
noncomputable def shut {α : Type} (x : α) : α := Classical.choose (⟨x, rfl⟩ : ∃ y, y = x)
theorem shut_eq {α : Type} (x : α) : shut x = x := Classical.choose_spec (⟨x, rfl⟩ : ∃ y, y = x)
structure LF where
  k : Nat
  nl : Bool
  full : Bool
  l : List I
abbrev LF.p (x : LF) : PV := listP x.k x.nl x.full x.l
def lfR (l : List I) : LF := ⟨twK l, twN l, twN l, l⟩
def lf1 (x : I) : LF := ⟨11, false, true, [x]⟩
def lf0 : LF := ⟨0, true, true, []⟩
def fromI (v : V) (o : Bool) : I := ⟨v, o, zV, false, true⟩
def downI (v : V) (o : Bool) : I := ⟨bottomV, false, v, o, false⟩
def meet1S (x y : I) : I := betE (if befE x.low y.low < 0 then y.low else x.low) (if befE y.high x.high < 0 then y.high else x.high)
def meetS (a b : List I) : List I := joinS (a.flatMap fun x => b.map fun y => meet1S x y)
def everyI : I := ⟨bottomV, false, zV, false, true⟩
def clV (v : V) : V := { v with k := cond v.nl 0 1, full := true }
def clI (x : I) : I := { x with lo := clV x.lo, hi := clV x.hi }
def limS (l : List I) : LF × Int := if l.length > 16 then (lf0, 80) else (⟨twK l, twN l, true, l.map clI⟩, 0)
def limR (x : LF) : LF × Int := if x.l.length > 16 then (lf0, 80) else (x, 0)
end Go.Proofs.YtlhfgonjcpapnaaGreatDoor.Abs

namespace Go.Proofs.YtlhfgonjcpapnaaGreatDoor.Abs
open Go Go.Proofs
theorem span_top_go (r : PV) : FnGo E1 Tryz.f90 [] r 2000 (.hole 0) =
  (((0 : Nat) = 0) ∧
 (edgP 0 0 0 (.sl 0 true true []) false true) = r) := by kernel_rfl
theorem ref08_Every_go (r : PV) : FnGo E1 Tryz.f65 [] r 2000 (.res (verP 0 0 0 (.sl 1 false true [strP [48]])) (.hole 0)) =
  ((Den E1 81 [] (verP 0 0 0 (.sl 1 false true [strP [48]]))) ∧
 ∃ hp, frz frzDepth (.msl 0 4 4 0 1 true) [[row0, row0, row0, row0, ⟨4, .row 11 63 [itvP 0 0 0 (.sl 1 false true [strP [48]]) false 0 0 0 (.sl 0 true true []) false true] false⟩]] = some (r, hp)) := by kernel_rfl
theorem ref08_above_go (v : V) (o : Bool) (r : PV) : FnGo E1 Tryz.f67 [V.p v, bolP o] r 2000 (.hole 0) =
  (((0 : Nat) = 0) ∧
 ∃ hp, frz frzDepth (.msl 0 9 6 0 1 true) [[row0, row0, ⟨0, .box (.pv (V.p v)) false⟩, row0, row0, row0, row0, row0, row0, ⟨6, .row 11 63 [I.p ⟨v, o, zV, false, true⟩] false⟩]] = some (r, hp)) := by kernel_rfl
theorem ref08_below_go (v : V) (o : Bool) (r : PV) : FnGo E1 Tryz.f66 [V.p v, bolP o] r 2000 (.res (verP 0 0 0 (.sl 1 false true [strP [48]])) (.ev (.res (resL (joinR [⟨bottomV, false, v, o, false⟩])) (.hole 0)))) =
  ((Den E1 81 [] (verP 0 0 0 (.sl 1 false true [strP [48]]))) ∧
 ((0 : Nat) = 0) ∧
 (Den E1 58 [.sl 11 false true [itvP 0 0 0 (.sl 1 false true [strP [48]]) false (V.a v) (V.b v) (V.c v) (V.q v) o false]] (resL (joinR [⟨bottomV, false, v, o, false⟩]))) ∧
 ((resL (joinR [⟨bottomV, false, v, o, false⟩])) : PV) = r) := by kernel_rfl
theorem ref08_limit_go (k : Nat) (nl : Bool) (full : Bool) (l : List I) (r : PV) : FnGo E1 Tryz.f57 [.sl k nl full (List.map I.p l)] r 2000 (.fork (.hole 0) (.hole 0)) =
  (((decide ((↑(List.length (List.map I.p l)) : Int) > (16 : Int))) = true →
 ((.tup [.sl 0 true true [], intP 80]) : PV) = r) ∧
 ((decide ((↑(List.length (List.map I.p l)) : Int) > (16 : Int))) = false →
 ((.tup [.sl k nl full (List.map I.p l), intP 0]) : PV) = r)) := by kernel_rfl
theorem slices_Clip_string_string_go (k : Nat) (nl : Bool) (full : Bool) (x : List (List UInt8)) (r : PV) : FnGo E1 Tryz.f71 [.sl k nl full (List.map strP x)] r 2000 (.hole 0) =
  ((((0 : Int) ≤ (↑(List.length (List.map strP x)) : Int)) ∧ ((↑(List.length (List.map strP x)) : Int) ≤ (↑(List.length (List.map strP x)) : Int))) ∧
 (((0 : Int) ≤ (↑(List.length (List.map strP x)) : Int)) ∧ ((↑(List.length (List.map strP x)) : Int) ≤ (↑(Int.toNat (↑(List.length (List.map strP x)) : Int)) : Int))) ∧
 ((nl = true) ∨ (k = 1)) ∧
 ((.sl k nl (Int.toNat (↑(List.length (List.map strP x)) : Int) == Int.toNat (↑(List.length (List.map strP x)) : Int)) (List.take (Int.toNat (↑(List.length (List.map strP x)) : Int) - (0 : Nat)) (List.drop (0 : Nat) (List.map strP x)))) : PV) = r) := by kernel_rfl
end Go.Proofs.YtlhfgonjcpapnaaGreatDoor.Abs

set_option maxRecDepth 20000
namespace Go.Proofs.YtlhfgonjcpapnaaGreatDoor.Abs
open Go Go.Proofs
theorem den_top : Den E1 90 [] (edgP 0 0 0 (.sl 0 true true []) false true) :=
  den1 2000 _ rfl (by kernel_rfl) rfl rfl rfl (Eq.mpr (span_top_go _) ⟨rfl, rfl⟩)
theorem den_Every : Den E1 65 [] (lf1 everyI).p :=
  den1 2000 _ rfl (by kernel_rfl) rfl rfl rfl (Eq.mpr (ref08_Every_go _) ⟨den_ref08_Bottom, ex_frz (by kernel_rfl)⟩)
theorem den_above (v : V) (o : Bool) : Den E1 67 [v.p, bolP o] (lf1 (fromI v o)).p :=
  den1 2000 _ rfl (by kernel_rfl) rfl rfl rfl (Eq.mpr (ref08_above_go v o _) ⟨rfl, ex_frz (by kernel_rfl)⟩)
theorem bottom_ok : bottomV.ok := ⟨⟨by decide, by decide⟩, ⟨by decide, by decide⟩, ⟨by decide, by decide⟩, ⟨by simp [bottomV], by simp [bottomV]⟩, by simp [bottomV, small], by simp [bottomV, small]⟩
theorem bottom_may : mayV bottomV = true := by decide
theorem zV_ok : zV.ok := ⟨⟨by decide, by decide⟩, ⟨by decide, by decide⟩, ⟨by decide, by decide⟩, ⟨by simp [zV], by simp [zV]⟩, by simp [zV, small], by simp [zV, small]⟩
theorem zV_may : mayV zV = true := by decide
theorem down_good {v : V} (hv : v.ok) (hm : mayV v = true) (o : Bool) : good (downI v o) := ⟨⟨bottom_ok, hv⟩, bottom_may, hm⟩
theorem den_ref08_below (v : V) (o : Bool) (hv : v.ok) (hm : mayV v = true) : Den E1 66 [v.p, bolP o] (resL (joinR [downI v o])) :=
  den1 2000 _ rfl (by kernel_rfl) rfl rfl rfl (Eq.mpr (ref08_below_go v o _) ⟨den_ref08_Bottom, rfl,
    den_ref08_join [downI v o] 11 false true (by simp) ⟨by simp, fun _ => rfl⟩ (fun x hx => by simp only [List.mem_singleton] at hx; subst hx; exact down_good hv hm o), rfl⟩)
theorem den_limit (x : LF) (hl : x.l.length < 1000000) : Den E1 57 [x.p] (.tup [(limR x).1.p, intP (limR x).2]) := by
  refine den1 2000 _ rfl (by kernel_rfl) rfl rfl rfl (Eq.mpr (ref08_limit_go x.k x.nl x.full x.l _) ⟨fun h => ?_, fun h => ?_⟩)
  · simp only [decide_eq_true_eq, List.length_map] at h
    have : x.l.length > 16 := by omega
    simp [limR, this, lf0]
  · simp only [decide_eq_false_iff_not, List.length_map] at h
    have : ¬ x.l.length > 16 := by omega
    simp [limR, this]
theorem den_Clip (k : Nat) (nl full : Bool) (x : List (List UInt8)) (hs : slOk 1 k nl x.length) : Den E1 71 [preP k nl full x] (preP k nl true x) := by
  refine den1 2000 _ rfl (by kernel_rfl) rfl rfl rfl (Eq.mpr (slices_Clip_string_string_go k nl full x _) ?_)
  have hk : nl = true ∨ k = 1 := by cases nl with
    | true => exact .inl rfl
    | false => exact .inr (hs.2 rfl)
  simp only [List.length_map, Int.toNat_natCast, gI_nat, gI_zero, Nat.sub_zero, List.drop_zero, beq_self_eq_true]
  refine ⟨⟨by omega, by omega⟩, ⟨by omega, by omega⟩, hk, ?_⟩
  rw [List.take_of_length_le (by simp)]
end Go.Proofs.YtlhfgonjcpapnaaGreatDoor.Abs

namespace Go.Proofs.YtlhfgonjcpapnaaGreatDoor.Abs
open Go Go.Proofs
theorem slices_Clone_string_string_go (k : Nat) (full : Bool) (x : List (List UInt8)) (r : PV) : FnGo E1 Tryz.f92 [.sl k false full (List.map strP x)] r 2000 (.lit (.fork (.hole 0) (.lit (.hole 0)))) =
  ((((false = true → (List.map strP x) = [])) ∧ ((false = false → k = 1))) ∧
 ((List.isEmpty (List.map strP x)) = true →
 ((.sl 1 false true []) : PV) = r) ∧
 ((List.isEmpty (List.map strP x)) = false →
 ((true = true) ∧ (((1 : Nat) = 1) ∧ ((fitsRow ((0 : Nat) + List.length (List.map strP x)) (16 : Nat)) = true))) ∧
 ∃ hp, frz frzDepth (.msl 0 7 5 0 ((0 : Nat) + List.length (List.map strP x)) false) [[row0, row0, row0, row0, row0, row0, row0, ⟨5, .row 1 9 ([] ++ List.map strP x) false⟩]] = some (r, hp))) := by kernel_rfl
theorem slices_Clone_string_string_N_go (k : Nat) (full : Bool) (r : PV) : FnGo E1 Tryz.f92 [.sl k true full []] r 2000 (.lit (.hole 0)) =
  (((.sl 0 true true []) : PV) = r) := by kernel_rfl
theorem slices_Clip_api_Interval_api_Interval_go (k : Nat) (nl : Bool) (full : Bool) (l : List I) (r : PV) : FnGo E1 Tryz.f93 [.sl k nl full (List.map I.p l)] r 2000 (.hole 0) =
  ((((0 : Int) ≤ (↑(List.length (List.map I.p l)) : Int)) ∧ ((↑(List.length (List.map I.p l)) : Int) ≤ (↑(List.length (List.map I.p l)) : Int))) ∧
 (((0 : Int) ≤ (↑(List.length (List.map I.p l)) : Int)) ∧ ((↑(List.length (List.map I.p l)) : Int) ≤ (↑(Int.toNat (↑(List.length (List.map I.p l)) : Int)) : Int))) ∧
 ((nl = true) ∨ (k = 11)) ∧
 ((.sl k nl (Int.toNat (↑(List.length (List.map I.p l)) : Int) == Int.toNat (↑(List.length (List.map I.p l)) : Int)) (List.take (Int.toNat (↑(List.length (List.map I.p l)) : Int) - (0 : Nat)) (List.drop (0 : Nat) (List.map I.p l)))) : PV) = r) := by kernel_rfl
def span_limited_S0 (k : Nat) (nl : Bool) (full : Bool) (l : List I) (i : Int) (j : Nat → AV) (jr : Nat → Row) (g : Nat) : St :=
  { t := [j 0, j 1, j 2, j 3, .pv (.sl 0 true true [])] ++ jj j 5 5 ++ [.pv (.sl k nl full (List.map I.p l)), intA ((↑(List.length (List.map I.p l)) : Int)), intA i] ++ jj j 13 28, h := [List.replicate 6 row0 ++ [jr 6, row0, row0, row0, row0, row0, row0, row0, row0, row0, row0, row0, row0, row0, jr 20, row0, row0, row0, row0, row0, row0, row0, row0, jr 29, row0, row0, row0, row0, row0, row0, jr 36] ++ List.replicate 4 row0], g := g }
def span_limited_S1 (k : Nat) (nl : Bool) (full : Bool) (l : List I) (i : Int) (gm : Nat) (n : Nat) (xsI : List PV) (j : Nat → AV) (jr : Nat → Row) (g : Nat) : St :=
  { t := [j 0, j 1, j 2, j 3, .msl 0 37 gm 0 n false] ++ jj j 5 5 ++ [.pv (.sl k nl full (List.map I.p l)), intA ((↑(List.length (List.map I.p l)) : Int)), intA i] ++ jj j 13 28, h := [[row0, row0, row0, row0, row0, row0, jr 6, row0, row0, row0, row0, row0, row0, row0, row0, row0, row0, row0, row0, row0, jr 20, row0, row0, row0, row0, row0, row0, row0, row0, jr 29, row0, row0, row0, row0, row0, row0, jr 36, ⟨gm, .row 11 63 xsI false⟩, row0, row0, row0]], g := g }
theorem span_limited_go (k : Nat) (nl : Bool) (full : Bool) (l : List I) (r : PV) : FnGo E1 Tryz.f53 [.sl k nl full (List.map I.p l)] r 2000 (.fork (.hole 0) (.mask (iv [(0, 3), (5, 9), (13, 40)]) [6, 20, 29, 36])) =
  (((decide ((↑(List.length (List.map I.p l)) : Int) > (16 : Int))) = true →
 ((.tup [.sl 0 true true [], intP 80]) : PV) = r) ∧
 ((decide ((↑(List.length (List.map I.p l)) : Int) > (16 : Int))) = false →
 AtAll Tryz.f53 r 0 (span_limited_S0 k nl full l 0))) := by kernel_rfl
theorem span_limited_go_S0 (k : Nat) (nl : Bool) (full : Bool) (l : List I) (i : Int) (j : Nat → AV) (jr : Nat → Row) (g : Nat) (r : PV) : LoopGo E1 Tryz.f53 r 0 2000 (.fork (.val (I.p (gI l i)) (.res (.sl (bif V.nl (I.lo (gI l i)) then (0 : Nat) else (1 : Nat)) (V.nl (I.lo (gI l i))) (V.nl (I.lo (gI l i))) (List.map strP (V.pre (I.lo (gI l i))))) (.res (.sl (bif V.nl (I.lo (gI l i)) then (0 : Nat) else (1 : Nat)) (V.nl (I.lo (gI l i))) true (List.map strP (V.pre (I.lo (gI l i))))) (.res (.sl (bif V.nl (I.hi (gI l i)) then (0 : Nat) else (1 : Nat)) (V.nl (I.hi (gI l i))) (V.nl (I.hi (gI l i))) (List.map strP (V.pre (I.hi (gI l i))))) (.res (.sl (bif V.nl (I.hi (gI l i)) then (0 : Nat) else (1 : Nat)) (V.nl (I.hi (gI l i))) true (List.map strP (V.pre (I.hi (gI l i))))) (.lit (.lit (.mask (iv [(0, 3), (5, 9), (13, 40)]) [6, 20, 29, 36])))))))) (.res (.sl 0 true true []) (.hole 0))) (span_limited_S0 k nl full l i j jr g) =
  (((decide (i < (↑(List.length (List.map I.p l)) : Int))) = true →
 (((0 : Int) ≤ i) ∧ ((nl = false) ∧ (k = 11))) ∧
 (((List.map I.p l)[Int.toNat i]?) = some (I.p (gI l i))) ∧
 ((g + 1 + 2) = g + 1 + 2) ∧
 ((g + 1 + 2) = g + 1 + 2) ∧
 (Den E1 92 [V.q (I.lo (gI l i))] (.sl (bif V.nl (I.lo (gI l i)) then (0 : Nat) else (1 : Nat)) (V.nl (I.lo (gI l i))) (V.nl (I.lo (gI l i))) (List.map strP (V.pre (I.lo (gI l i)))))) ∧
 (Den E1 71 [.sl (bif V.nl (I.lo (gI l i)) then (0 : Nat) else (1 : Nat)) (V.nl (I.lo (gI l i))) (V.nl (I.lo (gI l i))) (List.map strP (V.pre (I.lo (gI l i))))] (.sl (bif V.nl (I.lo (gI l i)) then (0 : Nat) else (1 : Nat)) (V.nl (I.lo (gI l i))) true (List.map strP (V.pre (I.lo (gI l i)))))) ∧
 ((g + 1 + 2) = g + 1 + 2) ∧
 ((g + 1 + 2) = g + 1 + 2) ∧
 (Den E1 92 [V.q (I.hi (gI l i))] (.sl (bif V.nl (I.hi (gI l i)) then (0 : Nat) else (1 : Nat)) (V.nl (I.hi (gI l i))) (V.nl (I.hi (gI l i))) (List.map strP (V.pre (I.hi (gI l i)))))) ∧
 (Den E1 71 [.sl (bif V.nl (I.hi (gI l i)) then (0 : Nat) else (1 : Nat)) (V.nl (I.hi (gI l i))) (V.nl (I.hi (gI l i))) (List.map strP (V.pre (I.hi (gI l i))))] (.sl (bif V.nl (I.hi (gI l i)) then (0 : Nat) else (1 : Nat)) (V.nl (I.hi (gI l i))) true (List.map strP (V.pre (I.hi (gI l i)))))) ∧
 ((g + 1 + 2) = g + 1 + 2) ∧
 ((g + 1 + 2) = g + 1 + 2) ∧
 ((g + 1 + 4 + 10 + 10 + 2) = g + 1 + 4 + 10 + 10 + 2) ∧
 (((11 : Nat) = 11) ∧ ((1 : Nat) ≤ (1 : Nat))) ∧
 (((0 : Nat) = 0) ∧ (true = true)) ∧
 (AtAll Tryz.f53 r 0 (span_limited_S1 k nl full l (IntKind.i64.wrap (i + (1 : Int))) (g + 1 + 4 + 10 + 10 + 3) 1 [itvP (V.a (I.lo (gI l i))) (V.b (I.lo (gI l i))) (V.c (I.lo (gI l i))) (.sl (bif V.nl (I.lo (gI l i)) then (0 : Nat) else (1 : Nat)) (V.nl (I.lo (gI l i))) true (List.map strP (V.pre (I.lo (gI l i))))) (I.lopen (gI l i)) (V.a (I.hi (gI l i))) (V.b (I.hi (gI l i))) (V.c (I.hi (gI l i))) (.sl (bif V.nl (I.hi (gI l i)) then (0 : Nat) else (1 : Nat)) (V.nl (I.hi (gI l i))) true (List.map strP (V.pre (I.hi (gI l i))))) (I.hopen (gI l i)) (I.less (gI l i))]))) ∧
 ((decide (i < (↑(List.length (List.map I.p l)) : Int))) = false →
 (Den E1 93 [.sl 0 true true []] (.sl 0 true true [])) ∧
 ((.tup [.sl 0 true true [], intP 0]) : PV) = r)) := by kernel_rfl
theorem span_limited_go_S1 (k : Nat) (nl : Bool) (full : Bool) (l : List I) (i : Int) (gm : Nat) (n : Nat) (xs : List I) (j : Nat → AV) (jr : Nat → Row) (g : Nat) (r : PV) : LoopGo E1 Tryz.f53 r 0 2000 (.fork (.val (I.p (gI l i)) (.res (.sl (bif V.nl (I.lo (gI l i)) then (0 : Nat) else (1 : Nat)) (V.nl (I.lo (gI l i))) (V.nl (I.lo (gI l i))) (List.map strP (V.pre (I.lo (gI l i))))) (.res (.sl (bif V.nl (I.lo (gI l i)) then (0 : Nat) else (1 : Nat)) (V.nl (I.lo (gI l i))) true (List.map strP (V.pre (I.lo (gI l i))))) (.res (.sl (bif V.nl (I.hi (gI l i)) then (0 : Nat) else (1 : Nat)) (V.nl (I.hi (gI l i))) (V.nl (I.hi (gI l i))) (List.map strP (V.pre (I.hi (gI l i))))) (.res (.sl (bif V.nl (I.hi (gI l i)) then (0 : Nat) else (1 : Nat)) (V.nl (I.hi (gI l i))) true (List.map strP (V.pre (I.hi (gI l i))))) (.lit (.mask (iv [(0, 3), (5, 9), (13, 40)]) [6, 20, 29, 36]))))))) (.frz [.sl 11 false false (List.map I.p xs)] [[row0, row0, row0, row0, row0, row0, jr 6, row0, row0, row0, row0, row0, row0, row0, row0, row0, row0, row0, row0, row0, jr 20, row0, row0, row0, row0, row0, row0, row0, row0, jr 29, row0, row0, row0, row0, row0, row0, jr 36, ⟨gm, .row 11 63 (List.map I.p xs) true⟩, row0, row0, row0]] (.res (.sl 11 false true (List.map I.p xs)) (.hole 0)))) (span_limited_S1 k nl full l i gm n (List.map I.p xs) j jr g) =
  (((decide (i < (↑(List.length (List.map I.p l)) : Int))) = true →
 (((0 : Int) ≤ i) ∧ ((nl = false) ∧ (k = 11))) ∧
 (((List.map I.p l)[Int.toNat i]?) = some (I.p (gI l i))) ∧
 ((g + 1 + 2) = g + 1 + 2) ∧
 ((g + 1 + 2) = g + 1 + 2) ∧
 (Den E1 92 [V.q (I.lo (gI l i))] (.sl (bif V.nl (I.lo (gI l i)) then (0 : Nat) else (1 : Nat)) (V.nl (I.lo (gI l i))) (V.nl (I.lo (gI l i))) (List.map strP (V.pre (I.lo (gI l i)))))) ∧
 (Den E1 71 [.sl (bif V.nl (I.lo (gI l i)) then (0 : Nat) else (1 : Nat)) (V.nl (I.lo (gI l i))) (V.nl (I.lo (gI l i))) (List.map strP (V.pre (I.lo (gI l i))))] (.sl (bif V.nl (I.lo (gI l i)) then (0 : Nat) else (1 : Nat)) (V.nl (I.lo (gI l i))) true (List.map strP (V.pre (I.lo (gI l i)))))) ∧
 ((g + 1 + 2) = g + 1 + 2) ∧
 ((g + 1 + 2) = g + 1 + 2) ∧
 (Den E1 92 [V.q (I.hi (gI l i))] (.sl (bif V.nl (I.hi (gI l i)) then (0 : Nat) else (1 : Nat)) (V.nl (I.hi (gI l i))) (V.nl (I.hi (gI l i))) (List.map strP (V.pre (I.hi (gI l i)))))) ∧
 (Den E1 71 [.sl (bif V.nl (I.hi (gI l i)) then (0 : Nat) else (1 : Nat)) (V.nl (I.hi (gI l i))) (V.nl (I.hi (gI l i))) (List.map strP (V.pre (I.hi (gI l i))))] (.sl (bif V.nl (I.hi (gI l i)) then (0 : Nat) else (1 : Nat)) (V.nl (I.hi (gI l i))) true (List.map strP (V.pre (I.hi (gI l i)))))) ∧
 ((g + 1 + 2) = g + 1 + 2) ∧
 ((g + 1 + 2) = g + 1 + 2) ∧
 ((g + 1 + 4 + 10 + 10 + 2) = g + 1 + 4 + 10 + 10 + 2) ∧
 (((11 : Nat) = 11) ∧ ((1 : Nat) ≤ (1 : Nat))) ∧
 (gm = gm) ∧
 ((false = false) ∧ (((11 : Nat) = 11) ∧ (((63 : Nat) = 63) ∧ ((((0 : Nat) + n) = List.length (List.map I.p xs)) ∧ ((fitsRow (n + 1) (104 : Nat)) = true))))) ∧
 (∀ (j' : Nat → AV) (jr' : Nat → Row) (g' : Nat), LoopAt E1 Tryz.f53 r 0 (span_limited_S1 k nl full l (IntKind.i64.wrap (i + (1 : Int))) (g + 1 + 4 + 10 + 10 + 3) (n + 1) (List.drop (0 : Nat) (List.map I.p xs) ++ List.take (1 : Nat) (List.drop (0 : Nat) [PV.agg [PV.lit (Value.int IntKind.u32 (V.a (I.lo (gI l i)))), PV.lit (Value.int IntKind.u32 (V.b (I.lo (gI l i)))), PV.lit (Value.int IntKind.u32 (V.c (I.lo (gI l i)))), PV.sl (bif V.nl (I.lo (gI l i)) then (0 : Nat) else (1 : Nat)) (V.nl (I.lo (gI l i))) true (List.map strP (V.pre (I.lo (gI l i)))), PV.lit (Value.bool (I.lopen (gI l i))), PV.lit (Value.int IntKind.u32 (V.a (I.hi (gI l i)))), PV.lit (Value.int IntKind.u32 (V.b (I.hi (gI l i)))), PV.lit (Value.int IntKind.u32 (V.c (I.hi (gI l i)))), PV.sl (bif V.nl (I.hi (gI l i)) then (0 : Nat) else (1 : Nat)) (V.nl (I.hi (gI l i))) true (List.map strP (V.pre (I.hi (gI l i)))), PV.lit (Value.bool (I.hopen (gI l i))), PV.lit (Value.bool (I.less (gI l i)))]])) j' jr' g'))) ∧
 ((decide (i < (↑(List.length (List.map I.p l)) : Int))) = false →
 (frzs frzDepth [.msl 0 37 gm 0 n false] [[row0, row0, row0, row0, row0, row0, jr 6, row0, row0, row0, row0, row0, row0, row0, row0, row0, row0, row0, row0, row0, jr 20, row0, row0, row0, row0, row0, row0, row0, row0, jr 29, row0, row0, row0, row0, row0, row0, jr 36, ⟨gm, .row 11 63 (List.map I.p xs) false⟩, row0, row0, row0]] = some ([.sl 11 false false (List.map I.p xs)], [[row0, row0, row0, row0, row0, row0, jr 6, row0, row0, row0, row0, row0, row0, row0, row0, row0, row0, row0, row0, row0, jr 20, row0, row0, row0, row0, row0, row0, row0, row0, jr 29, row0, row0, row0, row0, row0, row0, jr 36, ⟨gm, .row 11 63 (List.map I.p xs) true⟩, row0, row0, row0]])) ∧
 (Den E1 93 [.sl 11 false false (List.map I.p xs)] (.sl 11 false true (List.map I.p xs))) ∧
 ((.tup [.sl 11 false true (List.map I.p xs), intP 0]) : PV) = r)) := by kernel_rfl
end Go.Proofs.YtlhfgonjcpapnaaGreatDoor.Abs

set_option maxRecDepth 20000
namespace Go.Proofs.YtlhfgonjcpapnaaGreatDoor.Abs
open Go Go.Proofs
theorem digits_all {s : List UInt8} (h : digitsL s = true) : s.all isDig = true ∧ s ≠ [] := by
  simp only [digitsL, Bool.and_eq_true, Bool.not_eq_true'] at h
  exact ⟨h.1, by rintro rfl; simp at h⟩
end Go.Proofs.YtlhfgonjcpapnaaGreatDoor.Abs

set_option maxRecDepth 20000
namespace Go.Proofs.YtlhfgonjcpapnaaGreatDoor.Abs
open Go Go.Proofs
theorem getD_mem {α : Type} {l : List α} {i : Nat} (h : i < l.length) (d : α) : l.getD i d ∈ l := by
  rw [List.getD_eq_getElem?_getD, List.getElem?_eq_getElem h]; exact List.getElem_mem h
end Go.Proofs.YtlhfgonjcpapnaaGreatDoor.Abs

namespace Go.Proofs.YtlhfgonjcpapnaaGreatDoor.Abs
open Go Go.Proofs
def span_meet_S0 (l : List I) (m : List I) (k : Nat) (k' : Nat) (nl : Bool) (full : Bool) (nl' : Bool) (full' : Bool) (i : Int) (j : Nat → AV) (jr : Nat → Row) (g : Nat) : St :=
  { t := [j 0, .pv (.sl k' nl' full' (List.map I.p m)), j 2, j 3, j 4, .pv (.sl 0 true true [])] ++ jj j 6 6 ++ [.pv (.sl k nl full (List.map I.p l)), intA ((↑(List.length (List.map I.p l)) : Int)), intA i] ++ jj j 15 37, h := [List.replicate 7 row0 ++ [jr 7, row0, jr 9, jr 10, jr 11, row0, row0, row0, row0, row0, row0, row0, row0, row0, row0, row0, row0, row0, row0, row0, row0, row0, row0, row0, row0, row0, row0, row0, row0, row0, row0, row0, row0, row0, row0, row0, row0, row0, row0, jr 46] ++ List.replicate 5 row0], g := g }
def span_meet_S1 (l : List I) (m : List I) (k : Nat) (k' : Nat) (nl : Bool) (full : Bool) (nl' : Bool) (full' : Bool) (i : Int) (q : Int) (gx : Nat) (j : Nat → AV) (jr : Nat → Row) (g : Nat) : St :=
  { t := [j 0, .pv (.sl k' nl' full' (List.map I.p m)), j 2, j 3, j 4, .pv (.sl 0 true true []), j 6, .mptr 0 7 gx 0 0, j 8, j 9, j 10, j 11, .pv (.sl k nl full (List.map I.p l)), intA ((↑(List.length (List.map I.p l)) : Int)), intA i, j 15, j 16, j 17, .pv (.sl k' nl' full' (List.map I.p m)), intA ((↑(List.length (List.map I.p m)) : Int)), intA q] ++ jj j 21 31, h := [List.replicate 7 row0 ++ [⟨gx, .box (.pv (I.p (gI l i))) false⟩, row0, jr 9, jr 10, jr 11, row0, row0, row0, row0, row0, row0, row0, row0, row0, row0, row0, row0, row0, row0, row0, row0, row0, row0, row0, row0, row0, row0, row0, row0, row0, row0, row0, row0, row0, row0, row0, row0, row0, row0, jr 46] ++ List.replicate 5 row0], g := g }
def span_meet_S2 (l : List I) (m : List I) (k : Nat) (k' : Nat) (nl : Bool) (full : Bool) (nl' : Bool) (full' : Bool) (i : Int) (q : Int) (gx : Nat) (gm : Nat) (n : Nat) (xsI : List PV) (j : Nat → AV) (jr : Nat → Row) (g : Nat) : St :=
  { t := [j 0, .pv (.sl k' nl' full' (List.map I.p m)), j 2, j 3, j 4, .msl 0 47 gm 0 n false, j 6, .mptr 0 7 gx 0 0, j 8, j 9, j 10, j 11, .pv (.sl k nl full (List.map I.p l)), intA ((↑(List.length (List.map I.p l)) : Int)), intA i, j 15, j 16, j 17, .pv (.sl k' nl' full' (List.map I.p m)), intA ((↑(List.length (List.map I.p m)) : Int)), intA q] ++ jj j 21 31, h := [List.replicate 7 row0 ++ [⟨gx, .box (.pv (I.p (gI l i))) false⟩, row0, jr 9, jr 10, jr 11, row0, row0, row0, row0, row0, row0, row0, row0, row0, row0, row0, row0, row0, row0, row0, row0, row0, row0, row0, row0, row0, row0, row0, row0, row0, row0, row0, row0, row0, row0, row0, row0, row0, row0, jr 46, ⟨gm, .row 11 63 xsI false⟩] ++ List.replicate 4 row0], g := g }
def span_meet_S3 (l : List I) (m : List I) (k : Nat) (k' : Nat) (nl : Bool) (full : Bool) (nl' : Bool) (full' : Bool) (i : Int) (gm : Nat) (n : Nat) (xsI : List PV) (j : Nat → AV) (jr : Nat → Row) (g : Nat) : St :=
  { t := [j 0, .pv (.sl k' nl' full' (List.map I.p m)), j 2, j 3, j 4, .msl 0 47 gm 0 n false] ++ jj j 6 6 ++ [.pv (.sl k nl full (List.map I.p l)), intA ((↑(List.length (List.map I.p l)) : Int)), intA i] ++ jj j 15 37, h := [List.replicate 7 row0 ++ [jr 7, row0, jr 9, jr 10, jr 11, row0, row0, row0, row0, row0, row0, row0, row0, row0, row0, row0, row0, row0, row0, row0, row0, row0, row0, row0, row0, row0, row0, row0, row0, row0, row0, row0, row0, row0, row0, row0, row0, row0, row0, jr 46, ⟨gm, .row 11 63 xsI false⟩] ++ List.replicate 4 row0], g := g }
theorem span_meet_go (l : List I) (m : List I) (k : Nat) (k' : Nat) (nl : Bool) (full : Bool) (nl' : Bool) (full' : Bool) (r : PV) : FnGo E1 Tryz.f62 [.sl k nl full (List.map I.p l), .sl k' nl' full' (List.map I.p m)] r 2000 (.mask (iv [(0, 0), (2, 4), (6, 11), (15, 51)]) [7, 9, 10, 11, 46]) =
  (AtAll Tryz.f62 r 0 (span_meet_S0 l m k k' nl full nl' full' 0)) := by kernel_rfl
theorem span_meet_go_S0 (l : List I) (m : List I) (k : Nat) (k' : Nat) (nl : Bool) (full : Bool) (nl' : Bool) (full' : Bool) (i : Int) (j : Nat → AV) (jr : Nat → Row) (g : Nat) (r : PV) : LoopGo E1 Tryz.f62 r 0 2000 (.fork (.val (I.p (gI l i)) (.mask (iv [(0, 0), (2, 4), (6, 6), (8, 11), (15, 17), (21, 51)]) [9, 10, 11, 46])) (.res (.sl 0 true true []) (.hole 0))) (span_meet_S0 l m k k' nl full nl' full' i j jr g) =
  (((decide (i < (↑(List.length (List.map I.p l)) : Int))) = true →
 (((0 : Int) ≤ i) ∧ ((nl = false) ∧ (k = 11))) ∧
 (((List.map I.p l)[Int.toNat i]?) = some (I.p (gI l i))) ∧
 ((g + 1 + 2) = g + 1 + 2) ∧
 (AtAll Tryz.f62 r 1 (span_meet_S1 l m k k' nl full nl' full' i 0 (g + 1 + 2)))) ∧
 ((decide (i < (↑(List.length (List.map I.p l)) : Int))) = false →
 (Den E1 54 [.sl 0 true true []] (.sl 0 true true [])) ∧
 ((.sl 0 true true []) : PV) = r)) := by kernel_rfl
theorem span_meet_go_S1 (l : List I) (m : List I) (k : Nat) (k' : Nat) (nl : Bool) (full : Bool) (nl' : Bool) (full' : Bool) (i : Int) (q : Int) (gx : Nat) (j : Nat → AV) (jr : Nat → Row) (g : Nat) (r : PV) : LoopGo E1 Tryz.f62 r 1 2000 (.fork (.val (I.p (gI m q)) (.res (Ed.p ⟨(I.lo (gI l i)), (I.lopen (gI l i)), false⟩) (.res (Ed.p ⟨(I.hi (gI l i)), (!I.hopen (gI l i)), (I.less (gI l i))⟩) (.res (Ed.p ⟨(I.lo (gI m q)), (I.lopen (gI m q)), false⟩) (.res (intP (befE ⟨I.lo (gI l i), I.lopen (gI l i), false⟩ ⟨I.lo (gI m q), I.lopen (gI m q), false⟩)) (.fork (.res (Ed.p ⟨(I.lo (gI m q)), (I.lopen (gI m q)), false⟩) (.res (Ed.p ⟨(I.hi (gI m q)), (!I.hopen (gI m q)), (I.less (gI m q))⟩) (.res (intP (befE ⟨I.hi (gI m q), !I.hopen (gI m q), I.less (gI m q)⟩ ⟨I.hi (gI l i), !I.hopen (gI l i), I.less (gI l i)⟩)) (.fork (.res (Ed.p ⟨(I.hi (gI m q)), (!I.hopen (gI m q)), (I.less (gI m q))⟩) (.res (I.p ⟨(I.lo (gI m q)), (I.lopen (gI m q)), (if Ed.less ⟨I.hi (gI m q), !I.hopen (gI m q), I.less (gI m q)⟩ = true then zV else I.hi (gI m q)), (if Ed.less ⟨I.hi (gI m q), !I.hopen (gI m q), I.less (gI m q)⟩ = true then false else !!I.hopen (gI m q)), (I.less (gI m q))⟩) (.lit (.lit (.mask (iv [(0, 0), (2, 4), (6, 6), (8, 11), (15, 17), (21, 51)]) [9, 10, 11, 46]))))) (.res (I.p ⟨(I.lo (gI m q)), (I.lopen (gI m q)), (if Ed.less ⟨I.hi (gI l i), !I.hopen (gI l i), I.less (gI l i)⟩ = true then zV else I.hi (gI l i)), (if Ed.less ⟨I.hi (gI l i), !I.hopen (gI l i), I.less (gI l i)⟩ = true then false else !!I.hopen (gI l i)), (I.less (gI l i))⟩) (.lit (.lit (.mask (iv [(0, 0), (2, 4), (6, 6), (8, 11), (15, 17), (21, 51)]) [9, 10, 11, 46])))))))) (.res (Ed.p ⟨(I.hi (gI m q)), (!I.hopen (gI m q)), (I.less (gI m q))⟩) (.res (intP (befE ⟨I.hi (gI m q), !I.hopen (gI m q), I.less (gI m q)⟩ ⟨I.hi (gI l i), !I.hopen (gI l i), I.less (gI l i)⟩)) (.fork (.res (Ed.p ⟨(I.hi (gI m q)), (!I.hopen (gI m q)), (I.less (gI m q))⟩) (.res (I.p ⟨(I.lo (gI l i)), (I.lopen (gI l i)), (if Ed.less ⟨I.hi (gI m q), !I.hopen (gI m q), I.less (gI m q)⟩ = true then zV else I.hi (gI m q)), (if Ed.less ⟨I.hi (gI m q), !I.hopen (gI m q), I.less (gI m q)⟩ = true then false else !!I.hopen (gI m q)), (I.less (gI m q))⟩) (.lit (.lit (.mask (iv [(0, 0), (2, 4), (6, 6), (8, 11), (15, 17), (21, 51)]) [9, 10, 11, 46]))))) (.res (I.p ⟨(I.lo (gI l i)), (I.lopen (gI l i)), (if Ed.less ⟨I.hi (gI l i), !I.hopen (gI l i), I.less (gI l i)⟩ = true then zV else I.hi (gI l i)), (if Ed.less ⟨I.hi (gI l i), !I.hopen (gI l i), I.less (gI l i)⟩ = true then false else !!I.hopen (gI l i)), (I.less (gI l i))⟩) (.lit (.lit (.mask (iv [(0, 0), (2, 4), (6, 6), (8, 11), (15, 17), (21, 51)]) [9, 10, 11, 46]))))))))))))) (.mask (iv [(0, 0), (2, 4), (6, 11), (15, 51)]) [7, 9, 10, 11, 46])) (span_meet_S1 l m k k' nl full nl' full' i q gx j jr g) =
  (((decide (q < (↑(List.length (List.map I.p m)) : Int))) = true →
 (((0 : Int) ≤ q) ∧ ((nl' = false) ∧ (k' = 11))) ∧
 (((List.map I.p m)[Int.toNat q]?) = some (I.p (gI m q))) ∧
 ((g + 1 + 2) = g + 1 + 2) ∧
 (gx = gx) ∧
 (Den E1 37 [I.p (gI l i)] (Ed.p ⟨(I.lo (gI l i)), (I.lopen (gI l i)), false⟩)) ∧
 (gx = gx) ∧
 (Den E1 38 [I.p (gI l i)] (Ed.p ⟨(I.hi (gI l i)), (!I.hopen (gI l i)), (I.less (gI l i))⟩)) ∧
 ((g + 1 + 4 + 4) = g + 1 + 4 + 4) ∧
 ((g + 1 + 4 + 5) = g + 1 + 4 + 5) ∧
 ((g + 1 + 4 + 4) = g + 1 + 4 + 4) ∧
 ((g + 1 + 2) = g + 1 + 2) ∧
 (Den E1 37 [I.p (gI m q)] (Ed.p ⟨(I.lo (gI m q)), (I.lopen (gI m q)), false⟩)) ∧
 (Den E1 36 [Ed.p ⟨(I.lo (gI l i)), (I.lopen (gI l i)), false⟩, Ed.p ⟨(I.lo (gI m q)), (I.lopen (gI m q)), false⟩] (intP (befE ⟨I.lo (gI l i), I.lopen (gI l i), false⟩ ⟨I.lo (gI m q), I.lopen (gI m q), false⟩))) ∧
 ((decide (befE ⟨I.lo (gI l i), I.lopen (gI l i), false⟩ ⟨I.lo (gI m q), I.lopen (gI m q), false⟩ < (0 : Int))) = true →
 ((g + 1 + 2) = g + 1 + 2) ∧
 (Den E1 37 [I.p (gI m q)] (Ed.p ⟨(I.lo (gI m q)), (I.lopen (gI m q)), false⟩)) ∧
 ((g + 1 + 4 + 4) = g + 1 + 4 + 4) ∧
 ((g + 1 + 2) = g + 1 + 2) ∧
 (Den E1 38 [I.p (gI m q)] (Ed.p ⟨(I.hi (gI m q)), (!I.hopen (gI m q)), (I.less (gI m q))⟩)) ∧
 ((g + 1 + 4 + 5) = g + 1 + 4 + 5) ∧
 (Den E1 36 [Ed.p ⟨(I.hi (gI m q)), (!I.hopen (gI m q)), (I.less (gI m q))⟩, Ed.p ⟨(I.hi (gI l i)), (!I.hopen (gI l i)), (I.less (gI l i))⟩] (intP (befE ⟨I.hi (gI m q), !I.hopen (gI m q), I.less (gI m q)⟩ ⟨I.hi (gI l i), !I.hopen (gI l i), I.less (gI l i)⟩))) ∧
 ((decide (befE ⟨I.hi (gI m q), !I.hopen (gI m q), I.less (gI m q)⟩ ⟨I.hi (gI l i), !I.hopen (gI l i), I.less (gI l i)⟩ < (0 : Int))) = true →
 ((g + 1 + 2) = g + 1 + 2) ∧
 (Den E1 38 [I.p (gI m q)] (Ed.p ⟨(I.hi (gI m q)), (!I.hopen (gI m q)), (I.less (gI m q))⟩)) ∧
 ((g + 1 + 4 + 5) = g + 1 + 4 + 5) ∧
 ((g + 1 + 4 + 4) = g + 1 + 4 + 4) ∧
 ((g + 1 + 4 + 5) = g + 1 + 4 + 5) ∧
 (Den E1 89 [Ed.p ⟨(I.lo (gI m q)), (I.lopen (gI m q)), false⟩, Ed.p ⟨(I.hi (gI m q)), (!I.hopen (gI m q)), (I.less (gI m q))⟩] (I.p ⟨(I.lo (gI m q)), (I.lopen (gI m q)), (if Ed.less ⟨I.hi (gI m q), !I.hopen (gI m q), I.less (gI m q)⟩ = true then zV else I.hi (gI m q)), (if Ed.less ⟨I.hi (gI m q), !I.hopen (gI m q), I.less (gI m q)⟩ = true then false else !!I.hopen (gI m q)), (I.less (gI m q))⟩)) ∧
 ((g + 1 + 4 + 8 + 5 + 3 + 5 + 3 + 4) = g + 1 + 4 + 8 + 5 + 3 + 5 + 3 + 4) ∧
 (((11 : Nat) = 11) ∧ ((1 : Nat) ≤ (1 : Nat))) ∧
 (((0 : Nat) = 0) ∧ (true = true)) ∧
 (AtAll Tryz.f62 r 1 (span_meet_S2 l m k k' nl full nl' full' i (IntKind.i64.wrap (q + (1 : Int))) gx (g + 1 + 4 + 8 + 5 + 3 + 5 + 3 + 5) 1 [I.p ⟨(I.lo (gI m q)), (I.lopen (gI m q)), (if Ed.less ⟨I.hi (gI m q), !I.hopen (gI m q), I.less (gI m q)⟩ = true then zV else I.hi (gI m q)), (if Ed.less ⟨I.hi (gI m q), !I.hopen (gI m q), I.less (gI m q)⟩ = true then false else !!I.hopen (gI m q)), (I.less (gI m q))⟩]))) ∧
 ((decide (befE ⟨I.hi (gI m q), !I.hopen (gI m q), I.less (gI m q)⟩ ⟨I.hi (gI l i), !I.hopen (gI l i), I.less (gI l i)⟩ < (0 : Int))) = false →
 ((g + 1 + 4 + 4) = g + 1 + 4 + 4) ∧
 ((g + 1 + 4 + 5) = g + 1 + 4 + 5) ∧
 (Den E1 89 [Ed.p ⟨(I.lo (gI m q)), (I.lopen (gI m q)), false⟩, Ed.p ⟨(I.hi (gI l i)), (!I.hopen (gI l i)), (I.less (gI l i))⟩] (I.p ⟨(I.lo (gI m q)), (I.lopen (gI m q)), (if Ed.less ⟨I.hi (gI l i), !I.hopen (gI l i), I.less (gI l i)⟩ = true then zV else I.hi (gI l i)), (if Ed.less ⟨I.hi (gI l i), !I.hopen (gI l i), I.less (gI l i)⟩ = true then false else !!I.hopen (gI l i)), (I.less (gI l i))⟩)) ∧
 ((g + 1 + 4 + 8 + 5 + 3 + 5 + 4) = g + 1 + 4 + 8 + 5 + 3 + 5 + 4) ∧
 (((11 : Nat) = 11) ∧ ((1 : Nat) ≤ (1 : Nat))) ∧
 (((0 : Nat) = 0) ∧ (true = true)) ∧
 (AtAll Tryz.f62 r 1 (span_meet_S2 l m k k' nl full nl' full' i (IntKind.i64.wrap (q + (1 : Int))) gx (g + 1 + 4 + 8 + 5 + 3 + 5 + 5) 1 [I.p ⟨(I.lo (gI m q)), (I.lopen (gI m q)), (if Ed.less ⟨I.hi (gI l i), !I.hopen (gI l i), I.less (gI l i)⟩ = true then zV else I.hi (gI l i)), (if Ed.less ⟨I.hi (gI l i), !I.hopen (gI l i), I.less (gI l i)⟩ = true then false else !!I.hopen (gI l i)), (I.less (gI l i))⟩])))) ∧
 ((decide (befE ⟨I.lo (gI l i), I.lopen (gI l i), false⟩ ⟨I.lo (gI m q), I.lopen (gI m q), false⟩ < (0 : Int))) = false →
 ((g + 1 + 2) = g + 1 + 2) ∧
 (Den E1 38 [I.p (gI m q)] (Ed.p ⟨(I.hi (gI m q)), (!I.hopen (gI m q)), (I.less (gI m q))⟩)) ∧
 ((g + 1 + 4 + 5) = g + 1 + 4 + 5) ∧
 (Den E1 36 [Ed.p ⟨(I.hi (gI m q)), (!I.hopen (gI m q)), (I.less (gI m q))⟩, Ed.p ⟨(I.hi (gI l i)), (!I.hopen (gI l i)), (I.less (gI l i))⟩] (intP (befE ⟨I.hi (gI m q), !I.hopen (gI m q), I.less (gI m q)⟩ ⟨I.hi (gI l i), !I.hopen (gI l i), I.less (gI l i)⟩))) ∧
 ((decide (befE ⟨I.hi (gI m q), !I.hopen (gI m q), I.less (gI m q)⟩ ⟨I.hi (gI l i), !I.hopen (gI l i), I.less (gI l i)⟩ < (0 : Int))) = true →
 ((g + 1 + 2) = g + 1 + 2) ∧
 (Den E1 38 [I.p (gI m q)] (Ed.p ⟨(I.hi (gI m q)), (!I.hopen (gI m q)), (I.less (gI m q))⟩)) ∧
 ((g + 1 + 4 + 5) = g + 1 + 4 + 5) ∧
 ((g + 1 + 4 + 4) = g + 1 + 4 + 4) ∧
 ((g + 1 + 4 + 5) = g + 1 + 4 + 5) ∧
 (Den E1 89 [Ed.p ⟨(I.lo (gI l i)), (I.lopen (gI l i)), false⟩, Ed.p ⟨(I.hi (gI m q)), (!I.hopen (gI m q)), (I.less (gI m q))⟩] (I.p ⟨(I.lo (gI l i)), (I.lopen (gI l i)), (if Ed.less ⟨I.hi (gI m q), !I.hopen (gI m q), I.less (gI m q)⟩ = true then zV else I.hi (gI m q)), (if Ed.less ⟨I.hi (gI m q), !I.hopen (gI m q), I.less (gI m q)⟩ = true then false else !!I.hopen (gI m q)), (I.less (gI m q))⟩)) ∧
 ((g + 1 + 4 + 8 + 5 + 5 + 3 + 4) = g + 1 + 4 + 8 + 5 + 5 + 3 + 4) ∧
 (((11 : Nat) = 11) ∧ ((1 : Nat) ≤ (1 : Nat))) ∧
 (((0 : Nat) = 0) ∧ (true = true)) ∧
 (AtAll Tryz.f62 r 1 (span_meet_S2 l m k k' nl full nl' full' i (IntKind.i64.wrap (q + (1 : Int))) gx (g + 1 + 4 + 8 + 5 + 5 + 3 + 5) 1 [I.p ⟨(I.lo (gI l i)), (I.lopen (gI l i)), (if Ed.less ⟨I.hi (gI m q), !I.hopen (gI m q), I.less (gI m q)⟩ = true then zV else I.hi (gI m q)), (if Ed.less ⟨I.hi (gI m q), !I.hopen (gI m q), I.less (gI m q)⟩ = true then false else !!I.hopen (gI m q)), (I.less (gI m q))⟩]))) ∧
 ((decide (befE ⟨I.hi (gI m q), !I.hopen (gI m q), I.less (gI m q)⟩ ⟨I.hi (gI l i), !I.hopen (gI l i), I.less (gI l i)⟩ < (0 : Int))) = false →
 ((g + 1 + 4 + 4) = g + 1 + 4 + 4) ∧
 ((g + 1 + 4 + 5) = g + 1 + 4 + 5) ∧
 (Den E1 89 [Ed.p ⟨(I.lo (gI l i)), (I.lopen (gI l i)), false⟩, Ed.p ⟨(I.hi (gI l i)), (!I.hopen (gI l i)), (I.less (gI l i))⟩] (I.p ⟨(I.lo (gI l i)), (I.lopen (gI l i)), (if Ed.less ⟨I.hi (gI l i), !I.hopen (gI l i), I.less (gI l i)⟩ = true then zV else I.hi (gI l i)), (if Ed.less ⟨I.hi (gI l i), !I.hopen (gI l i), I.less (gI l i)⟩ = true then false else !!I.hopen (gI l i)), (I.less (gI l i))⟩)) ∧
 ((g + 1 + 4 + 8 + 5 + 5 + 4) = g + 1 + 4 + 8 + 5 + 5 + 4) ∧
 (((11 : Nat) = 11) ∧ ((1 : Nat) ≤ (1 : Nat))) ∧
 (((0 : Nat) = 0) ∧ (true = true)) ∧
 (AtAll Tryz.f62 r 1 (span_meet_S2 l m k k' nl full nl' full' i (IntKind.i64.wrap (q + (1 : Int))) gx (g + 1 + 4 + 8 + 5 + 5 + 5) 1 [I.p ⟨(I.lo (gI l i)), (I.lopen (gI l i)), (if Ed.less ⟨I.hi (gI l i), !I.hopen (gI l i), I.less (gI l i)⟩ = true then zV else I.hi (gI l i)), (if Ed.less ⟨I.hi (gI l i), !I.hopen (gI l i), I.less (gI l i)⟩ = true then false else !!I.hopen (gI l i)), (I.less (gI l i))⟩]))))) ∧
 ((decide (q < (↑(List.length (List.map I.p m)) : Int))) = false →
 AtAll Tryz.f62 r 0 (span_meet_S0 l m k k' nl full nl' full' (IntKind.i64.wrap (i + (1 : Int)))))) := by kernel_rfl
theorem span_meet_go_S2 (l : List I) (m : List I) (k : Nat) (k' : Nat) (nl : Bool) (full : Bool) (nl' : Bool) (full' : Bool) (i : Int) (q : Int) (gx : Nat) (gm : Nat) (n : Nat) (xs : List I) (j : Nat → AV) (jr : Nat → Row) (g : Nat) (r : PV) : LoopGo E1 Tryz.f62 r 1 2000 (.fork (.val (I.p (gI m q)) (.res (Ed.p ⟨(I.lo (gI l i)), (I.lopen (gI l i)), false⟩) (.res (Ed.p ⟨(I.hi (gI l i)), (!I.hopen (gI l i)), (I.less (gI l i))⟩) (.res (Ed.p ⟨(I.lo (gI m q)), (I.lopen (gI m q)), false⟩) (.res (intP (befE ⟨I.lo (gI l i), I.lopen (gI l i), false⟩ ⟨I.lo (gI m q), I.lopen (gI m q), false⟩)) (.fork (.res (Ed.p ⟨(I.lo (gI m q)), (I.lopen (gI m q)), false⟩) (.res (Ed.p ⟨(I.hi (gI m q)), (!I.hopen (gI m q)), (I.less (gI m q))⟩) (.res (intP (befE ⟨I.hi (gI m q), !I.hopen (gI m q), I.less (gI m q)⟩ ⟨I.hi (gI l i), !I.hopen (gI l i), I.less (gI l i)⟩)) (.fork (.res (Ed.p ⟨(I.hi (gI m q)), (!I.hopen (gI m q)), (I.less (gI m q))⟩) (.res (I.p ⟨(I.lo (gI m q)), (I.lopen (gI m q)), (if Ed.less ⟨I.hi (gI m q), !I.hopen (gI m q), I.less (gI m q)⟩ = true then zV else I.hi (gI m q)), (if Ed.less ⟨I.hi (gI m q), !I.hopen (gI m q), I.less (gI m q)⟩ = true then false else !!I.hopen (gI m q)), (I.less (gI m q))⟩) (.lit (.mask (iv [(0, 0), (2, 4), (6, 6), (8, 11), (15, 17), (21, 51)]) [9, 10, 11, 46])))) (.res (I.p ⟨(I.lo (gI m q)), (I.lopen (gI m q)), (if Ed.less ⟨I.hi (gI l i), !I.hopen (gI l i), I.less (gI l i)⟩ = true then zV else I.hi (gI l i)), (if Ed.less ⟨I.hi (gI l i), !I.hopen (gI l i), I.less (gI l i)⟩ = true then false else !!I.hopen (gI l i)), (I.less (gI l i))⟩) (.lit (.mask (iv [(0, 0), (2, 4), (6, 6), (8, 11), (15, 17), (21, 51)]) [9, 10, 11, 46]))))))) (.res (Ed.p ⟨(I.hi (gI m q)), (!I.hopen (gI m q)), (I.less (gI m q))⟩) (.res (intP (befE ⟨I.hi (gI m q), !I.hopen (gI m q), I.less (gI m q)⟩ ⟨I.hi (gI l i), !I.hopen (gI l i), I.less (gI l i)⟩)) (.fork (.res (Ed.p ⟨(I.hi (gI m q)), (!I.hopen (gI m q)), (I.less (gI m q))⟩) (.res (I.p ⟨(I.lo (gI l i)), (I.lopen (gI l i)), (if Ed.less ⟨I.hi (gI m q), !I.hopen (gI m q), I.less (gI m q)⟩ = true then zV else I.hi (gI m q)), (if Ed.less ⟨I.hi (gI m q), !I.hopen (gI m q), I.less (gI m q)⟩ = true then false else !!I.hopen (gI m q)), (I.less (gI m q))⟩) (.lit (.mask (iv [(0, 0), (2, 4), (6, 6), (8, 11), (15, 17), (21, 51)]) [9, 10, 11, 46])))) (.res (I.p ⟨(I.lo (gI l i)), (I.lopen (gI l i)), (if Ed.less ⟨I.hi (gI l i), !I.hopen (gI l i), I.less (gI l i)⟩ = true then zV else I.hi (gI l i)), (if Ed.less ⟨I.hi (gI l i), !I.hopen (gI l i), I.less (gI l i)⟩ = true then false else !!I.hopen (gI l i)), (I.less (gI l i))⟩) (.lit (.mask (iv [(0, 0), (2, 4), (6, 6), (8, 11), (15, 17), (21, 51)]) [9, 10, 11, 46])))))))))))) (.mask (iv [(0, 0), (2, 4), (6, 11), (15, 51)]) [7, 9, 10, 11, 46])) (span_meet_S2 l m k k' nl full nl' full' i q gx gm n (List.map I.p xs) j jr g) =
  (((decide (q < (↑(List.length (List.map I.p m)) : Int))) = true →
 (((0 : Int) ≤ q) ∧ ((nl' = false) ∧ (k' = 11))) ∧
 (((List.map I.p m)[Int.toNat q]?) = some (I.p (gI m q))) ∧
 ((g + 1 + 2) = g + 1 + 2) ∧
 (gx = gx) ∧
 (Den E1 37 [I.p (gI l i)] (Ed.p ⟨(I.lo (gI l i)), (I.lopen (gI l i)), false⟩)) ∧
 (gx = gx) ∧
 (Den E1 38 [I.p (gI l i)] (Ed.p ⟨(I.hi (gI l i)), (!I.hopen (gI l i)), (I.less (gI l i))⟩)) ∧
 ((g + 1 + 4 + 4) = g + 1 + 4 + 4) ∧
 ((g + 1 + 4 + 5) = g + 1 + 4 + 5) ∧
 ((g + 1 + 4 + 4) = g + 1 + 4 + 4) ∧
 ((g + 1 + 2) = g + 1 + 2) ∧
 (Den E1 37 [I.p (gI m q)] (Ed.p ⟨(I.lo (gI m q)), (I.lopen (gI m q)), false⟩)) ∧
 (Den E1 36 [Ed.p ⟨(I.lo (gI l i)), (I.lopen (gI l i)), false⟩, Ed.p ⟨(I.lo (gI m q)), (I.lopen (gI m q)), false⟩] (intP (befE ⟨I.lo (gI l i), I.lopen (gI l i), false⟩ ⟨I.lo (gI m q), I.lopen (gI m q), false⟩))) ∧
 ((decide (befE ⟨I.lo (gI l i), I.lopen (gI l i), false⟩ ⟨I.lo (gI m q), I.lopen (gI m q), false⟩ < (0 : Int))) = true →
 ((g + 1 + 2) = g + 1 + 2) ∧
 (Den E1 37 [I.p (gI m q)] (Ed.p ⟨(I.lo (gI m q)), (I.lopen (gI m q)), false⟩)) ∧
 ((g + 1 + 4 + 4) = g + 1 + 4 + 4) ∧
 ((g + 1 + 2) = g + 1 + 2) ∧
 (Den E1 38 [I.p (gI m q)] (Ed.p ⟨(I.hi (gI m q)), (!I.hopen (gI m q)), (I.less (gI m q))⟩)) ∧
 ((g + 1 + 4 + 5) = g + 1 + 4 + 5) ∧
 (Den E1 36 [Ed.p ⟨(I.hi (gI m q)), (!I.hopen (gI m q)), (I.less (gI m q))⟩, Ed.p ⟨(I.hi (gI l i)), (!I.hopen (gI l i)), (I.less (gI l i))⟩] (intP (befE ⟨I.hi (gI m q), !I.hopen (gI m q), I.less (gI m q)⟩ ⟨I.hi (gI l i), !I.hopen (gI l i), I.less (gI l i)⟩))) ∧
 ((decide (befE ⟨I.hi (gI m q), !I.hopen (gI m q), I.less (gI m q)⟩ ⟨I.hi (gI l i), !I.hopen (gI l i), I.less (gI l i)⟩ < (0 : Int))) = true →
 ((g + 1 + 2) = g + 1 + 2) ∧
 (Den E1 38 [I.p (gI m q)] (Ed.p ⟨(I.hi (gI m q)), (!I.hopen (gI m q)), (I.less (gI m q))⟩)) ∧
 ((g + 1 + 4 + 5) = g + 1 + 4 + 5) ∧
 ((g + 1 + 4 + 4) = g + 1 + 4 + 4) ∧
 ((g + 1 + 4 + 5) = g + 1 + 4 + 5) ∧
 (Den E1 89 [Ed.p ⟨(I.lo (gI m q)), (I.lopen (gI m q)), false⟩, Ed.p ⟨(I.hi (gI m q)), (!I.hopen (gI m q)), (I.less (gI m q))⟩] (I.p ⟨(I.lo (gI m q)), (I.lopen (gI m q)), (if Ed.less ⟨I.hi (gI m q), !I.hopen (gI m q), I.less (gI m q)⟩ = true then zV else I.hi (gI m q)), (if Ed.less ⟨I.hi (gI m q), !I.hopen (gI m q), I.less (gI m q)⟩ = true then false else !!I.hopen (gI m q)), (I.less (gI m q))⟩)) ∧
 ((g + 1 + 4 + 8 + 5 + 3 + 5 + 3 + 4) = g + 1 + 4 + 8 + 5 + 3 + 5 + 3 + 4) ∧
 (((11 : Nat) = 11) ∧ ((1 : Nat) ≤ (1 : Nat))) ∧
 (gm = gm) ∧
 ((false = false) ∧ (((11 : Nat) = 11) ∧ (((63 : Nat) = 63) ∧ ((((0 : Nat) + n) = List.length (List.map I.p xs)) ∧ ((fitsRow (n + 1) (104 : Nat)) = true))))) ∧
 (∀ (j' : Nat → AV) (jr' : Nat → Row) (g' : Nat), LoopAt E1 Tryz.f62 r 1 (span_meet_S2 l m k k' nl full nl' full' i (IntKind.i64.wrap (q + (1 : Int))) gx (g + 1 + 4 + 8 + 5 + 3 + 5 + 3 + 5) (n + 1) (List.drop (0 : Nat) (List.map I.p xs) ++ List.take (1 : Nat) (List.drop (0 : Nat) [PV.agg [PV.lit (Value.int IntKind.u32 (V.a (I.lo (gI m q)))), PV.lit (Value.int IntKind.u32 (V.b (I.lo (gI m q)))), PV.lit (Value.int IntKind.u32 (V.c (I.lo (gI m q)))), V.q (I.lo (gI m q)), PV.lit (Value.bool (I.lopen (gI m q))), PV.lit (Value.int IntKind.u32 (V.a (if Ed.less ⟨I.hi (gI m q), !I.hopen (gI m q), I.less (gI m q)⟩ = true then zV else I.hi (gI m q)))), PV.lit (Value.int IntKind.u32 (V.b (if Ed.less ⟨I.hi (gI m q), !I.hopen (gI m q), I.less (gI m q)⟩ = true then zV else I.hi (gI m q)))), PV.lit (Value.int IntKind.u32 (V.c (if Ed.less ⟨I.hi (gI m q), !I.hopen (gI m q), I.less (gI m q)⟩ = true then zV else I.hi (gI m q)))), V.q (if Ed.less ⟨I.hi (gI m q), !I.hopen (gI m q), I.less (gI m q)⟩ = true then zV else I.hi (gI m q)), PV.lit (Value.bool (if Ed.less ⟨I.hi (gI m q), !I.hopen (gI m q), I.less (gI m q)⟩ = true then false else !!I.hopen (gI m q))), PV.lit (Value.bool (I.less (gI m q)))]])) j' jr' g'))) ∧
 ((decide (befE ⟨I.hi (gI m q), !I.hopen (gI m q), I.less (gI m q)⟩ ⟨I.hi (gI l i), !I.hopen (gI l i), I.less (gI l i)⟩ < (0 : Int))) = false →
 ((g + 1 + 4 + 4) = g + 1 + 4 + 4) ∧
 ((g + 1 + 4 + 5) = g + 1 + 4 + 5) ∧
 (Den E1 89 [Ed.p ⟨(I.lo (gI m q)), (I.lopen (gI m q)), false⟩, Ed.p ⟨(I.hi (gI l i)), (!I.hopen (gI l i)), (I.less (gI l i))⟩] (I.p ⟨(I.lo (gI m q)), (I.lopen (gI m q)), (if Ed.less ⟨I.hi (gI l i), !I.hopen (gI l i), I.less (gI l i)⟩ = true then zV else I.hi (gI l i)), (if Ed.less ⟨I.hi (gI l i), !I.hopen (gI l i), I.less (gI l i)⟩ = true then false else !!I.hopen (gI l i)), (I.less (gI l i))⟩)) ∧
 ((g + 1 + 4 + 8 + 5 + 3 + 5 + 4) = g + 1 + 4 + 8 + 5 + 3 + 5 + 4) ∧
 (((11 : Nat) = 11) ∧ ((1 : Nat) ≤ (1 : Nat))) ∧
 (gm = gm) ∧
 ((false = false) ∧ (((11 : Nat) = 11) ∧ (((63 : Nat) = 63) ∧ ((((0 : Nat) + n) = List.length (List.map I.p xs)) ∧ ((fitsRow (n + 1) (104 : Nat)) = true))))) ∧
 (∀ (j' : Nat → AV) (jr' : Nat → Row) (g' : Nat), LoopAt E1 Tryz.f62 r 1 (span_meet_S2 l m k k' nl full nl' full' i (IntKind.i64.wrap (q + (1 : Int))) gx (g + 1 + 4 + 8 + 5 + 3 + 5 + 5) (n + 1) (List.drop (0 : Nat) (List.map I.p xs) ++ List.take (1 : Nat) (List.drop (0 : Nat) [PV.agg [PV.lit (Value.int IntKind.u32 (V.a (I.lo (gI m q)))), PV.lit (Value.int IntKind.u32 (V.b (I.lo (gI m q)))), PV.lit (Value.int IntKind.u32 (V.c (I.lo (gI m q)))), V.q (I.lo (gI m q)), PV.lit (Value.bool (I.lopen (gI m q))), PV.lit (Value.int IntKind.u32 (V.a (if Ed.less ⟨I.hi (gI l i), !I.hopen (gI l i), I.less (gI l i)⟩ = true then zV else I.hi (gI l i)))), PV.lit (Value.int IntKind.u32 (V.b (if Ed.less ⟨I.hi (gI l i), !I.hopen (gI l i), I.less (gI l i)⟩ = true then zV else I.hi (gI l i)))), PV.lit (Value.int IntKind.u32 (V.c (if Ed.less ⟨I.hi (gI l i), !I.hopen (gI l i), I.less (gI l i)⟩ = true then zV else I.hi (gI l i)))), V.q (if Ed.less ⟨I.hi (gI l i), !I.hopen (gI l i), I.less (gI l i)⟩ = true then zV else I.hi (gI l i)), PV.lit (Value.bool (if Ed.less ⟨I.hi (gI l i), !I.hopen (gI l i), I.less (gI l i)⟩ = true then false else !!I.hopen (gI l i))), PV.lit (Value.bool (I.less (gI l i)))]])) j' jr' g')))) ∧
 ((decide (befE ⟨I.lo (gI l i), I.lopen (gI l i), false⟩ ⟨I.lo (gI m q), I.lopen (gI m q), false⟩ < (0 : Int))) = false →
 ((g + 1 + 2) = g + 1 + 2) ∧
 (Den E1 38 [I.p (gI m q)] (Ed.p ⟨(I.hi (gI m q)), (!I.hopen (gI m q)), (I.less (gI m q))⟩)) ∧
 ((g + 1 + 4 + 5) = g + 1 + 4 + 5) ∧
 (Den E1 36 [Ed.p ⟨(I.hi (gI m q)), (!I.hopen (gI m q)), (I.less (gI m q))⟩, Ed.p ⟨(I.hi (gI l i)), (!I.hopen (gI l i)), (I.less (gI l i))⟩] (intP (befE ⟨I.hi (gI m q), !I.hopen (gI m q), I.less (gI m q)⟩ ⟨I.hi (gI l i), !I.hopen (gI l i), I.less (gI l i)⟩))) ∧
 ((decide (befE ⟨I.hi (gI m q), !I.hopen (gI m q), I.less (gI m q)⟩ ⟨I.hi (gI l i), !I.hopen (gI l i), I.less (gI l i)⟩ < (0 : Int))) = true →
 ((g + 1 + 2) = g + 1 + 2) ∧
 (Den E1 38 [I.p (gI m q)] (Ed.p ⟨(I.hi (gI m q)), (!I.hopen (gI m q)), (I.less (gI m q))⟩)) ∧
 ((g + 1 + 4 + 5) = g + 1 + 4 + 5) ∧
 ((g + 1 + 4 + 4) = g + 1 + 4 + 4) ∧
 ((g + 1 + 4 + 5) = g + 1 + 4 + 5) ∧
 (Den E1 89 [Ed.p ⟨(I.lo (gI l i)), (I.lopen (gI l i)), false⟩, Ed.p ⟨(I.hi (gI m q)), (!I.hopen (gI m q)), (I.less (gI m q))⟩] (I.p ⟨(I.lo (gI l i)), (I.lopen (gI l i)), (if Ed.less ⟨I.hi (gI m q), !I.hopen (gI m q), I.less (gI m q)⟩ = true then zV else I.hi (gI m q)), (if Ed.less ⟨I.hi (gI m q), !I.hopen (gI m q), I.less (gI m q)⟩ = true then false else !!I.hopen (gI m q)), (I.less (gI m q))⟩)) ∧
 ((g + 1 + 4 + 8 + 5 + 5 + 3 + 4) = g + 1 + 4 + 8 + 5 + 5 + 3 + 4) ∧
 (((11 : Nat) = 11) ∧ ((1 : Nat) ≤ (1 : Nat))) ∧
 (gm = gm) ∧
 ((false = false) ∧ (((11 : Nat) = 11) ∧ (((63 : Nat) = 63) ∧ ((((0 : Nat) + n) = List.length (List.map I.p xs)) ∧ ((fitsRow (n + 1) (104 : Nat)) = true))))) ∧
 (∀ (j' : Nat → AV) (jr' : Nat → Row) (g' : Nat), LoopAt E1 Tryz.f62 r 1 (span_meet_S2 l m k k' nl full nl' full' i (IntKind.i64.wrap (q + (1 : Int))) gx (g + 1 + 4 + 8 + 5 + 5 + 3 + 5) (n + 1) (List.drop (0 : Nat) (List.map I.p xs) ++ List.take (1 : Nat) (List.drop (0 : Nat) [PV.agg [PV.lit (Value.int IntKind.u32 (V.a (I.lo (gI l i)))), PV.lit (Value.int IntKind.u32 (V.b (I.lo (gI l i)))), PV.lit (Value.int IntKind.u32 (V.c (I.lo (gI l i)))), V.q (I.lo (gI l i)), PV.lit (Value.bool (I.lopen (gI l i))), PV.lit (Value.int IntKind.u32 (V.a (if Ed.less ⟨I.hi (gI m q), !I.hopen (gI m q), I.less (gI m q)⟩ = true then zV else I.hi (gI m q)))), PV.lit (Value.int IntKind.u32 (V.b (if Ed.less ⟨I.hi (gI m q), !I.hopen (gI m q), I.less (gI m q)⟩ = true then zV else I.hi (gI m q)))), PV.lit (Value.int IntKind.u32 (V.c (if Ed.less ⟨I.hi (gI m q), !I.hopen (gI m q), I.less (gI m q)⟩ = true then zV else I.hi (gI m q)))), V.q (if Ed.less ⟨I.hi (gI m q), !I.hopen (gI m q), I.less (gI m q)⟩ = true then zV else I.hi (gI m q)), PV.lit (Value.bool (if Ed.less ⟨I.hi (gI m q), !I.hopen (gI m q), I.less (gI m q)⟩ = true then false else !!I.hopen (gI m q))), PV.lit (Value.bool (I.less (gI m q)))]])) j' jr' g'))) ∧
 ((decide (befE ⟨I.hi (gI m q), !I.hopen (gI m q), I.less (gI m q)⟩ ⟨I.hi (gI l i), !I.hopen (gI l i), I.less (gI l i)⟩ < (0 : Int))) = false →
 ((g + 1 + 4 + 4) = g + 1 + 4 + 4) ∧
 ((g + 1 + 4 + 5) = g + 1 + 4 + 5) ∧
 (Den E1 89 [Ed.p ⟨(I.lo (gI l i)), (I.lopen (gI l i)), false⟩, Ed.p ⟨(I.hi (gI l i)), (!I.hopen (gI l i)), (I.less (gI l i))⟩] (I.p ⟨(I.lo (gI l i)), (I.lopen (gI l i)), (if Ed.less ⟨I.hi (gI l i), !I.hopen (gI l i), I.less (gI l i)⟩ = true then zV else I.hi (gI l i)), (if Ed.less ⟨I.hi (gI l i), !I.hopen (gI l i), I.less (gI l i)⟩ = true then false else !!I.hopen (gI l i)), (I.less (gI l i))⟩)) ∧
 ((g + 1 + 4 + 8 + 5 + 5 + 4) = g + 1 + 4 + 8 + 5 + 5 + 4) ∧
 (((11 : Nat) = 11) ∧ ((1 : Nat) ≤ (1 : Nat))) ∧
 (gm = gm) ∧
 ((false = false) ∧ (((11 : Nat) = 11) ∧ (((63 : Nat) = 63) ∧ ((((0 : Nat) + n) = List.length (List.map I.p xs)) ∧ ((fitsRow (n + 1) (104 : Nat)) = true))))) ∧
 (∀ (j' : Nat → AV) (jr' : Nat → Row) (g' : Nat), LoopAt E1 Tryz.f62 r 1 (span_meet_S2 l m k k' nl full nl' full' i (IntKind.i64.wrap (q + (1 : Int))) gx (g + 1 + 4 + 8 + 5 + 5 + 5) (n + 1) (List.drop (0 : Nat) (List.map I.p xs) ++ List.take (1 : Nat) (List.drop (0 : Nat) [PV.agg [PV.lit (Value.int IntKind.u32 (V.a (I.lo (gI l i)))), PV.lit (Value.int IntKind.u32 (V.b (I.lo (gI l i)))), PV.lit (Value.int IntKind.u32 (V.c (I.lo (gI l i)))), V.q (I.lo (gI l i)), PV.lit (Value.bool (I.lopen (gI l i))), PV.lit (Value.int IntKind.u32 (V.a (if Ed.less ⟨I.hi (gI l i), !I.hopen (gI l i), I.less (gI l i)⟩ = true then zV else I.hi (gI l i)))), PV.lit (Value.int IntKind.u32 (V.b (if Ed.less ⟨I.hi (gI l i), !I.hopen (gI l i), I.less (gI l i)⟩ = true then zV else I.hi (gI l i)))), PV.lit (Value.int IntKind.u32 (V.c (if Ed.less ⟨I.hi (gI l i), !I.hopen (gI l i), I.less (gI l i)⟩ = true then zV else I.hi (gI l i)))), V.q (if Ed.less ⟨I.hi (gI l i), !I.hopen (gI l i), I.less (gI l i)⟩ = true then zV else I.hi (gI l i)), PV.lit (Value.bool (if Ed.less ⟨I.hi (gI l i), !I.hopen (gI l i), I.less (gI l i)⟩ = true then false else !!I.hopen (gI l i))), PV.lit (Value.bool (I.less (gI l i)))]])) j' jr' g'))))) ∧
 ((decide (q < (↑(List.length (List.map I.p m)) : Int))) = false →
 AtAll Tryz.f62 r 0 (span_meet_S3 l m k k' nl full nl' full' (IntKind.i64.wrap (i + (1 : Int))) gm n (List.map I.p xs)))) := by kernel_rfl
theorem span_meet_go_S3 (l : List I) (m : List I) (k : Nat) (k' : Nat) (nl : Bool) (full : Bool) (nl' : Bool) (full' : Bool) (i : Int) (gm : Nat) (n : Nat) (xs : List I) (j : Nat → AV) (jr : Nat → Row) (g : Nat) (r : PV) : LoopGo E1 Tryz.f62 r 0 2000 (.fork (.val (I.p (gI l i)) (.mask (iv [(0, 0), (2, 4), (6, 6), (8, 11), (15, 17), (21, 51)]) [9, 10, 11, 46])) (.frz [.sl 11 false false (List.map I.p xs)] [List.replicate 7 row0 ++ [jr 7, row0, jr 9, jr 10, jr 11, row0, row0, row0, row0, row0, row0, row0, row0, row0, row0, row0, row0, row0, row0, row0, row0, row0, row0, row0, row0, row0, row0, row0, row0, row0, row0, row0, row0, row0, row0, row0, row0, row0, row0, jr 46, ⟨gm, .row 11 63 (List.map I.p xs) true⟩] ++ List.replicate 4 row0] (.res (resL (joinS xs)) (.hole 0)))) (span_meet_S3 l m k k' nl full nl' full' i gm n (List.map I.p xs) j jr g) =
  (((decide (i < (↑(List.length (List.map I.p l)) : Int))) = true →
 (((0 : Int) ≤ i) ∧ ((nl = false) ∧ (k = 11))) ∧
 (((List.map I.p l)[Int.toNat i]?) = some (I.p (gI l i))) ∧
 ((g + 1 + 2) = g + 1 + 2) ∧
 (AtAll Tryz.f62 r 1 (span_meet_S2 l m k k' nl full nl' full' i 0 (g + 1 + 2) gm n (List.map I.p xs)))) ∧
 ((decide (i < (↑(List.length (List.map I.p l)) : Int))) = false →
 (frzs frzDepth [.msl 0 47 gm 0 n false] [List.replicate 7 row0 ++ [jr 7, row0, jr 9, jr 10, jr 11, row0, row0, row0, row0, row0, row0, row0, row0, row0, row0, row0, row0, row0, row0, row0, row0, row0, row0, row0, row0, row0, row0, row0, row0, row0, row0, row0, row0, row0, row0, row0, row0, row0, row0, jr 46, ⟨gm, .row 11 63 (List.map I.p xs) false⟩] ++ List.replicate 4 row0] = some ([.sl 11 false false (List.map I.p xs)], [List.replicate 7 row0 ++ [jr 7, row0, jr 9, jr 10, jr 11, row0, row0, row0, row0, row0, row0, row0, row0, row0, row0, row0, row0, row0, row0, row0, row0, row0, row0, row0, row0, row0, row0, row0, row0, row0, row0, row0, row0, row0, row0, row0, row0, row0, row0, jr 46, ⟨gm, .row 11 63 (List.map I.p xs) true⟩] ++ List.replicate 4 row0])) ∧
 (Den E1 54 [.sl 11 false false (List.map I.p xs)] (resL (joinS xs))) ∧
 ((resL (joinS xs)) : PV) = r)) := by kernel_rfl
end Go.Proofs.YtlhfgonjcpapnaaGreatDoor.Abs

set_option maxRecDepth 20000
namespace Go.Proofs.YtlhfgonjcpapnaaGreatDoor.Abs
open Go Go.Proofs
theorem ok_get {l : List I} {i : Nat} (h : ∀ x ∈ l, x.ok) (hi : i < l.length) : (l.getD i default).ok := h _ (getD_mem hi default)
theorem meet1S_ok {x y : I} (hx : x.ok) (hy : y.ok) : (meet1S x y).ok := by
  unfold meet1S
  refine bet_ok ?_ ?_
  · split
    · exact hy.lo
    · exact hx.lo
  · split
    · exact hy.hi
    · exact hx.hi
theorem meet1S_of {x y : I} {a b : Bool} (h1 : decide (befE x.low y.low < 0) = a) (h2 : decide (befE y.high x.high < 0) = b) : meet1S x y = betE (if a then y.low else x.low) (if b then y.high else x.high) := by
  subst h1; subst h2
  simp only [meet1S, decide_eq_true_eq]
section
variable (l m : List I) (k k' : Nat) (nl full nl' full' : Bool)
theorem smeet_S2 (hll : l.length < 1000000) (hlm : m.length < 1000000) (hsl : slOk 11 k nl l.length) (hsm : slOk 11 k' nl' m.length) (hgl : ∀ x ∈ l, x.ok) (hgm : ∀ x ∈ m, x.ok) (i : Nat) (hil : i < l.length) {r : PV} : ∀ (n q : Nat) (xs : List I) (gx gm : Nat) j jr g, q + n = m.length → xs.length + n < 1000000 →
    (∀ gm j jr g, LoopAt E1 Tryz.f62 r 0 (span_meet_S3 l m k k' nl full nl' full' (i + 1 : Nat) gm (xs.length + n) (List.map I.p (xs ++ (m.drop q).map fun y => meet1S (l.getD i default) y)) j jr g)) →
    LoopAt E1 Tryz.f62 r 1 (span_meet_S2 l m k k' nl full nl' full' i q gx gm xs.length (List.map I.p xs) j jr g) := by
  have hw1 : IntKind.wrap IntKind.i64 ((i : Int) + 1) = ((i + 1 : Nat) : Int) := wrap_i64 _ (by omega) (by omega)
  have hx := ok_get hgl hil
  intro n
  induction n with
  | zero =>
    intro q xs gx gm j0 jr0 g0 hq hb next
    refine loop_go 2000 _ (Eq.mpr (span_meet_go_S2 l m k k' nl full nl' full' i q gx gm xs.length xs j0 jr0 g0 _) ⟨fun h => ?_, fun h j jr g => ?_⟩)
    · simp only [decide_eq_true_eq, List.length_map] at h; omega
    · rw [hw1]
      have := next gm j jr g
      rw [List.drop_eq_nil_of_le (by omega), List.map_nil, List.append_nil] at this
      exact this
  | succ n ih =>
    intro q xs gx gm j0 jr0 g0 hq hb next
    have hql : q < m.length := by omega
    have hy := ok_get hgm hql
    have hq0 : (0 : Int) ≤ (q : Int) ∧ nl' = false ∧ k' = 11 := ⟨by omega, sl_at hsm hql⟩
    have hgq := getI hql
    have hw2 : IntKind.wrap IntKind.i64 ((q : Int) + 1) = ((q + 1 : Nat) : Int) := wrap_i64 _ (by omega) (by omega)
    have hf : xs.length = (List.map I.p xs).length ∧ fitsRow (xs.length + 1) 104 = true := ⟨by simp, fits_104 (by omega)⟩
    have fin : ∀ (z : I) gx gm j jr g, meet1S (l.getD i default) (m.getD q default) = z → LoopAt E1 Tryz.f62 r 1 (span_meet_S2 l m k k' nl full nl' full' i (q + 1 : Nat) gx gm (xs.length + 1) (List.map I.p xs ++ [I.p z]) j jr g) := by
      intro z gx gm j jr g hz
      have := ih (q + 1) (xs ++ [z]) gx gm j jr g (by omega) (by simp; omega) fun gm j jr g => by
        have := next gm j jr g
        rw [drop_get hql, List.map_cons, hz] at this
        have e : (xs ++ [z]).length + n = xs.length + (n + 1) := by simp; omega
        rw [e, List.append_assoc]
        exact this
      rw [List.length_append, List.map_append] at this
      exact this
    have hb1 := den_before (l.getD i default).low (m.getD q default).low hx.lo hy.lo
    have hb2 := den_before (m.getD q default).high (l.getD i default).high hy.hi hx.hi
    refine loop_go 2000 _ (Eq.mpr (span_meet_go_S2 l m k k' nl full nl' full' i q gx gm xs.length xs j0 jr0 g0 _) ⟨fun h => ?_, fun h => ?_⟩)
    · simp only [hw2, Int.toNat_natCast, gI_nat, gI_zero, Nat.zero_add, eq_self, true_and, and_true, Nat.le_refl]
      exact ⟨hq0, hgq, den_low _, den_high _, den_low _, hb1,
        fun h1 => ⟨den_low _, den_high _, hb2, fun h2 => ⟨den_high _, den_between (m.getD q default).low (m.getD q default).high, hf, fun j jr g => fin (betE (m.getD q default).low (m.getD q default).high) _ _ j jr g (meet1S_of h1 h2)⟩,
          fun h2 => ⟨den_between (m.getD q default).low (l.getD i default).high, hf, fun j jr g => fin (betE (m.getD q default).low (l.getD i default).high) _ _ j jr g (meet1S_of h1 h2)⟩⟩,
        fun h1 => ⟨den_high _, hb2, fun h2 => ⟨den_high _, den_between (l.getD i default).low (m.getD q default).high, hf, fun j jr g => fin (betE (l.getD i default).low (m.getD q default).high) _ _ j jr g (meet1S_of h1 h2)⟩,
          fun h2 => ⟨den_between (l.getD i default).low (l.getD i default).high, hf, fun j jr g => fin (betE (l.getD i default).low (l.getD i default).high) _ _ j jr g (meet1S_of h1 h2)⟩⟩⟩
    · simp only [decide_eq_false_iff_not, List.length_map] at h; omega
theorem smeet_S1 (hll : l.length < 1000000) (hlm : m.length < 1000000) (hsl : slOk 11 k nl l.length) (hsm : slOk 11 k' nl' m.length) (hgl : ∀ x ∈ l, x.ok) (hgm : ∀ x ∈ m, x.ok) (i : Nat) (hil : i < l.length) {r : PV} (gx : Nat) (j0 : Nat → AV) (jr0 : Nat → Row) (g0 : Nat) (hm0 : 0 < m.length)
    (next : ∀ gm j jr g, LoopAt E1 Tryz.f62 r 0 (span_meet_S3 l m k k' nl full nl' full' (i + 1 : Nat) gm m.length (List.map I.p (m.map fun y => meet1S (l.getD i default) y)) j jr g)) :
    LoopAt E1 Tryz.f62 r 1 (span_meet_S1 l m k k' nl full nl' full' i 0 gx j0 jr0 g0) := by
  have hx := ok_get hgl hil
  have hy := ok_get hgm hm0
  have hq0 : (0 : Int) ≤ (0 : Int) ∧ nl' = false ∧ k' = 11 := ⟨by omega, sl_at hsm hm0⟩
  have hgq := getI hm0
  have hz : Int.toNat 0 = 0 := rfl
  have hw2 : IntKind.wrap IntKind.i64 ((0 : Int) + 1) = ((1 : Nat) : Int) := rfl
  have fin : ∀ (z : I) gx gm j jr g, meet1S (l.getD i default) (m.getD 0 default) = z → LoopAt E1 Tryz.f62 r 1 (span_meet_S2 l m k k' nl full nl' full' i (1 : Nat) gx gm 1 [I.p z] j jr g) := by
    intro z gx gm j jr g hzz
    refine smeet_S2 l m k k' nl full nl' full' hll hlm hsl hsm hgl hgm i hil (m.length - 1) 1 [z] gx gm j jr g (by omega) (by simp; omega) fun gm j jr g => ?_
    have := next gm j jr g
    have e : m = m.getD 0 default :: m.drop 1 := by rw [← drop_get hm0]; try rfl
    have e2 : (m.map fun y => meet1S (l.getD i default) y) = [z] ++ (m.drop 1).map fun y => meet1S (l.getD i default) y := by
      conv => lhs; rw [e]
      rw [List.map_cons, hzz]; try rfl
    have e3 : [z].length + (m.length - 1) = m.length := by simp; omega
    rw [e2] at this
    rw [e3]
    exact this
  have hb1 := den_before (l.getD i default).low (m.getD 0 default).low hx.lo hy.lo
  have hb2 := den_before (m.getD 0 default).high (l.getD i default).high hy.hi hx.hi
  refine loop_go 2000 _ (Eq.mpr (span_meet_go_S1 l m k k' nl full nl' full' i 0 gx j0 jr0 g0 _) ⟨fun h => ?_, fun h => ?_⟩)
  · simp only [hw2, hz, Int.toNat_natCast, gI_nat, gI_zero, Nat.zero_add, eq_self, true_and, and_true, Nat.le_refl]
    exact ⟨hq0, hgq, den_low _, den_high _, den_low _, hb1,
      fun h1 => ⟨den_low _, den_high _, hb2, fun h2 => ⟨den_high _, den_between (m.getD 0 default).low (m.getD 0 default).high, fun j jr g => fin (betE (m.getD 0 default).low (m.getD 0 default).high) _ _ j jr g (meet1S_of h1 h2)⟩,
        fun h2 => ⟨den_between (m.getD 0 default).low (l.getD i default).high, fun j jr g => fin (betE (m.getD 0 default).low (l.getD i default).high) _ _ j jr g (meet1S_of h1 h2)⟩⟩,
      fun h1 => ⟨den_high _, hb2, fun h2 => ⟨den_high _, den_between (l.getD i default).low (m.getD 0 default).high, fun j jr g => fin (betE (l.getD i default).low (m.getD 0 default).high) _ _ j jr g (meet1S_of h1 h2)⟩,
        fun h2 => ⟨den_between (l.getD i default).low (l.getD i default).high, fun j jr g => fin (betE (l.getD i default).low (l.getD i default).high) _ _ j jr g (meet1S_of h1 h2)⟩⟩⟩
  · simp only [decide_eq_false_iff_not, List.length_map] at h; omega
theorem smeet_S3 (hll : l.length < 1000000) (hlm : m.length < 1000000) (hb : l.length * m.length < 1000000) (hsl : slOk 11 k nl l.length) (hsm : slOk 11 k' nl' m.length) (hgl : ∀ x ∈ l, x.ok) (hgm : ∀ x ∈ m, x.ok) (hm0 : 0 < m.length) : ∀ (n i : Nat) (xs : List I) (gm : Nat) j jr g, i + n = l.length → xs.length = i * m.length →
    (Den E1 54 [listP 11 false false (xs ++ (l.drop i).flatMap fun x => m.map fun y => meet1S x y)] (resL (joinS (xs ++ (l.drop i).flatMap fun x => m.map fun y => meet1S x y)))) →
    LoopAt E1 Tryz.f62 (resL (joinS (xs ++ (l.drop i).flatMap fun x => m.map fun y => meet1S x y))) 0 (span_meet_S3 l m k k' nl full nl' full' i gm xs.length (List.map I.p xs) j jr g) := by
  intro n
  induction n with
  | zero =>
    intro i xs gm j0 jr0 g0 hi hxl hj
    have hxb : xs.length < 1000000 := by
      rw [hxl, show i = l.length by omega]; exact hb
    rw [List.drop_eq_nil_of_le (by omega), List.flatMap_nil, List.append_nil] at hj
    refine loop_go 2000 _ (Eq.mpr (span_meet_go_S3 l m k k' nl full nl' full' i gm xs.length xs j0 jr0 g0 _) ⟨fun h => ?_, fun h => ?_⟩)
    · simp only [decide_eq_true_eq, List.length_map] at h; omega
    · rw [List.drop_eq_nil_of_le (by omega), List.flatMap_nil, List.append_nil]
      exact ⟨frzs_msl rfl (by simp) rfl, hj, rfl⟩
  | succ n ih =>
    intro i xs gm j0 jr0 g0 hi hxl hj
    have hil : i < l.length := by omega
    have hi0 : (0 : Int) ≤ (i : Int) ∧ nl = false ∧ k = 11 := ⟨by omega, sl_at hsl hil⟩
    have hgi := getI hil
    have hmul : (i + 1) * m.length ≤ l.length * m.length := Nat.mul_le_mul_right _ (by omega)
    rw [Nat.add_mul, Nat.one_mul] at hmul
    have hst : (l.drop i).flatMap (fun x => m.map fun y => meet1S x y) = (m.map fun y => meet1S (l.getD i default) y) ++ (l.drop (i + 1)).flatMap fun x => m.map fun y => meet1S x y := by
      rw [drop_get hil, List.flatMap_cons]
    rw [hst, ← List.append_assoc] at hj ⊢
    refine loop_go 2000 _ (Eq.mpr (span_meet_go_S3 l m k k' nl full nl' full' i gm xs.length xs j0 jr0 g0 _) ⟨fun h => ⟨hi0, hgi, rfl, fun j jr g => ?_⟩, fun h => ?_⟩)
    · refine smeet_S2 l m k k' nl full nl' full' hll hlm hsl hsm hgl hgm i hil m.length 0 xs _ gm j jr g (by omega) (by omega) fun gm j jr g => ?_
      have hlen : (xs ++ m.map fun y => meet1S (l.getD i default) y).length = xs.length + m.length := by simp
      have := ih (i + 1) (xs ++ m.map fun y => meet1S (l.getD i default) y) gm j jr g (by omega) (by rw [hlen, hxl, Nat.add_mul, Nat.one_mul]) hj
      rw [hlen] at this
      exact this
    · simp only [decide_eq_false_iff_not, List.length_map] at h; omega
theorem smeet_S0 (hll : l.length < 1000000) (hlm : m.length < 1000000) (hb : l.length * m.length < 1000000) (hsl : slOk 11 k nl l.length) (hsm : slOk 11 k' nl' m.length) (hgl : ∀ x ∈ l, x.ok) (hgm : ∀ x ∈ m, x.ok) : ∀ (n i : Nat) j jr g, i + n = l.length → (m.length = 0 ∨ i = 0) →
    (l ≠ [] → m ≠ [] → Den E1 54 [listP 11 false false ((l.drop i).flatMap fun x => m.map fun y => meet1S x y)] (resL (joinS ((l.drop i).flatMap fun x => m.map fun y => meet1S x y)))) →
    LoopAt E1 Tryz.f62 (resL (joinS ((l.drop i).flatMap fun x => m.map fun y => meet1S x y))) 0 (span_meet_S0 l m k k' nl full nl' full' i j jr g) := by
  have hdj : Den E1 54 [.sl 0 true true []] (.sl 0 true true []) := den_join20 [] 0 true true ⟨fun _ => rfl, fun h => by cases h⟩ (by simp) (by simp [delN]) (fun x hx => by simp at hx)
  intro n
  induction n with
  | zero =>
    intro i j0 jr0 g0 hi h0 hj
    refine loop_go 2000 _ (Eq.mpr (span_meet_go_S0 l m k k' nl full nl' full' i j0 jr0 g0 _) ⟨fun h => ?_, fun h => ?_⟩)
    · simp only [decide_eq_true_eq, List.length_map] at h; omega
    · rw [List.drop_eq_nil_of_le (by omega)]
      exact ⟨hdj, rfl⟩
  | succ n ih =>
    intro i j0 jr0 g0 hi h0 hj
    have hil : i < l.length := by omega
    have hi0 : (0 : Int) ≤ (i : Int) ∧ nl = false ∧ k = 11 := ⟨by omega, sl_at hsl hil⟩
    have hgi := getI hil
    have hw1 : IntKind.wrap IntKind.i64 ((i : Int) + 1) = ((i + 1 : Nat) : Int) := wrap_i64 _ (by omega) (by omega)
    have hst : (l.drop i).flatMap (fun x => m.map fun y => meet1S x y) = (m.map fun y => meet1S (l.getD i default) y) ++ (l.drop (i + 1)).flatMap fun x => m.map fun y => meet1S x y := by
      rw [drop_get hil, List.flatMap_cons]
    rw [hst] at hj ⊢
    refine loop_go 2000 _ (Eq.mpr (span_meet_go_S0 l m k k' nl full nl' full' i j0 jr0 g0 _) ⟨fun h => ⟨hi0, hgi, rfl, fun j jr g => ?_⟩, fun h => ?_⟩)
    · rcases Nat.eq_zero_or_pos m.length with hm | hm
      · have hm' : m = [] := List.length_eq_zero_iff.1 hm
        refine loop_go 2000 _ (Eq.mpr (span_meet_go_S1 l m k k' nl full nl' full' i 0 _ j jr g _) ⟨fun h => ?_, fun h j jr g => ?_⟩)
        · simp only [decide_eq_true_eq, List.length_map, hm] at h; omega
        · rw [hw1, hm']
          rw [hm'] at ih
          exact ih (i + 1) j jr g (by omega) (.inl rfl) fun _ h => absurd rfl h
      · have hi0 : i = 0 := by omega
        subst hi0
        have hj' := hj (by rintro rfl; simp at hil) (by rintro rfl; simp at hm)
        refine smeet_S1 l m k k' nl full nl' full' hll hlm hsl hsm hgl hgm 0 hil _ j jr g hm fun gm j jr g => ?_
        have hlen : (m.map fun y => meet1S (l.getD 0 default) y).length = m.length := by simp
        have := smeet_S3 l m k k' nl full nl' full' hll hlm hb hsl hsm hgl hgm hm n 1 (m.map fun y => meet1S (l.getD 0 default) y) gm j jr g (by omega) (by rw [hlen, Nat.one_mul]) hj'
        rw [hlen] at this
        exact this
    · simp only [decide_eq_false_iff_not, List.length_map] at h; omega
theorem den_span_meet (hll : l.length < 1000000) (hlm : m.length < 1000000) (hb : l.length * m.length < 1000000) (hsl : slOk 11 k nl l.length) (hsm : slOk 11 k' nl' m.length) (hgl : ∀ x ∈ l, x.ok) (hgm : ∀ x ∈ m, x.ok)
    (hj : l ≠ [] → m ≠ [] → Den E1 54 [listP 11 false false (l.flatMap fun x => m.map fun y => meet1S x y)] (resL (joinS (l.flatMap fun x => m.map fun y => meet1S x y)))) :
    Den E1 62 [listP k nl full l, listP k' nl' full' m] (resL (meetS l m)) :=
  den1 2000 _ rfl (by kernel_rfl) rfl rfl rfl (Eq.mpr (span_meet_go l m k k' nl full nl' full' _) fun j jr g => smeet_S0 l m k k' nl full nl' full' hll hlm hb hsl hsm hgl hgm l.length 0 j jr g (by omega) (.inr rfl) hj)
theorem meets_ok (hgl : ∀ x ∈ l, x.ok) (hgm : ∀ x ∈ m, x.ok) : ∀ x ∈ (l.flatMap fun x => m.map fun y => meet1S x y), x.ok := by
  intro z hz
  obtain ⟨x, hx, hz⟩ := List.mem_flatMap.1 hz
  obtain ⟨y, hy, rfl⟩ := List.mem_map.1 hz
  exact meet1S_ok (hgl x hx) (hgm y hy)
theorem meets_len : (l.flatMap fun x => m.map fun y => meet1S x y).length = l.length * m.length := by
  induction l with
  | nil => simp
  | cons x l ih => rw [List.flatMap_cons, List.length_append, ih, List.length_map, List.length_cons, Nat.add_mul, Nat.one_mul, Nat.add_comm]
end
end Go.Proofs.YtlhfgonjcpapnaaGreatDoor.Abs

set_option maxRecDepth 20000
set_option maxHeartbeats 1000000
namespace Go.Proofs.YtlhfgonjcpapnaaGreatDoor.Abs
open Go Go.Proofs
theorem stepS_len (out : List I) (x : I) : (stepS out x).length ≤ out.length + 1 := by
  unfold stepS
  split
  · simp
  · split
    · split
      · rw [List.length_set]; omega
      · omega
    · simp
theorem foldS_len : ∀ (l out : List I), (l.foldl stepS out).length ≤ out.length + l.length
  | [], out => by simp
  | x :: l, out => by
    have h1 := foldS_len l (stepS out x)
    have h2 := stepS_len out x
    simp only [List.foldl_cons, List.length_cons]
    omega
theorem joinS_len (l : List I) : (joinS l).length ≤ l.length := by
  have h := foldS_len (sortS (l.filter fun x => !deadI x)) []
  rw [sortS_len] at h
  have h2 := List.length_filter_le (fun x => !deadI x) l
  simp only [List.length_nil, Nat.zero_add] at h
  unfold joinS
  omega
theorem mem_insS {s : List I} {x y : I} (h : y ∈ insS s x) : y ∈ s ∨ y = x := by
  unfold insS at h
  rcases List.mem_append.1 h with h | h
  · exact .inl (List.mem_of_mem_take h)
  · rcases List.mem_cons.1 h with h | h
    · exact .inr h
    · exact .inl (List.mem_of_mem_drop h)
theorem mem_sortS {l : List I} {y : I} : y ∈ sortS l → y ∈ l := by
  have : ∀ (l s : List I), y ∈ l.foldl insS s → y ∈ s ∨ y ∈ l := by
    intro l
    induction l with
    | nil => intro s h; exact .inl h
    | cons x l ih =>
      intro s h
      rcases ih _ h with h | h
      · rcases mem_insS h with h | h
        · exact .inl h
        · exact .inr (List.mem_cons.2 (.inl h))
      · exact .inr (List.mem_cons.2 (.inr h))
  intro h
  rcases this l [] h with h | h
  · simp at h
  · exact h
theorem stepS_all {P : I → Prop} (hb : ∀ x y, P x → P y → P (betE x.low y.high)) {out : List I} {x : I} (ho : ∀ y ∈ out, P y) (hx : P x) : ∀ y ∈ stepS out x, P y := by
  unfold stepS
  split
  · intro y hy; rw [List.mem_singleton.1 hy]; exact hx
  · rename_i hne
    have hlt : out.length - 1 < out.length := by
      have : out ≠ [] := by rintro rfl; simp at hne
      have := List.length_pos_iff.2 this
      omega
    split
    · split
      · intro y hy
        rcases List.mem_or_eq_of_mem_set hy with hy | rfl
        · exact ho y hy
        · exact hb _ _ (ho _ (getD_mem hlt default)) hx
      · exact ho
    · intro y hy
      rcases List.mem_append.1 hy with hy | hy
      · exact ho y hy
      · rw [List.mem_singleton.1 hy]; exact hx
theorem joinS_all {P : I → Prop} (hb : ∀ x y, P x → P y → P (betE x.low y.high)) {l : List I} (hl : ∀ x ∈ l, P x) : ∀ y ∈ joinS l, P y := by
  have : ∀ (l out : List I), (∀ x ∈ l, P x) → (∀ y ∈ out, P y) → ∀ y ∈ l.foldl stepS out, P y := by
    intro l
    induction l with
    | nil => intro out _ h; exact h
    | cons x l ih => intro out h1 h2; exact ih _ (fun y hy => h1 y (List.mem_cons_of_mem _ hy)) (stepS_all hb h2 (h1 x (List.mem_cons_self ..)))
  unfold joinS
  exact this _ [] (fun x hx => hl x (List.mem_filter.1 (mem_sortS hx)).1) (by simp)
theorem joinS_ok {l : List I} (hl : ∀ x ∈ l, x.ok) : ∀ y ∈ joinS l, y.ok := joinS_all (P := I.ok) (fun x y hx hy => bet_ok hx.lo hy.hi) hl
theorem meetS_ok {l m : List I} (hl : ∀ x ∈ l, x.ok) (hm : ∀ x ∈ m, x.ok) : ∀ y ∈ meetS l m, y.ok := joinS_ok (meets_ok l m hl hm)
theorem meetS_len (l m : List I) : (meetS l m).length ≤ l.length * m.length := by
  have := joinS_len (l.flatMap fun x => m.map fun y => meet1S x y)
  rw [meets_len] at this
  exact this
theorem down_ok {v : V} (hv : v.ok) (o : Bool) : (downI v o).ok := ⟨bottom_ok, hv⟩
theorem from_ok {v : V} (hv : v.ok) (o : Bool) : (fromI v o).ok := ⟨hv, zV_ok⟩
theorem tw_sl (l : List I) : slOk 11 (twK l) (twN l) l.length := by
  unfold twK twN
  refine ⟨fun h => by simpa using h, fun h => ?_⟩
  have : ¬ l.length = 0 := by simpa using h
  rw [if_neg this]
theorem mayV_iff (v : V) : mayV v = true ↔ v.a ≤ 2147483647 ∧ v.b ≤ 2147483647 ∧ v.c ≤ 2147483647 ∧ v.pre.length ≤ 8 ∧ v.pre.all identL = true := by
  simp only [mayV, Bool.and_eq_true, decide_eq_true_eq, and_assoc]
end Go.Proofs.YtlhfgonjcpapnaaGreatDoor.Abs

set_option maxRecDepth 20000
set_option maxHeartbeats 2000000
namespace Go.Proofs.YtlhfgonjcpapnaaGreatDoor.Abs
open Go Go.Proofs
structure LF.is (x : LF) (m : Nat) : Prop where
  sl : slOk 11 x.k x.nl x.l.length
  ok : ∀ y ∈ x.l, y.ok
  len : x.l.length ≤ m
theorem is_lf0 : lf0.is 0 := ⟨⟨fun _ => rfl, (by simp [lf0])⟩, (by simp [lf0]), (by simp [lf0])⟩
theorem LF.is.mono {x : LF} {m n : Nat} (h : x.is m) (hm : m ≤ n) : x.is n := ⟨h.sl, h.ok, Nat.le_trans h.len hm⟩
theorem every_ok : everyI.ok := ⟨bottom_ok, zV_ok⟩
end Go.Proofs.YtlhfgonjcpapnaaGreatDoor.Abs

set_option maxRecDepth 20000
set_option maxHeartbeats 2000000
namespace Go.Proofs.YtlhfgonjcpapnaaGreatDoor.Abs
open Go Go.Proofs
structure V.np (v : V) : Prop where
  ne : v.nl = false → v.pre ≠ []
  few : v.pre.length < 1000000
structure I.np (x : I) : Prop where
  lo : x.lo.np
  hi : x.hi.np
theorem den_CloneS (k : Nat) (nl full : Bool) (x : List (List UInt8)) (hs : slOk 1 k nl x.length) (hne : nl = false → x ≠ []) (hl : x.length < 1000000) : Den E1 92 [preP k nl full x] (preP (cond nl 0 1) nl nl x) := by
  cases nl with
  | true =>
    have : x = [] := List.length_eq_zero_iff.1 (hs.1 rfl)
    subst this
    exact den1 2000 _ rfl (by kernel_rfl) rfl rfl rfl (Eq.mpr (slices_Clone_string_string_N_go k full _) rfl)
  | false =>
    have hk := hs.2 rfl
    have hx := hne rfl
    have he : (List.isEmpty (List.map strP x)) = false := by cases x with
      | nil => exact absurd rfl hx
      | cons a l => rfl
    refine den1 2000 _ rfl (by kernel_rfl) rfl rfl rfl (Eq.mpr (slices_Clone_string_string_go k full x _) ⟨⟨(fun h => nomatch h), fun _ => hk⟩, fun h => ?_, fun h => ⟨⟨rfl, rfl, ?_⟩, ?_⟩⟩)
    · rw [he] at h; cases h
    · rw [Nat.zero_add, List.length_map]; exact fits_small (by omega)
    · refine frz_msl rfl (by simp) ?_
      try rfl
theorem den_ClipI (k : Nat) (nl full : Bool) (l : List I) (hs : slOk 11 k nl l.length) : Den E1 93 [listP k nl full l] (listP k nl true l) := by
  refine den1 2000 _ rfl (by kernel_rfl) rfl rfl rfl (Eq.mpr (slices_Clip_api_Interval_api_Interval_go k nl full l _) ?_)
  have hk : nl = true ∨ k = 11 := by cases nl with
    | true => exact .inl rfl
    | false => exact .inr (hs.2 rfl)
  simp only [List.length_map, Int.toNat_natCast, gI_nat, gI_zero, Nat.sub_zero, List.drop_zero, beq_self_eq_true]
  refine ⟨⟨by omega, by omega⟩, ⟨by omega, by omega⟩, hk, ?_⟩
  rw [List.take_of_length_le (by simp)]
section
variable (k : Nat) (nl full : Bool) (l : List I)
theorem limited_S1 (hsl : slOk 11 k nl l.length) (hll : l.length ≤ 16) (hok : ∀ x ∈ l, x.ok) (hnp : ∀ x ∈ l, x.np) : ∀ (n i : Nat) (xs : List I) (gm : Nat) j jr g, i + n = l.length → xs = (l.take i).map clI →
    LoopAt E1 Tryz.f53 (.tup [listP 11 false true (l.map clI), intP 0]) 0 (span_limited_S1 k nl full l i gm xs.length (List.map I.p xs) j jr g) := by
  intro n
  induction n with
  | zero =>
    intro i xs gm j jr g hi hx
    refine loop_go 2000 _ (Eq.mpr (span_limited_go_S1 k nl full l i gm xs.length xs j jr g _) ⟨fun h => ?_, fun h => ⟨frzs_msl rfl (by simp) rfl, den_ClipI 11 false false xs ⟨(by simp), fun _ => rfl⟩, ?_⟩⟩)
    · simp only [decide_eq_true_eq, List.length_map] at h; omega
    · rw [hx, List.take_of_length_le (by omega)]
  | succ n ih =>
    intro i xs gm j jr g hi hx
    have hil : i < l.length := by omega
    have hw1 : IntKind.wrap IntKind.i64 ((i : Int) + 1) = ((i + 1 : Nat) : Int) := wrap_i64 _ (by omega) (by omega)
    have hi0 : (0 : Int) ≤ (i : Int) ∧ nl = false ∧ k = 11 := ⟨by omega, sl_at hsl hil⟩
    have hgi := getI hil
    have hxo := ok_get hok hil
    have hxn : (l.getD i default).np := hnp _ (getD_mem hil default)
    have hxl : xs.length = i := by rw [hx]; simp; omega
    have hf : xs.length = (List.map I.p xs).length ∧ fitsRow (xs.length + 1) 104 = true := ⟨by simp, fits_104 (by omega)⟩
    refine loop_go 2000 _ (Eq.mpr (span_limited_go_S1 k nl full l i gm xs.length xs j jr g _) ⟨fun h => ?_, fun h => ?_⟩)
    · simp only [hw1, Int.toNat_natCast, gI_nat, gI_zero, Nat.zero_add, eq_self, true_and, and_true, Nat.le_refl]
      refine ⟨hi0, hgi, den_CloneS _ _ _ _ hxo.lo.sl hxn.lo.ne hxn.lo.few, ?_, den_CloneS _ _ _ _ hxo.hi.sl hxn.hi.ne hxn.hi.few, ?_, hf, fun j jr g => ?_⟩
      · exact den_Clip _ _ _ _ ⟨fun h => hxo.lo.sl.1 h, fun h => by rw [h]; rfl⟩
      · exact den_Clip _ _ _ _ ⟨fun h => hxo.hi.sl.1 h, fun h => by rw [h]; rfl⟩
      · have := fun gm => ih (i + 1) (xs ++ [clI (l.getD i default)]) gm j jr g (by omega) (by rw [hx, List.take_succ_eq_append_getElem hil, List.map_append, getD_lt hil]; rfl)
        rw [List.length_append, List.map_append] at this
        exact this _
    · simp only [decide_eq_false_iff_not, List.length_map] at h; omega
theorem limited_S0 (hsl : slOk 11 k nl l.length) (hll : l.length ≤ 16) (hok : ∀ x ∈ l, x.ok) (hnp : ∀ x ∈ l, x.np) : ∀ (j : Nat → AV) jr g,
    LoopAt E1 Tryz.f53 (.tup [(limS l).1.p, intP (limS l).2]) 0 (span_limited_S0 k nl full l 0 j jr g) := by
  intro j jr g
  have hlim : limS l = (⟨twK l, twN l, true, l.map clI⟩, 0) := by unfold limS; rw [if_neg (by omega)]
  rw [hlim]
  rcases Nat.eq_zero_or_pos l.length with h0 | h0
  · have : l = [] := List.length_eq_zero_iff.1 h0
    subst this
    refine loop_go 2000 _ (Eq.mpr (span_limited_go_S0 k nl full [] 0 j jr g _) ⟨fun h => ?_, fun h => ⟨den_ClipI 0 true true [] ⟨fun _ => rfl, (by simp)⟩, rfl⟩⟩)
    simp at h
  · have hi0 : (0 : Int) ≤ (0 : Int) ∧ nl = false ∧ k = 11 := ⟨by omega, sl_at hsl h0⟩
    have hgi := getI h0
    have hxo := ok_get hok h0
    have hxn : (l.getD 0 default).np := hnp _ (getD_mem h0 default)
    have hz : Int.toNat 0 = 0 := rfl
    have hw1 : IntKind.wrap IntKind.i64 ((0 : Int) + 1) = ((1 : Nat) : Int) := rfl
    have ht : twK l = 11 ∧ twN l = false := by
      unfold twK twN
      exact ⟨if_neg (by omega), by simp only [decide_eq_false_iff_not]; omega⟩
    rw [ht.1, ht.2]
    refine loop_go 2000 _ (Eq.mpr (span_limited_go_S0 k nl full l 0 j jr g _) ⟨fun h => ?_, fun h => ?_⟩)
    · simp only [hw1, hz, Int.toNat_natCast, gI_nat, gI_zero, Nat.zero_add, eq_self, true_and, and_true, Nat.le_refl]
      refine ⟨hi0, hgi, den_CloneS _ _ _ _ hxo.lo.sl hxn.lo.ne hxn.lo.few, ?_, den_CloneS _ _ _ _ hxo.hi.sl hxn.hi.ne hxn.hi.few, ?_, fun j jr g => ?_⟩
      · exact den_Clip _ _ _ _ ⟨fun h => hxo.lo.sl.1 h, fun h => by rw [h]; rfl⟩
      · exact den_Clip _ _ _ _ ⟨fun h => hxo.hi.sl.1 h, fun h => by rw [h]; rfl⟩
      · have e : l = l.getD 0 default :: l.drop 1 := by rw [← drop_get h0]; try rfl
        exact limited_S1 k nl full l hsl hll hok hnp (l.length - 1) 1 [clI (l.getD 0 default)] _ j jr g (by omega) (by
          conv => rhs; rw [e]
          rfl)
    · simp only [decide_eq_false_iff_not, List.length_map] at h; omega
theorem den_limited (hsl : slOk 11 k nl l.length) (hl : l.length < 1000000) (hok : ∀ x ∈ l, x.ok) (hnp : ∀ x ∈ l, x.np) : Den E1 53 [listP k nl full l] (.tup [(limS l).1.p, intP (limS l).2]) := by
  refine den1 2000 _ rfl (by kernel_rfl) rfl rfl rfl (Eq.mpr (span_limited_go k nl full l _) ⟨fun h => ?_, fun h j jr g => ?_⟩)
  · simp only [decide_eq_true_eq, List.length_map] at h
    have : limS l = (lf0, 80) := by unfold limS; rw [if_pos (by omega)]
    rw [this]
    try rfl
  · simp only [decide_eq_false_iff_not, List.length_map] at h
    exact limited_S0 k nl full l hsl (by omega) hok hnp j jr g
end
end Go.Proofs.YtlhfgonjcpapnaaGreatDoor.Abs

set_option maxRecDepth 20000
set_option maxHeartbeats 2000000
namespace Go.Proofs.YtlhfgonjcpapnaaGreatDoor.Abs
open Go Go.Proofs
structure V.gd (v : V) : Prop where
  ok : v.ok
  may : mayV v = true
  np : v.np
theorem bottom_gd : bottomV.gd := ⟨bottom_ok, bottom_may, ⟨(by simp [bottomV]), (by simp [bottomV])⟩⟩
theorem zV_gd : zV.gd := ⟨zV_ok, zV_may, ⟨(by simp [zV]), (by simp [zV])⟩⟩
theorem may_few {v : V} (h : mayV v = true) : v.pre.length < 1000000 := by have := ((mayV_iff v).1 h).2.2.2.1; omega
section
variable {P : I → Prop} (hb : ∀ x y, P x → P y → P (betE x.low y.high)) (hf : ∀ v o, v.gd → P (fromI v o)) (hd : ∀ v o, v.gd → P (downI v o))
include hb
theorem all_meet1S {x y : I} (hx : P x) (hy : P y) : P (meet1S x y) := by
  unfold meet1S
  split <;> split
  · exact hb _ _ hy hy
  · exact hb _ _ hy hx
  · exact hb _ _ hx hy
  · exact hb _ _ hx hx
theorem all_meetS {l m : List I} (hl : ∀ x ∈ l, P x) (hm : ∀ x ∈ m, P x) : ∀ x ∈ meetS l m, P x := by
  refine joinS_all hb fun z hz => ?_
  obtain ⟨x, hx, hz⟩ := List.mem_flatMap.1 hz
  obtain ⟨y, hy, rfl⟩ := List.mem_map.1 hz
  exact all_meet1S hb (hl x hx) (hm y hy)
omit hb
include hb hf hd
end
theorem bet_np (x y : I) (hx : x.np) (hy : y.np) : (betE x.low y.high).np := by
  refine ⟨hx.lo, ?_⟩
  show (if y.high.less then zV else y.high.v).np
  split
  · exact zV_gd.np
  · exact hy.hi
end Go.Proofs.YtlhfgonjcpapnaaGreatDoor.Abs

set_option maxRecDepth 20000
set_option maxHeartbeats 2000000
namespace Go.Proofs.YtlhfgonjcpapnaaGreatDoor.Abs
open Go Go.Proofs
theorem stepR_len (out : List I) (x : I) : (stepR out x).length ≤ out.length + 1 := by
  unfold stepR
  split
  · simp
  · split
    · split
      · rw [List.length_set]; omega
      · omega
    · simp
theorem foldR_len : ∀ (l out : List I), (l.foldl stepR out).length ≤ out.length + l.length
  | [], out => by simp
  | x :: l, out => by
    have h1 := foldR_len l (stepR out x)
    have h2 := stepR_len out x
    simp only [List.foldl_cons, List.length_cons]
    omega
theorem sortR_len : ∀ (l s : List I), (sortR l s).length ≤ s.length + l.length
  | [], s => by simp [sortR]
  | x :: l, s => by
    have h1 : sortR (x :: l) s = sortR l (if emptyI x then s else insR s x) := rfl
    rw [h1]
    have h2 := sortR_len l (if emptyI x then s else insR s x)
    have h3 : (if emptyI x then s else insR s x).length ≤ s.length + 1 := by
      split
      · omega
      · rw [insR_len]; exact Nat.le_refl _
    simp only [List.length_cons]
    omega
theorem joinR_len (l : List I) : (joinR l).length ≤ l.length := by
  have h := foldR_len (sortR l []) []
  have h2 := sortR_len l []
  simp only [List.length_nil, Nat.zero_add] at h h2
  unfold joinR
  omega
theorem meetR_len (l m : List I) : (meetR l m).length ≤ l.length * m.length := by
  have h : ∀ l : List I, (l.flatMap fun x => m.map fun y => meet1 x y).length = l.length * m.length := by
    intro l
    induction l with
    | nil => simp
    | cons x l ih => rw [List.flatMap_cons, List.length_append, ih, List.length_map, List.length_cons, Nat.add_mul, Nat.one_mul, Nat.add_comm]
  have := joinR_len (l.flatMap fun x => m.map fun y => meet1 x y)
  rw [h] at this
  exact this
section
variable {P : I → Prop} (hu : ∀ x y, P x → P y → P (upR x y)) (hf : ∀ v o, v.gd → P (fromI v o)) (hd : ∀ v o, v.gd → P (downI v o))
theorem mem_insR {s : List I} {x y : I} (h : y ∈ insR s x) : y ∈ s ∨ y = x := by
  unfold insR at h
  rcases List.mem_append.1 h with h | h
  · exact .inl (List.mem_of_mem_take h)
  · rcases List.mem_cons.1 h with h | h
    · exact .inr h
    · exact .inl (List.mem_of_mem_drop h)
theorem mem_sortR {y : I} : ∀ (l s : List I), y ∈ sortR l s → y ∈ s ∨ y ∈ l
  | [], s, h => .inl h
  | x :: l, s, h => by
    have h1 : sortR (x :: l) s = sortR l (if emptyI x then s else insR s x) := rfl
    rw [h1] at h
    rcases mem_sortR l _ h with h | h
    · split at h
      · exact .inl h
      · rcases mem_insR h with h | h
        · exact .inl h
        · exact .inr (List.mem_cons.2 (.inl h))
    · exact .inr (List.mem_cons.2 (.inr h))
include hu
theorem stepR_all {out : List I} {x : I} (ho : ∀ y ∈ out, P y) (hx : P x) : ∀ y ∈ stepR out x, P y := by
  unfold stepR
  split
  · intro y hy; rw [List.mem_singleton.1 hy]; exact hx
  · rename_i hne
    have hlt : out.length - 1 < out.length := by
      have : out ≠ [] := by rintro rfl; simp at hne
      have := List.length_pos_iff.2 this
      omega
    split
    · split
      · intro y hy
        rcases List.mem_or_eq_of_mem_set hy with hy | rfl
        · exact ho y hy
        · exact hu _ _ (ho _ (getD_mem hlt default)) hx
      · exact ho
    · intro y hy
      rcases List.mem_append.1 hy with hy | hy
      · exact ho y hy
      · rw [List.mem_singleton.1 hy]; exact hx
theorem joinR_all {l : List I} (hl : ∀ x ∈ l, P x) : ∀ y ∈ joinR l, P y := by
  have : ∀ (l out : List I), (∀ x ∈ l, P x) → (∀ y ∈ out, P y) → ∀ y ∈ l.foldl stepR out, P y := by
    intro l
    induction l with
    | nil => intro out _ h; exact h
    | cons x l ih => intro out h1 h2; exact ih _ (fun y hy => h1 y (List.mem_cons_of_mem _ hy)) (stepR_all hu h2 (h1 x (List.mem_cons_self ..)))
  unfold joinR
  refine this _ [] (fun x hx => ?_) (by simp)
  rcases mem_sortR l [] hx with h | h
  · simp at h
  · exact hl x h
theorem all_meet1 {x y : I} (hx : P x) (hy : P y) : P (meet1 x y) := by
  cases h1 : decide (lowB x.lb y.lb < 0) with
  | true =>
    cases h2 : decide (highI y (mixL x y) < 0) with
    | true => rw [meet1_a h1 h2]; exact hy
    | false => rw [meet1_b h1 h2]; exact hu _ _ hy hx
  | false =>
    cases h2 : decide (highI y x < 0) with
    | true => rw [meet1_c h1 h2]; exact hu _ _ hx hy
    | false => rw [meet1_d h1 h2]; exact hx
theorem all_meetR {l m : List I} (hl : ∀ x ∈ l, P x) (hm : ∀ x ∈ m, P x) : ∀ x ∈ meetR l m, P x := by
  refine joinR_all hu fun z hz => ?_
  obtain ⟨x, hx, hz⟩ := List.mem_flatMap.1 hz
  obtain ⟨y, hy, rfl⟩ := List.mem_map.1 hz
  exact all_meet1 hu (hl x hx) (hm y hy)
include hf hd
end
theorem up_good (x y : I) (hx : good x) (hy : good y) : good (upR x y) := good_up hx hy
end Go.Proofs.YtlhfgonjcpapnaaGreatDoor.Abs

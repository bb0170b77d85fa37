/-
  The abstract machine over the model, its soundness, walks of the program's functions and what they compute. Conditions: the values are of their types.
-/
import Derived.Test.YtlhfgonjcpapnaaGreatDoorNk
import Derived.Test.YtlhfgonjcpapnaaGreatDoorNl

set_option linter.all false
set_option linter.unnecessarySimpa false

set_option maxRecDepth 20000
set_option maxHeartbeats 2000000
namespace Go.Proofs.YtlhfgonjcpapnaaGreatDoor.Abs
open Go Go.Proofs
structure LF.is (x : LF) (m : Nat) : Prop where
  sl : slOk 11 x.k x.nl x.l.length
  ok : ∀ y ∈ x.l, y.ok
  len : x.l.length ≤ m
theorem is_lf0 : lf0.is 0 := ⟨⟨fun _ => rfl, (by simp [lf0])⟩, (by simp [lf0]), (by simp [lf0])⟩
theorem is_lf1 {x : I} (h : x.ok) : (lf1 x).is 1 := ⟨⟨(by simp [lf1]), fun _ => rfl⟩, one_ok h, (by simp [lf1])⟩
theorem is_lfR {l : List I} {m : Nat} (h : ∀ y ∈ l, y.ok) (hl : l.length ≤ m) : (lfR l).is m := ⟨tw_sl l, h, hl⟩
theorem LF.is.mono {x : LF} {m n : Nat} (h : x.is m) (hm : m ≤ n) : x.is n := ⟨h.sl, h.ok, Nat.le_trans h.len hm⟩
theorem is_upto {v : V} (hv : v.ok) {n : Int} (h0 : 0 ≤ n) (h2 : n ≤ 2) : (uptoS v n).is 1 := by
  unfold uptoS
  split
  · have hw := next_is v hv n h0 h2
    have hd := down_ok (least_is hw.1 hw.2).1 true
    refine is_lfR (meetS_ok (one_ok (from_ok hv false)) (joinS_ok (one_ok hd))) ?_
    have h1 := meetS_len [fromI v false] (joinS [downI (leastV (nextV v n)) true])
    have h3 := joinS_len [downI (leastV (nextV v n)) true]
    simp only [List.length_singleton, Nat.one_mul] at h1 h3
    omega
  · exact is_lf1 (from_ok hv false)
theorem is_cmprS (s : List UInt8) : (cmprS s).1.is 1 := by
  have hv : (rdV true (trimL s)).ok := rd_ok true
  have hd := fun o => down_ok hv o
  have hj : ∀ o, (joinS [downI (rdV true (trimL s)) o]).length ≤ 1 := fun o => joinS_len [downI (rdV true (trimL s)) o]
  have hm : (meetS [fromI (rdV true (trimL s)) false] (joinS [downI (rdV true (trimL s)) false])).length ≤ 1 := by
    have h1 := meetS_len [fromI (rdV true (trimL s)) false] (joinS [downI (rdV true (trimL s)) false])
    have := hj false
    simp only [List.length_singleton, Nat.one_mul] at h1
    omega
  have hk : 0 ≤ kindV (rdV true (trimL s)) ∧ kindV (rdV true (trimL s)) ≤ 2 := by
    unfold kindV
    split
    · decide
    · split <;> decide
  unfold cmprS
  split
  · simp only []
    repeat' split
    · exact is_lfR (meetS_ok (one_ok (from_ok hv false)) (joinS_ok (one_ok (hd false)))) hm
    · exact is_lfR (joinS_ok (one_ok (hd true))) (hj true)
    · exact is_lfR (joinS_ok (one_ok (hd false))) (hj false)
    · exact is_lf1 (from_ok hv true)
    · exact is_lf1 (from_ok hv false)
    · exact is_upto hv hk.1 hk.2
    · exact is_upto hv (by omega) (by omega)
    · exact is_lf0.mono (by omega)
  · exact is_lf0.mono (by omega)
theorem every_ok : everyI.ok := ⟨bottom_ok, zV_ok⟩
theorem den_every_edges : Den E1 89 [bottomE.p, (⟨zV, false, true⟩ : Ed).p] everyI.p := den_between bottomE ⟨zV, false, true⟩
abbrev nilA : AV := .pv (.sl 0 true true [])
abbrev altRows (b2 b3 l n : AV) (z lp : Row) : List Row := [row0, row0, ⟨0, .box b2 false⟩, ⟨1, .box b3 false⟩, ⟨6, .box l false⟩, ⟨13, .box n false⟩, row0, row0, row0, row0, row0, row0, z, row0, row0, row0, row0, row0, row0, row0, row0, lp] ++ List.replicate 17 row0
def altInv (s : List UInt8) (ps : List (List UInt8)) (f0 : List Row) : Prop := (∀ q ∈ ps, small q.length) ∧
  ((ps = Lib.split s [32] ∧ f0 = altRows nilA (bolA false) (.msl 0 12 5 0 1 true) (intA 0) ⟨5, .row 11 63 [everyI.p] false⟩ ⟨22, .lp .ready⟩) ∨
   ∃ (l : List I) (n : Nat) (z : Row), altGoS ps (lfR l) n = altGoS (Lib.split s [32]) (lf1 everyI) 0 ∧ l.length ≤ 1 ∧ (∀ x ∈ l, x.ok) ∧ n ≤ 16 ∧ f0 = altRows nilA (bolA false) (.pv (resL l)) (intA n) z ⟨22, .lp .ready⟩)
def altFin (s : List UInt8) (x : AExit) (f0 : List Row) : Prop := x = .ret ∧ altGoS (Lib.split s [32]) (lf1 everyI) 0 = (lf0, false) ∧ ∃ (l : AV) (n : Int) (z : Row), f0 = altRows nilA (bolA false) l (intA n) z ⟨22, .lp (.done .ret)⟩
theorem altGo_no {p : List UInt8} {ps : List (List UInt8)} {c : LF} {n : Nat} (h : ¬ ((cmprS p).2 = true ∧ n + 1 ≤ 16)) : altGoS (p :: ps) c n = (lf0, false) := by
  rw [altGoS, if_neg h]
theorem altGo_yes {p : List UInt8} {ps : List (List UInt8)} {c : LF} {n : Nat} (h1 : (cmprS p).2 = true) (h2 : n + 1 ≤ 16) : altGoS (p :: ps) c n = altGoS ps (lfR (meetS c.l (cmprS p).1.l)) (n + 1) := by
  rw [altGoS, if_pos ⟨h1, h2⟩]
theorem meetS_le1 {l m : List I} (hl : l.length ≤ 1) (hm : m.length ≤ 1) : (meetS l m).length ≤ 1 := by
  have := meetS_len l m
  have h2 : l.length * m.length ≤ 1 * 1 := Nat.mul_le_mul hl hm
  omega
theorem den_meet_few (l : List I) (x : LF) (k : Nat) (nl full : Bool) (hsl : slOk 11 k nl l.length) (hl : l.length ≤ 1) (hok : ∀ y ∈ l, y.ok) (hx : x.is 1) : Den E1 62 [listP k nl full l, x.p] (resL (meetS l x.l)) := by
  have h2 : l.length * x.l.length ≤ 1 * 1 := Nat.mul_le_mul hl hx.len
  exact den_span_meet20 l x.l k x.k nl full x.nl x.full (by omega) (by omega) (by have := hx.len; omega) hsl hx.sl hok hx.ok
theorem alt_range (s : List UInt8) (hs : s.length ≤ 1000000) (h1 : ¬ s = [42]) (h2 : ¬ s = [33]) :
    RangeAtF E1 Tryz.f52 (.tup [(altS s).1.p, bolP (altS s).2]) 0 (span_alternative_R0 s) := by
  have hsp := split_le [32] (by simp) _ s (Nat.le_refl _)
  have halt : altS s = altGoS (Lib.split s [32]) (lf1 everyI) 0 := by rw [altS, if_neg h1, if_neg h2]
  refine rangeF_split (s := s) (sep := [32]) (sl := 21) (by kernel_rfl) (by simp) (by omega) (altInv s) (altFin s) ⟨fun q hq => by have := hsp.2 q hq; unfold small; omega, .inl ⟨rfl, rfl⟩⟩ ?_ ?_ ?_
  · rintro p rest f0 F1 FR g' ⟨hsm, ⟨hps, rfl⟩ | ⟨l, n, z, hgo, hll, hlo, hn, rfl⟩⟩
    · have hp := den_span_compared p (hsm p (List.mem_cons_self ..))
      have hc := is_cmprS p
      refine ⟨rfl, 2000, _, Eq.mpr (span_alternative_as0 s p 0 (.msl 0 12 5 0 1 true) ⟨5, .row 11 63 [everyI.p] false⟩ F1 FR 22 g' _) ⟨rfl, rfl, 2000, _, Eq.mpr (span_alternative_a_bd0 s p F1 FR 22 _ _) ⟨hp, rfl, rfl, fun h => ⟨rfl, rfl, rfl, _, rfl, (fun h => nomatch h), fun _ => ⟨rfl, ?_, _, _, _, rfl⟩⟩, fun h => ⟨rfl, rfl, ?_, rfl, rfl, _, rfl, fun _ => ⟨fun q hq => hsm q (List.mem_cons_of_mem _ hq), .inr ⟨_, 1, _, ?_, ?_, ?_, by omega, rfl⟩⟩, fun h => absurd rfl h⟩⟩⟩⟩
      · rw [← hps]
        exact altGo_no fun h2 => by rw [h2.1] at h; simp at h
      · exact den_meet_few [everyI] (cmprS p).1 11 false true ⟨(by simp), fun _ => rfl⟩ (by simp) (one_ok every_ok) hc
      · rw [← hps]
        exact (altGo_yes (c := lf1 everyI) (n := 0) (not_eq.2 h) (by omega)).symm
      · exact meetS_le1 (l := [everyI]) (by simp) hc.len
      · exact meetS_ok (one_ok every_ok) hc.ok
    · have hp := den_span_compared p (hsm p (List.mem_cons_self ..))
      have hc := is_cmprS p
      have hw : IntKind.wrap IntKind.i64 ((n : Int) + 1) = ((n + 1 : Nat) : Int) := wrap_i64 _ (by omega) (by omega)
      refine ⟨rfl, 2000, _, Eq.mpr (span_alternative_as0 s p n (.pv (resL l)) z F1 FR 22 g' _) ⟨rfl, rfl, 2000, _, Eq.mpr (span_alternative_b_bd0 s p n l z F1 FR 22 _ _) ⟨hp, rfl, rfl, fun h => ⟨rfl, rfl, rfl, _, rfl, (fun h => nomatch h), fun _ => ⟨rfl, ?_, _, _, _, rfl⟩⟩, fun h => ⟨rfl, fun h3 => ⟨rfl, rfl, rfl, _, rfl, (fun h => nomatch h), fun _ => ⟨rfl, ?_, _, _, _, rfl⟩⟩, fun h3 => ⟨rfl, ?_, rfl, rfl, _, rfl, fun _ => ⟨fun q hq => hsm q (List.mem_cons_of_mem _ hq), .inr ⟨_, n + 1, _, ?_, ?_, ?_, ?_, by rw [hw]; rfl⟩⟩, fun h => absurd rfl h⟩⟩⟩⟩⟩
      · rw [← hgo]
        exact altGo_no fun h2 => by rw [h2.1] at h; simp at h
      · rw [hw, decide_eq_true_eq] at h3
        rw [← hgo]
        exact altGo_no fun h2 => by omega
      · exact den_meet_few l (cmprS p).1 _ _ _ (tw_sl l) hll hlo hc
      · rw [hw, decide_eq_false_iff_not] at h3
        rw [← hgo]
        exact (altGo_yes (c := lfR l) (n := n) (not_eq.2 h) (by omega)).symm
      · exact meetS_le1 hll hc.len
      · exact meetS_ok hlo hc.ok
      · rw [hw, decide_eq_false_iff_not] at h3
        omega
  · rintro f0 F1 g' ⟨hsm, ⟨hps, rfl⟩ | ⟨l, n, z, hgo, hll, hlo, hn, rfl⟩⟩
    · exact absurd hps.symm (split_ne s [32] (by simp))
    · refine ⟨rfl, 2000, _, Eq.mpr (span_alternative_af0 s n l z F1 g' _) ⟨rfl, rfl, rfl, ?_⟩⟩
      rw [halt, ← hgo]
      try rfl
  · rintro x f0 F1 g' ⟨rfl, hgo, l, n, z, rfl⟩
    refine ⟨(fun h => nomatch h), rfl, 2000, _, Eq.mpr (span_alternative_af0r s n l z F1 g' _) ?_⟩
    rw [halt, hgo]
    try rfl
theorem den_span_alternative (s : List UInt8) (hs : s.length ≤ 1000000) : Den E1 52 [strP s] (.tup [(altS s).1.p, bolP (altS s).2]) := by
  refine den1 2000 _ rfl (by kernel_rfl) rfl rfl rfl (Eq.mpr (span_alternative_go s _) ⟨den_bottom, den_top, den_every_edges, rfl, fun h => ⟨rfl, rfl, rfl, ?_⟩, fun h => ⟨fun h2 => ⟨rfl, rfl, ?_⟩, fun h2 => ⟨rfl, den_split s [32], ?_⟩⟩⟩)
  · rw [toList_bs, toList_bs] at h
    have e : s = [42] := eq_of_beq h
    have : altS s = (⟨11, false, true, [everyI]⟩, true) := by rw [altS, if_pos e]
    rw [this]
    exact ex_frz (by kernel_rfl)
  · rw [toList_bs, toList_bs] at h2
    have e : s = [33] := eq_of_beq h2
    have : altS s = (lf0, true) := by rw [altS, e]; try rfl
    rw [this]
    try rfl
  · rw [toList_bs, toList_bs] at h h2
    exact alt_range s hs (fun e => by rw [e] at h; simp at h) (fun e => by rw [e] at h2; simp at h2)
end Go.Proofs.YtlhfgonjcpapnaaGreatDoor.Abs

set_option maxRecDepth 20000
set_option maxHeartbeats 2000000
namespace Go.Proofs.YtlhfgonjcpapnaaGreatDoor.Abs
open Go Go.Proofs
structure V.np (v : V) : Prop where
  ne : v.nl = false → v.pre ≠ []
  few : v.pre.length < 1000000
structure I.np (x : I) : Prop where
  lo : x.lo.np
  hi : x.hi.np
theorem den_CloneS (k : Nat) (nl full : Bool) (x : List (List UInt8)) (hs : slOk 1 k nl x.length) (hne : nl = false → x ≠ []) (hl : x.length < 1000000) : Den E1 92 [preP k nl full x] (preP (cond nl 0 1) nl nl x) := by
  cases nl with
  | true =>
    have : x = [] := List.length_eq_zero_iff.1 (hs.1 rfl)
    subst this
    exact den1 2000 _ rfl (by kernel_rfl) rfl rfl rfl (Eq.mpr (slices_Clone_string_string_N_go k full _) rfl)
  | false =>
    have hk := hs.2 rfl
    have hx := hne rfl
    have he : (List.isEmpty (List.map strP x)) = false := by cases x with
      | nil => exact absurd rfl hx
      | cons a l => rfl
    refine den1 2000 _ rfl (by kernel_rfl) rfl rfl rfl (Eq.mpr (slices_Clone_string_string_go k full x _) ⟨⟨(fun h => nomatch h), fun _ => hk⟩, fun h => ?_, fun h => ⟨⟨rfl, rfl, ?_⟩, ?_⟩⟩)
    · rw [he] at h; cases h
    · rw [Nat.zero_add, List.length_map]; exact fits_small (by omega)
    · refine frz_msl rfl (by simp) ?_
      try rfl
theorem den_ClipI (k : Nat) (nl full : Bool) (l : List I) (hs : slOk 11 k nl l.length) : Den E1 93 [listP k nl full l] (listP k nl true l) := by
  refine den1 2000 _ rfl (by kernel_rfl) rfl rfl rfl (Eq.mpr (slices_Clip_api_Interval_api_Interval_go k nl full l _) ?_)
  have hk : nl = true ∨ k = 11 := by cases nl with
    | true => exact .inl rfl
    | false => exact .inr (hs.2 rfl)
  simp only [List.length_map, Int.toNat_natCast, gI_nat, gI_zero, Nat.sub_zero, List.drop_zero, beq_self_eq_true]
  refine ⟨⟨by omega, by omega⟩, ⟨by omega, by omega⟩, hk, ?_⟩
  rw [List.take_of_length_le (by simp)]
section
variable (k : Nat) (nl full : Bool) (l : List I)
theorem limited_S1 (hsl : slOk 11 k nl l.length) (hll : l.length ≤ 16) (hok : ∀ x ∈ l, x.ok) (hnp : ∀ x ∈ l, x.np) : ∀ (n i : Nat) (xs : List I) (gm : Nat) j jr g, i + n = l.length → xs = (l.take i).map clI →
    LoopAt E1 Tryz.f53 (.tup [listP 11 false true (l.map clI), intP 0]) 0 (span_limited_S1 k nl full l i gm xs.length (List.map I.p xs) j jr g) := by
  intro n
  induction n with
  | zero =>
    intro i xs gm j jr g hi hx
    refine loop_go 2000 _ (Eq.mpr (span_limited_go_S1 k nl full l i gm xs.length xs j jr g _) ⟨fun h => ?_, fun h => ⟨frzs_msl rfl (by simp) rfl, den_ClipI 11 false false xs ⟨(by simp), fun _ => rfl⟩, ?_⟩⟩)
    · simp only [decide_eq_true_eq, List.length_map] at h; omega
    · rw [hx, List.take_of_length_le (by omega)]
  | succ n ih =>
    intro i xs gm j jr g hi hx
    have hil : i < l.length := by omega
    have hw1 : IntKind.wrap IntKind.i64 ((i : Int) + 1) = ((i + 1 : Nat) : Int) := wrap_i64 _ (by omega) (by omega)
    have hi0 : (0 : Int) ≤ (i : Int) ∧ nl = false ∧ k = 11 := ⟨by omega, sl_at hsl hil⟩
    have hgi := getI hil
    have hxo := ok_get hok hil
    have hxn : (l.getD i default).np := hnp _ (getD_mem hil default)
    have hxl : xs.length = i := by rw [hx]; simp; omega
    have hf : xs.length = (List.map I.p xs).length ∧ fitsRow (xs.length + 1) 104 = true := ⟨by simp, fits_104 (by omega)⟩
    refine loop_go 2000 _ (Eq.mpr (span_limited_go_S1 k nl full l i gm xs.length xs j jr g _) ⟨fun h => ?_, fun h => ?_⟩)
    · simp only [hw1, Int.toNat_natCast, gI_nat, gI_zero, Nat.zero_add, eq_self, true_and, and_true, Nat.le_refl]
      refine ⟨hi0, hgi, den_CloneS _ _ _ _ hxo.lo.sl hxn.lo.ne hxn.lo.few, ?_, den_CloneS _ _ _ _ hxo.hi.sl hxn.hi.ne hxn.hi.few, ?_, hf, fun j jr g => ?_⟩
      · exact den_Clip _ _ _ _ ⟨fun h => hxo.lo.sl.1 h, fun h => by rw [h]; rfl⟩
      · exact den_Clip _ _ _ _ ⟨fun h => hxo.hi.sl.1 h, fun h => by rw [h]; rfl⟩
      · have := fun gm => ih (i + 1) (xs ++ [clI (l.getD i default)]) gm j jr g (by omega) (by rw [hx, List.take_succ_eq_append_getElem hil, List.map_append, getD_lt hil]; rfl)
        rw [List.length_append, List.map_append] at this
        exact this _
    · simp only [decide_eq_false_iff_not, List.length_map] at h; omega
theorem limited_S0 (hsl : slOk 11 k nl l.length) (hll : l.length ≤ 16) (hok : ∀ x ∈ l, x.ok) (hnp : ∀ x ∈ l, x.np) : ∀ (j : Nat → AV) jr g,
    LoopAt E1 Tryz.f53 (.tup [(limS l).1.p, intP (limS l).2]) 0 (span_limited_S0 k nl full l 0 j jr g) := by
  intro j jr g
  have hlim : limS l = (⟨twK l, twN l, true, l.map clI⟩, 0) := by unfold limS; rw [if_neg (by omega)]
  rw [hlim]
  rcases Nat.eq_zero_or_pos l.length with h0 | h0
  · have : l = [] := List.length_eq_zero_iff.1 h0
    subst this
    refine loop_go 2000 _ (Eq.mpr (span_limited_go_S0 k nl full [] 0 j jr g _) ⟨fun h => ?_, fun h => ⟨den_ClipI 0 true true [] ⟨fun _ => rfl, (by simp)⟩, rfl⟩⟩)
    simp at h
  · have hi0 : (0 : Int) ≤ (0 : Int) ∧ nl = false ∧ k = 11 := ⟨by omega, sl_at hsl h0⟩
    have hgi := getI h0
    have hxo := ok_get hok h0
    have hxn : (l.getD 0 default).np := hnp _ (getD_mem h0 default)
    have hz : Int.toNat 0 = 0 := rfl
    have hw1 : IntKind.wrap IntKind.i64 ((0 : Int) + 1) = ((1 : Nat) : Int) := rfl
    have ht : twK l = 11 ∧ twN l = false := by
      unfold twK twN
      exact ⟨if_neg (by omega), by simp only [decide_eq_false_iff_not]; omega⟩
    rw [ht.1, ht.2]
    refine loop_go 2000 _ (Eq.mpr (span_limited_go_S0 k nl full l 0 j jr g _) ⟨fun h => ?_, fun h => ?_⟩)
    · simp only [hw1, hz, Int.toNat_natCast, gI_nat, gI_zero, Nat.zero_add, eq_self, true_and, and_true, Nat.le_refl]
      refine ⟨hi0, hgi, den_CloneS _ _ _ _ hxo.lo.sl hxn.lo.ne hxn.lo.few, ?_, den_CloneS _ _ _ _ hxo.hi.sl hxn.hi.ne hxn.hi.few, ?_, fun j jr g => ?_⟩
      · exact den_Clip _ _ _ _ ⟨fun h => hxo.lo.sl.1 h, fun h => by rw [h]; rfl⟩
      · exact den_Clip _ _ _ _ ⟨fun h => hxo.hi.sl.1 h, fun h => by rw [h]; rfl⟩
      · have e : l = l.getD 0 default :: l.drop 1 := by rw [← drop_get h0]; try rfl
        exact limited_S1 k nl full l hsl hll hok hnp (l.length - 1) 1 [clI (l.getD 0 default)] _ j jr g (by omega) (by
          conv => rhs; rw [e]
          rfl)
    · simp only [decide_eq_false_iff_not, List.length_map] at h; omega
theorem den_limited (hsl : slOk 11 k nl l.length) (hl : l.length < 1000000) (hok : ∀ x ∈ l, x.ok) (hnp : ∀ x ∈ l, x.np) : Den E1 53 [listP k nl full l] (.tup [(limS l).1.p, intP (limS l).2]) := by
  refine den1 2000 _ rfl (by kernel_rfl) rfl rfl rfl (Eq.mpr (span_limited_go k nl full l _) ⟨fun h => ?_, fun h j jr g => ?_⟩)
  · simp only [decide_eq_true_eq, List.length_map] at h
    have : limS l = (lf0, 80) := by unfold limS; rw [if_pos (by omega)]
    rw [this]
    try rfl
  · simp only [decide_eq_false_iff_not, List.length_map] at h
    exact limited_S0 k nl full l hsl (by omega) hok hnp j jr g
end
end Go.Proofs.YtlhfgonjcpapnaaGreatDoor.Abs

set_option maxRecDepth 20000
set_option maxHeartbeats 2000000
namespace Go.Proofs.YtlhfgonjcpapnaaGreatDoor.Abs
open Go Go.Proofs
structure V.gd (v : V) : Prop where
  ok : v.ok
  may : mayV v = true
  np : v.np
theorem bottom_gd : bottomV.gd := ⟨bottom_ok, bottom_may, ⟨(by simp [bottomV]), (by simp [bottomV])⟩⟩
theorem zV_gd : zV.gd := ⟨zV_ok, zV_may, ⟨(by simp [zV]), (by simp [zV])⟩⟩
theorem may_few {v : V} (h : mayV v = true) : v.pre.length < 1000000 := by have := ((mayV_iff v).1 h).2.2.2.1; omega
theorem rd_gd (fl : Bool) (s : List UInt8) : (rdV fl s).gd := by
  refine ⟨rd_ok fl, rd_may fl, ?_, may_few (rd_may fl)⟩
  rw [rdV_eq, rdV0]
  split
  · show (!(Lib.cut s [45]).2.2) = false → preV s ≠ []
    unfold preV
    intro h
    have h' : (Lib.cut s [45]).2.2 = true := not_eq.2 h
    rw [h', if_pos rfl]
    exact split_ne _ _ (by simp)
  · intro h; simp [zV] at h
theorem least_gd {v : V} (h : v.gd) {n : Int} (h0 : 0 ≤ n) (h2 : n ≤ 2) : (leastV (nextV v n)).gd := by
  have hw := next_is v h.ok n h0 h2
  have hl := least_is hw.1 hw.2
  exact ⟨hl.1, hl.2, ⟨by simp [leastV], by simp [leastV]⟩⟩
theorem kind_is (v : V) : 0 ≤ kindV v ∧ kindV v ≤ 2 := by
  unfold kindV
  split
  · decide
  · split <;> decide
section
variable {P : I → Prop} (hb : ∀ x y, P x → P y → P (betE x.low y.high)) (hf : ∀ v o, v.gd → P (fromI v o)) (hd : ∀ v o, v.gd → P (downI v o))
include hb
theorem all_meet1S {x y : I} (hx : P x) (hy : P y) : P (meet1S x y) := by
  unfold meet1S
  split <;> split
  · exact hb _ _ hy hy
  · exact hb _ _ hy hx
  · exact hb _ _ hx hy
  · exact hb _ _ hx hx
theorem all_meetS {l m : List I} (hl : ∀ x ∈ l, P x) (hm : ∀ x ∈ m, P x) : ∀ x ∈ meetS l m, P x := by
  refine joinS_all hb fun z hz => ?_
  obtain ⟨x, hx, hz⟩ := List.mem_flatMap.1 hz
  obtain ⟨y, hy, rfl⟩ := List.mem_map.1 hz
  exact all_meet1S hb (hl x hx) (hm y hy)
omit hb
theorem all_one {x : I} (h : P x) : ∀ y ∈ [x], P y := fun y hy => by rw [List.mem_singleton.1 hy]; exact h
include hb hf hd
theorem all_uptoS {v : V} (hv : v.gd) {n : Int} (h0 : 0 ≤ n) (h2 : n ≤ 2) : ∀ y ∈ (uptoS v n).l, P y := by
  unfold uptoS
  split
  · exact all_meetS hb (all_one (hf v false hv)) (joinS_all hb (all_one (hd _ true (least_gd hv h0 h2))))
  · exact all_one (hf v false hv)
theorem all_cmprS (s : List UInt8) : ∀ y ∈ (cmprS s).1.l, P y := by
  have hv := rd_gd true (trimL s)
  have hk := kind_is (rdV true (trimL s))
  unfold cmprS
  split
  · simp only []
    repeat' split
    · exact all_meetS hb (all_one (hf _ false hv)) (joinS_all hb (all_one (hd _ false hv)))
    · exact joinS_all hb (all_one (hd _ true hv))
    · exact joinS_all hb (all_one (hd _ false hv))
    · exact all_one (hf _ true hv)
    · exact all_one (hf _ false hv)
    · exact all_uptoS hb hf hd hv hk.1 hk.2
    · exact all_uptoS hb hf hd hv (by omega) (by omega)
    · intro y hy; simp [lf0] at hy
  · intro y hy; simp [lf0] at hy
theorem all_altGoS : ∀ (ps : List (List UInt8)) (c : LF) (n : Nat), (∀ y ∈ c.l, P y) → ∀ y ∈ (altGoS ps c n).1.l, P y
  | [], c, n, h => by rw [altGoS]; exact h
  | p :: ps, c, n, h => by
    rw [altGoS]
    split
    · exact all_altGoS ps _ _ (all_meetS hb h (all_cmprS hb hf hd p))
    · intro y hy; simp [lf0] at hy
theorem all_altS (s : List UInt8) : ∀ y ∈ (altS s).1.l, P y := by
  have he : P everyI := hf bottomV false bottom_gd
  unfold altS
  split
  · exact all_one he
  · split
    · intro y hy; simp [lf0] at hy
    · exact all_altGoS hb hf hd _ _ _ (all_one he)
end
theorem altGoS_is : ∀ (ps : List (List UInt8)) (c : LF) (n : Nat), c.is 1 → (altGoS ps c n).1.is 1
  | [], c, n, h => by rw [altGoS]; exact h
  | p :: ps, c, n, h => by
    rw [altGoS]
    split
    · exact altGoS_is ps _ _ (is_lfR (meetS_ok h.ok (is_cmprS p).ok) (meetS_le1 h.len (is_cmprS p).len))
    · exact is_lf0.mono (by omega)
theorem altS_is (s : List UInt8) : (altS s).1.is 1 := by
  unfold altS
  split
  · exact ⟨⟨(by simp), fun _ => rfl⟩, one_ok every_ok, (by simp)⟩
  · split
    · exact is_lf0.mono (by omega)
    · exact altGoS_is _ _ _ (is_lf1 every_ok)
theorem bet_np (x y : I) (hx : x.np) (hy : y.np) : (betE x.low y.high).np := by
  refine ⟨hx.lo, ?_⟩
  show (if y.high.less then zV else y.high.v).np
  split
  · exact zV_gd.np
  · exact hy.hi
theorem altS_np (s : List UInt8) : ∀ y ∈ (altS s).1.l, y.np := all_altS (P := I.np) bet_np (fun v o h => ⟨h.np, zV_gd.np⟩) (fun v o h => ⟨bottom_gd.np, h.np⟩) s
abbrev rdRows (b2 b3 l n : AV) (lp z : Row) : List Row := [row0, row0, ⟨0, .box b2 false⟩, ⟨1, .box b3 false⟩, ⟨5, .box l false⟩, ⟨6, .box n false⟩, row0, row0, row0, row0, row0, row0, row0, row0, lp, row0, row0, row0, row0, row0, row0, row0, row0, row0, row0, row0, row0, row0, row0, row0, z] ++ List.replicate 5 row0
def rdAt (acc : List I) (l : AV) (z : Row) : Prop := (acc = [] ∧ l = nilA) ∨ (acc ≠ [] ∧ ∃ gm, l = .msl 0 30 gm 0 acc.length false ∧ z = ⟨gm, .row 11 63 (List.map I.p acc) false⟩)
theorem rdAt_some {acc : List I} {gm n : Nat} {xs : List PV} (hne : acc ≠ []) (hn : n = acc.length) (hx : xs = List.map I.p acc) : rdAt acc (.msl 0 30 gm 0 n false) ⟨gm, .row 11 63 xs false⟩ := by
  subst hn; subst hx
  exact .inr ⟨hne, gm, rfl, rfl⟩
def rdInv (s : List UInt8) (ps : List (List UInt8)) (f0 : List Row) : Prop := (∀ q ∈ ps, q.length ≤ 1000000) ∧
   ∃ (acc : List I) (n : Nat) (l : AV) (z : Row), readGoS ps acc n = readGoS (Lib.split s orB) [] 0 ∧ acc.length ≤ n ∧ n ≤ 16 ∧ (∀ x ∈ acc, x.ok) ∧ (∀ x ∈ acc, x.np) ∧ rdAt acc l z ∧ f0 = rdRows nilA (intA 0) l (intA n) ⟨15, .lp .ready⟩ z
def rdFin (s : List UInt8) (x : AExit) (f0 : List Row) : Prop := x = .ret ∧ readGoS (Lib.split s orB) [] 0 = none ∧ ∃ (l : AV) (n : Int) (z : Row), f0 = rdRows nilA (intA 80) l (intA n) ⟨15, .lp (.done .ret)⟩ z
theorem readGo_no {p : List UInt8} {ps : List (List UInt8)} {c : List I} {n : Nat} (h : ¬ ((altS p).2 = true ∧ n + 1 ≤ 16)) : readGoS (p :: ps) c n = none := by
  rw [readGoS, if_neg h]
theorem readGo_yes {p : List UInt8} {ps : List (List UInt8)} {c : List I} {n : Nat} (h1 : (altS p).2 = true) (h2 : n + 1 ≤ 16) : readGoS (p :: ps) c n = readGoS ps (c ++ (altS p).1.l) (n + 1) := by
  rw [readGoS, if_pos ⟨h1, h2⟩]
theorem read_range (s : List UInt8) (hs : ¬ s.length > 128) :
    RangeAtF E1 Tryz.f19 (.tup [(readS s).1.p, intP (readS s).2]) 0 (span_Read_R0 s) := by
  have hsp := split_le orB (by simp [orB]) _ s (Nat.le_refl _)
  refine rangeF_split (s := s) (sep := orB) (sl := 14) (by kernel_rfl) (by simp [orB]) (by omega) (rdInv s) (rdFin s) ⟨fun q hq => by have := hsp.2 q hq; omega, [], 0, nilA, row0, rfl, (by simp), (by omega), (by simp), (by simp), .inl ⟨rfl, rfl⟩, rfl⟩ ?_ ?_ ?_
  · rintro p rest f0 F1 FR g' ⟨hsm, acc, n, l, z, hgo, hln, hn, hok, hnp, hat, rfl⟩
    have hp := den_span_alternative p (hsm p (List.mem_cons_self ..))
    have hc := altS_is p
    have hcn := altS_np p
    have hsl : (((altS p).1.nl = true → (List.map I.p (altS p).1.l) = []) ∧ ((altS p).1.nl = false → (altS p).1.k = 11)) := ⟨fun h => by have := hc.sl.1 h; rw [List.length_eq_zero_iff.1 this]; rfl, hc.sl.2⟩
    have hw : IntKind.wrap IntKind.i64 ((n : Int) + 1) = ((n + 1 : Nat) : Int) := wrap_i64 _ (by omega) (by omega)
    have hcl := hc.len
    have hok2 : ∀ x ∈ acc ++ (altS p).1.l, x.ok := fun x hx => (List.mem_append.1 hx).elim (hok x) (hc.ok x)
    have hnp2 : ∀ x ∈ acc ++ (altS p).1.l, x.np := fun x hx => (List.mem_append.1 hx).elim (hnp x) (hcn x)
    have no1 : (!(altS p).2) = true → readGoS (Lib.split s orB) [] 0 = none := fun h => by
      rw [← hgo]
      exact readGo_no fun h2 => by rw [h2.1] at h; simp at h
    have no2 : decide (IntKind.wrap IntKind.i64 ((n : Int) + 1) > 16) = true → readGoS (Lib.split s orB) [] 0 = none := fun h => by
      rw [hw, decide_eq_true_eq] at h
      rw [← hgo]
      exact readGo_no fun h2 => by omega
    have yes : (!(altS p).2) = false → decide (IntKind.wrap IntKind.i64 ((n : Int) + 1) > 16) = false → readGoS rest (acc ++ (altS p).1.l) (n + 1) = readGoS (Lib.split s orB) [] 0 ∧ (acc ++ (altS p).1.l).length ≤ n + 1 ∧ n + 1 ≤ 16 := fun h h3 => by
      rw [hw, decide_eq_false_iff_not] at h3
      refine ⟨?_, by rw [List.length_append]; omega, by omega⟩
      rw [← hgo]
      exact (readGo_yes (not_eq.2 h) (by omega)).symm
    rcases hat with ⟨rfl, rfl⟩ | ⟨hne, gm, rfl, rfl⟩
    · refine ⟨rfl, 2000, _, Eq.mpr (span_Read_as0 s p n nilA z F1 FR 15 g' _) ⟨rfl, rfl, 2000, _, Eq.mpr (span_Read_a_bd0 s p n z F1 FR 15 _ _) ⟨hp, rfl, rfl, fun h => ⟨rfl, rfl, rfl, _, rfl, (fun h => nomatch h), fun _ => ⟨rfl, no1 h, _, _, _, rfl⟩⟩, fun h => ⟨rfl, fun h3 => ⟨rfl, rfl, rfl, _, rfl, (fun h => nomatch h), fun _ => ⟨rfl, no2 h3, _, _, _, rfl⟩⟩, fun h3 => ⟨rfl, hsl, fun h4 => ⟨rfl, rfl, _, rfl, fun _ => ⟨fun q hq => hsm q (List.mem_cons_of_mem _ hq), [] ++ (altS p).1.l, n + 1, _, _, (yes h h3).1, (yes h h3).2.1, (yes h h3).2.2, hok2, hnp2, ?_, by rw [hw]; rfl⟩, fun h => absurd rfl h⟩, fun h4 => ⟨⟨rfl, ?_⟩, rfl, rfl, _, rfl, fun _ => ⟨fun q hq => hsm q (List.mem_cons_of_mem _ hq), [] ++ (altS p).1.l, n + 1, _, _, (yes h h3).1, (yes h h3).2.1, (yes h h3).2.2, hok2, hnp2, ?_, by rw [hw]; rfl⟩, fun h => absurd rfl h⟩⟩⟩⟩⟩⟩
      · have : (altS p).1.l = [] := by simpa using h4
        rw [this]
        exact .inl ⟨rfl, rfl⟩
      · rw [List.length_map]; exact fits_104 (by omega)
      · refine .inr ⟨?_, _, ?_, rfl⟩
        · intro e
          have e' : (altS p).1.l = [] := e
          rw [e'] at h4; simp at h4
        · simp only [List.length_map, List.nil_append]
    · refine ⟨rfl, 2000, _, Eq.mpr (span_Read_as0 s p n (.msl 0 30 gm 0 acc.length false) ⟨gm, .row 11 63 (List.map I.p acc) false⟩ F1 FR 15 g' _) ⟨rfl, rfl, 2000, _, Eq.mpr (span_Read_b_bd0 s p n acc gm F1 FR 15 _ _) ⟨hp, rfl, rfl, fun h => ⟨rfl, rfl, rfl, _, rfl, (fun h => nomatch h), fun _ => ⟨rfl, no1 h, _, _, _, rfl⟩⟩, fun h => ⟨rfl, fun h3 => ⟨rfl, rfl, rfl, _, rfl, (fun h => nomatch h), fun _ => ⟨rfl, no2 h3, _, _, _, rfl⟩⟩, fun h3 => ⟨rfl, hsl, rfl, ⟨rfl, rfl, rfl, ?_, ?_⟩, rfl, rfl, _, rfl, fun _ => ⟨fun q hq => hsm q (List.mem_cons_of_mem _ hq), acc ++ (altS p).1.l, n + 1, _, _, (yes h h3).1, (yes h h3).2.1, (yes h h3).2.2, hok2, hnp2, ?_, by rw [hw]; rfl⟩, fun h => absurd rfl h⟩⟩⟩⟩⟩
      · rw [List.length_map, Nat.zero_add]
      · rw [List.length_map]; exact fits_104 (by omega)
      · refine rdAt_some (fun e => hne (List.append_eq_nil_iff.1 e).1) ?_ ?_
        · simp only [List.length_map, List.length_append]
        · rw [List.map_append]
          first | rfl | (rw [List.drop_zero, List.drop_zero, List.take_of_length_le (by simp)])
  · rintro f0 F1 g' ⟨hsm, acc, n, l, z, hgo, hln, hn, hok, hnp, hat, rfl⟩
    have hr : readS s = limS (joinS acc) := by
      rw [readS, if_neg hs, ← hgo]
      try rfl
    rw [hr]
    rcases hat with ⟨rfl, rfl⟩ | ⟨hne, gm, rfl, rfl⟩
    · refine ⟨rfl, 2000, _, Eq.mpr (span_Read_a_af0 s n z F1 g' _) ⟨rfl, ?_, ?_, rfl, rfl, rfl⟩⟩
      · exact den_join20 [] 0 true true ⟨fun _ => rfl, (by simp)⟩ (by simp) (by simp [delN]) (by simp)
      · exact den_limited 0 true true [] ⟨fun _ => rfl, (by simp)⟩ (by simp) (by simp) (by simp)
    · have hl := joinS_len acc
      refine ⟨rfl, 2000, _, Eq.mpr (span_Read_b_af0 s n acc gm F1 g' _) ⟨rfl, frzs_msl rfl (by simp) rfl, ?_, ?_, rfl, rfl, rfl⟩⟩
      · exact den_join20 acc 11 false false ⟨(by simp), fun _ => rfl⟩ (by omega) (Nat.lt_of_le_of_lt (delN_le _) (by omega)) hok
      · exact den_limited _ _ _ (joinS acc) (tw_sl _) (by omega) (joinS_ok hok) (joinS_all bet_np hnp)
  · rintro x f0 F1 g' ⟨rfl, hgo, l, n, z, rfl⟩
    refine ⟨(fun h => nomatch h), rfl, 2000, _, Eq.mpr (span_Read_af0r s n l z F1 g' _) ?_⟩
    have hr : readS s = (lf0, 80) := by
      rw [readS, if_neg hs, hgo]
    rw [hr]
    try rfl
theorem den_span_Read (s : List UInt8) : Den E1 19 [strP s] (.tup [(readS s).1.p, intP (readS s).2]) := by
  refine den1 2000 _ rfl (by kernel_rfl) rfl rfl rfl (Eq.mpr (span_Read_go s _) ⟨fun h => ⟨rfl, rfl, ?_⟩, fun h => ⟨rfl, den_split s orB, ?_⟩⟩)
  · simp only [decide_eq_true_eq, size_bs] at h
    have hr : readS s = (lf0, 80) := by
      rw [readS, if_pos (by omega)]
    rw [hr]
    try rfl
  · simp only [decide_eq_false_iff_not, size_bs] at h
    exact read_range s (by omega)
end Go.Proofs.YtlhfgonjcpapnaaGreatDoor.Abs

namespace Go.Proofs.YtlhfgonjcpapnaaGreatDoor.Abs
open Go Go.Proofs
noncomputable def zbL : ByteArray → List UInt8 := shut fun z => z.data.toList
theorem zbL_eq (z : ByteArray) : zbL z = z.data.toList := by rw [zbL, shut_eq]
theorem zbL_bs (l : List UInt8) : zbL (bs l) = l := by rw [zbL_eq]
noncomputable abbrev c9 (s : List UInt8) (i : Int) : List UInt8 := zbL (ByteArray.extract (bs s) (Int.toNat i) (ByteArray.size (bs s)))
end Go.Proofs.YtlhfgonjcpapnaaGreatDoor.Abs

namespace Go.Proofs.YtlhfgonjcpapnaaGreatDoor.Abs
open Go Go.Proofs
def ref07_Read_S0 (s : List UInt8) (i : Int) (j : Nat → AV) (jr : Nat → Row) (g : Nat) : St :=
  { t := [strA (bs s), j 1, .mptr 0 2 0 0 0, j 3, strA (bs s), .mptr 0 5 7 0 0, intA i] ++ jj j 7 81, h := [[row0, row0, ⟨0, .box (.pv (verP 0 0 0 (.sl 0 true true []))) false⟩, row0, row0, ⟨7, .box (.pv (verP 0 0 0 (.sl 0 true true []))) false⟩] ++ List.replicate 82 row0], g := g }
theorem ref07_Read_go (s : List UInt8) (r : PV) : FnGo E1 Tryz.f49 [PV.lit (.string (bs s))] r 2000 (.fork (.hole 0) (.mask (iv [(1, 1), (3, 3), (7, 87)]) [])) =
  (((decide ((↑(ByteArray.size (bs s)) : Int) > (128 : Int))) = true →
 ((0 : Nat) = 0) ∧
 ((.tup [verP 0 0 0 (.sl 0 true true []), intP 70]) : PV) = r) ∧
 ((decide ((↑(ByteArray.size (bs s)) : Int) > (128 : Int))) = false →
 AtAll Tryz.f49 r 0 (ref07_Read_S0 s 0))) := by kernel_rfl
theorem ref07_Read_go_S0 (s : List UInt8) (i : Int) (j : Nat → AV) (jr : Nat → Row) (g : Nat) (r : PV) : LoopGo E1 Tryz.f49 r 0 2000 (.fork (.fork (.res (.sl 1 false false (List.map strP (Lib.split (zbL (ByteArray.extract (bs s) (Int.toNat (IntKind.i64.wrap (i + (1 : Int)))) (ByteArray.size (bs s)))) [46]))) (.res (.sl 1 false false (List.map strP (Lib.split (zbL (ByteArray.extract (bs s) (0 : Nat) (Int.toNat i))) [46]))) (.fork (.hole 0) (.val (PV.lit (.string (bs (List.getD (Lib.split (zbL (ByteArray.extract (bs s) (0 : Nat) (Int.toNat i))) [46]) (0 : Nat) default)))) (.res (.tup [PV.lit (.int .u32 (numV (List.getD (Lib.split (zbL (ByteArray.extract (bs s) (0 : Nat) (Int.toNat i))) [46]) (0 : Nat) default))), bolP (numB (List.getD (Lib.split (zbL (ByteArray.extract (bs s) (0 : Nat) (Int.toNat i))) [46]) (0 : Nat) default))]) (.val (PV.lit (.string (bs (List.getD (Lib.split (zbL (ByteArray.extract (bs s) (0 : Nat) (Int.toNat i))) [46]) (1 : Nat) default)))) (.res (.tup [PV.lit (.int .u32 (numV (List.getD (Lib.split (zbL (ByteArray.extract (bs s) (0 : Nat) (Int.toNat i))) [46]) (1 : Nat) default))), bolP (numB (List.getD (Lib.split (zbL (ByteArray.extract (bs s) (0 : Nat) (Int.toNat i))) [46]) (1 : Nat) default))]) (.val (PV.lit (.string (bs (List.getD (Lib.split (zbL (ByteArray.extract (bs s) (0 : Nat) (Int.toNat i))) [46]) (2 : Nat) default)))) (.res (.tup [PV.lit (.int .u32 (numV (List.getD (Lib.split (zbL (ByteArray.extract (bs s) (0 : Nat) (Int.toNat i))) [46]) (2 : Nat) default))), bolP (numB (List.getD (Lib.split (zbL (ByteArray.extract (bs s) (0 : Nat) (Int.toNat i))) [46]) (2 : Nat) default))]) (.fork (.lts 13 (.hole 0)) (.lts 3 (.fork (.lts 9 (.hole 0)) (.lts 3 (.fork (.lts 5 (.hole 0)) (.lit (.lit (.res (bolP (mayV ⟨numV (List.getD (Lib.split (zbL (ByteArray.extract (bs s) (0 : Nat) (Int.toNat i))) [46]) (0 : Nat) default), numV (List.getD (Lib.split (zbL (ByteArray.extract (bs s) (0 : Nat) (Int.toNat i))) [46]) (1 : Nat) default), numV (List.getD (Lib.split (zbL (ByteArray.extract (bs s) (0 : Nat) (Int.toNat i))) [46]) (2 : Nat) default), 1, false, false, Lib.split (zbL (ByteArray.extract (bs s) (Int.toNat (IntKind.i64.wrap (i + (1 : Int)))) (ByteArray.size (bs s)))) [46]⟩)) (.lit (.lit (.fork (.hole 0) (.hole 0))))))))))))))))))))) (.mask (iv [(1, 1), (3, 3), (7, 87)]) [])) (.res (.sl 1 false false (List.map strP (Lib.split (zbL (bs s)) [46]))) (.fork (.hole 0) (.val (PV.lit (.string (bs (List.getD (Lib.split (zbL (bs s)) [46]) (0 : Nat) default)))) (.res (.tup [PV.lit (.int .u32 (numV (List.getD (Lib.split (zbL (bs s)) [46]) (0 : Nat) default))), bolP (numB (List.getD (Lib.split (zbL (bs s)) [46]) (0 : Nat) default))]) (.val (PV.lit (.string (bs (List.getD (Lib.split (zbL (bs s)) [46]) (1 : Nat) default)))) (.res (.tup [PV.lit (.int .u32 (numV (List.getD (Lib.split (zbL (bs s)) [46]) (1 : Nat) default))), bolP (numB (List.getD (Lib.split (zbL (bs s)) [46]) (1 : Nat) default))]) (.val (PV.lit (.string (bs (List.getD (Lib.split (zbL (bs s)) [46]) (2 : Nat) default)))) (.res (.tup [PV.lit (.int .u32 (numV (List.getD (Lib.split (zbL (bs s)) [46]) (2 : Nat) default))), bolP (numB (List.getD (Lib.split (zbL (bs s)) [46]) (2 : Nat) default))]) (.fork (.lts 13 (.hole 0)) (.lts 3 (.fork (.lts 9 (.hole 0)) (.lts 3 (.fork (.lts 5 (.hole 0)) (.lit (.lit (.res (bolP (mayV ⟨numV (List.getD (Lib.split (zbL (bs s)) [46]) (0 : Nat) default), numV (List.getD (Lib.split (zbL (bs s)) [46]) (1 : Nat) default), numV (List.getD (Lib.split (zbL (bs s)) [46]) (2 : Nat) default), 0, true, true, []⟩)) (.lit (.lit (.fork (.hole 0) (.hole 0))))))))))))))))))))) (ref07_Read_S0 s i j jr g) =
  (((decide (i < (↑(ByteArray.size (bs s)) : Int))) = true →
 (((0 : Int) ≤ i) ∧ (Int.toNat i < ByteArray.size (bs s))) ∧
 (((↑(UInt8.toNat (List.getD s (Int.toNat i) 0)) : Int) == (45 : Int)) = true →
 (((0 : Int) ≤ i) ∧ (i ≤ (↑(ByteArray.size (bs s)) : Int))) ∧
 (((0 : Int) ≤ IntKind.i64.wrap (i + (1 : Int))) ∧ (IntKind.i64.wrap (i + (1 : Int)) ≤ (↑(ByteArray.size (bs s)) : Int))) ∧
 (Den E1 86 [PV.lit (.string (ByteArray.extract (bs s) (Int.toNat (IntKind.i64.wrap (i + (1 : Int)))) (ByteArray.size (bs s)))), PV.lit (.int .u8 46)] (.sl 1 false false (List.map strP (Lib.split (zbL (ByteArray.extract (bs s) (Int.toNat (IntKind.i64.wrap (i + (1 : Int)))) (ByteArray.size (bs s)))) [46])))) ∧
 ((7 : Nat) = 7) ∧
 (Den E1 86 [PV.lit (.string (ByteArray.extract (bs s) (0 : Nat) (Int.toNat i))), PV.lit (.int .u8 46)] (.sl 1 false false (List.map strP (Lib.split (zbL (ByteArray.extract (bs s) (0 : Nat) (Int.toNat i))) [46])))) ∧
 (((↑(List.length (List.map strP (Lib.split (zbL (ByteArray.extract (bs s) (0 : Nat) (Int.toNat i))) [46]))) : Int) != (3 : Int)) = true →
 ((0 : Nat) = 0) ∧
 ((.tup [verP 0 0 0 (.sl 0 true true []), intP 70]) : PV) = r) ∧
 (((↑(List.length (List.map strP (Lib.split (zbL (ByteArray.extract (bs s) (0 : Nat) (Int.toNat i))) [46]))) : Int) != (3 : Int)) = false →
 (((0 : Int) ≤ (0 : Int)) ∧ ((false = false) ∧ ((1 : Nat) = 1))) ∧
 (((List.map strP (Lib.split (zbL (ByteArray.extract (bs s) (0 : Nat) (Int.toNat i))) [46]))[(0 : Nat)]?) = some (PV.lit (.string (bs (List.getD (Lib.split (zbL (ByteArray.extract (bs s) (0 : Nat) (Int.toNat i))) [46]) (0 : Nat) default))))) ∧
 (Den E1 87 [PV.lit (.string (bs (List.getD (Lib.split (zbL (ByteArray.extract (bs s) (0 : Nat) (Int.toNat i))) [46]) (0 : Nat) default)))] (.tup [PV.lit (.int .u32 (numV (List.getD (Lib.split (zbL (ByteArray.extract (bs s) (0 : Nat) (Int.toNat i))) [46]) (0 : Nat) default))), bolP (numB (List.getD (Lib.split (zbL (ByteArray.extract (bs s) (0 : Nat) (Int.toNat i))) [46]) (0 : Nat) default))])) ∧
 (((0 : Int) ≤ (1 : Int)) ∧ ((false = false) ∧ ((1 : Nat) = 1))) ∧
 (((List.map strP (Lib.split (zbL (ByteArray.extract (bs s) (0 : Nat) (Int.toNat i))) [46]))[(1 : Nat)]?) = some (PV.lit (.string (bs (List.getD (Lib.split (zbL (ByteArray.extract (bs s) (0 : Nat) (Int.toNat i))) [46]) (1 : Nat) default))))) ∧
 (Den E1 87 [PV.lit (.string (bs (List.getD (Lib.split (zbL (ByteArray.extract (bs s) (0 : Nat) (Int.toNat i))) [46]) (1 : Nat) default)))] (.tup [PV.lit (.int .u32 (numV (List.getD (Lib.split (zbL (ByteArray.extract (bs s) (0 : Nat) (Int.toNat i))) [46]) (1 : Nat) default))), bolP (numB (List.getD (Lib.split (zbL (ByteArray.extract (bs s) (0 : Nat) (Int.toNat i))) [46]) (1 : Nat) default))])) ∧
 (((0 : Int) ≤ (2 : Int)) ∧ ((false = false) ∧ ((1 : Nat) = 1))) ∧
 (((List.map strP (Lib.split (zbL (ByteArray.extract (bs s) (0 : Nat) (Int.toNat i))) [46]))[(2 : Nat)]?) = some (PV.lit (.string (bs (List.getD (Lib.split (zbL (ByteArray.extract (bs s) (0 : Nat) (Int.toNat i))) [46]) (2 : Nat) default))))) ∧
 (Den E1 87 [PV.lit (.string (bs (List.getD (Lib.split (zbL (ByteArray.extract (bs s) (0 : Nat) (Int.toNat i))) [46]) (2 : Nat) default)))] (.tup [PV.lit (.int .u32 (numV (List.getD (Lib.split (zbL (ByteArray.extract (bs s) (0 : Nat) (Int.toNat i))) [46]) (2 : Nat) default))), bolP (numB (List.getD (Lib.split (zbL (ByteArray.extract (bs s) (0 : Nat) (Int.toNat i))) [46]) (2 : Nat) default))])) ∧
 ((7 : Nat) = 7) ∧
 ((7 : Nat) = 7) ∧
 ((7 : Nat) = 7) ∧
 ((!numB (List.getD (Lib.split (zbL (ByteArray.extract (bs s) (0 : Nat) (Int.toNat i))) [46]) (0 : Nat) default)) = true →
 ((0 : Nat) = 0) ∧
 ((.tup [verP 0 0 0 (.sl 0 true true []), intP 70]) : PV) = r) ∧
 ((!numB (List.getD (Lib.split (zbL (ByteArray.extract (bs s) (0 : Nat) (Int.toNat i))) [46]) (0 : Nat) default)) = false →
 ((!numB (List.getD (Lib.split (zbL (ByteArray.extract (bs s) (0 : Nat) (Int.toNat i))) [46]) (1 : Nat) default)) = true →
 ((0 : Nat) = 0) ∧
 ((.tup [verP 0 0 0 (.sl 0 true true []), intP 70]) : PV) = r) ∧
 ((!numB (List.getD (Lib.split (zbL (ByteArray.extract (bs s) (0 : Nat) (Int.toNat i))) [46]) (1 : Nat) default)) = false →
 ((!numB (List.getD (Lib.split (zbL (ByteArray.extract (bs s) (0 : Nat) (Int.toNat i))) [46]) (2 : Nat) default)) = true →
 ((0 : Nat) = 0) ∧
 ((.tup [verP 0 0 0 (.sl 0 true true []), intP 70]) : PV) = r) ∧
 ((!numB (List.getD (Lib.split (zbL (ByteArray.extract (bs s) (0 : Nat) (Int.toNat i))) [46]) (2 : Nat) default)) = false →
 ((7 : Nat) = 7) ∧
 (Den E1 26 [verP (numV (List.getD (Lib.split (zbL (ByteArray.extract (bs s) (0 : Nat) (Int.toNat i))) [46]) (0 : Nat) default)) (numV (List.getD (Lib.split (zbL (ByteArray.extract (bs s) (0 : Nat) (Int.toNat i))) [46]) (1 : Nat) default)) (numV (List.getD (Lib.split (zbL (ByteArray.extract (bs s) (0 : Nat) (Int.toNat i))) [46]) (2 : Nat) default)) (.sl 1 false false (List.map strP (Lib.split (zbL (ByteArray.extract (bs s) (Int.toNat (IntKind.i64.wrap (i + (1 : Int)))) (ByteArray.size (bs s)))) [46])))] (bolP (mayV ⟨numV (List.getD (Lib.split (zbL (ByteArray.extract (bs s) (0 : Nat) (Int.toNat i))) [46]) (0 : Nat) default), numV (List.getD (Lib.split (zbL (ByteArray.extract (bs s) (0 : Nat) (Int.toNat i))) [46]) (1 : Nat) default), numV (List.getD (Lib.split (zbL (ByteArray.extract (bs s) (0 : Nat) (Int.toNat i))) [46]) (2 : Nat) default), 1, false, false, Lib.split (zbL (ByteArray.extract (bs s) (Int.toNat (IntKind.i64.wrap (i + (1 : Int)))) (ByteArray.size (bs s)))) [46]⟩))) ∧
 ((!mayV ⟨numV (List.getD (Lib.split (zbL (ByteArray.extract (bs s) (0 : Nat) (Int.toNat i))) [46]) (0 : Nat) default), numV (List.getD (Lib.split (zbL (ByteArray.extract (bs s) (0 : Nat) (Int.toNat i))) [46]) (1 : Nat) default), numV (List.getD (Lib.split (zbL (ByteArray.extract (bs s) (0 : Nat) (Int.toNat i))) [46]) (2 : Nat) default), 1, false, false, Lib.split (zbL (ByteArray.extract (bs s) (Int.toNat (IntKind.i64.wrap (i + (1 : Int)))) (ByteArray.size (bs s)))) [46]⟩) = true →
 ((0 : Nat) = 0) ∧
 ((.tup [verP 0 0 0 (.sl 0 true true []), intP 70]) : PV) = r) ∧
 ((!mayV ⟨numV (List.getD (Lib.split (zbL (ByteArray.extract (bs s) (0 : Nat) (Int.toNat i))) [46]) (0 : Nat) default), numV (List.getD (Lib.split (zbL (ByteArray.extract (bs s) (0 : Nat) (Int.toNat i))) [46]) (1 : Nat) default), numV (List.getD (Lib.split (zbL (ByteArray.extract (bs s) (0 : Nat) (Int.toNat i))) [46]) (2 : Nat) default), 1, false, false, Lib.split (zbL (ByteArray.extract (bs s) (Int.toNat (IntKind.i64.wrap (i + (1 : Int)))) (ByteArray.size (bs s)))) [46]⟩) = false →
 ((7 : Nat) = 7) ∧
 ((0 : Nat) = 0) ∧
 ((.tup [verP (numV (List.getD (Lib.split (zbL (ByteArray.extract (bs s) (0 : Nat) (Int.toNat i))) [46]) (0 : Nat) default)) (numV (List.getD (Lib.split (zbL (ByteArray.extract (bs s) (0 : Nat) (Int.toNat i))) [46]) (1 : Nat) default)) (numV (List.getD (Lib.split (zbL (ByteArray.extract (bs s) (0 : Nat) (Int.toNat i))) [46]) (2 : Nat) default)) (.sl 1 false false (List.map strP (Lib.split (zbL (ByteArray.extract (bs s) (Int.toNat (IntKind.i64.wrap (i + (1 : Int)))) (ByteArray.size (bs s)))) [46]))), intP 0]) : PV) = r)))))) ∧
 (((↑(UInt8.toNat (List.getD s (Int.toNat i) 0)) : Int) == (45 : Int)) = false →
 AtAll Tryz.f49 r 0 (ref07_Read_S0 s (IntKind.i64.wrap (i + (1 : Int)))))) ∧
 ((decide (i < (↑(ByteArray.size (bs s)) : Int))) = false →
 (Den E1 86 [PV.lit (.string (bs s)), PV.lit (.int .u8 46)] (.sl 1 false false (List.map strP (Lib.split (zbL (bs s)) [46])))) ∧
 (((↑(List.length (List.map strP (Lib.split (zbL (bs s)) [46]))) : Int) != (3 : Int)) = true →
 ((0 : Nat) = 0) ∧
 ((.tup [verP 0 0 0 (.sl 0 true true []), intP 70]) : PV) = r) ∧
 (((↑(List.length (List.map strP (Lib.split (zbL (bs s)) [46]))) : Int) != (3 : Int)) = false →
 (((0 : Int) ≤ (0 : Int)) ∧ ((false = false) ∧ ((1 : Nat) = 1))) ∧
 (((List.map strP (Lib.split (zbL (bs s)) [46]))[(0 : Nat)]?) = some (PV.lit (.string (bs (List.getD (Lib.split (zbL (bs s)) [46]) (0 : Nat) default))))) ∧
 (Den E1 87 [PV.lit (.string (bs (List.getD (Lib.split (zbL (bs s)) [46]) (0 : Nat) default)))] (.tup [PV.lit (.int .u32 (numV (List.getD (Lib.split (zbL (bs s)) [46]) (0 : Nat) default))), bolP (numB (List.getD (Lib.split (zbL (bs s)) [46]) (0 : Nat) default))])) ∧
 (((0 : Int) ≤ (1 : Int)) ∧ ((false = false) ∧ ((1 : Nat) = 1))) ∧
 (((List.map strP (Lib.split (zbL (bs s)) [46]))[(1 : Nat)]?) = some (PV.lit (.string (bs (List.getD (Lib.split (zbL (bs s)) [46]) (1 : Nat) default))))) ∧
 (Den E1 87 [PV.lit (.string (bs (List.getD (Lib.split (zbL (bs s)) [46]) (1 : Nat) default)))] (.tup [PV.lit (.int .u32 (numV (List.getD (Lib.split (zbL (bs s)) [46]) (1 : Nat) default))), bolP (numB (List.getD (Lib.split (zbL (bs s)) [46]) (1 : Nat) default))])) ∧
 (((0 : Int) ≤ (2 : Int)) ∧ ((false = false) ∧ ((1 : Nat) = 1))) ∧
 (((List.map strP (Lib.split (zbL (bs s)) [46]))[(2 : Nat)]?) = some (PV.lit (.string (bs (List.getD (Lib.split (zbL (bs s)) [46]) (2 : Nat) default))))) ∧
 (Den E1 87 [PV.lit (.string (bs (List.getD (Lib.split (zbL (bs s)) [46]) (2 : Nat) default)))] (.tup [PV.lit (.int .u32 (numV (List.getD (Lib.split (zbL (bs s)) [46]) (2 : Nat) default))), bolP (numB (List.getD (Lib.split (zbL (bs s)) [46]) (2 : Nat) default))])) ∧
 ((7 : Nat) = 7) ∧
 ((7 : Nat) = 7) ∧
 ((7 : Nat) = 7) ∧
 ((!numB (List.getD (Lib.split (zbL (bs s)) [46]) (0 : Nat) default)) = true →
 ((0 : Nat) = 0) ∧
 ((.tup [verP 0 0 0 (.sl 0 true true []), intP 70]) : PV) = r) ∧
 ((!numB (List.getD (Lib.split (zbL (bs s)) [46]) (0 : Nat) default)) = false →
 ((!numB (List.getD (Lib.split (zbL (bs s)) [46]) (1 : Nat) default)) = true →
 ((0 : Nat) = 0) ∧
 ((.tup [verP 0 0 0 (.sl 0 true true []), intP 70]) : PV) = r) ∧
 ((!numB (List.getD (Lib.split (zbL (bs s)) [46]) (1 : Nat) default)) = false →
 ((!numB (List.getD (Lib.split (zbL (bs s)) [46]) (2 : Nat) default)) = true →
 ((0 : Nat) = 0) ∧
 ((.tup [verP 0 0 0 (.sl 0 true true []), intP 70]) : PV) = r) ∧
 ((!numB (List.getD (Lib.split (zbL (bs s)) [46]) (2 : Nat) default)) = false →
 ((7 : Nat) = 7) ∧
 (Den E1 26 [verP (numV (List.getD (Lib.split (zbL (bs s)) [46]) (0 : Nat) default)) (numV (List.getD (Lib.split (zbL (bs s)) [46]) (1 : Nat) default)) (numV (List.getD (Lib.split (zbL (bs s)) [46]) (2 : Nat) default)) (.sl 0 true true [])] (bolP (mayV ⟨numV (List.getD (Lib.split (zbL (bs s)) [46]) (0 : Nat) default), numV (List.getD (Lib.split (zbL (bs s)) [46]) (1 : Nat) default), numV (List.getD (Lib.split (zbL (bs s)) [46]) (2 : Nat) default), 0, true, true, []⟩))) ∧
 ((!mayV ⟨numV (List.getD (Lib.split (zbL (bs s)) [46]) (0 : Nat) default), numV (List.getD (Lib.split (zbL (bs s)) [46]) (1 : Nat) default), numV (List.getD (Lib.split (zbL (bs s)) [46]) (2 : Nat) default), 0, true, true, []⟩) = true →
 ((0 : Nat) = 0) ∧
 ((.tup [verP 0 0 0 (.sl 0 true true []), intP 70]) : PV) = r) ∧
 ((!mayV ⟨numV (List.getD (Lib.split (zbL (bs s)) [46]) (0 : Nat) default), numV (List.getD (Lib.split (zbL (bs s)) [46]) (1 : Nat) default), numV (List.getD (Lib.split (zbL (bs s)) [46]) (2 : Nat) default), 0, true, true, []⟩) = false →
 ((7 : Nat) = 7) ∧
 ((0 : Nat) = 0) ∧
 ((.tup [verP (numV (List.getD (Lib.split (zbL (bs s)) [46]) (0 : Nat) default)) (numV (List.getD (Lib.split (zbL (bs s)) [46]) (1 : Nat) default)) (numV (List.getD (Lib.split (zbL (bs s)) [46]) (2 : Nat) default)) (.sl 0 true true []), intP 0]) : PV) = r))))))) := by kernel_rfl
end Go.Proofs.YtlhfgonjcpapnaaGreatDoor.Abs

set_option maxRecDepth 20000
set_option maxHeartbeats 2000000
namespace Go.Proofs.YtlhfgonjcpapnaaGreatDoor.Abs
open Go Go.Proofs
theorem ref_Read_S0 (s : List UInt8) (hl : s.length ≤ 128) : ∀ (n i : Nat) j jr g, i + n = s.length → Lib.NoOcc s [45] i →
    LoopAt E1 Tryz.f49 (.tup [(rdV false s).p, intP (errV (rdOk s))]) 0 (ref07_Read_S0 s i j jr g) := by
  have hnm : ∀ (W : List (List UInt8)) (m : List UInt8), W = Lib.split m [46] → m.length ≤ 128 → ∀ i, i < W.length → small (W.getD i default).length := fun W m hW hm i hi => by
    have hsp := split_le [46] (by simp) _ m (Nat.le_refl _)
    have : (W.getD i default).length ≤ m.length := hsp.2 _ (by rw [← hW]; exact getD_mem hi default)
    unfold small
    omega
  intro n
  induction n with
  | zero =>
    intro i j0 jr0 g0 hi hno
    have h0 := ref07_Read_go_S0 s i j0 jr0 g0 (.tup [(rdV false s).p, intP (errV (rdOk s))])
    rw [zbL_bs s] at h0
    have hc : Lib.cut s [45] = (s, [], false) := by
      have : Lib.index s [45] = -1 := Lib.index_past (i := i) (by simp) hno (by simp; omega)
      simp [Lib.cut, this]
    have h6 : (Lib.cut s [45]).2.2 = false := by rw [hc]
    have hW : wordsV s = Lib.split s [46] := by unfold wordsV; rw [hc]
    refine loop_go 2000 _ (Eq.mpr h0 ⟨fun h => ?_, fun h => ⟨den_ref07_Cut s 46 (by omega), fun h1 => ⟨rfl, rd_no ?_ false⟩, fun h1 => ?_⟩⟩)
    · simp only [decide_eq_true_eq, size_bs] at h; omega
    · have h1' : ¬ (wordsV s).length = 3 := by
        intro e
        rw [hW] at e
        simp [e] at h1
      simp [rdOk0, h1']
    · have h3 : (wordsV s).length = 3 := by
        rw [hW]
        simp only [List.length_map, bne_eq_false_iff_eq] at h1
        omega
      rw [← hW]
      refine ⟨⟨by omega, rfl, rfl⟩, getW (by omega), den_ref07_number _ (hnm _ s hW hl 0 (by omega)), ⟨by omega, rfl, rfl⟩, getW (by omega), den_ref07_number _ (hnm _ s hW hl 1 (by omega)), ⟨by omega, rfl, rfl⟩, getW (by omega), den_ref07_number _ (hnm _ s hW hl 2 (by omega)), rfl, rfl, rfl,
        fun h2 => ⟨rfl, rd_no ?_ false⟩, fun h2 => ⟨fun h4 => ⟨rfl, rd_no ?_ false⟩, fun h4 => ⟨fun h5 => ⟨rfl, rd_no ?_ false⟩, fun h5 => ?_⟩⟩⟩
      · have h2' : numB ((wordsV s).getD 0 []) = false := not_eq.1 h2
        simp only [rdOk0, h2', Bool.and_false, Bool.false_and]
      · have h2' : numB ((wordsV s).getD 1 []) = false := not_eq.1 h4
        simp only [rdOk0, h2', Bool.and_false, Bool.false_and]
      · have h2' : numB ((wordsV s).getD 2 []) = false := not_eq.1 h5
        simp only [rdOk0, h2', Bool.and_false, Bool.false_and]
      · have b0 : numB ((wordsV s).getD 0 []) = true := not_eq.2 h2
        have b1 : numB ((wordsV s).getD 1 []) = true := not_eq.2 h4
        have b2 : numB ((wordsV s).getD 2 []) = true := not_eq.2 h5
        have hr := raw_ok false s hl
        rw [raw_f h6] at hr
        have hk : rdOk0 s = mayV (rawV false s) := by rw [raw_may]; simp only [rdOk0, hl, h3, b0, b1, b2, decide_true, Bool.true_and, beq_self_eq_true]
        rw [raw_f h6] at hk
        refine ⟨rfl, den_ref07_May _ hr, fun h7 => ⟨rfl, rd_no ?_ false⟩, fun h7 => ⟨rfl, rfl, ?_⟩⟩
        · rw [hk]; exact not_eq.1 h7
        · have := rd_yes (s := s) (by rw [hk]; exact not_eq.2 h7) false
          rw [raw_f h6] at this
          exact this
  | succ n ih =>
    intro i j0 jr0 g0 hi hno
    have hil : i < s.length := by omega
    have hw1 : IntKind.wrap IntKind.i64 ((i : Int) + 1) = ((i + 1 : Nat) : Int) := wrap_i64 _ (by omega) (by omega)
    have hT : ByteArray.extract (bs s) (Int.toNat (IntKind.wrap IntKind.i64 ((i : Int) + 1))) (ByteArray.size (bs s)) = bs (s.drop (i + 1)) := by
      rw [hw1, Int.toNat_natCast, extract_bs, size_bs, List.take_of_length_le (by simp)]
    have hH : ByteArray.extract (bs s) 0 (Int.toNat (i : Int)) = bs (s.take i) := by
      rw [Int.toNat_natCast, extract_bs]; try rfl
    have h0 := ref07_Read_go_S0 s i j0 jr0 g0 (.tup [(rdV false s).p, intP (errV (rdOk s))])
    rw [hT, hH, zbL_bs (s.drop (i + 1)), zbL_bs (s.take i)] at h0
    refine loop_go 2000 _ (Eq.mpr h0 ⟨fun h => ⟨⟨by omega, by simpa [size_bs] using hil⟩, fun hd => ?_, fun hd j jr g => ?_⟩, fun h => ?_⟩)
    · rw [Int.toNat_natCast] at hd
      have hc0 : (s.getD i 0 == 45) = true := by
        have := eq_of_beq hd
        exact beq_iff_eq.2 (UInt8.toNat_inj.1 (by show (s.getD i 0).toNat = 45; omega))
      have ho : Lib.occAt s [45] i = true := by rw [occ_byte hil]; exact hc0
      have hc : Lib.cut s [45] = (s.take i, s.drop (i + 1), true) := by
        have := Lib.index_hit hno (by omega) ho
        simp [Lib.cut, this]
      have h6 : (Lib.cut s [45]).2.2 = true := by rw [hc]
      have hW : wordsV s = Lib.split (s.take i) [46] := by unfold wordsV; rw [hc]
      have htl : (s.take i).length ≤ 128 := by rw [List.length_take]; omega
      refine ⟨⟨by omega, by rw [size_bs]; omega⟩, ⟨by rw [hw1]; omega, by rw [hw1, size_bs]; omega⟩, den_ref07_Cut _ 46 (by rw [List.length_drop]; omega), rfl, den_ref07_Cut _ 46 (by omega), fun h1 => ⟨rfl, rd_no ?_ false⟩, fun h1 => ?_⟩
      · have h1' : ¬ (wordsV s).length = 3 := by
          intro e
          rw [hW] at e
          simp [e] at h1
        simp [rdOk0, h1']
      · have h3 : (wordsV s).length = 3 := by
          rw [hW]
          simp only [List.length_map, bne_eq_false_iff_eq] at h1
          omega
        rw [← hW]
        refine ⟨⟨by omega, rfl, rfl⟩, getW (by omega), den_ref07_number _ (hnm _ _ hW htl 0 (by omega)), ⟨by omega, rfl, rfl⟩, getW (by omega), den_ref07_number _ (hnm _ _ hW htl 1 (by omega)), ⟨by omega, rfl, rfl⟩, getW (by omega), den_ref07_number _ (hnm _ _ hW htl 2 (by omega)), rfl, rfl, rfl,
          fun h2 => ⟨rfl, rd_no ?_ false⟩, fun h2 => ⟨fun h4 => ⟨rfl, rd_no ?_ false⟩, fun h4 => ⟨fun h5 => ⟨rfl, rd_no ?_ false⟩, fun h5 => ?_⟩⟩⟩
        · have h2' : numB ((wordsV s).getD 0 []) = false := not_eq.1 h2
          simp only [rdOk0, h2', Bool.and_false, Bool.false_and]
        · have h2' : numB ((wordsV s).getD 1 []) = false := not_eq.1 h4
          simp only [rdOk0, h2', Bool.and_false, Bool.false_and]
        · have h2' : numB ((wordsV s).getD 2 []) = false := not_eq.1 h5
          simp only [rdOk0, h2', Bool.and_false, Bool.false_and]
        · have b0 : numB ((wordsV s).getD 0 []) = true := not_eq.2 h2
          have b1 : numB ((wordsV s).getD 1 []) = true := not_eq.2 h4
          have b2 : numB ((wordsV s).getD 2 []) = true := not_eq.2 h5
          have hraw : rawV false s = ⟨numV ((wordsV s).getD 0 default), numV ((wordsV s).getD 1 default), numV ((wordsV s).getD 2 default), 1, false, false, Lib.split (s.drop (i + 1)) [46]⟩ := by
            rw [raw_t h6, hc]
          have hr := raw_ok false s hl
          rw [hraw] at hr
          have hk : rdOk0 s = mayV (rawV false s) := by rw [raw_may]; simp only [rdOk0, hl, h3, b0, b1, b2, decide_true, Bool.true_and, beq_self_eq_true]
          rw [hraw] at hk
          refine ⟨rfl, den_ref07_May _ hr, fun h7 => ⟨rfl, rd_no ?_ false⟩, fun h7 => ⟨rfl, rfl, ?_⟩⟩
          · rw [hk]; exact not_eq.1 h7
          · have := rd_yes (s := s) (by rw [hk]; exact not_eq.2 h7) false
            rw [hraw] at this
            exact this
    · rw [hw1]
      have ho : Lib.occAt s [45] i = false := by
        rw [occ_byte hil]
        cases hb : (s.getD i 0 == 45) with
        | false => rfl
        | true => rw [Int.toNat_natCast, eq_of_beq hb] at hd; simp at hd
      exact ih (i + 1) j jr g (by omega) (hno.succ ho)
    · simp only [decide_eq_false_iff_not, size_bs] at h; omega
theorem den_ref07_Read (s : List UInt8) : Den E1 49 [strP s] (.tup [(rdV false s).p, intP (errV (rdOk s))]) := by
  refine den1 2000 _ rfl (by kernel_rfl) rfl rfl rfl (Eq.mpr (ref07_Read_go s _) ⟨fun h => ⟨rfl, rd_no ?_ false⟩, fun h j jr g => ?_⟩)
  · simp only [decide_eq_true_eq, size_bs] at h
    simp [rdOk0, show ¬ s.length ≤ 128 by omega]
  · simp only [decide_eq_false_iff_not, size_bs] at h
    exact ref_Read_S0 s (by omega) s.length 0 j jr g (by omega) (Lib.NoOcc.zero _ _)
end Go.Proofs.YtlhfgonjcpapnaaGreatDoor.Abs

namespace Go.Proofs.YtlhfgonjcpapnaaGreatDoor.Abs
open Go Go.Proofs
def ref08_compared_S0 (s : List UInt8) (i : Int) (j : Nat → AV) (jr : Nat → Row) (g : Nat) : St :=
  { t := [strA (bs s), j 1, j 2, j 3, intA i] ++ jj j 5 90, h := [List.replicate 5 row0 ++ [jr 5] ++ List.replicate 89 row0], g := g }
theorem ref08_compared_go (s : List UInt8) (r : PV) : FnGo E1 Tryz.f99 [PV.lit (.string (bs s))] r 2000 (.mask (iv [(1, 3), (5, 94)]) [5]) =
  (AtAll Tryz.f99 r 0 (ref08_compared_S0 s 0)) := by kernel_rfl
theorem ref08_compared_go_S0 (s : List UInt8) (i : Int) (j : Nat → AV) (jr : Nat → Row) (g : Nat) (r : PV) : LoopGo E1 Tryz.f99 r 0 2000 (.fork (.lts 5 (.fork (.lts 32 (.mask (iv [(1, 3), (5, 94)]) [5])) (.lts 7 (.fork (.lts 24 (.mask (iv [(1, 3), (5, 94)]) [5])) (.lts 7 (.fork (.lts 16 (.mask (iv [(1, 3), (5, 94)]) [5])) (.lts 7 (.fork (.lts 8 (.mask (iv [(1, 3), (5, 94)]) [5])) (.lts 7 (.fork (.mask (iv [(1, 3), (5, 94)]) [5]) (.res (.tup [V.p (rdV false (c9 s i)), intP (errV (rdOk (c9 s i)))]) (.fork (.hole 0) (.fork (.br true (.res (.sl 11 false true [I.p ⟨(rdV false (c9 s i)), false, zV, false, true⟩]) (.res (resL (joinR [downI (rdV false (c9 s i)) false])) (.res (resL (meetR [⟨rdV false (c9 s i), false, zV, false, true⟩] (joinR [downI (rdV false (c9 s i)) false]))) (.hole 0))))) (.fork (.res (.sl 11 false true [I.p ⟨(rdV false (c9 s i)), false, zV, false, true⟩]) (.res (resL (joinR [downI (rdV false (c9 s i)) false])) (.res (resL (meetR [⟨rdV false (c9 s i), false, zV, false, true⟩] (joinR [downI (rdV false (c9 s i)) false]))) (.hole 0)))) (.fork (.res (resL (joinR [downI (rdV false (c9 s i)) true])) (.hole 0)) (.fork (.res (resL (joinR [downI (rdV false (c9 s i)) false])) (.hole 0)) (.fork (.res (.sl 11 false true [I.p ⟨(rdV false (c9 s i)), true, zV, false, true⟩]) (.hole 0)) (.fork (.res (.sl 11 false true [I.p ⟨(rdV false (c9 s i)), false, zV, false, true⟩]) (.hole 0)) (.fork (.res (LF.p (uptoR (rdV false (c9 s i)) (1 : Int))) (.hole 0)) (.fork (.fork (.res (LF.p (uptoR (rdV false (c9 s i)) (0 : Int))) (.hole 0)) (.fork (.res (LF.p (uptoR (rdV false (c9 s i)) (1 : Int))) (.hole 0)) (.res (LF.p (uptoR (rdV false (c9 s i)) (2 : Int))) (.hole 0)))) (.hole 0))))))))))))))))))))) (.lts 14 (.res (.tup [V.p (rdV false (c9 s i)), intP (errV (rdOk (c9 s i)))]) (.fork (.hole 0) (.fork (.br true (.res (.sl 11 false true [I.p ⟨(rdV false (c9 s i)), false, zV, false, true⟩]) (.res (resL (joinR [downI (rdV false (c9 s i)) false])) (.res (resL (meetR [⟨rdV false (c9 s i), false, zV, false, true⟩] (joinR [downI (rdV false (c9 s i)) false]))) (.hole 0))))) (.fork (.res (.sl 11 false true [I.p ⟨(rdV false (c9 s i)), false, zV, false, true⟩]) (.res (resL (joinR [downI (rdV false (c9 s i)) false])) (.res (resL (meetR [⟨rdV false (c9 s i), false, zV, false, true⟩] (joinR [downI (rdV false (c9 s i)) false]))) (.hole 0)))) (.fork (.res (resL (joinR [downI (rdV false (c9 s i)) true])) (.hole 0)) (.fork (.res (resL (joinR [downI (rdV false (c9 s i)) false])) (.hole 0)) (.fork (.res (.sl 11 false true [I.p ⟨(rdV false (c9 s i)), true, zV, false, true⟩]) (.hole 0)) (.fork (.res (.sl 11 false true [I.p ⟨(rdV false (c9 s i)), false, zV, false, true⟩]) (.hole 0)) (.fork (.res (LF.p (uptoR (rdV false (c9 s i)) (1 : Int))) (.hole 0)) (.fork (.fork (.res (LF.p (uptoR (rdV false (c9 s i)) (0 : Int))) (.hole 0)) (.fork (.res (LF.p (uptoR (rdV false (c9 s i)) (1 : Int))) (.hole 0)) (.res (LF.p (uptoR (rdV false (c9 s i)) (2 : Int))) (.hole 0)))) (.hole 0))))))))))))) (ref08_compared_S0 s i j jr g) =
  (((decide (i < (↑(ByteArray.size (bs s)) : Int))) = true →
 (((0 : Int) ≤ i) ∧ (Int.toNat i < ByteArray.size (bs s))) ∧
 (((↑(UInt8.toNat (List.getD s (Int.toNat i) 0)) : Int) == (60 : Int)) = true →
 AtAll Tryz.f99 r 0 (ref08_compared_S0 s (IntKind.i64.wrap (i + (1 : Int))))) ∧
 (((↑(UInt8.toNat (List.getD s (Int.toNat i) 0)) : Int) == (60 : Int)) = false →
 (((0 : Int) ≤ i) ∧ (Int.toNat i < ByteArray.size (bs s))) ∧
 (((↑(UInt8.toNat (List.getD s (Int.toNat i) 0)) : Int) == (62 : Int)) = true →
 AtAll Tryz.f99 r 0 (ref08_compared_S0 s (IntKind.i64.wrap (i + (1 : Int))))) ∧
 (((↑(UInt8.toNat (List.getD s (Int.toNat i) 0)) : Int) == (62 : Int)) = false →
 (((0 : Int) ≤ i) ∧ (Int.toNat i < ByteArray.size (bs s))) ∧
 (((↑(UInt8.toNat (List.getD s (Int.toNat i) 0)) : Int) == (61 : Int)) = true →
 AtAll Tryz.f99 r 0 (ref08_compared_S0 s (IntKind.i64.wrap (i + (1 : Int))))) ∧
 (((↑(UInt8.toNat (List.getD s (Int.toNat i) 0)) : Int) == (61 : Int)) = false →
 (((0 : Int) ≤ i) ∧ (Int.toNat i < ByteArray.size (bs s))) ∧
 (((↑(UInt8.toNat (List.getD s (Int.toNat i) 0)) : Int) == (126 : Int)) = true →
 AtAll Tryz.f99 r 0 (ref08_compared_S0 s (IntKind.i64.wrap (i + (1 : Int))))) ∧
 (((↑(UInt8.toNat (List.getD s (Int.toNat i) 0)) : Int) == (126 : Int)) = false →
 (((0 : Int) ≤ i) ∧ (Int.toNat i < ByteArray.size (bs s))) ∧
 (((↑(UInt8.toNat (List.getD s (Int.toNat i) 0)) : Int) == (94 : Int)) = true →
 AtAll Tryz.f99 r 0 (ref08_compared_S0 s (IntKind.i64.wrap (i + (1 : Int))))) ∧
 (((↑(UInt8.toNat (List.getD s (Int.toNat i) 0)) : Int) == (94 : Int)) = false →
 (((0 : Int) ≤ i) ∧ (i ≤ (↑(ByteArray.size (bs s)) : Int))) ∧
 (Den E1 49 [PV.lit (.string (ByteArray.extract (bs s) (Int.toNat i) (ByteArray.size (bs s))))] (.tup [V.p (rdV false (c9 s i)), intP (errV (rdOk (c9 s i)))])) ∧
 ((g + 34 + 7) = g + 34 + 7) ∧
 ((errV (rdOk (c9 s i)) != (0 : Int)) = true →
 ((.tup [.sl 0 true true [], bolP false]) : PV) = r) ∧
 ((errV (rdOk (c9 s i)) != (0 : Int)) = false →
 (((0 : Int) ≤ i) ∧ (i ≤ (↑(ByteArray.size (bs s)) : Int))) ∧
 ((ByteArray.toList (ByteArray.extract (bs s) (0 : Nat) (Int.toNat i)) == ByteArray.toList (bs [])) = true →
 ((ByteArray.toList (ByteArray.extract (bs s) (0 : Nat) (Int.toNat i)) == ByteArray.toList (bs [])) = true) ∧
 ((g + 34 + 7) = g + 34 + 7) ∧
 (Den E1 67 [V.p (rdV false (c9 s i)), bolP false] (.sl 11 false true [I.p ⟨(rdV false (c9 s i)), false, zV, false, true⟩])) ∧
 ((g + 34 + 7) = g + 34 + 7) ∧
 (Den E1 66 [V.p (rdV false (c9 s i)), bolP false] (resL (joinR [downI (rdV false (c9 s i)) false]))) ∧
 (Den E1 61 [.sl 11 false true [I.p ⟨(rdV false (c9 s i)), false, zV, false, true⟩], resL (joinR [downI (rdV false (c9 s i)) false])] (resL (meetR [⟨rdV false (c9 s i), false, zV, false, true⟩] (joinR [downI (rdV false (c9 s i)) false])))) ∧
 ((.tup [resL (meetR [⟨rdV false (c9 s i), false, zV, false, true⟩] (joinR [downI (rdV false (c9 s i)) false])), bolP true]) : PV) = r) ∧
 ((ByteArray.toList (ByteArray.extract (bs s) (0 : Nat) (Int.toNat i)) == ByteArray.toList (bs [])) = false →
 ((ByteArray.toList (ByteArray.extract (bs s) (0 : Nat) (Int.toNat i)) == ByteArray.toList (bs [61])) = true →
 ((g + 34 + 7) = g + 34 + 7) ∧
 (Den E1 67 [V.p (rdV false (c9 s i)), bolP false] (.sl 11 false true [I.p ⟨(rdV false (c9 s i)), false, zV, false, true⟩])) ∧
 ((g + 34 + 7) = g + 34 + 7) ∧
 (Den E1 66 [V.p (rdV false (c9 s i)), bolP false] (resL (joinR [downI (rdV false (c9 s i)) false]))) ∧
 (Den E1 61 [.sl 11 false true [I.p ⟨(rdV false (c9 s i)), false, zV, false, true⟩], resL (joinR [downI (rdV false (c9 s i)) false])] (resL (meetR [⟨rdV false (c9 s i), false, zV, false, true⟩] (joinR [downI (rdV false (c9 s i)) false])))) ∧
 ((.tup [resL (meetR [⟨rdV false (c9 s i), false, zV, false, true⟩] (joinR [downI (rdV false (c9 s i)) false])), bolP true]) : PV) = r) ∧
 ((ByteArray.toList (ByteArray.extract (bs s) (0 : Nat) (Int.toNat i)) == ByteArray.toList (bs [61])) = false →
 ((ByteArray.toList (ByteArray.extract (bs s) (0 : Nat) (Int.toNat i)) == ByteArray.toList (bs [60])) = true →
 ((g + 34 + 7) = g + 34 + 7) ∧
 (Den E1 66 [V.p (rdV false (c9 s i)), bolP true] (resL (joinR [downI (rdV false (c9 s i)) true]))) ∧
 ((.tup [resL (joinR [downI (rdV false (c9 s i)) true]), bolP true]) : PV) = r) ∧
 ((ByteArray.toList (ByteArray.extract (bs s) (0 : Nat) (Int.toNat i)) == ByteArray.toList (bs [60])) = false →
 ((ByteArray.toList (ByteArray.extract (bs s) (0 : Nat) (Int.toNat i)) == ByteArray.toList (bs [60, 61])) = true →
 ((g + 34 + 7) = g + 34 + 7) ∧
 (Den E1 66 [V.p (rdV false (c9 s i)), bolP false] (resL (joinR [downI (rdV false (c9 s i)) false]))) ∧
 ((.tup [resL (joinR [downI (rdV false (c9 s i)) false]), bolP true]) : PV) = r) ∧
 ((ByteArray.toList (ByteArray.extract (bs s) (0 : Nat) (Int.toNat i)) == ByteArray.toList (bs [60, 61])) = false →
 ((ByteArray.toList (ByteArray.extract (bs s) (0 : Nat) (Int.toNat i)) == ByteArray.toList (bs [62])) = true →
 ((g + 34 + 7) = g + 34 + 7) ∧
 (Den E1 67 [V.p (rdV false (c9 s i)), bolP true] (.sl 11 false true [I.p ⟨(rdV false (c9 s i)), true, zV, false, true⟩])) ∧
 ((.tup [.sl 11 false true [I.p ⟨(rdV false (c9 s i)), true, zV, false, true⟩], bolP true]) : PV) = r) ∧
 ((ByteArray.toList (ByteArray.extract (bs s) (0 : Nat) (Int.toNat i)) == ByteArray.toList (bs [62])) = false →
 ((ByteArray.toList (ByteArray.extract (bs s) (0 : Nat) (Int.toNat i)) == ByteArray.toList (bs [62, 61])) = true →
 ((g + 34 + 7) = g + 34 + 7) ∧
 (Den E1 67 [V.p (rdV false (c9 s i)), bolP false] (.sl 11 false true [I.p ⟨(rdV false (c9 s i)), false, zV, false, true⟩])) ∧
 ((.tup [.sl 11 false true [I.p ⟨(rdV false (c9 s i)), false, zV, false, true⟩], bolP true]) : PV) = r) ∧
 ((ByteArray.toList (ByteArray.extract (bs s) (0 : Nat) (Int.toNat i)) == ByteArray.toList (bs [62, 61])) = false →
 ((ByteArray.toList (ByteArray.extract (bs s) (0 : Nat) (Int.toNat i)) == ByteArray.toList (bs [126])) = true →
 ((g + 34 + 7) = g + 34 + 7) ∧
 (Den E1 133 [V.p (rdV false (c9 s i)), intP 1] (LF.p (uptoR (rdV false (c9 s i)) (1 : Int)))) ∧
 ((.tup [LF.p (uptoR (rdV false (c9 s i)) (1 : Int)), bolP true]) : PV) = r) ∧
 ((ByteArray.toList (ByteArray.extract (bs s) (0 : Nat) (Int.toNat i)) == ByteArray.toList (bs [126])) = false →
 ((ByteArray.toList (ByteArray.extract (bs s) (0 : Nat) (Int.toNat i)) == ByteArray.toList (bs [94])) = true →
 ((g + 34 + 7) = g + 34 + 7) ∧
 ((decide (V.a (rdV false (c9 s i)) > (0 : Int))) = true →
 ((g + 34 + 7) = g + 34 + 7) ∧
 (Den E1 133 [V.p (rdV false (c9 s i)), intP 0] (LF.p (uptoR (rdV false (c9 s i)) (0 : Int)))) ∧
 ((.tup [LF.p (uptoR (rdV false (c9 s i)) (0 : Int)), bolP true]) : PV) = r) ∧
 ((decide (V.a (rdV false (c9 s i)) > (0 : Int))) = false →
 ((g + 34 + 7) = g + 34 + 7) ∧
 ((decide (V.b (rdV false (c9 s i)) > (0 : Int))) = true →
 ((g + 34 + 7) = g + 34 + 7) ∧
 (Den E1 133 [V.p (rdV false (c9 s i)), intP 1] (LF.p (uptoR (rdV false (c9 s i)) (1 : Int)))) ∧
 ((.tup [LF.p (uptoR (rdV false (c9 s i)) (1 : Int)), bolP true]) : PV) = r) ∧
 ((decide (V.b (rdV false (c9 s i)) > (0 : Int))) = false →
 ((g + 34 + 7) = g + 34 + 7) ∧
 (Den E1 133 [V.p (rdV false (c9 s i)), intP 2] (LF.p (uptoR (rdV false (c9 s i)) (2 : Int)))) ∧
 ((.tup [LF.p (uptoR (rdV false (c9 s i)) (2 : Int)), bolP true]) : PV) = r))) ∧
 ((ByteArray.toList (ByteArray.extract (bs s) (0 : Nat) (Int.toNat i)) == ByteArray.toList (bs [94])) = false →
 ((.tup [.sl 0 true true [], bolP false]) : PV) = r))))))))))))))) ∧
 ((decide (i < (↑(ByteArray.size (bs s)) : Int))) = false →
 (((0 : Int) ≤ i) ∧ (i ≤ (↑(ByteArray.size (bs s)) : Int))) ∧
 (Den E1 49 [PV.lit (.string (ByteArray.extract (bs s) (Int.toNat i) (ByteArray.size (bs s))))] (.tup [V.p (rdV false (c9 s i)), intP (errV (rdOk (c9 s i)))])) ∧
 ((g + 34 + 7) = g + 34 + 7) ∧
 ((errV (rdOk (c9 s i)) != (0 : Int)) = true →
 ((.tup [.sl 0 true true [], bolP false]) : PV) = r) ∧
 ((errV (rdOk (c9 s i)) != (0 : Int)) = false →
 (((0 : Int) ≤ i) ∧ (i ≤ (↑(ByteArray.size (bs s)) : Int))) ∧
 ((ByteArray.toList (ByteArray.extract (bs s) (0 : Nat) (Int.toNat i)) == ByteArray.toList (bs [])) = true →
 ((ByteArray.toList (ByteArray.extract (bs s) (0 : Nat) (Int.toNat i)) == ByteArray.toList (bs [])) = true) ∧
 ((g + 34 + 7) = g + 34 + 7) ∧
 (Den E1 67 [V.p (rdV false (c9 s i)), bolP false] (.sl 11 false true [I.p ⟨(rdV false (c9 s i)), false, zV, false, true⟩])) ∧
 ((g + 34 + 7) = g + 34 + 7) ∧
 (Den E1 66 [V.p (rdV false (c9 s i)), bolP false] (resL (joinR [downI (rdV false (c9 s i)) false]))) ∧
 (Den E1 61 [.sl 11 false true [I.p ⟨(rdV false (c9 s i)), false, zV, false, true⟩], resL (joinR [downI (rdV false (c9 s i)) false])] (resL (meetR [⟨rdV false (c9 s i), false, zV, false, true⟩] (joinR [downI (rdV false (c9 s i)) false])))) ∧
 ((.tup [resL (meetR [⟨rdV false (c9 s i), false, zV, false, true⟩] (joinR [downI (rdV false (c9 s i)) false])), bolP true]) : PV) = r) ∧
 ((ByteArray.toList (ByteArray.extract (bs s) (0 : Nat) (Int.toNat i)) == ByteArray.toList (bs [])) = false →
 ((ByteArray.toList (ByteArray.extract (bs s) (0 : Nat) (Int.toNat i)) == ByteArray.toList (bs [61])) = true →
 ((g + 34 + 7) = g + 34 + 7) ∧
 (Den E1 67 [V.p (rdV false (c9 s i)), bolP false] (.sl 11 false true [I.p ⟨(rdV false (c9 s i)), false, zV, false, true⟩])) ∧
 ((g + 34 + 7) = g + 34 + 7) ∧
 (Den E1 66 [V.p (rdV false (c9 s i)), bolP false] (resL (joinR [downI (rdV false (c9 s i)) false]))) ∧
 (Den E1 61 [.sl 11 false true [I.p ⟨(rdV false (c9 s i)), false, zV, false, true⟩], resL (joinR [downI (rdV false (c9 s i)) false])] (resL (meetR [⟨rdV false (c9 s i), false, zV, false, true⟩] (joinR [downI (rdV false (c9 s i)) false])))) ∧
 ((.tup [resL (meetR [⟨rdV false (c9 s i), false, zV, false, true⟩] (joinR [downI (rdV false (c9 s i)) false])), bolP true]) : PV) = r) ∧
 ((ByteArray.toList (ByteArray.extract (bs s) (0 : Nat) (Int.toNat i)) == ByteArray.toList (bs [61])) = false →
 ((ByteArray.toList (ByteArray.extract (bs s) (0 : Nat) (Int.toNat i)) == ByteArray.toList (bs [60])) = true →
 ((g + 34 + 7) = g + 34 + 7) ∧
 (Den E1 66 [V.p (rdV false (c9 s i)), bolP true] (resL (joinR [downI (rdV false (c9 s i)) true]))) ∧
 ((.tup [resL (joinR [downI (rdV false (c9 s i)) true]), bolP true]) : PV) = r) ∧
 ((ByteArray.toList (ByteArray.extract (bs s) (0 : Nat) (Int.toNat i)) == ByteArray.toList (bs [60])) = false →
 ((ByteArray.toList (ByteArray.extract (bs s) (0 : Nat) (Int.toNat i)) == ByteArray.toList (bs [60, 61])) = true →
 ((g + 34 + 7) = g + 34 + 7) ∧
 (Den E1 66 [V.p (rdV false (c9 s i)), bolP false] (resL (joinR [downI (rdV false (c9 s i)) false]))) ∧
 ((.tup [resL (joinR [downI (rdV false (c9 s i)) false]), bolP true]) : PV) = r) ∧
 ((ByteArray.toList (ByteArray.extract (bs s) (0 : Nat) (Int.toNat i)) == ByteArray.toList (bs [60, 61])) = false →
 ((ByteArray.toList (ByteArray.extract (bs s) (0 : Nat) (Int.toNat i)) == ByteArray.toList (bs [62])) = true →
 ((g + 34 + 7) = g + 34 + 7) ∧
 (Den E1 67 [V.p (rdV false (c9 s i)), bolP true] (.sl 11 false true [I.p ⟨(rdV false (c9 s i)), true, zV, false, true⟩])) ∧
 ((.tup [.sl 11 false true [I.p ⟨(rdV false (c9 s i)), true, zV, false, true⟩], bolP true]) : PV) = r) ∧
 ((ByteArray.toList (ByteArray.extract (bs s) (0 : Nat) (Int.toNat i)) == ByteArray.toList (bs [62])) = false →
 ((ByteArray.toList (ByteArray.extract (bs s) (0 : Nat) (Int.toNat i)) == ByteArray.toList (bs [62, 61])) = true →
 ((g + 34 + 7) = g + 34 + 7) ∧
 (Den E1 67 [V.p (rdV false (c9 s i)), bolP false] (.sl 11 false true [I.p ⟨(rdV false (c9 s i)), false, zV, false, true⟩])) ∧
 ((.tup [.sl 11 false true [I.p ⟨(rdV false (c9 s i)), false, zV, false, true⟩], bolP true]) : PV) = r) ∧
 ((ByteArray.toList (ByteArray.extract (bs s) (0 : Nat) (Int.toNat i)) == ByteArray.toList (bs [62, 61])) = false →
 ((ByteArray.toList (ByteArray.extract (bs s) (0 : Nat) (Int.toNat i)) == ByteArray.toList (bs [126])) = true →
 ((g + 34 + 7) = g + 34 + 7) ∧
 (Den E1 133 [V.p (rdV false (c9 s i)), intP 1] (LF.p (uptoR (rdV false (c9 s i)) (1 : Int)))) ∧
 ((.tup [LF.p (uptoR (rdV false (c9 s i)) (1 : Int)), bolP true]) : PV) = r) ∧
 ((ByteArray.toList (ByteArray.extract (bs s) (0 : Nat) (Int.toNat i)) == ByteArray.toList (bs [126])) = false →
 ((ByteArray.toList (ByteArray.extract (bs s) (0 : Nat) (Int.toNat i)) == ByteArray.toList (bs [94])) = true →
 ((g + 34 + 7) = g + 34 + 7) ∧
 ((decide (V.a (rdV false (c9 s i)) > (0 : Int))) = true →
 ((g + 34 + 7) = g + 34 + 7) ∧
 (Den E1 133 [V.p (rdV false (c9 s i)), intP 0] (LF.p (uptoR (rdV false (c9 s i)) (0 : Int)))) ∧
 ((.tup [LF.p (uptoR (rdV false (c9 s i)) (0 : Int)), bolP true]) : PV) = r) ∧
 ((decide (V.a (rdV false (c9 s i)) > (0 : Int))) = false →
 ((g + 34 + 7) = g + 34 + 7) ∧
 ((decide (V.b (rdV false (c9 s i)) > (0 : Int))) = true →
 ((g + 34 + 7) = g + 34 + 7) ∧
 (Den E1 133 [V.p (rdV false (c9 s i)), intP 1] (LF.p (uptoR (rdV false (c9 s i)) (1 : Int)))) ∧
 ((.tup [LF.p (uptoR (rdV false (c9 s i)) (1 : Int)), bolP true]) : PV) = r) ∧
 ((decide (V.b (rdV false (c9 s i)) > (0 : Int))) = false →
 ((g + 34 + 7) = g + 34 + 7) ∧
 (Den E1 133 [V.p (rdV false (c9 s i)), intP 2] (LF.p (uptoR (rdV false (c9 s i)) (2 : Int)))) ∧
 ((.tup [LF.p (uptoR (rdV false (c9 s i)) (2 : Int)), bolP true]) : PV) = r))) ∧
 ((ByteArray.toList (ByteArray.extract (bs s) (0 : Nat) (Int.toNat i)) == ByteArray.toList (bs [94])) = false →
 ((.tup [.sl 0 true true [], bolP false]) : PV) = r))))))))))) := by kernel_rfl
end Go.Proofs.YtlhfgonjcpapnaaGreatDoor.Abs

set_option maxRecDepth 20000
set_option maxHeartbeats 2000000
namespace Go.Proofs.YtlhfgonjcpapnaaGreatDoor.Abs
open Go Go.Proofs
theorem stepR_len (out : List I) (x : I) : (stepR out x).length ≤ out.length + 1 := by
  unfold stepR
  split
  · simp
  · split
    · split
      · rw [List.length_set]; omega
      · omega
    · simp
theorem foldR_len : ∀ (l out : List I), (l.foldl stepR out).length ≤ out.length + l.length
  | [], out => by simp
  | x :: l, out => by
    have h1 := foldR_len l (stepR out x)
    have h2 := stepR_len out x
    simp only [List.foldl_cons, List.length_cons]
    omega
theorem sortR_len : ∀ (l s : List I), (sortR l s).length ≤ s.length + l.length
  | [], s => by simp [sortR]
  | x :: l, s => by
    have h1 : sortR (x :: l) s = sortR l (if emptyI x then s else insR s x) := rfl
    rw [h1]
    have h2 := sortR_len l (if emptyI x then s else insR s x)
    have h3 : (if emptyI x then s else insR s x).length ≤ s.length + 1 := by
      split
      · omega
      · rw [insR_len]; exact Nat.le_refl _
    simp only [List.length_cons]
    omega
theorem joinR_len (l : List I) : (joinR l).length ≤ l.length := by
  have h := foldR_len (sortR l []) []
  have h2 := sortR_len l []
  simp only [List.length_nil, Nat.zero_add] at h h2
  unfold joinR
  omega
theorem meetR_len (l m : List I) : (meetR l m).length ≤ l.length * m.length := by
  have h : ∀ l : List I, (l.flatMap fun x => m.map fun y => meet1 x y).length = l.length * m.length := by
    intro l
    induction l with
    | nil => simp
    | cons x l ih => rw [List.flatMap_cons, List.length_append, ih, List.length_map, List.length_cons, Nat.add_mul, Nat.one_mul, Nat.add_comm]
  have := joinR_len (l.flatMap fun x => m.map fun y => meet1 x y)
  rw [h] at this
  exact this
section
variable {P : I → Prop} (hu : ∀ x y, P x → P y → P (upR x y)) (hf : ∀ v o, v.gd → P (fromI v o)) (hd : ∀ v o, v.gd → P (downI v o))
theorem mem_insR {s : List I} {x y : I} (h : y ∈ insR s x) : y ∈ s ∨ y = x := by
  unfold insR at h
  rcases List.mem_append.1 h with h | h
  · exact .inl (List.mem_of_mem_take h)
  · rcases List.mem_cons.1 h with h | h
    · exact .inr h
    · exact .inl (List.mem_of_mem_drop h)
theorem mem_sortR {y : I} : ∀ (l s : List I), y ∈ sortR l s → y ∈ s ∨ y ∈ l
  | [], s, h => .inl h
  | x :: l, s, h => by
    have h1 : sortR (x :: l) s = sortR l (if emptyI x then s else insR s x) := rfl
    rw [h1] at h
    rcases mem_sortR l _ h with h | h
    · split at h
      · exact .inl h
      · rcases mem_insR h with h | h
        · exact .inl h
        · exact .inr (List.mem_cons.2 (.inl h))
    · exact .inr (List.mem_cons.2 (.inr h))
include hu
theorem stepR_all {out : List I} {x : I} (ho : ∀ y ∈ out, P y) (hx : P x) : ∀ y ∈ stepR out x, P y := by
  unfold stepR
  split
  · intro y hy; rw [List.mem_singleton.1 hy]; exact hx
  · rename_i hne
    have hlt : out.length - 1 < out.length := by
      have : out ≠ [] := by rintro rfl; simp at hne
      have := List.length_pos_iff.2 this
      omega
    split
    · split
      · intro y hy
        rcases List.mem_or_eq_of_mem_set hy with hy | rfl
        · exact ho y hy
        · exact hu _ _ (ho _ (getD_mem hlt default)) hx
      · exact ho
    · intro y hy
      rcases List.mem_append.1 hy with hy | hy
      · exact ho y hy
      · rw [List.mem_singleton.1 hy]; exact hx
theorem joinR_all {l : List I} (hl : ∀ x ∈ l, P x) : ∀ y ∈ joinR l, P y := by
  have : ∀ (l out : List I), (∀ x ∈ l, P x) → (∀ y ∈ out, P y) → ∀ y ∈ l.foldl stepR out, P y := by
    intro l
    induction l with
    | nil => intro out _ h; exact h
    | cons x l ih => intro out h1 h2; exact ih _ (fun y hy => h1 y (List.mem_cons_of_mem _ hy)) (stepR_all hu h2 (h1 x (List.mem_cons_self ..)))
  unfold joinR
  refine this _ [] (fun x hx => ?_) (by simp)
  rcases mem_sortR l [] hx with h | h
  · simp at h
  · exact hl x h
theorem all_meet1 {x y : I} (hx : P x) (hy : P y) : P (meet1 x y) := by
  cases h1 : decide (lowB x.lb y.lb < 0) with
  | true =>
    cases h2 : decide (highI y (mixL x y) < 0) with
    | true => rw [meet1_a h1 h2]; exact hy
    | false => rw [meet1_b h1 h2]; exact hu _ _ hy hx
  | false =>
    cases h2 : decide (highI y x < 0) with
    | true => rw [meet1_c h1 h2]; exact hu _ _ hx hy
    | false => rw [meet1_d h1 h2]; exact hx
theorem all_meetR {l m : List I} (hl : ∀ x ∈ l, P x) (hm : ∀ x ∈ m, P x) : ∀ x ∈ meetR l m, P x := by
  refine joinR_all hu fun z hz => ?_
  obtain ⟨x, hx, hz⟩ := List.mem_flatMap.1 hz
  obtain ⟨y, hy, rfl⟩ := List.mem_map.1 hz
  exact all_meet1 hu (hl x hx) (hm y hy)
include hf hd
theorem all_uptoR {v : V} (hv : v.gd) {n : Int} (h0 : 0 ≤ n) (h2 : n ≤ 2) : ∀ y ∈ (uptoR v n).l, P y := by
  unfold uptoR
  split
  · exact all_meetR hu (all_one (hf v false hv)) (joinR_all hu (all_one (hd _ true (least_gd hv h0 h2))))
  · exact all_one (hf v false hv)
theorem all_cmprR (s : List UInt8) : ∀ y ∈ (cmprR s).1.l, P y := by
  have hv := rd_gd false (trimL s)
  have hk := kind_is (rdV false (trimL s))
  unfold cmprR
  split
  · simp only []
    repeat' split
    · exact all_meetR hu (all_one (hf _ false hv)) (joinR_all hu (all_one (hd _ false hv)))
    · exact joinR_all hu (all_one (hd _ true hv))
    · exact joinR_all hu (all_one (hd _ false hv))
    · exact all_one (hf _ true hv)
    · exact all_one (hf _ false hv)
    · exact all_uptoR hu hf hd hv hk.1 hk.2
    · exact all_uptoR hu hf hd hv (by omega) (by omega)
    · intro y hy; simp [lf0] at hy
  · intro y hy; simp [lf0] at hy
theorem all_altGoR : ∀ (ps : List (List UInt8)) (c : LF), (∀ y ∈ c.l, P y) → ∀ y ∈ (altGoR ps c).1.l, P y
  | [], c, h => by rw [altGoR]; exact h
  | p :: ps, c, h => by
    rw [altGoR]
    split
    · exact all_altGoR ps _ (all_meetR hu h (all_cmprR hu hf hd p))
    · intro y hy; simp [lf0] at hy
theorem all_altR (s : List UInt8) : ∀ y ∈ (altR s).1.l, P y := by
  have he : P everyI := hf bottomV false bottom_gd
  unfold altR
  split
  · exact all_one he
  · split
    · intro y hy; simp [lf0] at hy
    · split
      · intro y hy; simp [lf0] at hy
      · exact all_altGoR hu hf hd _ _ (all_one he)
end
theorem up_good (x y : I) (hx : good x) (hy : good y) : good (upR x y) := good_up hx hy
theorem from_gd (v : V) (o : Bool) (h : v.gd) : good (fromI v o) := from_good h.ok h.may o
theorem down_gd (v : V) (o : Bool) (h : v.gd) : good (downI v o) := down_good h.ok h.may o
theorem len_upto (v : V) (n : Int) : (uptoR v n).l.length ≤ 1 := by
  unfold uptoR
  split
  · have h1 := meetR_len [fromI v false] (joinR [downI (leastV (nextV v n)) true])
    have h3 := joinR_len [downI (leastV (nextV v n)) true]
    simp only [List.length_singleton, Nat.one_mul] at h1 h3
    show (meetR _ _).length ≤ 1
    omega
  · simp [lf1]
theorem sl_uptoR (v : V) (n : Int) : slOk 11 (uptoR v n).k (uptoR v n).nl (uptoR v n).l.length := by
  unfold uptoR
  split
  · exact tw_sl _
  · exact ⟨(by simp [lf1]), fun _ => rfl⟩
theorem is_cmprR (s : List UInt8) : slOk 11 (cmprR s).1.k (cmprR s).1.nl (cmprR s).1.l.length ∧ (cmprR s).1.l.length ≤ 1 := by
  have hj : ∀ o, (joinR [downI (rdV false (trimL s)) o]).length ≤ 1 := fun o => joinR_len [downI (rdV false (trimL s)) o]
  have hm : (meetR [fromI (rdV false (trimL s)) false] (joinR [downI (rdV false (trimL s)) false])).length ≤ 1 := by
    have h1 := meetR_len [fromI (rdV false (trimL s)) false] (joinR [downI (rdV false (trimL s)) false])
    have := hj false
    simp only [List.length_singleton, Nat.one_mul] at h1
    omega
  have h1 : ∀ x : I, slOk 11 (lf1 x).k (lf1 x).nl (lf1 x).l.length ∧ (lf1 x).l.length ≤ 1 := fun x => ⟨⟨(by simp [lf1]), fun _ => rfl⟩, (by simp [lf1])⟩
  have h0 : slOk 11 lf0.k lf0.nl lf0.l.length ∧ lf0.l.length ≤ 1 := ⟨⟨fun _ => rfl, (by simp [lf0])⟩, (by simp [lf0])⟩
  unfold cmprR
  split
  · simp only []
    repeat' split
    · exact ⟨tw_sl _, hm⟩
    · exact ⟨tw_sl _, hj true⟩
    · exact ⟨tw_sl _, hj false⟩
    · exact h1 _
    · exact h1 _
    · exact ⟨sl_uptoR _ _, len_upto _ _⟩
    · exact ⟨sl_uptoR _ _, len_upto _ _⟩
    · exact h0
  · exact h0
theorem good_cmprR (s : List UInt8) : goods (cmprR s).1.l := all_cmprR up_good from_gd down_gd s
theorem den_meetR_fd (v w : V) (o p : Bool) (hv : v.gd) (hw : w.gd) : Den E1 61 [.sl 11 false true [itvP v.a v.b v.c (preP v.k v.nl v.full v.pre) o 0 0 0 (.sl 0 true true []) false true], resL (joinR [downI w p])] (resL (meetR [⟨v, o, zV, false, true⟩] (joinR [downI w p]))) := by
  have hl := joinR_len [downI w p]
  simp only [List.length_singleton] at hl
  exact den_ref08_meet [fromI v o] (joinR [downI w p]) 11 _ false true _ _ (by simp) (by omega) (by simp only [List.length_singleton, Nat.one_mul]; omega) ⟨(by simp), fun _ => rfl⟩ (tw_sl _) (all_one (from_gd v o hv)) (joinR_all up_good (all_one (down_gd w p hw)))
theorem resR_fd {c : LF × Bool} {v w : V} {o p : Bool} (h : c = (lfR (meetR [fromI v o] (joinR [downI w p])), true)) : (.tup [resL (meetR [⟨v, o, zV, false, true⟩] (joinR [downI w p])), bolP true] : PV) = .tup [c.1.p, bolP c.2] := by rw [h]; try rfl
theorem resR_d {c : LF × Bool} {w : V} {p : Bool} (h : c = (lfR (joinR [downI w p]), true)) : (.tup [resL (joinR [downI w p]), bolP true] : PV) = .tup [c.1.p, bolP c.2] := by rw [h]; try rfl
theorem resR_u {c : LF × Bool} {v : V} {n : Int} (h : c = (uptoR v n, true)) : (.tup [(uptoR v n).p, bolP true] : PV) = .tup [c.1.p, bolP c.2] := by rw [h]
theorem den_upto (v : V) (hv : v.gd) (n : Int) (h0 : 0 ≤ n) (h2 : n ≤ 2) : Den E1 133 [v.p, intP n] (uptoR v n).p := by
  have hk := ref08_upto_go v n (uptoR v n).p
  rw [nextE_ne] at hk
  have hlg := least_gd hv h0 h2
  refine den1 2000 _ rfl (by kernel_rfl) rfl rfl rfl (Eq.mpr hk ⟨rfl, den_ref07_Next v hv.ok n h0 h2, rfl, fun h => ⟨rfl, den_above v false, ?_⟩, fun h => ⟨rfl, den_above v false, rfl, den_ref07_Least _, den_ref08_below (leastV (nextV v n)) true hlg.ok hlg.may, den_meetR_fd v (leastV (nextV v n)) false true hv hlg, ?_⟩⟩)
  · have : uptoR v n = lf1 (fromI v false) := by unfold uptoR; rw [not_eq.1 h]; try rfl
    rw [this]
    try rfl
  · have : uptoR v n = lfR (meetR [fromI v false] (joinR [downI (leastV (nextV v n)) true])) := by unfold uptoR; rw [not_eq.2 h]; try rfl
    rw [this]
    try rfl
theorem trim_stop {s : List UInt8} (h : ∀ c t, s = c :: t → trimC c.toNat = false) : trimL s = s := by
  cases s with
  | nil => rfl
  | cons c t => simp [trimL, h c t rfl]
theorem drop_cons {s : List UInt8} {i : Nat} (h : i < s.length) : s.drop i = s.getD i 0 :: s.drop (i + 1) := by
  rw [List.drop_eq_getElem_cons h, getD_lt h]
theorem cmpr_S0 (s : List UInt8) (hs : s.length < 1000000) : ∀ (n i : Nat) j jr g, i + n = s.length → trimL s = trimL (s.drop i) →
    LoopAt E1 Tryz.f99 (.tup [(cmprR s).1.p, bolP (cmprR s).2]) 0 (ref08_compared_S0 s i j jr g) := by
  have hstop : ∀ i, i ≤ s.length → trimL s = s.drop i → signL s = s.take i := by
    intro i hi h
    unfold signL
    rw [h, List.length_drop]
    congr 1
    omega
  intro n
  induction n with
  | zero =>
    intro i j0 jr0 g0 hi htr
    have hT : ByteArray.extract (bs s) (Int.toNat (i : Int)) (ByteArray.size (bs s)) = bs (s.drop i) := by
      rw [Int.toNat_natCast, extract_bs, size_bs, List.take_of_length_le (by simp)]
    have hS : ByteArray.extract (bs s) 0 (Int.toNat (i : Int)) = bs (s.take i) := by
      rw [Int.toNat_natCast, extract_bs]; try rfl
    have h0 := ref08_compared_go_S0 s i j0 jr0 g0 (.tup [(cmprR s).1.p, bolP (cmprR s).2])
    have hc9 : c9 s i = s.drop i := by
      show zbL _ = _
      rw [hT, zbL_bs]
    rw [hc9, hT, hS, errV_ne, toList_bs (s.take i), toList_bs [], toList_bs [61], toList_bs [60], toList_bs [60, 61], toList_bs [62], toList_bs [62, 61], toList_bs [126], toList_bs [94]] at h0
    have htr' : trimL s = s.drop i := by
      rw [htr, List.drop_eq_nil_of_le (by omega)]
      try rfl
    rw [← htr', ← hstop i (by omega) htr'] at h0
    refine loop_go 2000 _ (Eq.mpr h0 ⟨fun h => ?_, fun h => ?_⟩)
    · simp only [decide_eq_true_eq, size_bs] at h; omega
    have hv := rd_gd false (trimL s)
    have hsz : (0 : Int) ≤ (i : Int) ∧ (i : Int) ≤ (ByteArray.size (bs s) : Int) := ⟨by omega, by rw [size_bs]; omega⟩
    have sg : ∀ {a : List UInt8}, (signL s == a) = true → signL s = a := fun h => eq_of_beq h
    have ns : ∀ {a : List UInt8}, (signL s == a) = false → ¬ signL s = a := fun h e => by rw [e] at h; simp at h
    have hread := den_ref07_Read (trimL s)
    generalize hV : rdV false (trimL s) = v at hv hread ⊢
    have b1 := fun o => den_ref08_below v o hv.ok hv.may
    refine ⟨hsz, hread, (by trivial), fun h => ?_, fun h => ⟨hsz, fun h1 => ?_, fun h1 => ⟨fun h2 => ?_, fun h2 => ⟨fun h3 => ?_, fun h3 => ⟨fun h4 => ?_, fun h4 => ⟨fun h5 => ?_, fun h5 => ⟨fun h6 => ?_, fun h6 => ⟨fun h7 => ?_, fun h7 => ⟨fun h8 => ?_, fun h8 => ?_⟩⟩⟩⟩⟩⟩⟩⟩⟩
    · have h' : rdOk (trimL s) = false := not_eq.1 h
      exact res_no (by simp [cmprR, h'])
    · have h' : rdOk (trimL s) = true := not_eq.2 h
      exact ⟨h1, (by trivial), den_above v false, (by trivial), b1 false, den_meetR_fd v v false false hv hv, resR_fd (v := v) (w := v) (by simp [cmprR, h', hV, sg h1])⟩
    · have h' : rdOk (trimL s) = true := not_eq.2 h
      exact ⟨(by trivial), den_above v false, (by trivial), b1 false, den_meetR_fd v v false false hv hv, resR_fd (v := v) (w := v) (by simp [cmprR, h', hV, sg h2])⟩
    · have h' : rdOk (trimL s) = true := not_eq.2 h
      exact ⟨(by trivial), b1 true, resR_d (by simp [cmprR, h', hV, sg h3])⟩
    · have h' : rdOk (trimL s) = true := not_eq.2 h
      exact ⟨(by trivial), b1 false, resR_d (by simp [cmprR, h', hV, sg h4])⟩
    · have h' : rdOk (trimL s) = true := not_eq.2 h
      exact ⟨(by trivial), den_above v true, res_f (by simp [cmprR, h', hV, sg h5])⟩
    · have h' : rdOk (trimL s) = true := not_eq.2 h
      exact ⟨(by trivial), den_above v false, res_f (by simp [cmprR, h', hV, sg h6])⟩
    · have h' : rdOk (trimL s) = true := not_eq.2 h
      exact ⟨(by trivial), den_upto v hv 1 (by omega) (by omega), resR_u (by simp [cmprR, h', hV, sg h7])⟩
    · have h' : rdOk (trimL s) = true := not_eq.2 h
      have hc : cmprR s = (uptoR v (kindV v), true) := by simp [cmprR, h', hV, sg h8]
      refine ⟨(by trivial), fun h9 => ⟨(by trivial), den_upto v hv 0 (by omega) (by omega), resR_u (hc.trans ?_)⟩, fun h9 => ⟨(by trivial), fun h10 => ⟨(by trivial), den_upto v hv 1 (by omega) (by omega), resR_u (hc.trans ?_)⟩, fun h10 => ⟨(by trivial), den_upto v hv 2 (by omega) (by omega), resR_u (hc.trans ?_)⟩⟩⟩
      all_goals simp only [decide_eq_true_eq, decide_eq_false_iff_not] at h9
      all_goals try simp only [decide_eq_true_eq, decide_eq_false_iff_not] at h10
      all_goals unfold kindV
      · rw [if_pos h9]
      · rw [if_neg h9, if_pos h10]
      · rw [if_neg h9, if_neg h10]
    · have h' : rdOk (trimL s) = true := not_eq.2 h
      exact res_no (by simp [cmprR, h', ns h1, ns h2, ns h3, ns h4, ns h5, ns h6, ns h7, ns h8])
  | succ n ih =>
    intro i j0 jr0 g0 hi htr
    have hil : i < s.length := by omega
    have hw1 : IntKind.wrap IntKind.i64 ((i : Int) + 1) = ((i + 1 : Nat) : Int) := wrap_i64 _ (by omega) (by omega)
    have hdc := drop_cons hil
    have next : trimC (s.getD i 0).toNat = true → ∀ j jr g, LoopAt E1 Tryz.f99 (.tup [(cmprR s).1.p, bolP (cmprR s).2]) 0 (ref08_compared_S0 s (IntKind.wrap IntKind.i64 ((i : Int) + 1)) j jr g) := by
      intro hc j jr g
      rw [hw1]
      refine ih (i + 1) j jr g (by omega) ?_
      rw [htr, hdc]
      unfold trimL
      rw [List.dropWhile_cons, if_pos hc]
    by_cases hc : trimC (s.getD i 0).toNat = true
    · have hc' := hc
      simp only [trimC, Bool.or_eq_true] at hc'
      refine loop_go 2000 _ (Eq.mpr (ref08_compared_go_S0 s i j0 jr0 g0 _) ⟨fun h => ⟨?_, fun h1 => next hc, fun h1 => ⟨?_, fun h2 => next hc, fun h2 => ⟨?_, fun h3 => next hc, fun h3 => ⟨?_, fun h4 => next hc, fun h4 => ⟨?_, fun h5 => next hc, fun h5 => ?_⟩⟩⟩⟩⟩, fun h => ?_⟩)
      all_goals first
        | (refine ⟨by omega, ?_⟩; rw [size_bs, Int.toNat_natCast]; exact hil)
        | skip
      · rw [Int.toNat_natCast] at h1 h2 h3 h4 h5
        rw [h1, h2, h3, h4, h5] at hc'
        simp at hc'
      · simp only [decide_eq_false_iff_not, size_bs] at h; omega
    have hc' : trimC (s.getD i 0).toNat = false := by simpa using hc
    have hT : ByteArray.extract (bs s) (Int.toNat (i : Int)) (ByteArray.size (bs s)) = bs (s.drop i) := by
      rw [Int.toNat_natCast, extract_bs, size_bs, List.take_of_length_le (by simp)]
    have hS : ByteArray.extract (bs s) 0 (Int.toNat (i : Int)) = bs (s.take i) := by
      rw [Int.toNat_natCast, extract_bs]; try rfl
    have h0 := ref08_compared_go_S0 s i j0 jr0 g0 (.tup [(cmprR s).1.p, bolP (cmprR s).2])
    have hc9 : c9 s i = s.drop i := by
      show zbL _ = _
      rw [hT, zbL_bs]
    rw [hc9, hT, hS, errV_ne, toList_bs (s.take i), toList_bs [], toList_bs [61], toList_bs [60], toList_bs [60, 61], toList_bs [62], toList_bs [62, 61], toList_bs [126], toList_bs [94]] at h0
    have htr' : trimL s = s.drop i := by
      rw [htr]
      refine trim_stop fun c t e => ?_
      rw [hdc] at e
      injection e with e1 e2
      rw [← e1]; exact hc'
    rw [← htr', ← hstop i (by omega) htr'] at h0
    have hb : (0 : Int) ≤ (i : Int) ∧ Int.toNat (i : Int) < ByteArray.size (bs s) := ⟨by omega, by rw [size_bs, Int.toNat_natCast]; exact hil⟩
    have hn : ∀ {c : Int}, trimC c = true → ((↑(UInt8.toNat (List.getD s (Int.toNat (i : Int)) (0 : UInt8))) : Int) == c) = true → False := fun ht he => by
      rw [Int.toNat_natCast] at he
      rw [eq_of_beq he] at hc'
      rw [ht] at hc'; cases hc'
    refine loop_go 2000 _ (Eq.mpr h0 ⟨fun h => ⟨hb, fun h1 => (hn rfl h1).elim, fun h1 => ⟨hb, fun h2 => (hn rfl h2).elim, fun h2 => ⟨hb, fun h3 => (hn rfl h3).elim, fun h3 => ⟨hb, fun h4 => (hn rfl h4).elim, fun h4 => ⟨hb, fun h5 => (hn rfl h5).elim, fun h5 => ?_⟩⟩⟩⟩⟩, fun h => ?_⟩)
    rotate_left
    · simp only [decide_eq_false_iff_not, size_bs] at h; omega
    clear h1 h2 h3 h4 h5
    have hv := rd_gd false (trimL s)
    have hsz : (0 : Int) ≤ (i : Int) ∧ (i : Int) ≤ (ByteArray.size (bs s) : Int) := ⟨by omega, by rw [size_bs]; omega⟩
    have sg : ∀ {a : List UInt8}, (signL s == a) = true → signL s = a := fun h => eq_of_beq h
    have ns : ∀ {a : List UInt8}, (signL s == a) = false → ¬ signL s = a := fun h e => by rw [e] at h; simp at h
    have hread := den_ref07_Read (trimL s)
    generalize hV : rdV false (trimL s) = v at hv hread ⊢
    have b1 := fun o => den_ref08_below v o hv.ok hv.may
    refine ⟨hsz, hread, (by trivial), fun h => ?_, fun h => ⟨hsz, fun h1 => ?_, fun h1 => ⟨fun h2 => ?_, fun h2 => ⟨fun h3 => ?_, fun h3 => ⟨fun h4 => ?_, fun h4 => ⟨fun h5 => ?_, fun h5 => ⟨fun h6 => ?_, fun h6 => ⟨fun h7 => ?_, fun h7 => ⟨fun h8 => ?_, fun h8 => ?_⟩⟩⟩⟩⟩⟩⟩⟩⟩
    · have h' : rdOk (trimL s) = false := not_eq.1 h
      exact res_no (by simp [cmprR, h'])
    · have h' : rdOk (trimL s) = true := not_eq.2 h
      exact ⟨h1, (by trivial), den_above v false, (by trivial), b1 false, den_meetR_fd v v false false hv hv, resR_fd (v := v) (w := v) (by simp [cmprR, h', hV, sg h1])⟩
    · have h' : rdOk (trimL s) = true := not_eq.2 h
      exact ⟨(by trivial), den_above v false, (by trivial), b1 false, den_meetR_fd v v false false hv hv, resR_fd (v := v) (w := v) (by simp [cmprR, h', hV, sg h2])⟩
    · have h' : rdOk (trimL s) = true := not_eq.2 h
      exact ⟨(by trivial), b1 true, resR_d (by simp [cmprR, h', hV, sg h3])⟩
    · have h' : rdOk (trimL s) = true := not_eq.2 h
      exact ⟨(by trivial), b1 false, resR_d (by simp [cmprR, h', hV, sg h4])⟩
    · have h' : rdOk (trimL s) = true := not_eq.2 h
      exact ⟨(by trivial), den_above v true, res_f (by simp [cmprR, h', hV, sg h5])⟩
    · have h' : rdOk (trimL s) = true := not_eq.2 h
      exact ⟨(by trivial), den_above v false, res_f (by simp [cmprR, h', hV, sg h6])⟩
    · have h' : rdOk (trimL s) = true := not_eq.2 h
      exact ⟨(by trivial), den_upto v hv 1 (by omega) (by omega), resR_u (by simp [cmprR, h', hV, sg h7])⟩
    · have h' : rdOk (trimL s) = true := not_eq.2 h
      have hc : cmprR s = (uptoR v (kindV v), true) := by simp [cmprR, h', hV, sg h8]
      refine ⟨(by trivial), fun h9 => ⟨(by trivial), den_upto v hv 0 (by omega) (by omega), resR_u (hc.trans ?_)⟩, fun h9 => ⟨(by trivial), fun h10 => ⟨(by trivial), den_upto v hv 1 (by omega) (by omega), resR_u (hc.trans ?_)⟩, fun h10 => ⟨(by trivial), den_upto v hv 2 (by omega) (by omega), resR_u (hc.trans ?_)⟩⟩⟩
      all_goals simp only [decide_eq_true_eq, decide_eq_false_iff_not] at h9
      all_goals try simp only [decide_eq_true_eq, decide_eq_false_iff_not] at h10
      all_goals unfold kindV
      · rw [if_pos h9]
      · rw [if_neg h9, if_pos h10]
      · rw [if_neg h9, if_neg h10]
    · have h' : rdOk (trimL s) = true := not_eq.2 h
      exact res_no (by simp [cmprR, h', ns h1, ns h2, ns h3, ns h4, ns h5, ns h6, ns h7, ns h8])
theorem den_ref08_compared (s : List UInt8) (hs : s.length < 1000000) : Den E1 99 [strP s] (.tup [(cmprR s).1.p, bolP (cmprR s).2]) :=
  den1 2000 _ rfl (by kernel_rfl) rfl rfl rfl (Eq.mpr (ref08_compared_go s _) fun j jr g => cmpr_S0 s hs s.length 0 j jr g (by omega) rfl)
end Go.Proofs.YtlhfgonjcpapnaaGreatDoor.Abs

set_option maxRecDepth 20000
set_option maxHeartbeats 2000000
namespace Go.Proofs.YtlhfgonjcpapnaaGreatDoor.Abs
open Go Go.Proofs
theorem drop_consW {W : List (List UInt8)} {i : Nat} (h : i < W.length) : W.drop i = W.getD i default :: W.drop (i + 1) := by
  rw [List.drop_eq_getElem_cons h, getD_lt h]
theorem den_meetR_few (x y : LF) (hx : slOk 11 x.k x.nl x.l.length) (hy : slOk 11 y.k y.nl y.l.length) (hlx : x.l.length ≤ 1) (hly : y.l.length ≤ 1) (hgx : goods x.l) (hgy : goods y.l) : Den E1 61 [x.p, y.p] (resL (meetR x.l y.l)) := by
  have h2 : x.l.length * y.l.length ≤ 1 * 1 := Nat.mul_le_mul hlx hly
  exact den_ref08_meet x.l y.l x.k y.k x.nl x.full y.nl y.full (by omega) (by omega) (by omega) hx hy hgx hgy
theorem meetR_le1 {l m : List I} (hl : l.length ≤ 1) (hm : m.length ≤ 1) : (meetR l m).length ≤ 1 := by
  have := meetR_len l m
  have h2 : l.length * m.length ≤ 1 * 1 := Nat.mul_le_mul hl hm
  omega
theorem alt_S0 (s : List UInt8) (hs : s.length < 1000000) (hW : ∀ p ∈ Lib.split s [32], p.length < 1000000) (hWl : (Lib.split s [32]).length < 1000000) : ∀ (n i : Nat) (c : LF) j jr g, i + n = (Lib.split s [32]).length → slOk 11 c.k c.nl c.l.length → c.l.length ≤ 1 → goods c.l →
    LoopAt E1 Tryz.f56 (.tup [(altGoR ((Lib.split s [32]).drop i) c).1.p, bolP (altGoR ((Lib.split s [32]).drop i) c).2]) 0 (ref08_alternative_S0 s i c j jr g) := by
  intro n
  induction n with
  | zero =>
    intro i c j jr g hi hsl hl hg
    refine loop_go 2000 _ (Eq.mpr (ref08_alternative_go_S0 s i c j jr g _) ⟨fun h => ?_, fun h => ?_⟩)
    · simp only [decide_eq_true_eq, List.length_map] at h; omega
    · rw [List.drop_eq_nil_of_le (by omega), altGoR]
  | succ n ih =>
    intro i c j jr g hi hsl hl hg
    have hil : i < (Lib.split s [32]).length := by omega
    have hw1 : IntKind.wrap IntKind.i64 ((i : Int) + 1) = ((i + 1 : Nat) : Int) := wrap_i64 _ (by omega) (by omega)
    have hc := is_cmprR ((Lib.split s [32]).getD i default)
    have hgc := good_cmprR ((Lib.split s [32]).getD i default)
    rw [drop_consW hil, altGoR]
    refine loop_go 2000 _ (Eq.mpr (ref08_alternative_go_S0 s i c j jr g _) ⟨fun h => ⟨⟨by omega, rfl, rfl⟩, ?_, ?_, fun h2 => ?_, fun h2 => ⟨?_, fun j jr g => ?_⟩⟩, fun h => ?_⟩)
    · rw [Int.toNat_natCast]; exact getW hil
    · rw [Int.toNat_natCast]; exact den_ref08_compared _ (hW _ (getD_mem hil default))
    · rw [Int.toNat_natCast] at h2
      rw [if_neg (by rw [not_eq.1 h2]; simp)]
      try rfl
    · rw [Int.toNat_natCast]
      exact den_meetR_few c _ hsl hc.1 hl hc.2 hg hgc
    · rw [Int.toNat_natCast] at h2 ⊢
      rw [if_pos (not_eq.2 h2), hw1]
      exact ih (i + 1) (lfR (meetR c.l (cmprR ((Lib.split s [32]).getD i default)).1.l)) j jr g (by omega) (tw_sl _) (meetR_le1 hl hc.2) (all_meetR up_good hg hgc)
    · simp only [decide_eq_false_iff_not, List.length_map] at h; omega
theorem den_ref08_alternative (s : List UInt8) (hs : s.length < 1000000) : Den E1 56 [strP s] (.tup [(altR s).1.p, bolP (altR s).2]) := by
  have hsp := split_le [32] (by simp) _ s (Nat.le_refl _)
  refine den1 2000 _ rfl (by kernel_rfl) rfl rfl rfl (Eq.mpr (ref08_alternative_go s _) ⟨fun h => ⟨den_Every, ?_⟩, fun h => ⟨fun h2 => ?_, fun h2 => ⟨den_ref07_Cut s 32 hs, fun h3 => ?_, fun h3 => ⟨den_Every, fun j jr g => ?_⟩⟩⟩⟩)
  · rw [toList_bs, toList_bs] at h
    have : altR s = (lf1 everyI, true) := by rw [altR, if_pos (eq_of_beq h)]
    rw [this]
    try rfl
  · rw [toList_bs, toList_bs] at h2
    have : altR s = (lf0, true) := by rw [altR, eq_of_beq h2]; try rfl
    rw [this]
    try rfl
  all_goals rw [toList_bs, toList_bs] at h h2
  all_goals have n1 : ¬ s = [42] := fun e => by rw [e] at h; simp at h
  all_goals have n2 : ¬ s = [33] := fun e => by rw [e] at h2; simp at h2
  · simp only [decide_eq_true_eq, List.length_map] at h3
    have : altR s = (lf0, false) := by rw [altR, if_neg n1, if_neg n2, if_pos (by omega)]
    rw [this]
    try rfl
  · simp only [decide_eq_false_iff_not, List.length_map] at h3
    have : altR s = altGoR ((Lib.split s [32]).drop 0) (lf1 everyI) := by rw [altR, if_neg n1, if_neg n2, if_neg (by omega)]; try rfl
    rw [this]
    exact alt_S0 s hs (fun p hp => by have := hsp.2 p hp; omega) (by omega) (Lib.split s [32]).length 0 (lf1 everyI) j jr g (by omega) ⟨(by simp [lf1]), fun _ => rfl⟩ (by simp [lf1]) (all_one (from_gd bottomV false bottom_gd))
theorem altGoR_is : ∀ (ps : List (List UInt8)) (c : LF), slOk 11 c.k c.nl c.l.length ∧ c.l.length ≤ 1 → slOk 11 (altGoR ps c).1.k (altGoR ps c).1.nl (altGoR ps c).1.l.length ∧ (altGoR ps c).1.l.length ≤ 1
  | [], c, h => by rw [altGoR]; exact h
  | p :: ps, c, h => by
    rw [altGoR]
    split
    · exact altGoR_is ps _ ⟨tw_sl _, meetR_le1 h.2 (is_cmprR p).2⟩
    · exact ⟨⟨fun _ => rfl, (by simp [lf0])⟩, (by simp [lf0])⟩
theorem altR_is (s : List UInt8) : slOk 11 (altR s).1.k (altR s).1.nl (altR s).1.l.length ∧ (altR s).1.l.length ≤ 1 := by
  have h1 : slOk 11 (lf1 everyI).k (lf1 everyI).nl (lf1 everyI).l.length ∧ (lf1 everyI).l.length ≤ 1 := ⟨⟨(by simp [lf1]), fun _ => rfl⟩, (by simp [lf1])⟩
  have h0 : slOk 11 lf0.k lf0.nl lf0.l.length ∧ lf0.l.length ≤ 1 := ⟨⟨fun _ => rfl, (by simp [lf0])⟩, (by simp [lf0])⟩
  unfold altR
  split
  · exact h1
  · split
    · exact h0
    · split
      · exact h0
      · exact altGoR_is _ _ h1
theorem altR_good (s : List UInt8) : goods (altR s).1.l := all_altR up_good from_gd down_gd s
section
variable (s : List UInt8)
def rdR (o : Option (List I)) : LF × Int := match o with
  | some l => limR (lfR (joinR l))
  | none => (lf0, 80)
theorem read_S1 (hs : s.length ≤ 128) (hW : ∀ p ∈ Lib.split s orB, p.length < 1000000) (hWl : (Lib.split s orB).length ≤ 16) : ∀ (n i : Nat) (xs : List I) (gm : Nat) j jr g, i + n = (Lib.split s orB).length → xs.length ≤ i → goods xs →
    LoopAt E1 Tryz.f20 (.tup [(rdR (readGoR ((Lib.split s orB).drop i) xs)).1.p, intP (rdR (readGoR ((Lib.split s orB).drop i) xs)).2]) 0 (ref08_Read_S1 s i gm xs.length (List.map I.p xs) j jr g) := by
  intro n
  induction n with
  | zero =>
    intro i xs gm j jr g hi hx hg
    have hl := joinR_len xs
    refine loop_go 2000 _ (Eq.mpr (ref08_Read_go_S1 s i gm xs.length xs j jr g _) ⟨fun h => ?_, fun h => ⟨frzs_msl rfl (by simp) rfl, den_ref08_join xs 11 false false (by omega) ⟨(by simp), fun _ => rfl⟩ hg, den_limit (lfR (joinR xs)) (by show (joinR xs).length < _; omega), ?_⟩⟩)
    · simp only [decide_eq_true_eq, List.length_map] at h; omega
    · rw [List.drop_eq_nil_of_le (by omega), readGoR]
      try rfl
  | succ n ih =>
    intro i xs gm j jr g hi hx hg
    have hil : i < (Lib.split s orB).length := by omega
    have hw1 : IntKind.wrap IntKind.i64 ((i : Int) + 1) = ((i + 1 : Nat) : Int) := wrap_i64 _ (by omega) (by omega)
    have hc := altR_is ((Lib.split s orB).getD i default)
    have hgc := altR_good ((Lib.split s orB).getD i default)
    have h1 := hc.2
    rw [drop_consW hil, readGoR]
    refine loop_go 2000 _ (Eq.mpr (ref08_Read_go_S1 s i gm xs.length xs j jr g _) ⟨fun h => ⟨⟨by omega, rfl, rfl⟩, ?_, ?_, fun h2 => ?_, fun h2 => ⟨?_, rfl, ⟨rfl, rfl, rfl, ?_, ?_⟩, fun j jr g => ?_⟩⟩, fun h => ?_⟩)
    · rw [Int.toNat_natCast]; exact getW hil
    · rw [Int.toNat_natCast]; exact den_ref08_alternative _ (hW _ (getD_mem hil default))
    · rw [Int.toNat_natCast] at h2
      rw [if_neg (by rw [not_eq.1 h2]; simp)]
      try rfl
    · rw [Int.toNat_natCast]
      exact ⟨fun h => by have := hc.1.1 h; rw [List.length_eq_zero_iff.1 this]; rfl, hc.1.2⟩
    · rw [List.length_map, Nat.zero_add]
    · rw [Int.toNat_natCast, List.length_map]; exact fits_104 (by omega)
    · rw [Int.toNat_natCast] at h2 ⊢
      rw [if_pos (not_eq.2 h2), hw1]
      have := fun gm => ih (i + 1) (xs ++ (altR ((Lib.split s orB).getD i default)).1.l) gm j jr g (by omega) (by rw [List.length_append]; omega) (fun x hx => (List.mem_append.1 hx).elim (hg x) (hgc x))
      rw [List.length_append, List.map_append] at this
      rw [List.length_map]
      exact this _
    · simp only [decide_eq_false_iff_not, List.length_map] at h; omega
theorem read_S0 (hs : s.length ≤ 128) (hW : ∀ p ∈ Lib.split s orB, p.length < 1000000) (hWl : (Lib.split s orB).length ≤ 16) : ∀ (n i : Nat) z j jr g, i + n = (Lib.split s orB).length →
    LoopAt E1 Tryz.f20 (.tup [(rdR (readGoR ((Lib.split s orB).drop i) [])).1.p, intP (rdR (readGoR ((Lib.split s orB).drop i) [])).2]) 0 (ref08_Read_S0 s i z j jr g) := by
  intro n
  induction n with
  | zero =>
    intro i z j jr g hi
    refine loop_go 2000 _ (Eq.mpr (ref08_Read_go_S0 s i z j jr g _) ⟨fun h => ?_, fun h => ⟨den_ref08_join [] 0 true true (by simp) ⟨fun _ => rfl, (by simp)⟩ (fun x hx => by simp at hx), den_limit lf0 (by simp [lf0]), ?_⟩⟩)
    · simp only [decide_eq_true_eq, List.length_map] at h; omega
    · rw [List.drop_eq_nil_of_le (by omega), readGoR]
      try rfl
  | succ n ih =>
    intro i z j jr g hi
    have hil : i < (Lib.split s orB).length := by omega
    have hw1 : IntKind.wrap IntKind.i64 ((i : Int) + 1) = ((i + 1 : Nat) : Int) := wrap_i64 _ (by omega) (by omega)
    have hc := altR_is ((Lib.split s orB).getD i default)
    have hgc := altR_good ((Lib.split s orB).getD i default)
    have h1 := hc.2
    rw [drop_consW hil, readGoR]
    refine loop_go 2000 _ (Eq.mpr (ref08_Read_go_S0 s i z j jr g _) ⟨fun h => ⟨⟨by omega, rfl, rfl⟩, ?_, ?_, fun h2 => ?_, fun h2 => ⟨?_, fun h3 j jr g => ?_, fun h3 => ⟨⟨rfl, ?_⟩, fun j jr g => ?_⟩⟩⟩, fun h => ?_⟩)
    · rw [Int.toNat_natCast]; exact getW hil
    · rw [Int.toNat_natCast]; exact den_ref08_alternative _ (hW _ (getD_mem hil default))
    · rw [Int.toNat_natCast] at h2
      rw [if_neg (by rw [not_eq.1 h2]; simp)]
      try rfl
    · rw [Int.toNat_natCast]
      exact ⟨fun h => by have := hc.1.1 h; rw [List.length_eq_zero_iff.1 this]; rfl, hc.1.2⟩
    · rw [Int.toNat_natCast] at h2 h3
      have he : (altR ((Lib.split s orB).getD i default)).1.l = [] := by simpa using h3
      rw [if_pos (not_eq.2 h2), hw1, he]
      exact ih (i + 1) z j jr g (by omega)
    · rw [Int.toNat_natCast, List.length_map]; exact fits_104 (by omega)
    · rw [Int.toNat_natCast] at h2 ⊢
      rw [if_pos (not_eq.2 h2), hw1]
      have := fun gm => read_S1 s hs hW hWl n (i + 1) ([] ++ (altR ((Lib.split s orB).getD i default)).1.l) gm j jr g (by omega) (by rw [List.nil_append]; omega) (fun x hx => hgc x (by simpa using hx))
      rw [List.nil_append] at this
      rw [List.nil_append, List.length_map]
      exact this _
    · simp only [decide_eq_false_iff_not, List.length_map] at h; omega
theorem den_ref08_Read : Den E1 20 [strP s] (.tup [(readR s).1.p, intP (readR s).2]) := by
  have hsp := split_le orB (by simp [orB]) _ s (Nat.le_refl _)
  refine den1 2000 _ rfl (by kernel_rfl) rfl rfl rfl (Eq.mpr (ref08_Read_go s _) ⟨fun h => ?_, fun h => ⟨?_, fun h3 => ?_, fun h3 j jr g => ?_⟩⟩)
  all_goals try simp only [decide_eq_true_eq, decide_eq_false_iff_not, size_bs] at h
  · have : readR s = (lf0, 80) := by rw [readR, if_pos (by omega)]
    rw [this]
    try rfl
  · exact den_parts s (by omega)
  · simp only [decide_eq_true_eq, List.length_map] at h3
    have : readR s = (lf0, 80) := by rw [readR, if_neg (by omega), if_pos (by omega)]
    rw [this]
    try rfl
  · simp only [decide_eq_false_iff_not, List.length_map] at h3
    have : readR s = rdR (readGoR ((Lib.split s orB).drop 0) []) := by rw [readR, if_neg (by omega), if_neg (by omega)]; try rfl
    rw [this]
    exact read_S0 s (by omega) (fun p hp => by have := hsp.2 p hp; omega) (by omega) (Lib.split s orB).length 0 row0 j jr g (by omega)
end
end Go.Proofs.YtlhfgonjcpapnaaGreatDoor.Abs

namespace Go.Proofs.YtlhfgonjcpapnaaGreatDoor.Abs
open Go Go.Proofs
def txtS0 (l : List I) : List UInt8 × Int := textOf (mayS l) (l.map wordsS)
def txtR0 (l : List I) : List UInt8 × Int := textOf (mayR l) (l.map wordsR)
noncomputable def formS0 (s : List UInt8) : List UInt8 × Int := if (readS s).2 != 0 then ([], (readS s).2) else txtS0 (readS s).1.l
noncomputable def formR0 (s : List UInt8) : List UInt8 × Int := if (readR s).2 != 0 then ([], (readR s).2) else txtR0 (readR s).1.l
noncomputable def cReadS : List UInt8 → LF × Int := shut readS
noncomputable def cReadR : List UInt8 → LF × Int := shut readR
noncomputable def cTxtS : List I → List UInt8 × Int := shut txtS0
noncomputable def cTxtR : List I → List UInt8 × Int := shut txtR0
noncomputable def cFormS : List UInt8 → List UInt8 × Int := shut formS0
noncomputable def cFormR : List UInt8 → List UInt8 × Int := shut formR0
noncomputable def cIsS : List UInt8 → Bool := shut fun s => (formS0 s).2 == 0 && (formS0 s).1 == s
noncomputable def cIsR : List UInt8 → Bool := shut fun s => (formR0 s).2 == 0 && (formR0 s).1 == s
theorem cReadS_eq (s : List UInt8) : cReadS s = readS s := by rw [cReadS, shut_eq]
theorem cReadR_eq (s : List UInt8) : cReadR s = readR s := by rw [cReadR, shut_eq]
theorem cTxtS_eq (l : List I) : cTxtS l = txtS0 l := by rw [cTxtS, shut_eq]
theorem cTxtR_eq (l : List I) : cTxtR l = txtR0 l := by rw [cTxtR, shut_eq]
theorem cFormS_eq (s : List UInt8) : cFormS s = formS0 s := by rw [cFormS, shut_eq]
theorem cFormR_eq (s : List UInt8) : cFormR s = formR0 s := by rw [cFormR, shut_eq]
theorem cIsS_eq (s : List UInt8) : cIsS s = ((formS0 s).2 == 0 && (formS0 s).1 == s) := by rw [cIsS, shut_eq]
theorem cIsR_eq (s : List UInt8) : cIsR s = ((formR0 s).2 == 0 && (formR0 s).1 == s) := by rw [cIsR, shut_eq]
end Go.Proofs.YtlhfgonjcpapnaaGreatDoor.Abs

namespace Go.Proofs.YtlhfgonjcpapnaaGreatDoor.Abs
open Go Go.Proofs
def nV (v : V) : V := ⟨v.a, v.b, v.c, 0, true, true, v.pre⟩
def nI (x : I) : I := ⟨nV x.lo, x.lopen, nV x.hi, x.hopen, x.less⟩
theorem n_empty (x : I) : emptyI (nI x) = emptyI x := rfl
theorem n_low (x y : I) : lowB (nI x).lb (nI y).lb = lowB x.lb y.lb := rfl
theorem n_touch (x y : I) : touchI (nI x) (nI y) = touchI x y := rfl
theorem n_high (x y : I) : highI (nI x) (nI y) = highI x y := rfl
theorem n_up (x y : I) : upR (nI x) (nI y) = nI (upR x y) := rfl
theorem n_getD {s : List I} {k : Nat} (h : k < s.length) : (s.map nI).getD k default = nI (s.getD k default) := by
  rw [getD_lt (by simpa using h), getD_lt h, List.getElem_map]
theorem n_insPos (s : List I) (x : I) : ∀ k, k ≤ s.length → insPos (s.map nI) (nI x) k = insPos s x k
  | 0, _ => rfl
  | k + 1, h => by
    unfold insPos
    rw [n_getD (by omega), n_low, n_insPos s x k (by omega)]
theorem n_insR (s : List I) (x : I) : insR (s.map nI) (nI x) = (insR s x).map nI := by
  unfold insR
  rw [List.length_map, n_insPos s x _ (Nat.le_refl _), List.map_append, List.map_cons, List.map_take, List.map_drop]
theorem n_sortR : ∀ (l s : List I), sortR (l.map nI) (s.map nI) = (sortR l s).map nI
  | [], s => rfl
  | x :: l, s => by
    have h1 : sortR ((x :: l).map nI) (s.map nI) = sortR (l.map nI) (if emptyI (nI x) then s.map nI else insR (s.map nI) (nI x)) := rfl
    have h2 : sortR (x :: l) s = sortR l (if emptyI x then s else insR s x) := rfl
    rw [h1, h2, n_empty, n_insR]
    split
    · exact n_sortR l s
    · exact n_sortR l (insR s x)
theorem n_stepR (out : List I) (x : I) : stepR (out.map nI) (nI x) = (stepR out x).map nI := by
  cases out with
  | nil => rfl
  | cons a out =>
    have hg := n_getD (s := a :: out) (k := (a :: out).length - 1) (by simp)
    unfold stepR
    rw [List.length_map, hg, n_touch, n_high, n_up]
    simp only [List.isEmpty_cons, List.map_cons, Bool.false_eq_true, if_false]
    split
    · split
      · rw [← List.map_cons, List.map_set]
      · rfl
    · rw [← List.map_cons, List.map_append]; rfl
theorem n_foldR : ∀ (l out : List I), (l.map nI).foldl stepR (out.map nI) = (l.foldl stepR out).map nI
  | [], out => rfl
  | x :: l, out => by
    rw [List.map_cons, List.foldl_cons, List.foldl_cons, n_stepR]
    exact n_foldR l _
theorem n_joinR (l : List I) : joinR (l.map nI) = (joinR l).map nI := by
  unfold joinR
  have := n_sortR l []
  rw [List.map_nil] at this
  rw [this]
  exact n_foldR _ []
theorem n_meet1 (x y : I) : meet1 (nI x) (nI y) = nI (meet1 x y) := by
  cases h1 : decide (lowB x.lb y.lb < 0) with
  | true =>
    cases h2 : decide (highI y (mixL x y) < 0) with
    | true => rw [meet1_a h1 h2, meet1_a (x := nI x) (y := nI y) h1 h2]
    | false => rw [meet1_b h1 h2, meet1_b (x := nI x) (y := nI y) h1 h2]; rfl
  | false =>
    cases h2 : decide (highI y x < 0) with
    | true => rw [meet1_c h1 h2, meet1_c (x := nI x) (y := nI y) h1 h2]; rfl
    | false => rw [meet1_d h1 h2, meet1_d (x := nI x) (y := nI y) h1 h2]
theorem n_meets (l m : List I) (f : I → I → I) (hf : ∀ x y, f (nI x) (nI y) = nI (f x y)) : (l.map nI).flatMap (fun x => (m.map nI).map fun y => f x y) = (l.flatMap fun x => m.map fun y => f x y).map nI := by
  induction l with
  | nil => rfl
  | cons x l ih =>
    rw [List.map_cons, List.flatMap_cons, List.flatMap_cons, List.map_append, ih, List.map_map, List.map_map]
    congr 1
    apply List.map_congr_left
    intro y _
    exact hf x y
theorem n_meetR (l m : List I) : meetR (l.map nI) (m.map nI) = (meetR l m).map nI := by
  unfold meetR
  rw [n_meets l m meet1 n_meet1, n_joinR]
structure rt (x : I) : Prop where
  lo : mayV x.lo = true
  hi : mayV x.hi = true
  ho : x.less = true → x.hopen = false
  hz : x.less = true → nV x.hi = nV zV
theorem ordV_of {v w : V} (h1 : mayV v = true) (h2 : mayV w = true) : ordV v w = cmpV v w := by unfold ordV; rw [h1, h2]; rfl
theorem rt_dead {x : I} (h : rt x) : deadI x = emptyI x := by
  unfold deadI emptyI befE I.low I.high
  rw [ordV_of h.lo h.hi]
  cases hl : x.less with
  | true => simp
  | false =>
    simp only [Bool.and_false, Bool.false_eq_true, if_false, Bool.not_false, Bool.true_and]
    by_cases h0 : cmpV x.lo x.hi = 0
    · cases h1 : x.lopen <;> cases h2 : x.hopen <;> simp [h0]
    · have : (cmpV x.lo x.hi != 0) = true := by simpa using h0
      rw [if_pos this]
      have h3 : (cmpV x.lo x.hi == 0) = false := by simpa using h0
      rw [h3, Bool.false_and, Bool.or_false]
      rw [Bool.eq_iff_iff, decide_eq_true_eq, decide_eq_true_eq]; omega
theorem rt_low {x y : I} (hx : rt x) (hy : rt y) : (befE x.low y.low < 0 ↔ lowB y.lb x.lb > 0) := by
  unfold befE lowB I.low I.lb
  have ha := an_cmpV y.lo x.lo
  rw [ordV_of hx.lo hy.lo, ha]
  simp only [Bool.and_false, Bool.false_eq_true, if_false]
  by_cases h0 : cmpV y.lo x.lo = 0
  · cases h1 : x.lopen <;> cases h2 : y.lopen <;> simp [h0]
  · have h3 : (-cmpV y.lo x.lo != 0) = true := by simp; exact h0
    have h4 : (cmpV y.lo x.lo != 0) = true := by simpa using h0
    rw [if_pos h3, h4, Bool.true_or, if_pos rfl]
    omega
theorem rt_low' {x y : I} (hx : rt x) (hy : rt y) : (befE x.low y.low < 0 ↔ lowB x.lb y.lb < 0) := by
  unfold befE lowB I.low I.lb
  rw [ordV_of hx.lo hy.lo]
  simp only [Bool.and_false, Bool.false_eq_true, if_false]
  by_cases h0 : cmpV x.lo y.lo = 0
  · cases h1 : x.lopen <;> cases h2 : y.lopen <;> simp [h0]
  · have h4 : (cmpV x.lo y.lo != 0) = true := by simpa using h0
    rw [if_pos h4, h4, Bool.true_or, if_pos rfl]
theorem rt_touch {x y : I} (hx : rt x) (hy : rt y) : (befE x.high y.low ≥ 0 ↔ touchI x y = true) := by
  unfold befE touchI I.low I.high
  rw [ordV_of hx.hi hy.lo]
  cases hl : x.less with
  | true => simp
  | false =>
    simp only [Bool.and_false, Bool.false_and, Bool.false_eq_true, if_false, Bool.false_or]
    by_cases h0 : cmpV x.hi y.lo = 0
    · cases h1 : x.hopen <;> cases h2 : y.lopen <;> simp [h0]
    · have h4 : (cmpV x.hi y.lo != 0) = true := by simpa using h0
      have h3 : (cmpV x.hi y.lo == 0) = false := by simpa using h0
      rw [if_pos h4, h3, Bool.false_and, Bool.or_false, decide_eq_true_eq]
      omega
theorem rt_high {x y : I} (hx : rt x) (hy : rt y) : (befE x.high y.high < 0 ↔ highI x y < 0) := by
  unfold befE highI I.high
  rw [ordV_of hx.hi hy.hi]
  cases hl : x.less <;> cases hm : y.less <;> simp only [Bool.and_false, Bool.and_true, Bool.false_and, Bool.false_eq_true, if_false, if_true]
  · by_cases h0 : cmpV x.hi y.hi = 0
    · cases h1 : x.hopen <;> cases h2 : y.hopen <;> simp [h0]
    · have h4 : (cmpV x.hi y.hi != 0) = true := by simpa using h0
      rw [if_pos h4, if_pos h4]
theorem rt_bet {x y : I} (hx : rt x) (hy : rt y) : nI (betE x.low y.high) = nI (upR x y) ∧ rt (betE x.low y.high) := by
  cases hl : y.less with
  | true =>
    have hz := hy.hz hl
    have ho := hy.ho hl
    refine ⟨?_, ⟨hx.lo, ?_, ?_, ?_⟩⟩
    · show I.mk (nV x.lo) x.lopen (nV (if y.less then zV else y.hi)) (if y.less then false else !!y.hopen) y.less = I.mk (nV x.lo) x.lopen (nV y.hi) y.hopen y.less
      rw [hl, hz, ho]
      rfl
    · show mayV (if y.less then zV else y.hi) = true
      rw [hl]; exact zV_may
    · intro _
      show (if y.less then false else !!y.hopen) = false
      rw [hl]; rfl
    · intro _
      show nV (if y.less then zV else y.hi) = nV zV
      rw [hl]; rfl
  | false =>
    refine ⟨?_, ⟨hx.lo, ?_, ?_, ?_⟩⟩
    · show I.mk (nV x.lo) x.lopen (nV (if y.less then zV else y.hi)) (if y.less then false else !!y.hopen) y.less = I.mk (nV x.lo) x.lopen (nV y.hi) y.hopen y.less
      rw [hl, Bool.not_not]
      rfl
    · show mayV (if y.less then zV else y.hi) = true
      rw [hl]; exact hy.hi
    · intro h
      have h : y.less = true := h
      rw [hl] at h; cases h
    · intro h
      have h : y.less = true := h
      rw [hl] at h; cases h
theorem rt_insPos {s : List I} {x : I} (hs : ∀ y ∈ s, rt y) (hx : rt x) : ∀ k, k ≤ s.length → insPosS s x k = insPos s x k
  | 0, _ => rfl
  | k + 1, h => by
    have hy := hs _ (getD_mem (i := k) (l := s) (by omega) default)
    unfold insPosS insPos
    rw [rt_insPos hs hx k (by omega)]
    have := rt_low hx hy
    by_cases h1 : befE x.low (s.getD k default).low < 0
    · rw [if_pos h1, if_pos (this.1 h1)]
    · rw [if_neg h1, if_neg (fun h2 => h1 (this.2 h2))]
theorem rt_ins {s : List I} {x : I} (hs : ∀ y ∈ s, rt y) (hx : rt x) : insS s x = insR s x := by
  unfold insS insR
  rw [rt_insPos hs hx _ (Nat.le_refl _)]
theorem rt_sort : ∀ (l s : List I), (∀ y ∈ l, rt y) → (∀ y ∈ s, rt y) → (l.filter fun x => !deadI x).foldl insS s = sortR l s
  | [], s, _, _ => rfl
  | x :: l, s, hl, hs => by
    have hx := hl x (List.mem_cons_self ..)
    have h2 : sortR (x :: l) s = sortR l (if emptyI x then s else insR s x) := rfl
    rw [h2, List.filter_cons, rt_dead hx]
    cases he : emptyI x with
    | true => exact rt_sort l s (fun y hy => hl y (List.mem_cons_of_mem _ hy)) hs
    | false =>
      simp only [Bool.not_false, if_true, List.foldl_cons, Bool.false_eq_true, if_false]
      rw [rt_ins hs hx]
      exact rt_sort l _ (fun y hy => hl y (List.mem_cons_of_mem _ hy)) fun y hy => (mem_insR hy).elim (hs y) fun e => e ▸ hx
theorem rt_step {out : List I} {x : I} (ho : ∀ y ∈ out, rt y) (hx : rt x) : (stepS out x).map nI = (stepR out x).map nI ∧ ∀ y ∈ stepS out x, rt y := by
  refine ⟨?_, stepS_all (P := rt) (fun x y hx hy => (rt_bet hx hy).2) ho hx⟩
  cases out with
  | nil => rfl
  | cons a out =>
    have hla : (a :: out).length - 1 < (a :: out).length := by simp
    have hy := ho _ (getD_mem hla default)
    have h1 := rt_touch hy hx
    have h2 := rt_high hy hx
    have h3 := (rt_bet hy hx).1
    unfold stepS stepR
    simp only [List.isEmpty_cons, Bool.false_eq_true, if_false]
    generalize (a :: out).getD ((a :: out).length - 1) default = y at hy h1 h2 h3 ⊢
    by_cases ht : touchI y x = true
    · rw [if_pos (h1.2 ht), if_pos ht]
      by_cases hh : highI y x < 0
      · rw [if_pos (h2.2 hh), if_pos hh, List.map_set, List.map_set, h3]
      · rw [if_neg (fun h => hh (h2.1 h)), if_neg hh]
    · rw [if_neg (fun h => ht (h1.1 h)), if_neg ht]
theorem rt_fold : ∀ (l out : List I), (∀ y ∈ l, rt y) → (∀ y ∈ out, rt y) → (l.foldl stepS out).map nI = (l.map nI).foldl stepR (out.map nI)
  | [], out, _, _ => rfl
  | x :: l, out, hl, ho => by
    obtain ⟨h1, h2⟩ := rt_step ho (hl x (List.mem_cons_self ..))
    rw [List.foldl_cons, rt_fold l _ (fun y hy => hl y (List.mem_cons_of_mem _ hy)) h2, List.map_cons, List.foldl_cons, h1, n_stepR]
theorem rt_join {l : List I} (hl : ∀ y ∈ l, rt y) : (joinS l).map nI = joinR (l.map nI) := by
  unfold joinS joinR sortS
  have hs := rt_sort l [] hl (by simp)
  have hn := n_sortR l []
  rw [List.map_nil] at hn
  rw [hs, hn, rt_fold _ [] (fun y hy => (mem_sortR l [] hy).elim (fun h => by simp at h) (hl y)) (by simp)]
  rfl
theorem rt_meet1 {x y : I} (hx : rt x) (hy : rt y) : nI (meet1S x y) = nI (meet1 x y) ∧ rt (meet1S x y) := by
  have h1 := rt_low' hx hy
  have hmix : rt (mixL x y) := ⟨hy.lo, hx.hi, hx.ho, hx.hz⟩
  have h2 := rt_high hy hx
  have hhm : highI y (mixL x y) = highI y x := rfl
  cases c1 : decide (lowB x.lb y.lb < 0) with
  | true =>
    have d1 : befE x.low y.low < 0 := h1.2 (by simpa using c1)
    cases c2 : decide (highI y x < 0) with
    | true =>
      have d2 : befE y.high x.high < 0 := h2.2 (by simpa using c2)
      rw [meet1_a c1 (by rw [hhm]; exact c2)]
      have e : meet1S x y = betE y.low y.high := by simp only [meet1S, d1, d2, if_true]
      rw [e]
      have := rt_bet hy hy
      exact ⟨this.1, this.2⟩
    | false =>
      have d2 : ¬ befE y.high x.high < 0 := fun h => by have := h2.1 h; simp at c2; omega
      rw [meet1_b c1 (by rw [hhm]; exact c2)]
      have e : meet1S x y = betE y.low x.high := by simp only [meet1S, d1, d2, if_true, if_false]
      rw [e]
      have := rt_bet hy hx
      exact ⟨this.1, this.2⟩
  | false =>
    have d1 : ¬ befE x.low y.low < 0 := fun h => by have := h1.1 h; simp at c1; omega
    cases c2 : decide (highI y x < 0) with
    | true =>
      have d2 : befE y.high x.high < 0 := h2.2 (by simpa using c2)
      rw [meet1_c c1 c2]
      have e : meet1S x y = betE x.low y.high := by simp only [meet1S, d1, d2, if_true, if_false]
      rw [e]
      have := rt_bet hx hy
      exact ⟨this.1, this.2⟩
    | false =>
      have d2 : ¬ befE y.high x.high < 0 := fun h => by have := h2.1 h; simp at c2; omega
      rw [meet1_d c1 c2]
      have e : meet1S x y = betE x.low x.high := by simp only [meet1S, d1, d2, if_false]
      rw [e]
      have := rt_bet hx hx
      exact ⟨this.1, this.2⟩
theorem rt_meets {l m : List I} (hl : ∀ y ∈ l, rt y) (hm : ∀ y ∈ m, rt y) : (meetS l m).map nI = meetR (l.map nI) (m.map nI) := by
  unfold meetS meetR
  have h1 : ∀ z ∈ (l.flatMap fun x => m.map fun y => meet1S x y), rt z := by
    intro z hz
    obtain ⟨x, hx, hz⟩ := List.mem_flatMap.1 hz
    obtain ⟨y, hy, rfl⟩ := List.mem_map.1 hz
    exact (rt_meet1 (hl x hx) (hm y hy)).2
  rw [rt_join h1, n_meets l m meet1 n_meet1]
  congr 1
  clear h1
  induction l with
  | nil => rfl
  | cons x l ih =>
    rw [List.flatMap_cons, List.flatMap_cons, List.map_append, List.map_append, ih (fun y hy => hl y (List.mem_cons_of_mem _ hy)), List.map_map, List.map_map]
    congr 1
    apply List.map_congr_left
    intro y hy
    exact (rt_meet1 (hl x (List.mem_cons_self ..)) (hm y hy)).1
end Go.Proofs.YtlhfgonjcpapnaaGreatDoor.Abs

namespace Go.Proofs.YtlhfgonjcpapnaaGreatDoor.Abs
open Go Go.Proofs
theorem rt_from {v : V} (o : Bool) (h : v.gd) : rt (fromI v o) := ⟨h.may, zV_may, fun _ => rfl, fun _ => rfl⟩
theorem rt_down {v : V} (o : Bool) (h : v.gd) : rt (downI v o) := ⟨bottom_may, h.may, (fun h => nomatch h), (fun h => nomatch h)⟩
theorem rt_bets (x y : I) (hx : rt x) (hy : rt y) : rt (betE x.low y.high) := (rt_bet hx hy).2
theorem n_rdV (s : List UInt8) : nV (rdV true s) = nV (rdV false s) := by
  rw [rdV_eq, rdV_eq, rdV0, rdV0]
  split <;> rfl
theorem nV_may {v w : V} (h : nV v = nV w) : mayV v = mayV w := by
  have : mayV (nV v) = mayV (nV w) := by rw [h]
  exact this
theorem nV_num {v w : V} (h : nV v = nV w) : v.a = w.a ∧ v.b = w.b ∧ v.c = w.c ∧ v.pre = w.pre := by
  injection h with h1 h2 h3 _ _ _ h4
  exact ⟨h1, h2, h3, h4⟩
theorem n_nextOk {v w : V} (h : nV v = nV w) (n : Int) : nextOk v n = nextOk w n := by
  obtain ⟨h1, h2, h3, _⟩ := nV_num h
  unfold nextOk
  rw [nV_may h, h1, h2, h3]
theorem n_nextV {v w : V} (h : nV v = nV w) (n : Int) : nextV v n = nextV w n := by
  obtain ⟨h1, h2, h3, _⟩ := nV_num h
  unfold nextV
  rw [n_nextOk h, h1, h2, h3]
theorem n_kind {v w : V} (h : nV v = nV w) : kindV v = kindV w := by
  obtain ⟨h1, h2, h3, _⟩ := nV_num h
  unfold kindV
  rw [h1, h2]
theorem n_from {v w : V} (h : nV v = nV w) (o : Bool) : nI (fromI v o) = nI (fromI w o) := by
  show I.mk (nV v) o (nV zV) false true = I.mk (nV w) o (nV zV) false true
  rw [h]
theorem n_down {v w : V} (h : nV v = nV w) (o : Bool) : nI (downI v o) = nI (downI w o) := by
  show I.mk (nV bottomV) false (nV v) o false = I.mk (nV bottomV) false (nV w) o false
  rw [h]
theorem j_down {v w : V} (h : nV v = nV w) (hv : v.gd) (o : Bool) : (joinS [downI v o]).map nI = (joinR [downI w o]).map nI := by
  rw [rt_join (all_one (rt_down o hv)), ← n_joinR, List.map_singleton, List.map_singleton, n_down h]
theorem m_fd {v w v' w' : V} (h : nV v = nV w) (h' : nV v' = nV w') (hv : v.gd) (hv' : v'.gd) (o p : Bool) : (meetS [fromI v o] (joinS [downI v' p])).map nI = (meetR [fromI w o] (joinR [downI w' p])).map nI := by
  rw [rt_meets (all_one (rt_from o hv)) (joinS_all rt_bets (all_one (rt_down p hv'))), j_down h' hv' p, ← n_meetR, List.map_singleton, List.map_singleton, n_from h]
theorem u_same {v w : V} (h : nV v = nV w) (hv : v.gd) {n : Int} (h0 : 0 ≤ n) (h2 : n ≤ 2) : (uptoS v n).l.map nI = (uptoR w n).l.map nI := by
  unfold uptoS uptoR
  rw [n_nextOk h, n_nextV h]
  split
  · have hg := least_gd hv h0 h2
    rw [n_nextV h] at hg
    exact m_fd h rfl hv hg false true
  · show [fromI v false].map nI = [fromI w false].map nI
    rw [List.map_singleton, List.map_singleton, n_from h]
theorem cmpr_same (s : List UInt8) : (cmprS s).1.l.map nI = (cmprR s).1.l.map nI ∧ (cmprS s).2 = (cmprR s).2 := by
  have h := n_rdV (trimL s)
  have hv := rd_gd true (trimL s)
  have hk := kind_is (rdV true (trimL s))
  have one : ∀ o, [fromI (rdV true (trimL s)) o].map nI = [fromI (rdV false (trimL s)) o].map nI := fun o => by rw [List.map_singleton, List.map_singleton, n_from h]
  unfold cmprS cmprR
  split
  · simp only []
    by_cases c1 : signL s = [] ∨ signL s = [61]
    · rw [if_pos c1, if_pos c1]; exact ⟨m_fd h h hv hv false false, rfl⟩
    rw [if_neg c1, if_neg c1]
    by_cases c2 : signL s = [60]
    · rw [if_pos c2, if_pos c2]; exact ⟨j_down h hv true, rfl⟩
    rw [if_neg c2, if_neg c2]
    by_cases c3 : signL s = [60, 61]
    · rw [if_pos c3, if_pos c3]; exact ⟨j_down h hv false, rfl⟩
    rw [if_neg c3, if_neg c3]
    by_cases c4 : signL s = [62]
    · rw [if_pos c4, if_pos c4]; exact ⟨one true, rfl⟩
    rw [if_neg c4, if_neg c4]
    by_cases c5 : signL s = [62, 61]
    · rw [if_pos c5, if_pos c5]; exact ⟨one false, rfl⟩
    rw [if_neg c5, if_neg c5]
    by_cases c6 : signL s = [94]
    · rw [if_pos c6, if_pos c6, n_kind h]
      rw [n_kind h] at hk
      exact ⟨u_same h hv hk.1 hk.2, rfl⟩
    rw [if_neg c6, if_neg c6]
    by_cases c7 : signL s = [126]
    · rw [if_pos c7, if_pos c7]; exact ⟨u_same h hv (by omega) (by omega), rfl⟩
    rw [if_neg c7, if_neg c7]
    exact ⟨rfl, rfl⟩
  · exact ⟨rfl, rfl⟩
theorem cmprS_rt (s : List UInt8) : ∀ y ∈ (cmprS s).1.l, rt y := all_cmprS rt_bets (fun v o h => rt_from o h) (fun v o h => rt_down o h) s
theorem altGo_same : ∀ (ps : List (List UInt8)) (c d : LF) (n : Nat), c.l.map nI = d.l.map nI → (∀ y ∈ c.l, rt y) → ps.length + n ≤ 16 → (altGoS ps c n).1.l.map nI = (altGoR ps d).1.l.map nI ∧ (altGoS ps c n).2 = (altGoR ps d).2
  | [], c, d, n, h, _, _ => ⟨h, rfl⟩
  | p :: ps, c, d, n, h, hc, hn => by
    obtain ⟨h1, h2⟩ := cmpr_same p
    simp only [List.length_cons] at hn
    rw [altGoS, altGoR, h2]
    by_cases hb : (cmprR p).2 = true
    · rw [if_pos ⟨hb, by omega⟩, if_pos hb]
      refine altGo_same ps _ _ (n + 1) ?_ (all_meetS rt_bets hc (cmprS_rt p)) (by omega)
      show (meetS c.l (cmprS p).1.l).map nI = (meetR d.l (cmprR p).1.l).map nI
      rw [rt_meets hc (cmprS_rt p), h, h1, n_meetR]
    · rw [if_neg (fun h => hb h.1), if_neg hb]
      exact ⟨rfl, rfl⟩
theorem altGo_long : ∀ (ps : List (List UInt8)) (c : LF) (n : Nat), n ≤ 16 → ¬ ps.length + n ≤ 16 → altGoS ps c n = (lf0, false)
  | [], c, n, h, h2 => by simp at h2; omega
  | p :: ps, c, n, h, h2 => by
    simp only [List.length_cons] at h2
    by_cases hb : (cmprS p).2 = true ∧ n + 1 ≤ 16
    · rw [altGo_yes hb.1 hb.2]
      exact altGo_long ps _ (n + 1) hb.2 (by omega)
    · exact altGo_no hb
theorem alt_same (s : List UInt8) : (altS s).1.l.map nI = (altR s).1.l.map nI ∧ (altS s).2 = (altR s).2 := by
  unfold altS altR
  split
  · exact ⟨rfl, rfl⟩
  · split
    · exact ⟨rfl, rfl⟩
    · split
      · rw [altGo_long _ _ 0 (by omega) (by omega)]
        exact ⟨rfl, rfl⟩
      · exact altGo_same _ _ _ 0 rfl (all_one (rt_from false bottom_gd)) (by omega)
theorem altS_rt (s : List UInt8) : ∀ y ∈ (altS s).1.l, rt y := all_altS rt_bets (fun v o h => rt_from o h) (fun v o h => rt_down o h) s
theorem readGo_same : ∀ (ps : List (List UInt8)) (a b : List I) (n : Nat), a.map nI = b.map nI → (∀ y ∈ a, rt y) → ps.length + n ≤ 16 →
    (readGoS ps a n = none ∧ readGoR ps b = none) ∨ ∃ x y, readGoS ps a n = some x ∧ readGoR ps b = some y ∧ x.map nI = y.map nI ∧ ∀ z ∈ x, rt z
  | [], a, b, n, h, ha, _ => .inr ⟨a, b, rfl, rfl, h, ha⟩
  | p :: ps, a, b, n, h, ha, hn => by
    obtain ⟨h1, h2⟩ := alt_same p
    simp only [List.length_cons] at hn
    rw [readGoS, readGoR, h2]
    by_cases hb : (altR p).2 = true
    · rw [if_pos ⟨hb, by omega⟩, if_pos hb]
      refine readGo_same ps _ _ (n + 1) ?_ (fun y hy => (List.mem_append.1 hy).elim (ha y) (altS_rt p y)) (by omega)
      rw [List.map_append, List.map_append, h, h1]
    · rw [if_neg (fun h => hb h.1), if_neg hb]
      exact .inl ⟨rfl, rfl⟩
theorem readGo_long : ∀ (ps : List (List UInt8)) (c : List I) (n : Nat), n ≤ 16 → ¬ ps.length + n ≤ 16 → readGoS ps c n = none
  | [], c, n, h, h2 => by simp at h2; omega
  | p :: ps, c, n, h, h2 => by
    simp only [List.length_cons] at h2
    by_cases hb : (altS p).2 = true ∧ n + 1 ≤ 16
    · rw [readGo_yes hb.1 hb.2]
      exact readGo_long ps _ (n + 1) hb.2 (by omega)
    · exact readGo_no hb
theorem n_len {l m : List I} (h : l.map nI = m.map nI) : l.length = m.length := by
  have := congrArg List.length h
  simpa using this
theorem lim_same {l m : List I} (h : l.map nI = m.map nI) : (limS l).1.l.map nI = (limR (lfR m)).1.l.map nI ∧ (limS l).2 = (limR (lfR m)).2 := by
  unfold limS limR
  rw [n_len h]
  show _ ∧ (if m.length > 16 then (lf0, 80) else _).2 = (if (lfR m).l.length > 16 then (lf0, 80) else _).2
  by_cases hm : m.length > 16
  · rw [if_pos hm, if_pos (show (lfR m).l.length > 16 from hm)]
    exact ⟨rfl, rfl⟩
  · rw [if_neg hm, if_neg (show ¬ (lfR m).l.length > 16 from hm)]
    refine ⟨?_, rfl⟩
    show (l.map clI).map nI = m.map nI
    rw [← h, List.map_map]
    apply List.map_congr_left
    intro x _
    rfl
theorem read_same (s : List UInt8) : (readS s).1.l.map nI = (readR s).1.l.map nI ∧ (readS s).2 = (readR s).2 := by
  unfold readS readR
  by_cases c1 : s.length > 128
  · rw [if_pos c1, if_pos c1]
    exact ⟨rfl, rfl⟩
  · rw [if_neg c1, if_neg c1]
    by_cases c2 : (Lib.split s orB).length > 16
    · rw [if_pos c2, readGo_long _ _ 0 (by omega) (by omega)]
      exact ⟨rfl, rfl⟩
    · rw [if_neg c2]
      rcases readGo_same (Lib.split s orB) [] [] 0 rfl (by simp) (by omega) with ⟨h1, h2⟩ | ⟨x, y, h1, h2, h3, h4⟩
      · rw [h1, h2]
        exact ⟨rfl, rfl⟩
      · rw [h1, h2]
        refine lim_same ?_
        rw [rt_join h4, h3, n_joinR]
theorem n_sameV {v w : V} (h : nV v = nV w) : sameV v w = true := by
  obtain ⟨h1, h2, h3, h4⟩ := nV_num h
  simp [sameV, h1, h2, h3, h4]
theorem n_sameI {x y : I} (h : nI x = nI y) : sameI x y = true := by
  injection h with h1 h2 h3 h4 h5
  simp [sameI, n_sameV h1, n_sameV h3, h2, h4, h5]
theorem n_same : ∀ {l m : List I}, l.map nI = m.map nI → sameLs l m = true
  | [], [], _ => rfl
  | x :: l, y :: m, h => by
    rw [List.map_cons, List.map_cons] at h
    injection h with h1 h2
    simp [sameLs, n_sameI h1, n_same h2]
  | [], _ :: _, h => by simp at h
  | _ :: _, [], h => by simp at h
theorem n_pairs : ∀ l : List I, pairsS (l.map nI) = pairsS l
  | [] => rfl
  | [x] => rfl
  | x :: y :: l => by
    have h := n_pairs (y :: l)
    simp only [List.map_cons, pairsS] at h ⊢
    rw [h, n_low, n_touch]
theorem n_mayR (l : List I) : mayR (l.map nI) = mayR l := by
  simp only [mayR, List.length_map, n_pairs, List.all_map]
  rfl
theorem n_txtR (l : List I) : txtR0 (l.map nI) = txtR0 l := by
  unfold txtR0
  rw [n_mayR, List.map_map]
  rfl
theorem txt_same {l m : List I} (h : l.map nI = m.map nI) : txtS0 l = txtR0 m := by
  have h1 : txtS0 l = txtR0 l := text_same l
  rw [h1, ← n_txtR l, h, n_txtR]
theorem form_same (s : List UInt8) : formS0 s = formR0 s := by
  obtain ⟨h1, h2⟩ := read_same s
  unfold formS0 formR0
  rw [h2, txt_same h1]
end Go.Proofs.YtlhfgonjcpapnaaGreatDoor.Abs

namespace Go.Proofs.YtlhfgonjcpapnaaGreatDoor.Abs
open Go Go.Proofs
theorem span_Form_go (s : List UInt8) (r : PV) : FnGo E1 Tryz.f21 [PV.lit (.string (bs s))] r 2000 (.res (.tup [LF.p (Prod.fst (cReadS s)), intP (Prod.snd (cReadS s))]) (.fork (.hole 0) (.res (.tup [PV.lit (.string (bs (Prod.fst (cTxtS (LF.l (Prod.fst (cReadS s))))))), intP (Prod.snd (cTxtS (LF.l (Prod.fst (cReadS s)))))]) (.hole 0)))) =
  ((Den E1 19 [PV.lit (.string (bs s))] (.tup [LF.p (Prod.fst (cReadS s)), intP (Prod.snd (cReadS s))])) ∧
 ((Prod.snd (cReadS s) != (0 : Int)) = true →
 ((.tup [PV.lit (.string (bs [])), intP (Prod.snd (cReadS s))]) : PV) = r) ∧
 ((Prod.snd (cReadS s) != (0 : Int)) = false →
 (Den E1 13 [LF.p (Prod.fst (cReadS s))] (.tup [PV.lit (.string (bs (Prod.fst (cTxtS (LF.l (Prod.fst (cReadS s))))))), intP (Prod.snd (cTxtS (LF.l (Prod.fst (cReadS s)))))])) ∧
 ((.tup [PV.lit (.string (bs (Prod.fst (cTxtS (LF.l (Prod.fst (cReadS s))))))), intP (Prod.snd (cTxtS (LF.l (Prod.fst (cReadS s)))))]) : PV) = r)) := by kernel_rfl
theorem ref08_Form_go (s : List UInt8) (r : PV) : FnGo E1 Tryz.f22 [PV.lit (.string (bs s))] r 2000 (.res (.tup [LF.p (Prod.fst (cReadR s)), intP (Prod.snd (cReadR s))]) (.fork (.hole 0) (.res (.tup [PV.lit (.string (bs (Prod.fst (cTxtR (LF.l (Prod.fst (cReadR s))))))), intP (Prod.snd (cTxtR (LF.l (Prod.fst (cReadR s)))))]) (.hole 0)))) =
  ((Den E1 20 [PV.lit (.string (bs s))] (.tup [LF.p (Prod.fst (cReadR s)), intP (Prod.snd (cReadR s))])) ∧
 ((Prod.snd (cReadR s) != (0 : Int)) = true →
 ((.tup [PV.lit (.string (bs [])), intP (Prod.snd (cReadR s))]) : PV) = r) ∧
 ((Prod.snd (cReadR s) != (0 : Int)) = false →
 (Den E1 14 [LF.p (Prod.fst (cReadR s))] (.tup [PV.lit (.string (bs (Prod.fst (cTxtR (LF.l (Prod.fst (cReadR s))))))), intP (Prod.snd (cTxtR (LF.l (Prod.fst (cReadR s)))))])) ∧
 ((.tup [PV.lit (.string (bs (Prod.fst (cTxtR (LF.l (Prod.fst (cReadR s))))))), intP (Prod.snd (cTxtR (LF.l (Prod.fst (cReadR s)))))]) : PV) = r)) := by kernel_rfl
theorem span_Is_go (s : List UInt8) (r : PV) : FnGo E1 Tryz.f23 [PV.lit (.string (bs s))] r 2000 (.res (.tup [PV.lit (.string (bs (Prod.fst (cFormS s)))), intP (Prod.snd (cFormS s))]) (.fork (.lts 4 (.hole 0)) (.lts 4 (.hole 0)))) =
  ((Den E1 21 [PV.lit (.string (bs s))] (.tup [PV.lit (.string (bs (Prod.fst (cFormS s)))), intP (Prod.snd (cFormS s))])) ∧
 ((Prod.snd (cFormS s) == (0 : Int)) = true →
 (bolP (ByteArray.toList (bs (Prod.fst (cFormS s))) == ByteArray.toList (bs s))) = r) ∧
 ((Prod.snd (cFormS s) == (0 : Int)) = false →
 (bolP false) = r)) := by kernel_rfl
theorem ref08_Is_go (s : List UInt8) (r : PV) : FnGo E1 Tryz.f24 [PV.lit (.string (bs s))] r 2000 (.res (.tup [PV.lit (.string (bs (Prod.fst (cFormR s)))), intP (Prod.snd (cFormR s))]) (.fork (.lts 4 (.hole 0)) (.lts 4 (.hole 0)))) =
  ((Den E1 22 [PV.lit (.string (bs s))] (.tup [PV.lit (.string (bs (Prod.fst (cFormR s)))), intP (Prod.snd (cFormR s))])) ∧
 ((Prod.snd (cFormR s) == (0 : Int)) = true →
 (bolP (ByteArray.toList (bs (Prod.fst (cFormR s))) == ByteArray.toList (bs s))) = r) ∧
 ((Prod.snd (cFormR s) == (0 : Int)) = false →
 (bolP false) = r)) := by kernel_rfl
theorem law08_SpanReads_go (s : List UInt8) (r : PV) : FnGo E1 Tryz.f5 [PV.lit (.string (bs s))] r 2000 (.res (.tup [LF.p (Prod.fst (cReadS s)), intP (Prod.snd (cReadS s))]) (.res (.tup [LF.p (Prod.fst (cReadR s)), intP (Prod.snd (cReadR s))]) (.res (.tup [PV.lit (.string (bs (Prod.fst (cFormS s)))), intP (Prod.snd (cFormS s))]) (.res (.tup [PV.lit (.string (bs (Prod.fst (cFormR s)))), intP (Prod.snd (cFormR s))]) (.resB (sameLs (LF.l (Prod.fst (cReadS s))) (LF.l (Prod.fst (cReadR s)))) (.lts 5 (.fork (.lts 4 (.fork (.lts 4 (.fork (.lit (.lit (.res (bolP (cIsS s)) (.lit (.lit (.res (bolP (cIsR s)) (.lit (.lit (.fork (.lit (.resB true (.lit (.hole 0)) (.lit (.hole 0)))) (.lit (.lit (.hole 0)))))))))))) (.lts 9 (.hole 0)))) (.lts 14 (.hole 0)))) (.lts 19 (.hole 0)))) (.lts 25 (.hole 0))))))) =
  ((Den E1 19 [PV.lit (.string (bs s))] (.tup [LF.p (Prod.fst (cReadS s)), intP (Prod.snd (cReadS s))])) ∧
 (Den E1 20 [PV.lit (.string (bs s))] (.tup [LF.p (Prod.fst (cReadR s)), intP (Prod.snd (cReadR s))])) ∧
 (Den E1 21 [PV.lit (.string (bs s))] (.tup [PV.lit (.string (bs (Prod.fst (cFormS s)))), intP (Prod.snd (cFormS s))])) ∧
 (Den E1 22 [PV.lit (.string (bs s))] (.tup [PV.lit (.string (bs (Prod.fst (cFormR s)))), intP (Prod.snd (cFormR s))])) ∧
 (Den E1 16 [LF.p (Prod.fst (cReadS s)), LF.p (Prod.fst (cReadR s))] (bolP (sameLs (LF.l (Prod.fst (cReadS s))) (LF.l (Prod.fst (cReadR s)))))) ∧
 ((sameLs (LF.l (Prod.fst (cReadS s))) (LF.l (Prod.fst (cReadR s)))) = true →
 ((Prod.snd (cReadS s) == Prod.snd (cReadR s)) = true →
 ((ByteArray.toList (bs (Prod.fst (cFormS s))) == ByteArray.toList (bs (Prod.fst (cFormR s)))) = true →
 ((Prod.snd (cFormS s) == Prod.snd (cFormR s)) = true →
 (Den E1 23 [PV.lit (.string (bs s))] (bolP (cIsS s))) ∧
 (Den E1 24 [PV.lit (.string (bs s))] (bolP (cIsR s))) ∧
 ((cIsS s == cIsR s) = true →
 (Den E1 10 [] (bolP true)) ∧
 (true = true →
 (bolP true) = r) ∧
 (true = false →
 (bolP false) = r)) ∧
 ((cIsS s == cIsR s) = false →
 (bolP false) = r)) ∧
 ((Prod.snd (cFormS s) == Prod.snd (cFormR s)) = false →
 (bolP false) = r)) ∧
 ((ByteArray.toList (bs (Prod.fst (cFormS s))) == ByteArray.toList (bs (Prod.fst (cFormR s)))) = false →
 (bolP false) = r)) ∧
 ((Prod.snd (cReadS s) == Prod.snd (cReadR s)) = false →
 (bolP false) = r)) ∧
 ((sameLs (LF.l (Prod.fst (cReadS s))) (LF.l (Prod.fst (cReadR s)))) = false →
 (bolP false) = r)) := by kernel_rfl
end Go.Proofs.YtlhfgonjcpapnaaGreatDoor.Abs

set_option maxRecDepth 20000
namespace Go.Proofs.YtlhfgonjcpapnaaGreatDoor.Abs
open Go Go.Proofs
theorem readGoS_all {P : I → Prop} (hP : ∀ p, ∀ y ∈ (altS p).1.l, P y) : ∀ (ps : List (List UInt8)) (a x : List I) (n : Nat), (∀ y ∈ a, P y) → readGoS ps a n = some x → ∀ y ∈ x, P y
  | [], a, x, n, ha, h => by
    rw [readGoS] at h
    injection h with h
    subst h; exact ha
  | p :: ps, a, x, n, ha, h => by
    by_cases hb : (altS p).2 = true ∧ n + 1 ≤ 16
    · rw [readGo_yes hb.1 hb.2] at h
      exact readGoS_all hP ps _ x _ (fun y hy => (List.mem_append.1 hy).elim (ha y) (hP p y)) h
    · rw [readGo_no hb] at h; cases h
theorem readGoR_all {P : I → Prop} (hP : ∀ p, ∀ y ∈ (altR p).1.l, P y) : ∀ (ps : List (List UInt8)) (a x : List I), (∀ y ∈ a, P y) → readGoR ps a = some x → ∀ y ∈ x, P y
  | [], a, x, ha, h => by
    rw [readGoR] at h
    injection h with h
    subst h; exact ha
  | p :: ps, a, x, ha, h => by
    rw [readGoR] at h
    by_cases hb : (altR p).2 = true
    · rw [if_pos hb] at h
      exact readGoR_all hP ps _ x (fun y hy => (List.mem_append.1 hy).elim (ha y) (hP p y)) h
    · rw [if_neg hb] at h; cases h
theorem clV_ok {v : V} (h : v.ok) : (clV v).ok := ⟨h.a, h.b, h.c, ⟨h.sl.1, fun e => by
  have e : v.nl = false := e
  show cond v.nl 0 1 = 1
  rw [e]; rfl⟩, h.len, h.str⟩
theorem clI_ok {x : I} (h : x.ok) : (clI x).ok := ⟨clV_ok h.lo, clV_ok h.hi⟩
theorem cl_ok {l : List I} (h : ∀ x ∈ l, x.ok) : ∀ x ∈ l.map clI, x.ok := by
  intro y hy
  obtain ⟨x, hx, rfl⟩ := List.mem_map.1 hy
  exact clI_ok (h x hx)
theorem limS_is {l : List I} (h : ∀ x ∈ l, x.ok) : (limS l).1.is 16 := by
  unfold limS
  by_cases hl : l.length > 16
  · rw [if_pos hl]; exact is_lf0.mono (by omega)
  · rw [if_neg hl]
    refine ⟨?_, cl_ok h, by rw [List.length_map]; omega⟩
    rw [List.length_map]
    exact tw_sl l
theorem readS_is (s : List UInt8) : (readS s).1.is 16 := by
  unfold readS
  by_cases c1 : s.length > 128
  · rw [if_pos c1]; exact is_lf0.mono (by omega)
  · rw [if_neg c1]
    cases h : readGoS (Lib.split s orB) [] 0 with
    | none => exact is_lf0.mono (by omega)
    | some x => exact limS_is (joinS_ok (readGoS_all (fun p => (altS_is p).ok) _ _ _ _ (by simp) h))
theorem readR_is (s : List UInt8) : (readR s).1.is 16 := by
  unfold readR
  by_cases c1 : s.length > 128
  · rw [if_pos c1]; exact is_lf0.mono (by omega)
  · rw [if_neg c1]
    by_cases c2 : (Lib.split s orB).length > 16
    · rw [if_pos c2]; exact is_lf0.mono (by omega)
    · rw [if_neg c2]
      cases h : readGoR (Lib.split s orB) [] with
      | none => exact is_lf0.mono (by omega)
      | some x =>
        have hg : goods (joinR x) := joinR_all up_good (readGoR_all altR_good _ _ _ (by simp) h)
        show (limR (lfR (joinR x))).1.is 16
        unfold limR
        by_cases hl : (lfR (joinR x)).l.length > 16
        · rw [if_pos hl]; exact is_lf0.mono (by omega)
        · rw [if_neg hl]
          exact is_lfR (fun y hy => (hg y hy).ok) (by have : ¬ (joinR x).length > 16 := hl; omega)
theorem den_cReadS (s : List UInt8) : Den E1 19 [strP s] (.tup [(cReadS s).1.p, intP (cReadS s).2]) := by rw [cReadS_eq]; exact den_span_Read s
theorem den_cReadR (s : List UInt8) : Den E1 20 [strP s] (.tup [(cReadR s).1.p, intP (cReadR s).2]) := by rw [cReadR_eq]; exact den_ref08_Read s
theorem den_cTxtS (x : LF) (h : x.is 16) : Den E1 13 [x.p] (.tup [strP (cTxtS x.l).1, intP (cTxtS x.l).2]) := by rw [cTxtS_eq]; exact den_span_Text x.l x.k x.nl x.full h.sl h.ok
theorem den_cTxtR (x : LF) (h : x.is 16) : Den E1 14 [x.p] (.tup [strP (cTxtR x.l).1, intP (cTxtR x.l).2]) := by rw [cTxtR_eq]; exact den_ref08_Text x.l x.k x.nl x.full h.sl h.ok
theorem den_span_Form (s : List UInt8) : Den E1 21 [strP s] (.tup [strP (cFormS s).1, intP (cFormS s).2]) := by
  refine den1 2000 _ rfl (by kernel_rfl) rfl rfl rfl (Eq.mpr (span_Form_go s _) ⟨den_cReadS s, fun h => ?_, fun h => ⟨den_cTxtS (cReadS s).1 (by rw [cReadS_eq]; exact readS_is s), ?_⟩⟩)
  · rw [cReadS_eq] at h ⊢
    rw [cFormS_eq, formS0, if_pos h]
    try rfl
  · rw [cReadS_eq] at h ⊢
    rw [cFormS_eq, formS0, h, cTxtS_eq]
    try rfl
theorem den_ref08_Form (s : List UInt8) : Den E1 22 [strP s] (.tup [strP (cFormR s).1, intP (cFormR s).2]) := by
  refine den1 2000 _ rfl (by kernel_rfl) rfl rfl rfl (Eq.mpr (ref08_Form_go s _) ⟨den_cReadR s, fun h => ?_, fun h => ⟨den_cTxtR (cReadR s).1 (by rw [cReadR_eq]; exact readR_is s), ?_⟩⟩)
  · rw [cReadR_eq] at h ⊢
    rw [cFormR_eq, formR0, if_pos h]
    try rfl
  · rw [cReadR_eq] at h ⊢
    rw [cFormR_eq, formR0, h, cTxtR_eq]
    try rfl
theorem den_span_Is (s : List UInt8) : Den E1 23 [strP s] (bolP (cIsS s)) := by
  refine den1 2000 _ rfl (by kernel_rfl) rfl rfl rfl (Eq.mpr (span_Is_go s _) ⟨den_span_Form s, fun h => ?_, fun h => ?_⟩)
  · rw [toList_bs, toList_bs, cIsS_eq]
    rw [cFormS_eq] at h ⊢
    rw [h, Bool.true_and]
  · rw [cIsS_eq]
    rw [cFormS_eq] at h
    rw [h, Bool.false_and]
theorem den_ref08_Is (s : List UInt8) : Den E1 24 [strP s] (bolP (cIsR s)) := by
  refine den1 2000 _ rfl (by kernel_rfl) rfl rfl rfl (Eq.mpr (ref08_Is_go s _) ⟨den_ref08_Form s, fun h => ?_, fun h => ?_⟩)
  · rw [toList_bs, toList_bs, cIsR_eq]
    rw [cFormR_eq] at h ⊢
    rw [h, Bool.true_and]
  · rw [cIsR_eq]
    rw [cFormR_eq] at h
    rw [h, Bool.false_and]
theorem den_SpanReads (s : List UInt8) : Den E1 5 [strP s] (bolP true) := by
  obtain ⟨h1, h2⟩ := read_same s
  have hf := form_same s
  have hS := readS_is s
  have hR := readR_is s
  have hsm : sameLs (cReadS s).1.l (cReadR s).1.l = true := by rw [cReadS_eq, cReadR_eq]; exact n_same h1
  have he : ((cReadS s).2 == (cReadR s).2) = true := by rw [cReadS_eq, cReadR_eq, h2]; exact beq_self_eq_true _
  have ht : (ByteArray.toList (bs (cFormS s).1) == ByteArray.toList (bs (cFormR s).1)) = true := by rw [cFormS_eq, cFormR_eq, hf]; exact beq_self_eq_true _
  have hg : ((cFormS s).2 == (cFormR s).2) = true := by rw [cFormS_eq, cFormR_eq, hf]; exact beq_self_eq_true _
  have hi : (cIsS s == cIsR s) = true := by rw [cIsS_eq, cIsR_eq, hf]; exact beq_self_eq_true _
  have hd : Den E1 16 [(cReadS s).1.p, (cReadR s).1.p] (bolP (sameLs (cReadS s).1.l (cReadR s).1.l)) := by
    rw [cReadS_eq, cReadR_eq]
    exact den_same _ _ _ _ _ _ _ _ hS.sl hR.sl hS.ok hR.ok (by have := hS.len; unfold small; omega)
  refine den1 2000 _ rfl (by kernel_rfl) rfl rfl rfl (Eq.mpr (law08_SpanReads_go s _) ⟨den_cReadS s, den_cReadR s, den_span_Form s, den_ref08_Form s, hd, fun _ => ⟨fun _ => ⟨fun _ => ⟨fun _ => ⟨den_span_Is s, den_ref08_Is s, fun _ => ⟨den_alive, fun _ => rfl, fun h => nomatch h⟩, fun h => ?_⟩, fun h => ?_⟩, fun h => ?_⟩, fun h => ?_⟩, fun h => ?_⟩)
  · rw [hi] at h; cases h
  · rw [hg] at h; cases h
  · rw [ht] at h; cases h
  · rw [he] at h; cases h
  · rw [hsm] at h; cases h
end Go.Proofs.YtlhfgonjcpapnaaGreatDoor.Abs

/-
  The abstract machine over the model, its soundness, walks of the program's functions and what they compute. Conditions: the values are of their types.
-/
import Derived.Test.YtlhfgonjcpapnaaGreatDoorNk

set_option linter.all false
set_option linter.unnecessarySimpa false

set_option maxRecDepth 20000
namespace Go.Proofs.YtlhfgonjcpapnaaGreatDoor.Abs
open Go Go.Proofs
theorem den_top : Den E1 90 [] (edgP 0 0 0 (.sl 0 true true []) false true) :=
  den1 2000 _ rfl (by kernel_rfl) rfl rfl rfl (Eq.mpr (span_top_go _) ⟨rfl, rfl⟩)
theorem den_Every : Den E1 65 [] (lf1 everyI).p :=
  den1 2000 _ rfl (by kernel_rfl) rfl rfl rfl (Eq.mpr (ref08_Every_go _) ⟨den_ref08_Bottom, ex_frz (by kernel_rfl)⟩)
theorem den_above (v : V) (o : Bool) : Den E1 67 [v.p, bolP o] (lf1 (fromI v o)).p :=
  den1 2000 _ rfl (by kernel_rfl) rfl rfl rfl (Eq.mpr (ref08_above_go v o _) ⟨rfl, ex_frz (by kernel_rfl)⟩)
theorem den_from (v : V) (o : Bool) : Den E1 128 [v.p, bolP o] (lf1 (fromI v o)).p :=
  den1 2000 _ rfl (by kernel_rfl) rfl rfl rfl (Eq.mpr (span_from_go v o _) ⟨rfl, den_top, den_between ⟨v, o, false⟩ ⟨zV, false, true⟩, ex_frz (by kernel_rfl)⟩)
theorem bottom_ok : bottomV.ok := ⟨⟨by decide, by decide⟩, ⟨by decide, by decide⟩, ⟨by decide, by decide⟩, ⟨by simp [bottomV], by simp [bottomV]⟩, by simp [bottomV, small], by simp [bottomV, small]⟩
theorem bottom_may : mayV bottomV = true := by decide
theorem zV_ok : zV.ok := ⟨⟨by decide, by decide⟩, ⟨by decide, by decide⟩, ⟨by decide, by decide⟩, ⟨by simp [zV], by simp [zV]⟩, by simp [zV, small], by simp [zV, small]⟩
theorem zV_may : mayV zV = true := by decide
theorem down_good {v : V} (hv : v.ok) (hm : mayV v = true) (o : Bool) : good (downI v o) := ⟨⟨bottom_ok, hv⟩, bottom_may, hm⟩
theorem from_good {v : V} (hv : v.ok) (hm : mayV v = true) (o : Bool) : good (fromI v o) := ⟨⟨hv, zV_ok⟩, hm, zV_may⟩
theorem den_ref08_below (v : V) (o : Bool) (hv : v.ok) (hm : mayV v = true) : Den E1 66 [v.p, bolP o] (resL (joinR [downI v o])) :=
  den1 2000 _ rfl (by kernel_rfl) rfl rfl rfl (Eq.mpr (ref08_below_go v o _) ⟨den_ref08_Bottom, rfl,
    den_ref08_join [downI v o] 11 false true (by simp) ⟨by simp, fun _ => rfl⟩ (fun x hx => by simp only [List.mem_singleton] at hx; subst hx; exact down_good hv hm o), rfl⟩)
theorem den_span_below (v : V) (o : Bool) (hv : v.ok) : Den E1 129 [v.p, bolP o] (resL (joinS [downI v o])) := by
  have h := span_below_go v o (resL (joinS [downI v o]))
  simp only [Bool.not_not] at h
  exact den1 2000 _ rfl (by kernel_rfl) rfl rfl rfl (Eq.mpr h ⟨den_bottom, trivial, by
      have := den_between bottomE ⟨v, !o, false⟩
      have e : betE bottomE ⟨v, !o, false⟩ = downI v o := by simp [betE, bottomE, downI]
      rw [e] at this
      exact this,
    den_join20 [downI v o] 11 false true ⟨by simp, fun _ => rfl⟩ (by simp) (Nat.lt_of_le_of_lt (delN_le _) (by simp)) (fun x hx => by simp only [List.mem_singleton] at hx; subst hx; exact ⟨bottom_ok, hv⟩), rfl⟩)
theorem den_limit (x : LF) (hl : x.l.length < 1000000) : Den E1 57 [x.p] (.tup [(limR x).1.p, intP (limR x).2]) := by
  refine den1 2000 _ rfl (by kernel_rfl) rfl rfl rfl (Eq.mpr (ref08_limit_go x.k x.nl x.full x.l _) ⟨fun h => ?_, fun h => ?_⟩)
  · simp only [decide_eq_true_eq, List.length_map] at h
    have : x.l.length > 16 := by omega
    simp [limR, this, lf0]
  · simp only [decide_eq_false_iff_not, List.length_map] at h
    have : ¬ x.l.length > 16 := by omega
    simp [limR, this]
theorem den_Next0 (v : V) (hv : v.ok) : Den E1 130 [v.p, intP 0] (.tup [(nextV v 0).p, intP (nextE v 0)]) := by
  refine den1 2000 _ rfl (by kernel_rfl) rfl rfl rfl (Eq.mpr (version_Next_0_go v _) ⟨rfl, den_version_May v hv, fun h1 => ⟨rfl, ?_⟩, fun h1 => ⟨rfl, rfl, rfl, rfl, by decide, rfl, fun h2 => ⟨rfl, ?_⟩, fun h2 => ?_⟩⟩)
  · have hm : mayV v = false := by cases hm : mayV v <;> simp [hm, errV] at h1 ⊢
    simp [nextV, nextE, nextOk, hm, zV]
  · have hm : mayV v = true := by cases hm : mayV v <;> simp [hm, errV] at h1 ⊢
    have h2' : v.a = 2147483647 := by simpa using h2
    simp [nextV, nextE, nextOk, hm, zV, h2']
  · have hm : mayV v = true := by cases hm : mayV v <;> simp [hm, errV] at h1 ⊢
    have h2' : ¬ v.a = 2147483647 := by simpa using h2
    simp [nextV, nextE, nextOk, hm, zV, h2']
theorem den_Next1 (v : V) (hv : v.ok) : Den E1 130 [v.p, intP 1] (.tup [(nextV v 1).p, intP (nextE v 1)]) := by
  refine den1 2000 _ rfl (by kernel_rfl) rfl rfl rfl (Eq.mpr (version_Next_1_go v _) ⟨rfl, den_version_May v hv, fun h1 => ⟨rfl, ?_⟩, fun h1 => ⟨rfl, rfl, rfl, rfl, by decide, rfl, fun h2 => ⟨rfl, ?_⟩, fun h2 => ?_⟩⟩)
  · have hm : mayV v = false := by cases hm : mayV v <;> simp [hm, errV] at h1 ⊢
    simp [nextV, nextE, nextOk, hm, zV]
  · have hm : mayV v = true := by cases hm : mayV v <;> simp [hm, errV] at h1 ⊢
    have h2' : v.b = 2147483647 := by simpa using h2
    simp [nextV, nextE, nextOk, hm, zV, h2']
  · have hm : mayV v = true := by cases hm : mayV v <;> simp [hm, errV] at h1 ⊢
    have h2' : ¬ v.b = 2147483647 := by simpa using h2
    simp [nextV, nextE, nextOk, hm, zV, h2']
theorem den_Next2 (v : V) (hv : v.ok) : Den E1 130 [v.p, intP 2] (.tup [(nextV v 2).p, intP (nextE v 2)]) := by
  refine den1 2000 _ rfl (by kernel_rfl) rfl rfl rfl (Eq.mpr (version_Next_2_go v _) ⟨rfl, den_version_May v hv, fun h1 => ⟨rfl, ?_⟩, fun h1 => ⟨rfl, rfl, rfl, rfl, by decide, rfl, fun h2 => ⟨rfl, ?_⟩, fun h2 => ?_⟩⟩)
  · have hm : mayV v = false := by cases hm : mayV v <;> simp [hm, errV] at h1 ⊢
    simp [nextV, nextE, nextOk, hm, zV]
  · have hm : mayV v = true := by cases hm : mayV v <;> simp [hm, errV] at h1 ⊢
    have h2' : v.c = 2147483647 := by simpa using h2
    simp [nextV, nextE, nextOk, hm, zV, h2']
  · have hm : mayV v = true := by cases hm : mayV v <;> simp [hm, errV] at h1 ⊢
    have h2' : ¬ v.c = 2147483647 := by simpa using h2
    simp [nextV, nextE, nextOk, hm, zV, h2']
theorem den_ref07_Next0 (v : V) (hv : v.ok) : Den E1 156 [v.p, intP 0] (.tup [(nextV v 0).p, intP (nextE v 0)]) := by
  refine den1 2000 _ rfl (by kernel_rfl) rfl rfl rfl (Eq.mpr (ref07_Next_0_go v _) ⟨rfl, den_ref07_May v hv, fun h1 => ⟨rfl, ?_⟩, fun h1 => ⟨rfl, rfl, rfl, rfl, by decide, rfl, rfl, fun h2 => ⟨rfl, ?_⟩, fun h2 => ?_⟩⟩)
  · have hm : mayV v = false := by simpa using h1
    simp [nextV, nextE, nextOk, hm, zV]
  · have hm : mayV v = true := by simpa using h1
    have h2' : v.a = 2147483647 := by simpa using h2
    simp [nextV, nextE, nextOk, hm, zV, h2']
  · have hm : mayV v = true := by simpa using h1
    have h2' : ¬ v.a = 2147483647 := by simpa using h2
    simp [nextV, nextE, nextOk, hm, zV, h2']
theorem den_ref07_Next1 (v : V) (hv : v.ok) : Den E1 156 [v.p, intP 1] (.tup [(nextV v 1).p, intP (nextE v 1)]) := by
  refine den1 2000 _ rfl (by kernel_rfl) rfl rfl rfl (Eq.mpr (ref07_Next_1_go v _) ⟨rfl, den_ref07_May v hv, fun h1 => ⟨rfl, ?_⟩, fun h1 => ⟨rfl, rfl, rfl, rfl, by decide, rfl, rfl, fun h2 => ⟨rfl, ?_⟩, fun h2 => ?_⟩⟩)
  · have hm : mayV v = false := by simpa using h1
    simp [nextV, nextE, nextOk, hm, zV]
  · have hm : mayV v = true := by simpa using h1
    have h2' : v.b = 2147483647 := by simpa using h2
    simp [nextV, nextE, nextOk, hm, zV, h2']
  · have hm : mayV v = true := by simpa using h1
    have h2' : ¬ v.b = 2147483647 := by simpa using h2
    simp [nextV, nextE, nextOk, hm, zV, h2']
theorem den_ref07_Next2 (v : V) (hv : v.ok) : Den E1 156 [v.p, intP 2] (.tup [(nextV v 2).p, intP (nextE v 2)]) := by
  refine den1 2000 _ rfl (by kernel_rfl) rfl rfl rfl (Eq.mpr (ref07_Next_2_go v _) ⟨rfl, den_ref07_May v hv, fun h1 => ⟨rfl, ?_⟩, fun h1 => ⟨rfl, rfl, rfl, rfl, by decide, rfl, rfl, fun h2 => ⟨rfl, ?_⟩, fun h2 => ?_⟩⟩)
  · have hm : mayV v = false := by simpa using h1
    simp [nextV, nextE, nextOk, hm, zV]
  · have hm : mayV v = true := by simpa using h1
    have h2' : v.c = 2147483647 := by simpa using h2
    simp [nextV, nextE, nextOk, hm, zV, h2']
  · have hm : mayV v = true := by simpa using h1
    have h2' : ¬ v.c = 2147483647 := by simpa using h2
    simp [nextV, nextE, nextOk, hm, zV, h2']
theorem den_Next (v : V) (hv : v.ok) (n : Int) (h0 : 0 ≤ n) (h2 : n ≤ 2) : Den E1 130 [v.p, intP n] (.tup [(nextV v n).p, intP (nextE v n)]) := by
  rcases (show n = 0 ∨ n = 1 ∨ n = 2 by omega) with rfl | rfl | rfl
  · exact den_Next0 v hv
  · exact den_Next1 v hv
  · exact den_Next2 v hv
theorem den_ref07_Next (v : V) (hv : v.ok) (n : Int) (h0 : 0 ≤ n) (h2 : n ≤ 2) : Den E1 156 [v.p, intP n] (.tup [(nextV v n).p, intP (nextE v n)]) := by
  rcases (show n = 0 ∨ n = 1 ∨ n = 2 by omega) with rfl | rfl | rfl
  · exact den_ref07_Next0 v hv
  · exact den_ref07_Next1 v hv
  · exact den_ref07_Next2 v hv
theorem den_Clip (k : Nat) (nl full : Bool) (x : List (List UInt8)) (hs : slOk 1 k nl x.length) : Den E1 71 [preP k nl full x] (preP k nl true x) := by
  refine den1 2000 _ rfl (by kernel_rfl) rfl rfl rfl (Eq.mpr (slices_Clip_string_string_go k nl full x _) ?_)
  have hk : nl = true ∨ k = 1 := by cases nl with
    | true => exact .inl rfl
    | false => exact .inr (hs.2 rfl)
  simp only [List.length_map, Int.toNat_natCast, gI_nat, gI_zero, Nat.sub_zero, List.drop_zero, beq_self_eq_true]
  refine ⟨⟨by omega, by omega⟩, ⟨by omega, by omega⟩, hk, ?_⟩
  rw [List.take_of_length_le (by simp)]
theorem den_Least (v : V) (hv : v.ok) (hm : mayV v = true) : Den E1 131 [v.p] (.tup [(leastV v).p, intP 0]) := by
  have hc : Den E1 71 [preP 1 false false [[48]]] (preP 1 false true [[48]]) := den_Clip 1 false false [[48]] ⟨by simp, fun _ => rfl⟩
  have hk : v.nl = true ∨ v.k = 1 := by cases h : v.nl with
    | true => exact .inl rfl
    | false => exact .inr (hv.sl.2 h)
  refine den1 2000 _ rfl (by kernel_rfl) rfl rfl rfl (Eq.mpr (version_Least_go v _) ⟨rfl, den_version_May v hv, fun h1 => ?_, fun h1 => ⟨rfl, ⟨by omega, by omega⟩, by decide, hk, rfl, by decide, fun h2 => ⟨by decide, rfl, rfl, hc, rfl, rfl, rfl, rfl⟩, fun h2 => ⟨⟨rfl, hv.sl.2 h2, rfl⟩, rfl, rfl, hc, rfl, rfl, rfl, rfl⟩⟩⟩)
  simp [hm, errV] at h1
theorem den_ref07_Least (v : V) : Den E1 157 [v.p] (leastV v).p := by
  refine den1 2000 _ rfl (by kernel_rfl) rfl rfl rfl (Eq.mpr (ref07_Least_go v _) ⟨rfl, rfl, rfl, ex_frz (by kernel_rfl)⟩)
end Go.Proofs.YtlhfgonjcpapnaaGreatDoor.Abs

set_option maxRecDepth 20000
namespace Go.Proofs.YtlhfgonjcpapnaaGreatDoor.Abs
open Go Go.Proofs
theorem extract_bs (s : List UInt8) (q i : Nat) : ByteArray.extract (bs s) q i = bs ((s.drop q).take (i - q)) := by
  apply ByteArray.ext
  apply Array.toList_inj.1
  rw [Lib.extract_data]
theorem split_hit {s sep : List UInt8} {i : Nat} (hs : sep ≠ []) (h : Lib.index s sep = i) : Lib.split s sep = s.take i :: Lib.split (s.drop (i + sep.length)) sep := by
  rw [split_cut s sep hs]
  have hc : Lib.cut s sep = (s.take i, s.drop (i + sep.length), true) := by simp [Lib.cut, h]
  rw [hc]; rfl
theorem split_miss {s sep : List UInt8} (hs : sep ≠ []) (h : Lib.index s sep = -1) : Lib.split s sep = [s] := by
  rw [split_cut s sep hs]
  have hc : Lib.cut s sep = (s, [], false) := by simp [Lib.cut, h]
  rw [hc]; rfl
theorem occ_byte {s : List UInt8} {c : UInt8} {i : Nat} (hi : i < s.length) : Lib.occAt s [c] i = (s.getD i 0 == c) := by
  unfold Lib.occAt
  rw [List.drop_eq_getElem_cons hi]
  simp [List.isPrefixOf, List.getD_eq_getElem?_getD, hi, Bool.beq_comm (a := c)]
theorem occ_drop {s sep : List UInt8} {q i : Nat} (hq : q ≤ i) : Lib.occAt (s.drop q) sep (i - q) = Lib.occAt s sep i := by
  unfold Lib.occAt
  rw [List.drop_drop, Nat.add_sub_cancel' hq]
theorem cut_S1 (s : List UInt8) (c : UInt8) (hl : s.length < 1000000) : ∀ (n i q : Nat) (xs : List (List UInt8)) (gm : Nat) j jr g, i + n = s.length + 1 → q ≤ i → xs.length ≤ i →
    (n = 0 → xs = Lib.split s [c]) → (n ≠ 0 → Lib.NoOcc (s.drop q) [c] (i - q) ∧ xs ++ Lib.split (s.drop q) [c] = Lib.split s [c]) →
    LoopAt E1 Tryz.f86 (preP 1 false false (Lib.split s [c])) 0 (ref07_Cut_S1 s c.toNat i q gm xs.length (List.map strP xs) j jr g) := by
  intro n
  induction n with
  | zero =>
    intro i q xs gm j jr g hi hq hx h0 h1
    refine loop_go 2000 _ (Eq.mpr (ref07_Cut_go_S1 s c.toNat i q gm xs.length xs j jr g _) ⟨fun h => ?_, fun h => frz_msl rfl (by simp) (by rw [h0 rfl])⟩)
    simp only [decide_eq_true_eq, size_bs] at h; omega
  | succ n ih =>
    intro i q xs gm j0 jr0 g0 hi hq hx h0 h1
    obtain ⟨hno, hsp⟩ := h1 (by omega)
    have hw : IntKind.wrap IntKind.i64 ((i : Int) + 1) = ((i + 1 : Nat) : Int) := wrap_i64 _ (by omega) (by omega)
    have hz : ByteArray.extract (bs s) (Int.toNat (q : Int)) (Int.toNat (i : Int)) = bs ((s.drop q).take (i - q)) := extract_bs s q i
    have hnx : ∀ (xs' : List (List UInt8)) q' gm j jr g, q' ≤ i + 1 → xs'.length ≤ i + 1 → (n = 0 → xs' = Lib.split s [c]) → (n ≠ 0 → Lib.NoOcc (s.drop q') [c] (i + 1 - q') ∧ xs' ++ Lib.split (s.drop q') [c] = Lib.split s [c]) →
        LoopAt E1 Tryz.f86 (preP 1 false false (Lib.split s [c])) 0 (ref07_Cut_S1 s c.toNat (i + 1 : Nat) q' gm xs'.length (List.map strP xs') j jr g) := fun xs' q' gm j jr g a b c d => ih (i + 1) q' xs' gm j jr g (by omega) a b c d
    have hpush : ∀ gm j jr g, (n = 0 → xs ++ [(s.drop q).take (i - q)] = Lib.split s [c]) → (n ≠ 0 → xs ++ [(s.drop q).take (i - q)] ++ Lib.split (s.drop (i + 1)) [c] = Lib.split s [c]) →
        LoopAt E1 Tryz.f86 (preP 1 false false (Lib.split s [c])) 0 (ref07_Cut_S1 s c.toNat (i + 1 : Nat) (i + 1 : Nat) gm (xs.length + 1) (List.drop 0 (List.map strP xs) ++ List.take 1 (List.drop 0 [PV.lit (Value.string (bs ((s.drop q).take (i - q))))])) j jr g) := by
      intro gm j jr g a b
      have := hnx (xs ++ [(s.drop q).take (i - q)]) (i + 1) gm j jr g (Nat.le_refl _) (by simp; omega) a (fun h => ⟨by rw [Nat.sub_self]; exact Lib.NoOcc.zero _ _, b h⟩)
      rw [List.length_append, List.map_append] at this
      exact this
    have hf : xs.length = (List.map strP xs).length ∧ fitsRow (xs.length + 1) 16 = true := ⟨by simp, fits_small (by omega)⟩
    refine loop_go 2000 _ (Eq.mpr (ref07_Cut_go_S1 s c.toNat i q gm xs.length xs j0 jr0 g0 _) ⟨fun h => ?_, fun h => ?_⟩)
    · simp only [hw, extract_bs, Int.toNat_natCast, gI_nat, gI_zero, Nat.zero_add, size_bs, eq_self, true_and, and_true, Nat.le_refl]
      refine ⟨fun h => ⟨⟨by omega, by omega⟩, ⟨by omega, by omega⟩, hf, fun j jr g => hpush _ j jr g ?_ ?_⟩, fun h => ⟨⟨by omega, ?_⟩, fun h2 => ⟨⟨by omega, by omega⟩, ⟨by omega, by omega⟩, hf, fun j jr g => hpush _ j jr g ?_ ?_⟩, fun h2 j jr g => hnx xs q gm j jr g (by omega) (by omega) ?_ ?_⟩⟩
      · intro hn
        have h' : (i : Int) = (s.length : Int) := by simpa using h
        rw [← hsp, split_miss (by simp) (Lib.index_past (i := i - q) (by simp) hno (by simp; omega)), List.take_of_length_le (by simp; omega)]
      · intro hn
        have h' : (i : Int) = (s.length : Int) := by simpa using h
        omega
      · have h' : ¬ (i : Int) = (s.length : Int) := by simpa using h
        omega
      · have h' : ¬ (i : Int) = (s.length : Int) := by simpa using h
        intro hn; omega
      · intro hn
        have h' : ¬ (i : Int) = (s.length : Int) := by simpa using h
        have hil : i < s.length := by omega
        have hc : (s.getD i 0 == c) = true := by
          have := eq_of_beq h2
          exact beq_iff_eq.2 (UInt8.toNat_inj.1 (by omega))
        have ho : Lib.occAt (s.drop q) [c] (i - q) = true := by rw [occ_drop hq, occ_byte hil]; exact hc
        rw [← hsp, split_hit (i := i - q) (by simp) (Lib.index_hit hno (by simp; omega) ho), List.drop_drop, List.length_singleton, show q + (i - q + 1) = i + 1 by omega, List.append_assoc]
        rfl
      · have h' : ¬ (i : Int) = (s.length : Int) := by simpa using h
        intro hn; omega
      · intro hn
        have h' : ¬ (i : Int) = (s.length : Int) := by simpa using h
        have hil : i < s.length := by omega
        have hc : (s.getD i 0 == c) = false := by
          cases hb : (s.getD i 0 == c) with
          | false => rfl
          | true => rw [eq_of_beq hb] at h2; simp at h2
        have ho : Lib.occAt (s.drop q) [c] (i - q) = false := by rw [occ_drop hq, occ_byte hil]; exact hc
        have := hno.succ ho
        rw [show i - q + 1 = i + 1 - q by omega] at this
        exact ⟨this, hsp⟩
    · simp only [decide_eq_false_iff_not, size_bs] at h; omega
theorem cut_S0 (s : List UInt8) (c : UInt8) (hl : s.length < 1000000) : ∀ (n i : Nat) z j jr g, i + (n + 1) = s.length + 1 → Lib.NoOcc s [c] i →
    LoopAt E1 Tryz.f86 (preP 1 false false (Lib.split s [c])) 0 (ref07_Cut_S0 s c.toNat i 0 z j jr g) := by
  intro n
  induction n with
  | zero =>
    intro i z j0 jr0 g0 hi hno
    have hw : IntKind.wrap IntKind.i64 ((i : Int) + 1) = ((i + 1 : Nat) : Int) := wrap_i64 _ (by omega) (by omega)
    have hz : ByteArray.extract (bs s) (Int.toNat 0) i = bs (s.take i) := extract_bs s 0 i
    have hsp : [s.take i] = Lib.split s [c] := by
      rw [split_miss (by simp) (Lib.index_past (i := i) (by simp) hno (by simp; omega)), List.take_of_length_le (by omega)]
    refine loop_go 2000 _ (Eq.mpr (ref07_Cut_go_S0 s c.toNat i 0 z j0 jr0 g0 _) ⟨fun h => ?_, fun h => ?_⟩)
    · simp only [hw, Int.toNat_natCast, gI_nat, gI_zero, size_bs, eq_self, true_and, and_true, Nat.le_refl]
      refine ⟨fun h => ⟨⟨by omega, by omega⟩, ⟨by omega, by omega⟩, fun j jr g => ?_⟩, fun h => ?_⟩
      · rw [hz]
        exact cut_S1 s c hl 0 (i + 1) (i + 1) [s.take i] _ j jr g (by omega) (Nat.le_refl _) (by simp) (fun _ => hsp) (fun h => absurd rfl h)
      · have h' : ¬ (i : Int) = (s.length : Int) := by simpa using h
        omega
    · simp only [decide_eq_false_iff_not, size_bs] at h; omega
  | succ n ih =>
    intro i z j0 jr0 g0 hi hno
    have hw : IntKind.wrap IntKind.i64 ((i : Int) + 1) = ((i + 1 : Nat) : Int) := wrap_i64 _ (by omega) (by omega)
    have hz : ByteArray.extract (bs s) (Int.toNat 0) i = bs (s.take i) := extract_bs s 0 i
    have hil : i < s.length := by omega
    refine loop_go 2000 _ (Eq.mpr (ref07_Cut_go_S0 s c.toNat i 0 z j0 jr0 g0 _) ⟨fun h => ?_, fun h => ?_⟩)
    · simp only [hw, Int.toNat_natCast, gI_nat, gI_zero, size_bs, eq_self, true_and, and_true, Nat.le_refl]
      refine ⟨fun h => ?_, fun h => ⟨⟨by omega, hil⟩, fun h2 => ⟨⟨by omega, by omega⟩, ⟨by omega, by omega⟩, fun j jr g => ?_⟩, fun h2 j jr g => ?_⟩⟩
      · have h' : (i : Int) = (s.length : Int) := by simpa using h
        omega
      · rw [hz]
        have hc : (s.getD i 0 == c) = true := by
          have := eq_of_beq h2
          exact beq_iff_eq.2 (UInt8.toNat_inj.1 (by omega))
        have ho : Lib.occAt s [c] i = true := by rw [occ_byte hil]; exact hc
        have hsp := split_hit (s := s) (sep := [c]) (i := i) (by simp) (Lib.index_hit hno (by omega) ho)
        exact cut_S1 s c hl (n + 1) (i + 1) (i + 1) [s.take i] _ j jr g (by omega) (Nat.le_refl _) (by simp) (fun h => by omega) (fun _ => ⟨by rw [Nat.sub_self]; exact Lib.NoOcc.zero _ _, by rw [hsp]; rfl⟩)
      · have hc : (s.getD i 0 == c) = false := by
          cases hb : (s.getD i 0 == c) with
          | false => rfl
          | true => rw [eq_of_beq hb] at h2; simp at h2
        have ho : Lib.occAt s [c] i = false := by rw [occ_byte hil]; exact hc
        exact ih (i + 1) z j jr g (by omega) (hno.succ ho)
    · simp only [decide_eq_false_iff_not, size_bs] at h; omega
theorem den_ref07_Cut (s : List UInt8) (c : UInt8) (hl : s.length < 1000000) : Den E1 86 [strP s, .lit (.int .u8 c.toNat)] (preP 1 false false (Lib.split s [c])) :=
  den1 2000 _ rfl (by kernel_rfl) rfl rfl rfl (Eq.mpr (ref07_Cut_go s c.toNat _) fun j jr g => cut_S0 s c hl s.length 0 _ j jr g (by omega) (Lib.NoOcc.zero _ _))
end Go.Proofs.YtlhfgonjcpapnaaGreatDoor.Abs

namespace Go.Proofs.YtlhfgonjcpapnaaGreatDoor.Abs
open Go Go.Proofs
def ref08_parts_S0 (s : List UInt8) (i : Int) (q : Int) (z : Row) (j : Nat → AV) (jr : Nat → Row) (g : Nat) : St :=
  { t := [strA (bs s), j 1, j 2, .pv (.sl 0 true true []), intA q, intA i] ++ jj j 6 30, h := [[row0, row0, row0, row0, row0, row0, row0, row0, row0, row0, row0, row0, row0, row0, row0, row0, row0, row0, row0, row0, row0, row0, row0, row0, jr 24, z, row0, row0, row0, row0, row0, row0, row0, row0, jr 34, jr 35]], g := g }
def ref08_parts_S1 (s : List UInt8) (i : Int) (q : Int) (gm : Nat) (m : Nat) (xsS : List PV) (j : Nat → AV) (jr : Nat → Row) (g : Nat) : St :=
  { t := [strA (bs s), j 1, j 2, .msl 0 25 gm 0 m false, intA q, intA i] ++ jj j 6 30, h := [[row0, row0, row0, row0, row0, row0, row0, row0, row0, row0, row0, row0, row0, row0, row0, row0, row0, row0, row0, row0, row0, row0, row0, row0, jr 24, ⟨gm, .row 1 9 xsS false⟩, row0, row0, row0, row0, row0, row0, row0, row0, jr 34, jr 35]], g := g }
theorem ref08_parts_go (s : List UInt8) (r : PV) : FnGo E1 Tryz.f55 [PV.lit (.string (bs s))] r 2000 (.mask (iv [(1, 2), (6, 35)]) [24, 34, 35]) =
  (AtAll Tryz.f55 r 0 (ref08_parts_S0 s 0 0 row0)) := by kernel_rfl
theorem ref08_parts_go_S0 (s : List UInt8) (i : Int) (q : Int) (z : Row) (j : Nat → AV) (jr : Nat → Row) (g : Nat) (r : PV) : LoopGo E1 Tryz.f55 r 0 2000 (.fork (.fork (.lit (.lit (.mask (iv [(1, 2), (6, 35)]) [24, 34, 35]))) (.mask (iv [(1, 2), (6, 35)]) [24, 34, 35])) (.lit (.lit (.hole 0)))) (ref08_parts_S0 s i q z j jr g) =
  (((decide (IntKind.i64.wrap (i + (4 : Int)) ≤ (↑(ByteArray.size (bs s)) : Int))) = true →
 (((0 : Int) ≤ IntKind.i64.wrap (i + (4 : Int))) ∧ (IntKind.i64.wrap (i + (4 : Int)) ≤ (↑(ByteArray.size (bs s)) : Int))) ∧
 (((0 : Int) ≤ i) ∧ (i ≤ (↑(Int.toNat (IntKind.i64.wrap (i + (4 : Int)))) : Int))) ∧
 ((ByteArray.toList (ByteArray.extract (bs s) (Int.toNat i) (Int.toNat (IntKind.i64.wrap (i + (4 : Int))))) == ByteArray.toList (bs [32, 124, 124, 32])) = true →
 (((0 : Int) ≤ i) ∧ (i ≤ (↑(ByteArray.size (bs s)) : Int))) ∧
 (((0 : Int) ≤ q) ∧ (q ≤ (↑(Int.toNat i) : Int))) ∧
 ((g + 5 + 6 + 5) = g + 5 + 6 + 5) ∧
 (((1 : Nat) = 1) ∧ ((1 : Nat) ≤ (1 : Nat))) ∧
 (((0 : Nat) = 0) ∧ (true = true)) ∧
 (AtAll Tryz.f55 r 0 (ref08_parts_S1 s (IntKind.i64.wrap (IntKind.i64.wrap (i + (3 : Int)) + (1 : Int))) (IntKind.i64.wrap (i + (4 : Int))) (g + 5 + 6 + 6) 1 [PV.lit (.string (ByteArray.extract (bs s) (Int.toNat q) (Int.toNat i)))]))) ∧
 ((ByteArray.toList (ByteArray.extract (bs s) (Int.toNat i) (Int.toNat (IntKind.i64.wrap (i + (4 : Int))))) == ByteArray.toList (bs [32, 124, 124, 32])) = false →
 AtAll Tryz.f55 r 0 (ref08_parts_S0 s (IntKind.i64.wrap (i + (1 : Int))) q z))) ∧
 ((decide (IntKind.i64.wrap (i + (4 : Int)) ≤ (↑(ByteArray.size (bs s)) : Int))) = false →
 (((0 : Int) ≤ q) ∧ (q ≤ (↑(ByteArray.size (bs s)) : Int))) ∧
 ((g + 5 + 4) = g + 5 + 4) ∧
 (((1 : Nat) = 1) ∧ ((1 : Nat) ≤ (1 : Nat))) ∧
 (((0 : Nat) = 0) ∧ (true = true)) ∧
 ∃ hp, frz frzDepth (.msl 0 35 (g + 5 + 5) 0 1 false) [[row0, row0, row0, row0, row0, row0, row0, row0, row0, row0, row0, row0, row0, row0, row0, row0, row0, row0, row0, row0, row0, row0, row0, row0, jr 24, z, row0, row0, row0, row0, row0, row0, row0, row0, ⟨g + 5 + 4, .row 1 9 [PV.lit (.string (ByteArray.extract (bs s) (Int.toNat q) (ByteArray.size (bs s))))] false⟩, ⟨g + 5 + 5, .row 1 9 [PV.lit (.string (ByteArray.extract (bs s) (Int.toNat q) (ByteArray.size (bs s))))] false⟩]] = some (r, hp))) := by kernel_rfl
theorem ref08_parts_go_S1 (s : List UInt8) (i : Int) (q : Int) (gm : Nat) (m : Nat) (xs : List (List UInt8)) (j : Nat → AV) (jr : Nat → Row) (g : Nat) (r : PV) : LoopGo E1 Tryz.f55 r 0 2000 (.fork (.fork (.lit (.mask (iv [(1, 2), (6, 35)]) [24, 34, 35])) (.mask (iv [(1, 2), (6, 35)]) [24, 34, 35])) (.lit (.hole 0))) (ref08_parts_S1 s i q gm m (List.map strP xs) j jr g) =
  (((decide (IntKind.i64.wrap (i + (4 : Int)) ≤ (↑(ByteArray.size (bs s)) : Int))) = true →
 (((0 : Int) ≤ IntKind.i64.wrap (i + (4 : Int))) ∧ (IntKind.i64.wrap (i + (4 : Int)) ≤ (↑(ByteArray.size (bs s)) : Int))) ∧
 (((0 : Int) ≤ i) ∧ (i ≤ (↑(Int.toNat (IntKind.i64.wrap (i + (4 : Int)))) : Int))) ∧
 ((ByteArray.toList (ByteArray.extract (bs s) (Int.toNat i) (Int.toNat (IntKind.i64.wrap (i + (4 : Int))))) == ByteArray.toList (bs [32, 124, 124, 32])) = true →
 (((0 : Int) ≤ i) ∧ (i ≤ (↑(ByteArray.size (bs s)) : Int))) ∧
 (((0 : Int) ≤ q) ∧ (q ≤ (↑(Int.toNat i) : Int))) ∧
 ((g + 5 + 6 + 5) = g + 5 + 6 + 5) ∧
 (((1 : Nat) = 1) ∧ ((1 : Nat) ≤ (1 : Nat))) ∧
 (gm = gm) ∧
 ((false = false) ∧ (((1 : Nat) = 1) ∧ (((9 : Nat) = 9) ∧ ((((0 : Nat) + m) = List.length (List.map strP xs)) ∧ ((fitsRow (m + 1) (16 : Nat)) = true))))) ∧
 (AtAll Tryz.f55 r 0 (ref08_parts_S1 s (IntKind.i64.wrap (IntKind.i64.wrap (i + (3 : Int)) + (1 : Int))) (IntKind.i64.wrap (i + (4 : Int))) (g + 5 + 6 + 6) (m + 1) (List.drop (0 : Nat) (List.map strP xs) ++ List.take (1 : Nat) (List.drop (0 : Nat) [PV.lit (Value.string (ByteArray.extract (bs s) (Int.toNat q) (Int.toNat i)))]))))) ∧
 ((ByteArray.toList (ByteArray.extract (bs s) (Int.toNat i) (Int.toNat (IntKind.i64.wrap (i + (4 : Int))))) == ByteArray.toList (bs [32, 124, 124, 32])) = false →
 AtAll Tryz.f55 r 0 (ref08_parts_S1 s (IntKind.i64.wrap (i + (1 : Int))) q gm m (List.map strP xs)))) ∧
 ((decide (IntKind.i64.wrap (i + (4 : Int)) ≤ (↑(ByteArray.size (bs s)) : Int))) = false →
 (((0 : Int) ≤ q) ∧ (q ≤ (↑(ByteArray.size (bs s)) : Int))) ∧
 ((g + 5 + 4) = g + 5 + 4) ∧
 (((1 : Nat) = 1) ∧ ((1 : Nat) ≤ (1 : Nat))) ∧
 (gm = gm) ∧
 ((false = false) ∧ (((1 : Nat) = 1) ∧ (((9 : Nat) = 9) ∧ ((((0 : Nat) + m) = List.length (List.map strP xs)) ∧ ((fitsRow (m + 1) (16 : Nat)) = true))))) ∧
 ∃ hp, frz frzDepth (.msl 0 25 (g + 5 + 5) 0 (m + 1) false) [[row0, row0, row0, row0, row0, row0, row0, row0, row0, row0, row0, row0, row0, row0, row0, row0, row0, row0, row0, row0, row0, row0, row0, row0, jr 24, ⟨g + 5 + 5, .row 1 9 (List.drop (0 : Nat) (List.map strP xs) ++ List.take (1 : Nat) (List.drop (0 : Nat) [PV.lit (Value.string (ByteArray.extract (bs s) (Int.toNat q) (ByteArray.size (bs s))))])) false⟩, row0, row0, row0, row0, row0, row0, row0, row0, ⟨g + 5 + 4, .row 1 9 [PV.lit (.string (ByteArray.extract (bs s) (Int.toNat q) (ByteArray.size (bs s))))] false⟩, jr 35]] = some (r, hp))) := by kernel_rfl
def ref08_alternative_S0 (s : List UInt8) (i : Int) (c : LF) (j : Nat → AV) (jr : Nat → Row) (g : Nat) : St :=
  { t := [j 0, j 1, j 2, j 3, .pv (.sl 1 false false (List.map strP (Lib.split s [32]))), .pv (LF.p c), intA i] ++ jj j 7 33, h := [List.replicate 40 row0], g := g }
theorem ref08_alternative_go (s : List UInt8) (r : PV) : FnGo E1 Tryz.f56 [PV.lit (.string (bs s))] r 2000 (.fork (.res (.sl 11 false true [itvP 0 0 0 (.sl 1 false true [PV.lit (.string (bs [48]))]) false 0 0 0 (.sl 0 true true []) false true]) (.hole 0)) (.fork (.hole 0) (.res (.sl 1 false false (List.map strP (Lib.split s [32]))) (.fork (.hole 0) (.res (.sl 11 false true [itvP 0 0 0 (.sl 1 false true [PV.lit (.string (bs [48]))]) false 0 0 0 (.sl 0 true true []) false true]) (.mask (iv [(0, 3), (7, 39)]) [])))))) =
  (((ByteArray.toList (bs s) == ByteArray.toList (bs [42])) = true →
 (Den E1 65 [] (.sl 11 false true [itvP 0 0 0 (.sl 1 false true [PV.lit (.string (bs [48]))]) false 0 0 0 (.sl 0 true true []) false true])) ∧
 ((.tup [.sl 11 false true [itvP 0 0 0 (.sl 1 false true [PV.lit (.string (bs [48]))]) false 0 0 0 (.sl 0 true true []) false true], bolP true]) : PV) = r) ∧
 ((ByteArray.toList (bs s) == ByteArray.toList (bs [42])) = false →
 ((ByteArray.toList (bs s) == ByteArray.toList (bs [33])) = true →
 ((.tup [.sl 0 true true [], bolP true]) : PV) = r) ∧
 ((ByteArray.toList (bs s) == ByteArray.toList (bs [33])) = false →
 (Den E1 86 [PV.lit (.string (bs s)), PV.lit (.int .u8 32)] (.sl 1 false false (List.map strP (Lib.split s [32])))) ∧
 ((decide ((↑(List.length (List.map strP (Lib.split s [32]))) : Int) > (16 : Int))) = true →
 ((.tup [.sl 0 true true [], bolP false]) : PV) = r) ∧
 ((decide ((↑(List.length (List.map strP (Lib.split s [32]))) : Int) > (16 : Int))) = false →
 (Den E1 65 [] (.sl 11 false true [itvP 0 0 0 (.sl 1 false true [PV.lit (.string (bs [48]))]) false 0 0 0 (.sl 0 true true []) false true])) ∧
 (∀ (j' : Nat → AV) (jr' : Nat → Row) (g' : Nat), LoopAt E1 Tryz.f56 r 0 { t := [j' 0, j' 1, j' 2, j' 3, .pv (.sl 1 false false (List.map strP (Lib.split s [32]))), .pv (.sl 11 false true [itvP 0 0 0 (.sl 1 false true [PV.lit (.string (bs [48]))]) false 0 0 0 (.sl 0 true true []) false true]), intA 0] ++ jj j' 7 33, h := [List.replicate 40 row0], g := g' }))))) := by kernel_rfl
theorem ref08_alternative_go_S0 (s : List UInt8) (i : Int) (c : LF) (j : Nat → AV) (jr : Nat → Row) (g : Nat) (r : PV) : LoopGo E1 Tryz.f56 r 0 2000 (.fork (.val (PV.lit (.string (bs (List.getD (Lib.split s [32]) (Int.toNat i) default)))) (.res (.tup [LF.p (Prod.fst (cmprR (List.getD (Lib.split s [32]) (Int.toNat i) default))), bolP (Prod.snd (cmprR (List.getD (Lib.split s [32]) (Int.toNat i) default)))]) (.fork (.hole 0) (.res (resL (meetR (LF.l c) (LF.l (Prod.fst (cmprR (List.getD (Lib.split s [32]) (Int.toNat i) default)))))) (.mask (iv [(0, 3), (7, 39)]) []))))) (.hole 0)) (ref08_alternative_S0 s i c j jr g) =
  (((decide (i < (↑(List.length (List.map strP (Lib.split s [32]))) : Int))) = true →
 (((0 : Int) ≤ i) ∧ ((false = false) ∧ ((1 : Nat) = 1))) ∧
 (((List.map strP (Lib.split s [32]))[Int.toNat i]?) = some (PV.lit (.string (bs (List.getD (Lib.split s [32]) (Int.toNat i) default))))) ∧
 (Den E1 99 [PV.lit (.string (bs (List.getD (Lib.split s [32]) (Int.toNat i) default)))] (.tup [LF.p (Prod.fst (cmprR (List.getD (Lib.split s [32]) (Int.toNat i) default))), bolP (Prod.snd (cmprR (List.getD (Lib.split s [32]) (Int.toNat i) default)))])) ∧
 ((!Prod.snd (cmprR (List.getD (Lib.split s [32]) (Int.toNat i) default))) = true →
 ((.tup [.sl 0 true true [], bolP false]) : PV) = r) ∧
 ((!Prod.snd (cmprR (List.getD (Lib.split s [32]) (Int.toNat i) default))) = false →
 (Den E1 61 [LF.p c, LF.p (Prod.fst (cmprR (List.getD (Lib.split s [32]) (Int.toNat i) default)))] (resL (meetR (LF.l c) (LF.l (Prod.fst (cmprR (List.getD (Lib.split s [32]) (Int.toNat i) default))))))) ∧
 (∀ (j' : Nat → AV) (jr' : Nat → Row) (g' : Nat), LoopAt E1 Tryz.f56 r 0 { t := [j' 0, j' 1, j' 2, j' 3, .pv (.sl 1 false false (List.map strP (Lib.split s [32]))), .pv (resL (meetR (LF.l c) (LF.l (Prod.fst (cmprR (List.getD (Lib.split s [32]) (Int.toNat i) default)))))), intA (IntKind.i64.wrap (i + (1 : Int)))] ++ jj j' 7 33, h := [List.replicate 40 row0], g := g' }))) ∧
 ((decide (i < (↑(List.length (List.map strP (Lib.split s [32]))) : Int))) = false →
 ((.tup [LF.p c, bolP true]) : PV) = r)) := by kernel_rfl
def ref08_Read_S0 (s : List UInt8) (i : Int) (z : Row) (j : Nat → AV) (jr : Nat → Row) (g : Nat) : St :=
  { t := [j 0, j 1, j 2, j 3, .pv (.sl 1 false false (List.map strP (Lib.split s orB))), .pv (.sl 0 true true []), intA i] ++ jj j 7 34, h := [List.replicate 35 row0 ++ [z] ++ List.replicate 5 row0], g := g }
def ref08_Read_S1 (s : List UInt8) (i : Int) (gm : Nat) (n : Nat) (xsI : List PV) (j : Nat → AV) (jr : Nat → Row) (g : Nat) : St :=
  { t := [j 0, j 1, j 2, j 3, .pv (.sl 1 false false (List.map strP (Lib.split s orB))), .msl 0 35 gm 0 n false, intA i] ++ jj j 7 34, h := [List.replicate 35 row0 ++ [⟨gm, .row 11 63 xsI false⟩] ++ List.replicate 5 row0], g := g }
theorem ref08_Read_go (s : List UInt8) (r : PV) : FnGo E1 Tryz.f20 [PV.lit (.string (bs s))] r 2000 (.fork (.hole 0) (.res (.sl 1 false false (List.map strP (Lib.split s orB))) (.fork (.hole 0) (.mask (iv [(0, 3), (7, 40)]) [])))) =
  (((decide ((↑(ByteArray.size (bs s)) : Int) > (128 : Int))) = true →
 ((.tup [.sl 0 true true [], intP 80]) : PV) = r) ∧
 ((decide ((↑(ByteArray.size (bs s)) : Int) > (128 : Int))) = false →
 (Den E1 55 [PV.lit (.string (bs s))] (.sl 1 false false (List.map strP (Lib.split s orB)))) ∧
 ((decide ((↑(List.length (List.map strP (Lib.split s orB))) : Int) > (16 : Int))) = true →
 ((.tup [.sl 0 true true [], intP 80]) : PV) = r) ∧
 ((decide ((↑(List.length (List.map strP (Lib.split s orB))) : Int) > (16 : Int))) = false →
 AtAll Tryz.f20 r 0 (ref08_Read_S0 s 0 row0)))) := by kernel_rfl
theorem ref08_Read_go_S0 (s : List UInt8) (i : Int) (z : Row) (j : Nat → AV) (jr : Nat → Row) (g : Nat) (r : PV) : LoopGo E1 Tryz.f20 r 0 2000 (.fork (.val (PV.lit (.string (bs (List.getD (Lib.split s orB) (Int.toNat i) default)))) (.res (.tup [LF.p (Prod.fst (altR (List.getD (Lib.split s orB) (Int.toNat i) default))), bolP (Prod.snd (altR (List.getD (Lib.split s orB) (Int.toNat i) default)))]) (.fork (.hole 0) (.fork (.mask (iv [(0, 3), (7, 40)]) []) (.lit (.mask (iv [(0, 3), (7, 40)]) [])))))) (.res (.sl 0 true true []) (.res (.tup [.sl 0 true true [], intP 0]) (.hole 0)))) (ref08_Read_S0 s i z j jr g) =
  (((decide (i < (↑(List.length (List.map strP (Lib.split s orB))) : Int))) = true →
 (((0 : Int) ≤ i) ∧ ((false = false) ∧ ((1 : Nat) = 1))) ∧
 (((List.map strP (Lib.split s orB))[Int.toNat i]?) = some (PV.lit (.string (bs (List.getD (Lib.split s orB) (Int.toNat i) default))))) ∧
 (Den E1 56 [PV.lit (.string (bs (List.getD (Lib.split s orB) (Int.toNat i) default)))] (.tup [LF.p (Prod.fst (altR (List.getD (Lib.split s orB) (Int.toNat i) default))), bolP (Prod.snd (altR (List.getD (Lib.split s orB) (Int.toNat i) default)))])) ∧
 ((!Prod.snd (altR (List.getD (Lib.split s orB) (Int.toNat i) default))) = true →
 ((.tup [.sl 0 true true [], intP 80]) : PV) = r) ∧
 ((!Prod.snd (altR (List.getD (Lib.split s orB) (Int.toNat i) default))) = false →
 ((((LF.nl (Prod.fst (altR (List.getD (Lib.split s orB) (Int.toNat i) default)))) = true → (List.map I.p (LF.l (Prod.fst (altR (List.getD (Lib.split s orB) (Int.toNat i) default))))) = [])) ∧ (((LF.nl (Prod.fst (altR (List.getD (Lib.split s orB) (Int.toNat i) default)))) = false → (LF.k (Prod.fst (altR (List.getD (Lib.split s orB) (Int.toNat i) default)))) = 11))) ∧
 ((List.isEmpty (List.map I.p (LF.l (Prod.fst (altR (List.getD (Lib.split s orB) (Int.toNat i) default)))))) = true →
 AtAll Tryz.f20 r 0 (ref08_Read_S0 s (IntKind.i64.wrap (i + (1 : Int))) z)) ∧
 ((List.isEmpty (List.map I.p (LF.l (Prod.fst (altR (List.getD (Lib.split s orB) (Int.toNat i) default)))))) = false →
 (((0 : Nat) = 0) ∧ ((fitsRow (List.length (List.map I.p (LF.l (Prod.fst (altR (List.getD (Lib.split s orB) (Int.toNat i) default)))))) (104 : Nat)) = true)) ∧
 (∀ (j' : Nat → AV) (jr' : Nat → Row) (g' : Nat), LoopAt E1 Tryz.f20 r 0 (ref08_Read_S1 s (IntKind.i64.wrap (i + (1 : Int))) (g + 4 + 10 + 2 + 2) (List.length (List.map I.p (LF.l (Prod.fst (altR (List.getD (Lib.split s orB) (Int.toNat i) default)))))) (List.map I.p (LF.l (Prod.fst (altR (List.getD (Lib.split s orB) (Int.toNat i) default))))) j' jr' g'))))) ∧
 ((decide (i < (↑(List.length (List.map strP (Lib.split s orB))) : Int))) = false →
 (Den E1 58 [.sl 0 true true []] (.sl 0 true true [])) ∧
 (Den E1 57 [.sl 0 true true []] (.tup [.sl 0 true true [], intP 0])) ∧
 ((.tup [.sl 0 true true [], intP 0]) : PV) = r)) := by kernel_rfl
theorem ref08_Read_go_S1 (s : List UInt8) (i : Int) (gm : Nat) (n : Nat) (xs : List I) (j : Nat → AV) (jr : Nat → Row) (g : Nat) (r : PV) : LoopGo E1 Tryz.f20 r 0 2000 (.fork (.val (PV.lit (.string (bs (List.getD (Lib.split s orB) (Int.toNat i) default)))) (.res (.tup [LF.p (Prod.fst (altR (List.getD (Lib.split s orB) (Int.toNat i) default))), bolP (Prod.snd (altR (List.getD (Lib.split s orB) (Int.toNat i) default)))]) (.fork (.hole 0) (.lit (.mask (iv [(0, 3), (7, 40)]) []))))) (.frz [.sl 11 false false (List.map I.p xs)] [List.replicate 35 row0 ++ [⟨gm, .row 11 63 (List.map I.p xs) true⟩] ++ List.replicate 5 row0] (.res (resL (joinR xs)) (.res (.tup [LF.p (Prod.fst (limR { k := twK (joinR xs), nl := twN (joinR xs), full := twN (joinR xs), l := joinR xs })), intP (Prod.snd (limR { k := twK (joinR xs), nl := twN (joinR xs), full := twN (joinR xs), l := joinR xs }))]) (.hole 0))))) (ref08_Read_S1 s i gm n (List.map I.p xs) j jr g) =
  (((decide (i < (↑(List.length (List.map strP (Lib.split s orB))) : Int))) = true →
 (((0 : Int) ≤ i) ∧ ((false = false) ∧ ((1 : Nat) = 1))) ∧
 (((List.map strP (Lib.split s orB))[Int.toNat i]?) = some (PV.lit (.string (bs (List.getD (Lib.split s orB) (Int.toNat i) default))))) ∧
 (Den E1 56 [PV.lit (.string (bs (List.getD (Lib.split s orB) (Int.toNat i) default)))] (.tup [LF.p (Prod.fst (altR (List.getD (Lib.split s orB) (Int.toNat i) default))), bolP (Prod.snd (altR (List.getD (Lib.split s orB) (Int.toNat i) default)))])) ∧
 ((!Prod.snd (altR (List.getD (Lib.split s orB) (Int.toNat i) default))) = true →
 ((.tup [.sl 0 true true [], intP 80]) : PV) = r) ∧
 ((!Prod.snd (altR (List.getD (Lib.split s orB) (Int.toNat i) default))) = false →
 ((((LF.nl (Prod.fst (altR (List.getD (Lib.split s orB) (Int.toNat i) default)))) = true → (List.map I.p (LF.l (Prod.fst (altR (List.getD (Lib.split s orB) (Int.toNat i) default))))) = [])) ∧ (((LF.nl (Prod.fst (altR (List.getD (Lib.split s orB) (Int.toNat i) default)))) = false → (LF.k (Prod.fst (altR (List.getD (Lib.split s orB) (Int.toNat i) default)))) = 11))) ∧
 (gm = gm) ∧
 ((false = false) ∧ (((11 : Nat) = 11) ∧ (((63 : Nat) = 63) ∧ ((((0 : Nat) + n) = List.length (List.map I.p xs)) ∧ ((fitsRow (n + List.length (List.map I.p (LF.l (Prod.fst (altR (List.getD (Lib.split s orB) (Int.toNat i) default)))))) (104 : Nat)) = true))))) ∧
 (∀ (j' : Nat → AV) (jr' : Nat → Row) (g' : Nat), LoopAt E1 Tryz.f20 r 0 (ref08_Read_S1 s (IntKind.i64.wrap (i + (1 : Int))) (g + 4 + 10 + 2 + 2) (n + List.length (List.map I.p (LF.l (Prod.fst (altR (List.getD (Lib.split s orB) (Int.toNat i) default)))))) (List.drop (0 : Nat) (List.map I.p xs) ++ List.map I.p (LF.l (Prod.fst (altR (List.getD (Lib.split s orB) (Int.toNat i) default))))) j' jr' g')))) ∧
 ((decide (i < (↑(List.length (List.map strP (Lib.split s orB))) : Int))) = false →
 (frzs frzDepth [.msl 0 35 gm 0 n false] [List.replicate 35 row0 ++ [⟨gm, .row 11 63 (List.map I.p xs) false⟩] ++ List.replicate 5 row0] = some ([.sl 11 false false (List.map I.p xs)], [List.replicate 35 row0 ++ [⟨gm, .row 11 63 (List.map I.p xs) true⟩] ++ List.replicate 5 row0])) ∧
 (Den E1 58 [.sl 11 false false (List.map I.p xs)] (resL (joinR xs))) ∧
 (Den E1 57 [resL (joinR xs)] (.tup [LF.p (Prod.fst (limR { k := twK (joinR xs), nl := twN (joinR xs), full := twN (joinR xs), l := joinR xs })), intP (Prod.snd (limR { k := twK (joinR xs), nl := twN (joinR xs), full := twN (joinR xs), l := joinR xs }))])) ∧
 ((.tup [LF.p (Prod.fst (limR { k := twK (joinR xs), nl := twN (joinR xs), full := twN (joinR xs), l := joinR xs })), intP (Prod.snd (limR { k := twK (joinR xs), nl := twN (joinR xs), full := twN (joinR xs), l := joinR xs }))]) : PV) = r)) := by kernel_rfl
end Go.Proofs.YtlhfgonjcpapnaaGreatDoor.Abs

set_option maxRecDepth 20000
namespace Go.Proofs.YtlhfgonjcpapnaaGreatDoor.Abs
open Go Go.Proofs
theorem occ_or {s : List UInt8} {i : Nat} : Lib.occAt s orB i = ((s.drop i).take 4 == orB) := by
  unfold Lib.occAt
  cases h : ((s.drop i).take 4 == orB) with
  | true =>
    have h' := eq_of_beq h
    exact List.isPrefixOf_iff_prefix.2 (List.prefix_iff_eq_take.2 h'.symm)
  | false =>
    cases h2 : orB.isPrefixOf (s.drop i) with
    | false => rfl
    | true =>
      have h3 := List.prefix_iff_eq_take.1 (List.isPrefixOf_iff_prefix.1 h2)
      rw [show (s.drop i).take 4 = orB from h3.symm] at h
      simp at h
theorem parts_S1 (s : List UInt8) (hl : s.length < 1000000) : ∀ (n i q : Nat) (xs : List (List UInt8)) (gm : Nat) j jr g, s.length - i ≤ n → i ≤ s.length → q ≤ i → xs.length ≤ i → Lib.NoOcc (s.drop q) orB (i - q) → xs ++ Lib.split (s.drop q) orB = Lib.split s orB →
    LoopAt E1 Tryz.f55 (preP 1 false false (Lib.split s orB)) 0 (ref08_parts_S1 s i q gm xs.length (List.map strP xs) j jr g) := by
  intro n
  induction n with
  | zero =>
    intro i q xs gm j0 jr0 g0 hi hil hq hx hno hsp
    have hw4 : IntKind.wrap IntKind.i64 ((i : Int) + 4) = ((i + 4 : Nat) : Int) := wrap_i64 _ (by omega) (by omega)
    have hf : xs.length = (List.map strP xs).length ∧ fitsRow (xs.length + 1) 16 = true := ⟨by simp, fits_small (by omega)⟩
    refine loop_go 2000 _ (Eq.mpr (ref08_parts_go_S1 s i q gm xs.length xs j0 jr0 g0 _) ⟨fun h => ?_, fun h => ?_⟩)
    · simp only [hw4, decide_eq_true_eq, size_bs] at h; omega
    · simp only [hw4, decide_eq_false_iff_not, size_bs] at h
      simp only [extract_bs, Int.toNat_natCast, gI_nat, gI_zero, Nat.zero_add, size_bs, eq_self, true_and, and_true, Nat.le_refl]
      refine ⟨⟨by omega, by omega⟩, hf, frz_msl rfl (by simp) ?_⟩
      rw [← hsp, split_miss (by simp [orB]) (Lib.index_past (i := i - q) (by simp [orB]) hno (by simp [orB]; omega)), List.take_of_length_le (by simp)]
      simp only [List.map_append, List.map_cons, List.map_nil, List.drop_zero, List.take_succ_cons, List.take_zero]
      rw [List.take_of_length_le (l := s.drop q) (i := s.length - q) (by simp)]
      show PV.sl 1 false false (List.map strP (xs ++ [s.drop q])) = _
      rw [List.map_append]
      rfl
  | succ n ih =>
    intro i q xs gm j0 jr0 g0 hi hil hq hx hno hsp
    have hw4 : IntKind.wrap IntKind.i64 ((i : Int) + 4) = ((i + 4 : Nat) : Int) := wrap_i64 _ (by omega) (by omega)
    have hw1 : IntKind.wrap IntKind.i64 ((i : Int) + 1) = ((i + 1 : Nat) : Int) := wrap_i64 _ (by omega) (by omega)
    have hw3 : IntKind.wrap IntKind.i64 (IntKind.wrap IntKind.i64 ((i : Int) + 3) + 1) = ((i + 4 : Nat) : Int) := by
      rw [wrap_i64 ((i : Int) + 3) (by omega) (by omega), wrap_i64 _ (by omega) (by omega)]; omega
    have hf : xs.length = (List.map strP xs).length ∧ fitsRow (xs.length + 1) 16 = true := ⟨by simp, fits_small (by omega)⟩
    refine loop_go 2000 _ (Eq.mpr (ref08_parts_go_S1 s i q gm xs.length xs j0 jr0 g0 _) ⟨fun h => ?_, fun h => ?_⟩)
    · simp only [hw4, hw1, hw3, decide_eq_true_eq, size_bs] at h
      simp only [hw4, hw1, hw3, extract_bs, Int.toNat_natCast, gI_nat, gI_zero, Nat.zero_add, size_bs, eq_self, true_and, and_true, Nat.le_refl]
      have hcmp : (ByteArray.toList (bs ((s.drop i).take (i + 4 - i))) == ByteArray.toList (bs [32, 124, 124, 32])) = Lib.occAt s orB i := by
        rw [toList_bs, toList_bs, occ_or, Nat.add_sub_cancel_left]; rfl
      rw [hcmp]
      refine ⟨⟨by omega, by omega⟩, ⟨by omega, by omega⟩, fun h2 => ⟨⟨by omega, by omega⟩, ⟨by omega, by omega⟩, hf, fun j jr g => ?_⟩, fun h2 j jr g => ?_⟩
      · have ho : Lib.occAt (s.drop q) orB (i - q) = true := by rw [occ_drop hq]; exact h2
        have hs2 := split_hit (i := i - q) (by simp [orB]) (Lib.index_hit hno (by simp; omega) ho)
        have := ih (i + 4) (i + 4) (xs ++ [(s.drop q).take (i - q)]) (g0 + 5 + 6 + 6) j jr g (by omega) (by omega) (Nat.le_refl _) (by simp; omega) (by rw [Nat.sub_self]; exact Lib.NoOcc.zero _ _) (by
          rw [← hsp, hs2, List.drop_drop, show q + (i - q + orB.length) = i + 4 by simp [orB]; omega, List.append_assoc]; rfl)
        rw [List.length_append, List.map_append] at this
        exact this
      · have ho : Lib.occAt (s.drop q) orB (i - q) = false := by rw [occ_drop hq]; exact h2
        have := hno.succ ho
        rw [show i - q + 1 = i + 1 - q by omega] at this
        exact ih (i + 1) q xs gm j jr g (by omega) (by omega) (by omega) (by omega) this hsp
    · simp only [hw4, decide_eq_false_iff_not, size_bs] at h
      simp only [extract_bs, Int.toNat_natCast, gI_nat, gI_zero, Nat.zero_add, size_bs, eq_self, true_and, and_true, Nat.le_refl]
      refine ⟨⟨by omega, by omega⟩, hf, frz_msl rfl (by simp) ?_⟩
      rw [← hsp, split_miss (by simp [orB]) (Lib.index_past (i := i - q) (by simp [orB]) hno (by simp [orB]; omega)), List.take_of_length_le (by simp)]
      simp only [List.map_append, List.map_cons, List.map_nil, List.drop_zero, List.take_succ_cons, List.take_zero]
      rw [List.take_of_length_le (l := s.drop q) (i := s.length - q) (by simp)]
      show PV.sl 1 false false (List.map strP (xs ++ [s.drop q])) = _
      rw [List.map_append]
      rfl
theorem parts_S0 (s : List UInt8) (hl : s.length < 1000000) : ∀ (n i : Nat) z j jr g, s.length - i ≤ n → i ≤ s.length → Lib.NoOcc s orB i →
    LoopAt E1 Tryz.f55 (preP 1 false false (Lib.split s orB)) 0 (ref08_parts_S0 s i 0 z j jr g) := by
  have fin : ∀ (i : Nat) z j0 jr0 g0, i ≤ s.length → s.length < i + 4 → Lib.NoOcc s orB i → LoopAt E1 Tryz.f55 (preP 1 false false (Lib.split s orB)) 0 (ref08_parts_S0 s i 0 z j0 jr0 g0) := by
    intro i z j0 jr0 g0 hil h4 hno
    have hw4 : IntKind.wrap IntKind.i64 ((i : Int) + 4) = ((i + 4 : Nat) : Int) := wrap_i64 _ (by omega) (by omega)
    refine loop_go 2000 _ (Eq.mpr (ref08_parts_go_S0 s i 0 z j0 jr0 g0 _) ⟨fun h => ?_, fun h => ?_⟩)
    · simp only [hw4, decide_eq_true_eq, size_bs] at h; omega
    · refine ⟨⟨by omega, by omega⟩, rfl, ⟨rfl, Nat.le_refl _⟩, ⟨rfl, rfl⟩, frz_msl rfl rfl ?_⟩
      rw [split_miss (by simp [orB]) (Lib.index_past (i := i) (by simp [orB]) hno (by simp [orB]; omega))]
      have : ByteArray.extract (bs s) (Int.toNat 0) (ByteArray.size (bs s)) = bs s := by
        rw [extract_bs, size_bs]; simp
      rw [this]
      rfl
  intro n
  induction n with
  | zero => intro i z j jr g hi hil hno; exact fin i z j jr g hil (by omega) hno
  | succ n ih =>
    intro i z j0 jr0 g0 hi hil hno
    by_cases h4 : s.length < i + 4
    · exact fin i z j0 jr0 g0 hil h4 hno
    have hw4 : IntKind.wrap IntKind.i64 ((i : Int) + 4) = ((i + 4 : Nat) : Int) := wrap_i64 _ (by omega) (by omega)
    have hw1 : IntKind.wrap IntKind.i64 ((i : Int) + 1) = ((i + 1 : Nat) : Int) := wrap_i64 _ (by omega) (by omega)
    have hw3 : IntKind.wrap IntKind.i64 (IntKind.wrap IntKind.i64 ((i : Int) + 3) + 1) = ((i + 4 : Nat) : Int) := by
      rw [wrap_i64 ((i : Int) + 3) (by omega) (by omega), wrap_i64 _ (by omega) (by omega)]; omega
    refine loop_go 2000 _ (Eq.mpr (ref08_parts_go_S0 s i 0 z j0 jr0 g0 _) ⟨fun h => ?_, fun h => ?_⟩)
    · simp only [hw4, hw1, hw3, extract_bs, Int.toNat_natCast, gI_nat, gI_zero, Nat.zero_add, size_bs, eq_self, true_and, and_true, Nat.le_refl]
      have hcmp : (ByteArray.toList (bs ((s.drop i).take (i + 4 - i))) == ByteArray.toList (bs [32, 124, 124, 32])) = Lib.occAt s orB i := by
        rw [toList_bs, toList_bs, occ_or, Nat.add_sub_cancel_left]; rfl
      rw [hcmp]
      refine ⟨⟨by omega, by omega⟩, ⟨by omega, by omega⟩, fun h2 => ⟨⟨by omega, by omega⟩, ⟨by omega, by omega⟩, fun j jr g => ?_⟩, fun h2 j jr g => ih (i + 1) z j jr g (by omega) (by omega) (hno.succ h2)⟩
      have hs2 := split_hit (s := s) (sep := orB) (i := i) (by simp [orB]) (Lib.index_hit hno (by omega) h2)
      exact parts_S1 s hl n (i + 4) (i + 4) [s.take i] (g0 + 5 + 6 + 6) j jr g (by omega) (by omega) (Nat.le_refl _) (by simp) (by rw [Nat.sub_self]; exact Lib.NoOcc.zero _ _) (by rw [hs2]; rfl)
    · simp only [hw4, decide_eq_false_iff_not, size_bs] at h; omega
theorem den_parts (s : List UInt8) (hl : s.length < 1000000) : Den E1 55 [strP s] (preP 1 false false (Lib.split s orB)) :=
  den1 2000 _ rfl (by kernel_rfl) rfl rfl rfl (Eq.mpr (ref08_parts_go s _) fun j jr g => parts_S0 s hl s.length 0 _ j jr g (by omega) (by omega) (Lib.NoOcc.zero _ _))
end Go.Proofs.YtlhfgonjcpapnaaGreatDoor.Abs

namespace Go.Proofs.YtlhfgonjcpapnaaGreatDoor.Abs
open Go Go.Proofs
theorem strings_TrimLeft_go (s : List UInt8) (r : PV) : FnGo E1 Tryz.f127 [PV.lit (.string (bs s)), PV.lit (.string (bs [60, 62, 61, 126, 94]))] r 2000 (.fork (.lts 4 (.hole 0)) (.lts 10 (.res (.tup [.agg [bolP false, bolP false, bolP false, bolP false, bolP false, bolP false, bolP false, bolP false, bolP false, bolP false, bolP false, bolP false, bolP false, bolP false, bolP false, bolP false, bolP false, bolP false, bolP false, bolP false, bolP false, bolP false, bolP false, bolP false, bolP false, bolP false, bolP false, bolP false, bolP false, bolP false, bolP false, bolP false, bolP false, bolP false, bolP false, bolP false, bolP false, bolP false, bolP false, bolP false, bolP false, bolP false, bolP false, bolP false, bolP false, bolP false, bolP false, bolP false, bolP false, bolP false, bolP false, bolP false, bolP false, bolP false, bolP false, bolP false, bolP false, bolP false, bolP false, bolP false, bolP true, bolP true, bolP true, bolP false, bolP false, bolP false, bolP false, bolP false, bolP false, bolP false, bolP false, bolP false, bolP false, bolP false, bolP false, bolP false, bolP false, bolP false, bolP false, bolP false, bolP false, bolP false, bolP false, bolP false, bolP false, bolP false, bolP false, bolP false, bolP false, bolP false, bolP false, bolP false, bolP false, bolP false, bolP true, bolP false, bolP false, bolP false, bolP false, bolP false, bolP false, bolP false, bolP false, bolP false, bolP false, bolP false, bolP false, bolP false, bolP false, bolP false, bolP false, bolP false, bolP false, bolP false, bolP false, bolP false, bolP false, bolP false, bolP false, bolP false, bolP false, bolP false, bolP false, bolP false, bolP false, bolP false, bolP true, bolP false, bolP false, bolP false, bolP false, bolP false, bolP false, bolP false, bolP false, bolP false, bolP false, bolP false, bolP false, bolP false, bolP false, bolP false, bolP false, bolP false, bolP false, bolP false, bolP false, bolP false, bolP false, bolP false, bolP false, bolP false, bolP false, bolP false, bolP false, bolP false, bolP false, bolP false, bolP false, bolP false, bolP false, bolP false, bolP false, bolP false, bolP false, bolP false, bolP false, bolP false, bolP false, bolP false, bolP false, bolP false, bolP false, bolP false, bolP false, bolP false, bolP false, bolP false, bolP false, bolP false, bolP false, bolP false, bolP false, bolP false, bolP false, bolP false, bolP false, bolP false, bolP false, bolP false, bolP false, bolP false, bolP false, bolP false, bolP false, bolP false, bolP false, bolP false, bolP false, bolP false, bolP false, bolP false, bolP false, bolP false, bolP false, bolP false, bolP false, bolP false, bolP false, bolP false, bolP false, bolP false, bolP false, bolP false, bolP false, bolP false, bolP false, bolP false, bolP false, bolP false, bolP false, bolP false, bolP false, bolP false, bolP false, bolP false, bolP false, bolP false, bolP false, bolP false, bolP false, bolP false, bolP false, bolP false, bolP false, bolP false, bolP false, bolP false, bolP false, bolP false, bolP false, bolP false, bolP false, bolP false, bolP false, bolP false, bolP false, bolP false, bolP false, bolP false, bolP false, bolP false, bolP false, bolP false, bolP false, bolP false], bolP true]) (.lit (.ev (.res (PV.lit (.string (bs (trimL s)))) (.hole 0))))))) =
  (((ByteArray.toList (bs s) == ByteArray.toList (bs [])) = true →
 ((PV.lit (.string (bs s))) : PV) = r) ∧
 ((ByteArray.toList (bs s) == ByteArray.toList (bs [])) = false →
 (Den E1 151 [PV.lit (.string (bs [60, 62, 61, 126, 94]))] (.tup [.agg [bolP false, bolP false, bolP false, bolP false, bolP false, bolP false, bolP false, bolP false, bolP false, bolP false, bolP false, bolP false, bolP false, bolP false, bolP false, bolP false, bolP false, bolP false, bolP false, bolP false, bolP false, bolP false, bolP false, bolP false, bolP false, bolP false, bolP false, bolP false, bolP false, bolP false, bolP false, bolP false, bolP false, bolP false, bolP false, bolP false, bolP false, bolP false, bolP false, bolP false, bolP false, bolP false, bolP false, bolP false, bolP false, bolP false, bolP false, bolP false, bolP false, bolP false, bolP false, bolP false, bolP false, bolP false, bolP false, bolP false, bolP false, bolP false, bolP false, bolP false, bolP true, bolP true, bolP true, bolP false, bolP false, bolP false, bolP false, bolP false, bolP false, bolP false, bolP false, bolP false, bolP false, bolP false, bolP false, bolP false, bolP false, bolP false, bolP false, bolP false, bolP false, bolP false, bolP false, bolP false, bolP false, bolP false, bolP false, bolP false, bolP false, bolP false, bolP false, bolP false, bolP false, bolP false, bolP true, bolP false, bolP false, bolP false, bolP false, bolP false, bolP false, bolP false, bolP false, bolP false, bolP false, bolP false, bolP false, bolP false, bolP false, bolP false, bolP false, bolP false, bolP false, bolP false, bolP false, bolP false, bolP false, bolP false, bolP false, bolP false, bolP false, bolP false, bolP false, bolP false, bolP false, bolP false, bolP true, bolP false, bolP false, bolP false, bolP false, bolP false, bolP false, bolP false, bolP false, bolP false, bolP false, bolP false, bolP false, bolP false, bolP false, bolP false, bolP false, bolP false, bolP false, bolP false, bolP false, bolP false, bolP false, bolP false, bolP false, bolP false, bolP false, bolP false, bolP false, bolP false, bolP false, bolP false, bolP false, bolP false, bolP false, bolP false, bolP false, bolP false, bolP false, bolP false, bolP false, bolP false, bolP false, bolP false, bolP false, bolP false, bolP false, bolP false, bolP false, bolP false, bolP false, bolP false, bolP false, bolP false, bolP false, bolP false, bolP false, bolP false, bolP false, bolP false, bolP false, bolP false, bolP false, bolP false, bolP false, bolP false, bolP false, bolP false, bolP false, bolP false, bolP false, bolP false, bolP false, bolP false, bolP false, bolP false, bolP false, bolP false, bolP false, bolP false, bolP false, bolP false, bolP false, bolP false, bolP false, bolP false, bolP false, bolP false, bolP false, bolP false, bolP false, bolP false, bolP false, bolP false, bolP false, bolP false, bolP false, bolP false, bolP false, bolP false, bolP false, bolP false, bolP false, bolP false, bolP false, bolP false, bolP false, bolP false, bolP false, bolP false, bolP false, bolP false, bolP false, bolP false, bolP false, bolP false, bolP false, bolP false, bolP false, bolP false, bolP false, bolP false, bolP false, bolP false, bolP false, bolP false, bolP false, bolP false, bolP false, bolP false], bolP true])) ∧
 ((20 : Nat) = 20) ∧
 (Den E1 152 [PV.lit (.string (bs s)), .ptr (.agg [bolP false, bolP false, bolP false, bolP false, bolP false, bolP false, bolP false, bolP false, bolP false, bolP false, bolP false, bolP false, bolP false, bolP false, bolP false, bolP false, bolP false, bolP false, bolP false, bolP false, bolP false, bolP false, bolP false, bolP false, bolP false, bolP false, bolP false, bolP false, bolP false, bolP false, bolP false, bolP false, bolP false, bolP false, bolP false, bolP false, bolP false, bolP false, bolP false, bolP false, bolP false, bolP false, bolP false, bolP false, bolP false, bolP false, bolP false, bolP false, bolP false, bolP false, bolP false, bolP false, bolP false, bolP false, bolP false, bolP false, bolP false, bolP false, bolP false, bolP false, bolP true, bolP true, bolP true, bolP false, bolP false, bolP false, bolP false, bolP false, bolP false, bolP false, bolP false, bolP false, bolP false, bolP false, bolP false, bolP false, bolP false, bolP false, bolP false, bolP false, bolP false, bolP false, bolP false, bolP false, bolP false, bolP false, bolP false, bolP false, bolP false, bolP false, bolP false, bolP false, bolP false, bolP false, bolP true, bolP false, bolP false, bolP false, bolP false, bolP false, bolP false, bolP false, bolP false, bolP false, bolP false, bolP false, bolP false, bolP false, bolP false, bolP false, bolP false, bolP false, bolP false, bolP false, bolP false, bolP false, bolP false, bolP false, bolP false, bolP false, bolP false, bolP false, bolP false, bolP false, bolP false, bolP false, bolP true, bolP false, bolP false, bolP false, bolP false, bolP false, bolP false, bolP false, bolP false, bolP false, bolP false, bolP false, bolP false, bolP false, bolP false, bolP false, bolP false, bolP false, bolP false, bolP false, bolP false, bolP false, bolP false, bolP false, bolP false, bolP false, bolP false, bolP false, bolP false, bolP false, bolP false, bolP false, bolP false, bolP false, bolP false, bolP false, bolP false, bolP false, bolP false, bolP false, bolP false, bolP false, bolP false, bolP false, bolP false, bolP false, bolP false, bolP false, bolP false, bolP false, bolP false, bolP false, bolP false, bolP false, bolP false, bolP false, bolP false, bolP false, bolP false, bolP false, bolP false, bolP false, bolP false, bolP false, bolP false, bolP false, bolP false, bolP false, bolP false, bolP false, bolP false, bolP false, bolP false, bolP false, bolP false, bolP false, bolP false, bolP false, bolP false, bolP false, bolP false, bolP false, bolP false, bolP false, bolP false, bolP false, bolP false, bolP false, bolP false, bolP false, bolP false, bolP false, bolP false, bolP false, bolP false, bolP false, bolP false, bolP false, bolP false, bolP false, bolP false, bolP false, bolP false, bolP false, bolP false, bolP false, bolP false, bolP false, bolP false, bolP false, bolP false, bolP false, bolP false, bolP false, bolP false, bolP false, bolP false, bolP false, bolP false, bolP false, bolP false, bolP false, bolP false, bolP false, bolP false, bolP false, bolP false, bolP false, bolP false, bolP false]) 0] (PV.lit (.string (bs (trimL s))))) ∧
 ((PV.lit (.string (bs (trimL s)))) : PV) = r)) := by kernel_rfl
theorem slices_Clone_string_string_go (k : Nat) (full : Bool) (x : List (List UInt8)) (r : PV) : FnGo E1 Tryz.f92 [.sl k false full (List.map strP x)] r 2000 (.lit (.fork (.hole 0) (.lit (.hole 0)))) =
  ((((false = true → (List.map strP x) = [])) ∧ ((false = false → k = 1))) ∧
 ((List.isEmpty (List.map strP x)) = true →
 ((.sl 1 false true []) : PV) = r) ∧
 ((List.isEmpty (List.map strP x)) = false →
 ((true = true) ∧ (((1 : Nat) = 1) ∧ ((fitsRow ((0 : Nat) + List.length (List.map strP x)) (16 : Nat)) = true))) ∧
 ∃ hp, frz frzDepth (.msl 0 7 5 0 ((0 : Nat) + List.length (List.map strP x)) false) [[row0, row0, row0, row0, row0, row0, row0, ⟨5, .row 1 9 ([] ++ List.map strP x) false⟩]] = some (r, hp))) := by kernel_rfl
theorem slices_Clone_string_string_N_go (k : Nat) (full : Bool) (r : PV) : FnGo E1 Tryz.f92 [.sl k true full []] r 2000 (.lit (.hole 0)) =
  (((.sl 0 true true []) : PV) = r) := by kernel_rfl
theorem slices_Clip_api_Interval_api_Interval_go (k : Nat) (nl : Bool) (full : Bool) (l : List I) (r : PV) : FnGo E1 Tryz.f93 [.sl k nl full (List.map I.p l)] r 2000 (.hole 0) =
  ((((0 : Int) ≤ (↑(List.length (List.map I.p l)) : Int)) ∧ ((↑(List.length (List.map I.p l)) : Int) ≤ (↑(List.length (List.map I.p l)) : Int))) ∧
 (((0 : Int) ≤ (↑(List.length (List.map I.p l)) : Int)) ∧ ((↑(List.length (List.map I.p l)) : Int) ≤ (↑(Int.toNat (↑(List.length (List.map I.p l)) : Int)) : Int))) ∧
 ((nl = true) ∨ (k = 11)) ∧
 ((.sl k nl (Int.toNat (↑(List.length (List.map I.p l)) : Int) == Int.toNat (↑(List.length (List.map I.p l)) : Int)) (List.take (Int.toNat (↑(List.length (List.map I.p l)) : Int) - (0 : Nat)) (List.drop (0 : Nat) (List.map I.p l)))) : PV) = r) := by kernel_rfl
def span_limited_S0 (k : Nat) (nl : Bool) (full : Bool) (l : List I) (i : Int) (j : Nat → AV) (jr : Nat → Row) (g : Nat) : St :=
  { t := [j 0, j 1, j 2, j 3, .pv (.sl 0 true true [])] ++ jj j 5 5 ++ [.pv (.sl k nl full (List.map I.p l)), intA ((↑(List.length (List.map I.p l)) : Int)), intA i] ++ jj j 13 28, h := [List.replicate 6 row0 ++ [jr 6, row0, row0, row0, row0, row0, row0, row0, row0, row0, row0, row0, row0, row0, jr 20, row0, row0, row0, row0, row0, row0, row0, row0, jr 29, row0, row0, row0, row0, row0, row0, jr 36] ++ List.replicate 4 row0], g := g }
def span_limited_S1 (k : Nat) (nl : Bool) (full : Bool) (l : List I) (i : Int) (gm : Nat) (n : Nat) (xsI : List PV) (j : Nat → AV) (jr : Nat → Row) (g : Nat) : St :=
  { t := [j 0, j 1, j 2, j 3, .msl 0 37 gm 0 n false] ++ jj j 5 5 ++ [.pv (.sl k nl full (List.map I.p l)), intA ((↑(List.length (List.map I.p l)) : Int)), intA i] ++ jj j 13 28, h := [[row0, row0, row0, row0, row0, row0, jr 6, row0, row0, row0, row0, row0, row0, row0, row0, row0, row0, row0, row0, row0, jr 20, row0, row0, row0, row0, row0, row0, row0, row0, jr 29, row0, row0, row0, row0, row0, row0, jr 36, ⟨gm, .row 11 63 xsI false⟩, row0, row0, row0]], g := g }
theorem span_limited_go (k : Nat) (nl : Bool) (full : Bool) (l : List I) (r : PV) : FnGo E1 Tryz.f53 [.sl k nl full (List.map I.p l)] r 2000 (.fork (.hole 0) (.mask (iv [(0, 3), (5, 9), (13, 40)]) [6, 20, 29, 36])) =
  (((decide ((↑(List.length (List.map I.p l)) : Int) > (16 : Int))) = true →
 ((.tup [.sl 0 true true [], intP 80]) : PV) = r) ∧
 ((decide ((↑(List.length (List.map I.p l)) : Int) > (16 : Int))) = false →
 AtAll Tryz.f53 r 0 (span_limited_S0 k nl full l 0))) := by kernel_rfl
theorem span_limited_go_S0 (k : Nat) (nl : Bool) (full : Bool) (l : List I) (i : Int) (j : Nat → AV) (jr : Nat → Row) (g : Nat) (r : PV) : LoopGo E1 Tryz.f53 r 0 2000 (.fork (.val (I.p (gI l i)) (.res (.sl (bif V.nl (I.lo (gI l i)) then (0 : Nat) else (1 : Nat)) (V.nl (I.lo (gI l i))) (V.nl (I.lo (gI l i))) (List.map strP (V.pre (I.lo (gI l i))))) (.res (.sl (bif V.nl (I.lo (gI l i)) then (0 : Nat) else (1 : Nat)) (V.nl (I.lo (gI l i))) true (List.map strP (V.pre (I.lo (gI l i))))) (.res (.sl (bif V.nl (I.hi (gI l i)) then (0 : Nat) else (1 : Nat)) (V.nl (I.hi (gI l i))) (V.nl (I.hi (gI l i))) (List.map strP (V.pre (I.hi (gI l i))))) (.res (.sl (bif V.nl (I.hi (gI l i)) then (0 : Nat) else (1 : Nat)) (V.nl (I.hi (gI l i))) true (List.map strP (V.pre (I.hi (gI l i))))) (.lit (.lit (.mask (iv [(0, 3), (5, 9), (13, 40)]) [6, 20, 29, 36])))))))) (.res (.sl 0 true true []) (.hole 0))) (span_limited_S0 k nl full l i j jr g) =
  (((decide (i < (↑(List.length (List.map I.p l)) : Int))) = true →
 (((0 : Int) ≤ i) ∧ ((nl = false) ∧ (k = 11))) ∧
 (((List.map I.p l)[Int.toNat i]?) = some (I.p (gI l i))) ∧
 ((g + 1 + 2) = g + 1 + 2) ∧
 ((g + 1 + 2) = g + 1 + 2) ∧
 (Den E1 92 [V.q (I.lo (gI l i))] (.sl (bif V.nl (I.lo (gI l i)) then (0 : Nat) else (1 : Nat)) (V.nl (I.lo (gI l i))) (V.nl (I.lo (gI l i))) (List.map strP (V.pre (I.lo (gI l i)))))) ∧
 (Den E1 71 [.sl (bif V.nl (I.lo (gI l i)) then (0 : Nat) else (1 : Nat)) (V.nl (I.lo (gI l i))) (V.nl (I.lo (gI l i))) (List.map strP (V.pre (I.lo (gI l i))))] (.sl (bif V.nl (I.lo (gI l i)) then (0 : Nat) else (1 : Nat)) (V.nl (I.lo (gI l i))) true (List.map strP (V.pre (I.lo (gI l i)))))) ∧
 ((g + 1 + 2) = g + 1 + 2) ∧
 ((g + 1 + 2) = g + 1 + 2) ∧
 (Den E1 92 [V.q (I.hi (gI l i))] (.sl (bif V.nl (I.hi (gI l i)) then (0 : Nat) else (1 : Nat)) (V.nl (I.hi (gI l i))) (V.nl (I.hi (gI l i))) (List.map strP (V.pre (I.hi (gI l i)))))) ∧
 (Den E1 71 [.sl (bif V.nl (I.hi (gI l i)) then (0 : Nat) else (1 : Nat)) (V.nl (I.hi (gI l i))) (V.nl (I.hi (gI l i))) (List.map strP (V.pre (I.hi (gI l i))))] (.sl (bif V.nl (I.hi (gI l i)) then (0 : Nat) else (1 : Nat)) (V.nl (I.hi (gI l i))) true (List.map strP (V.pre (I.hi (gI l i)))))) ∧
 ((g + 1 + 2) = g + 1 + 2) ∧
 ((g + 1 + 2) = g + 1 + 2) ∧
 ((g + 1 + 4 + 10 + 10 + 2) = g + 1 + 4 + 10 + 10 + 2) ∧
 (((11 : Nat) = 11) ∧ ((1 : Nat) ≤ (1 : Nat))) ∧
 (((0 : Nat) = 0) ∧ (true = true)) ∧
 (AtAll Tryz.f53 r 0 (span_limited_S1 k nl full l (IntKind.i64.wrap (i + (1 : Int))) (g + 1 + 4 + 10 + 10 + 3) 1 [itvP (V.a (I.lo (gI l i))) (V.b (I.lo (gI l i))) (V.c (I.lo (gI l i))) (.sl (bif V.nl (I.lo (gI l i)) then (0 : Nat) else (1 : Nat)) (V.nl (I.lo (gI l i))) true (List.map strP (V.pre (I.lo (gI l i))))) (I.lopen (gI l i)) (V.a (I.hi (gI l i))) (V.b (I.hi (gI l i))) (V.c (I.hi (gI l i))) (.sl (bif V.nl (I.hi (gI l i)) then (0 : Nat) else (1 : Nat)) (V.nl (I.hi (gI l i))) true (List.map strP (V.pre (I.hi (gI l i))))) (I.hopen (gI l i)) (I.less (gI l i))]))) ∧
 ((decide (i < (↑(List.length (List.map I.p l)) : Int))) = false →
 (Den E1 93 [.sl 0 true true []] (.sl 0 true true [])) ∧
 ((.tup [.sl 0 true true [], intP 0]) : PV) = r)) := by kernel_rfl
theorem span_limited_go_S1 (k : Nat) (nl : Bool) (full : Bool) (l : List I) (i : Int) (gm : Nat) (n : Nat) (xs : List I) (j : Nat → AV) (jr : Nat → Row) (g : Nat) (r : PV) : LoopGo E1 Tryz.f53 r 0 2000 (.fork (.val (I.p (gI l i)) (.res (.sl (bif V.nl (I.lo (gI l i)) then (0 : Nat) else (1 : Nat)) (V.nl (I.lo (gI l i))) (V.nl (I.lo (gI l i))) (List.map strP (V.pre (I.lo (gI l i))))) (.res (.sl (bif V.nl (I.lo (gI l i)) then (0 : Nat) else (1 : Nat)) (V.nl (I.lo (gI l i))) true (List.map strP (V.pre (I.lo (gI l i))))) (.res (.sl (bif V.nl (I.hi (gI l i)) then (0 : Nat) else (1 : Nat)) (V.nl (I.hi (gI l i))) (V.nl (I.hi (gI l i))) (List.map strP (V.pre (I.hi (gI l i))))) (.res (.sl (bif V.nl (I.hi (gI l i)) then (0 : Nat) else (1 : Nat)) (V.nl (I.hi (gI l i))) true (List.map strP (V.pre (I.hi (gI l i))))) (.lit (.mask (iv [(0, 3), (5, 9), (13, 40)]) [6, 20, 29, 36]))))))) (.frz [.sl 11 false false (List.map I.p xs)] [[row0, row0, row0, row0, row0, row0, jr 6, row0, row0, row0, row0, row0, row0, row0, row0, row0, row0, row0, row0, row0, jr 20, row0, row0, row0, row0, row0, row0, row0, row0, jr 29, row0, row0, row0, row0, row0, row0, jr 36, ⟨gm, .row 11 63 (List.map I.p xs) true⟩, row0, row0, row0]] (.res (.sl 11 false true (List.map I.p xs)) (.hole 0)))) (span_limited_S1 k nl full l i gm n (List.map I.p xs) j jr g) =
  (((decide (i < (↑(List.length (List.map I.p l)) : Int))) = true →
 (((0 : Int) ≤ i) ∧ ((nl = false) ∧ (k = 11))) ∧
 (((List.map I.p l)[Int.toNat i]?) = some (I.p (gI l i))) ∧
 ((g + 1 + 2) = g + 1 + 2) ∧
 ((g + 1 + 2) = g + 1 + 2) ∧
 (Den E1 92 [V.q (I.lo (gI l i))] (.sl (bif V.nl (I.lo (gI l i)) then (0 : Nat) else (1 : Nat)) (V.nl (I.lo (gI l i))) (V.nl (I.lo (gI l i))) (List.map strP (V.pre (I.lo (gI l i)))))) ∧
 (Den E1 71 [.sl (bif V.nl (I.lo (gI l i)) then (0 : Nat) else (1 : Nat)) (V.nl (I.lo (gI l i))) (V.nl (I.lo (gI l i))) (List.map strP (V.pre (I.lo (gI l i))))] (.sl (bif V.nl (I.lo (gI l i)) then (0 : Nat) else (1 : Nat)) (V.nl (I.lo (gI l i))) true (List.map strP (V.pre (I.lo (gI l i)))))) ∧
 ((g + 1 + 2) = g + 1 + 2) ∧
 ((g + 1 + 2) = g + 1 + 2) ∧
 (Den E1 92 [V.q (I.hi (gI l i))] (.sl (bif V.nl (I.hi (gI l i)) then (0 : Nat) else (1 : Nat)) (V.nl (I.hi (gI l i))) (V.nl (I.hi (gI l i))) (List.map strP (V.pre (I.hi (gI l i)))))) ∧
 (Den E1 71 [.sl (bif V.nl (I.hi (gI l i)) then (0 : Nat) else (1 : Nat)) (V.nl (I.hi (gI l i))) (V.nl (I.hi (gI l i))) (List.map strP (V.pre (I.hi (gI l i))))] (.sl (bif V.nl (I.hi (gI l i)) then (0 : Nat) else (1 : Nat)) (V.nl (I.hi (gI l i))) true (List.map strP (V.pre (I.hi (gI l i)))))) ∧
 ((g + 1 + 2) = g + 1 + 2) ∧
 ((g + 1 + 2) = g + 1 + 2) ∧
 ((g + 1 + 4 + 10 + 10 + 2) = g + 1 + 4 + 10 + 10 + 2) ∧
 (((11 : Nat) = 11) ∧ ((1 : Nat) ≤ (1 : Nat))) ∧
 (gm = gm) ∧
 ((false = false) ∧ (((11 : Nat) = 11) ∧ (((63 : Nat) = 63) ∧ ((((0 : Nat) + n) = List.length (List.map I.p xs)) ∧ ((fitsRow (n + 1) (104 : Nat)) = true))))) ∧
 (∀ (j' : Nat → AV) (jr' : Nat → Row) (g' : Nat), LoopAt E1 Tryz.f53 r 0 (span_limited_S1 k nl full l (IntKind.i64.wrap (i + (1 : Int))) (g + 1 + 4 + 10 + 10 + 3) (n + 1) (List.drop (0 : Nat) (List.map I.p xs) ++ List.take (1 : Nat) (List.drop (0 : Nat) [PV.agg [PV.lit (Value.int IntKind.u32 (V.a (I.lo (gI l i)))), PV.lit (Value.int IntKind.u32 (V.b (I.lo (gI l i)))), PV.lit (Value.int IntKind.u32 (V.c (I.lo (gI l i)))), PV.sl (bif V.nl (I.lo (gI l i)) then (0 : Nat) else (1 : Nat)) (V.nl (I.lo (gI l i))) true (List.map strP (V.pre (I.lo (gI l i)))), PV.lit (Value.bool (I.lopen (gI l i))), PV.lit (Value.int IntKind.u32 (V.a (I.hi (gI l i)))), PV.lit (Value.int IntKind.u32 (V.b (I.hi (gI l i)))), PV.lit (Value.int IntKind.u32 (V.c (I.hi (gI l i)))), PV.sl (bif V.nl (I.hi (gI l i)) then (0 : Nat) else (1 : Nat)) (V.nl (I.hi (gI l i))) true (List.map strP (V.pre (I.hi (gI l i)))), PV.lit (Value.bool (I.hopen (gI l i))), PV.lit (Value.bool (I.less (gI l i)))]])) j' jr' g'))) ∧
 ((decide (i < (↑(List.length (List.map I.p l)) : Int))) = false →
 (frzs frzDepth [.msl 0 37 gm 0 n false] [[row0, row0, row0, row0, row0, row0, jr 6, row0, row0, row0, row0, row0, row0, row0, row0, row0, row0, row0, row0, row0, jr 20, row0, row0, row0, row0, row0, row0, row0, row0, jr 29, row0, row0, row0, row0, row0, row0, jr 36, ⟨gm, .row 11 63 (List.map I.p xs) false⟩, row0, row0, row0]] = some ([.sl 11 false false (List.map I.p xs)], [[row0, row0, row0, row0, row0, row0, jr 6, row0, row0, row0, row0, row0, row0, row0, row0, row0, row0, row0, row0, row0, jr 20, row0, row0, row0, row0, row0, row0, row0, row0, jr 29, row0, row0, row0, row0, row0, row0, jr 36, ⟨gm, .row 11 63 (List.map I.p xs) true⟩, row0, row0, row0]])) ∧
 (Den E1 93 [.sl 11 false false (List.map I.p xs)] (.sl 11 false true (List.map I.p xs))) ∧
 ((.tup [.sl 11 false true (List.map I.p xs), intP 0]) : PV) = r)) := by kernel_rfl
theorem version_number_go (s : List UInt8) (r : PV) : FnGo E1 Tryz.f70 [PV.lit (.string (bs s))] r 2000 (.resB (digitsL s) (.lts 3 (.res (bolP (plainL s)) (.lit (.lit (.fork (.lts 5 (.hole 0)) (.lts 4 (.fork (.hole 0) (.res (.tup [PV.lit (.int .u64 ((↑(decV s) : Int))), .lit .nilIface]) (.hole 0))))))))) (.lts 11 (.hole 0))) =
  ((Den E1 108 [PV.lit (.string (bs s))] (bolP (digitsL s))) ∧
 ((digitsL s) = true →
 (Den E1 109 [PV.lit (.string (bs s))] (bolP (plainL s))) ∧
 ((!plainL s) = true →
 ((.tup [PV.lit (.int .u32 0), bolP false]) : PV) = r) ∧
 ((!plainL s) = false →
 ((decide ((↑(ByteArray.size (bs s)) : Int) > (10 : Int))) = true →
 ((.tup [PV.lit (.int .u32 0), bolP false]) : PV) = r) ∧
 ((decide ((↑(ByteArray.size (bs s)) : Int) > (10 : Int))) = false →
 (Den E1 110 [PV.lit (.string (bs s)), intP 10, intP 64] (.tup [PV.lit (.int .u64 ((↑(decV s) : Int))), .lit .nilIface])) ∧
 ((.tup [PV.lit (.int .u32 ((↑(decV s % (4294967296 : Nat)) : Int))), bolP (decide ((↑(decV s) : Int) ≤ (2147483647 : Int)))]) : PV) = r))) ∧
 ((digitsL s) = false →
 ((.tup [PV.lit (.int .u32 0), bolP false]) : PV) = r)) := by kernel_rfl
theorem version_Read_go (s : List UInt8) (r : PV) : FnGo E1 Tryz.f34 [PV.lit (.string (bs s))] r 2000 (.fork (.hole 0) (.res (.tup [PV.lit (.string (bs (Prod.fst (Lib.cut s [45])))), PV.lit (.string (bs (Prod.fst (Prod.snd (Lib.cut s [45]))))), bolP (Prod.snd (Prod.snd (Lib.cut s [45])))]) (.res (.sl 1 false true (List.map strP (Lib.split (Prod.fst (Lib.cut s [45])) [46]))) (.fork (.hole 0) (.go (.lit (.val (PV.lit (.string (bs (List.getD (Lib.split (Prod.fst (Lib.cut s [45])) [46]) (0 : Nat) default)))) (.res (.tup [PV.lit (.int .u32 (numV (List.getD (Lib.split (Prod.fst (Lib.cut s [45])) [46]) (0 : Nat) default))), bolP (numB (List.getD (Lib.split (Prod.fst (Lib.cut s [45])) [46]) (0 : Nat) default))]) (.fork (.hole 0) (.go (.lit (.val (PV.lit (.string (bs (List.getD (Lib.split (Prod.fst (Lib.cut s [45])) [46]) (1 : Nat) default)))) (.res (.tup [PV.lit (.int .u32 (numV (List.getD (Lib.split (Prod.fst (Lib.cut s [45])) [46]) (1 : Nat) default))), bolP (numB (List.getD (Lib.split (Prod.fst (Lib.cut s [45])) [46]) (1 : Nat) default))]) (.fork (.hole 0) (.go (.lit (.val (PV.lit (.string (bs (List.getD (Lib.split (Prod.fst (Lib.cut s [45])) [46]) (2 : Nat) default)))) (.res (.tup [PV.lit (.int .u32 (numV (List.getD (Lib.split (Prod.fst (Lib.cut s [45])) [46]) (2 : Nat) default))), bolP (numB (List.getD (Lib.split (Prod.fst (Lib.cut s [45])) [46]) (2 : Nat) default))]) (.fork (.hole 0) (.go (.lit (.fork (.res (.sl 1 false true (List.map strP (Lib.split (Prod.fst (Prod.snd (Lib.cut s [45]))) [46]))) (.res (intP (errV (mayV ⟨numV (List.getD (Lib.split (Prod.fst (Lib.cut s [45])) [46]) (0 : Nat) default), numV (List.getD (Lib.split (Prod.fst (Lib.cut s [45])) [46]) (1 : Nat) default), numV (List.getD (Lib.split (Prod.fst (Lib.cut s [45])) [46]) (2 : Nat) default), 1, false, true, Lib.split (Prod.fst (Prod.snd (Lib.cut s [45]))) [46]⟩))) (.fork (.hole 0) (.res (.sl 1 false true (List.map strP (Lib.split (Prod.fst (Prod.snd (Lib.cut s [45]))) [46]))) (.hole 0))))) (.res (intP (errV (mayV ⟨numV (List.getD (Lib.split (Prod.fst (Lib.cut s [45])) [46]) (0 : Nat) default), numV (List.getD (Lib.split (Prod.fst (Lib.cut s [45])) [46]) (1 : Nat) default), numV (List.getD (Lib.split (Prod.fst (Lib.cut s [45])) [46]) (2 : Nat) default), 0, true, true, []⟩))) (.fork (.hole 0) (.res (.sl 0 true true []) (.hole 0)))))))))))))))))))))))))) =
  (((decide ((↑(ByteArray.size (bs s)) : Int) > (128 : Int))) = true →
 ((0 : Nat) = 0) ∧
 ((.tup [verP 0 0 0 (.sl 0 true true []), intP 70]) : PV) = r) ∧
 ((decide ((↑(ByteArray.size (bs s)) : Int) > (128 : Int))) = false →
 (Den E1 68 [PV.lit (.string (bs s)), PV.lit (.string (bs [45]))] (.tup [PV.lit (.string (bs (Prod.fst (Lib.cut s [45])))), PV.lit (.string (bs (Prod.fst (Prod.snd (Lib.cut s [45]))))), bolP (Prod.snd (Prod.snd (Lib.cut s [45])))])) ∧
 (Den E1 69 [PV.lit (.string (bs (Prod.fst (Lib.cut s [45])))), PV.lit (.string (bs [46]))] (.sl 1 false true (List.map strP (Lib.split (Prod.fst (Lib.cut s [45])) [46])))) ∧
 (((↑(List.length (List.map strP (Lib.split (Prod.fst (Lib.cut s [45])) [46]))) : Int) != (3 : Int)) = true →
 ((0 : Nat) = 0) ∧
 ((.tup [verP 0 0 0 (.sl 0 true true []), intP 70]) : PV) = r) ∧
 (((↑(List.length (List.map strP (Lib.split (Prod.fst (Lib.cut s [45])) [46]))) : Int) != (3 : Int)) = false →
 (((0 : Int) ≤ (0 : Int)) ∧ ((false = false) ∧ ((1 : Nat) = 1))) ∧
 (((List.map strP (Lib.split (Prod.fst (Lib.cut s [45])) [46]))[(0 : Nat)]?) = some (PV.lit (.string (bs (List.getD (Lib.split (Prod.fst (Lib.cut s [45])) [46]) (0 : Nat) default))))) ∧
 (Den E1 70 [PV.lit (.string (bs (List.getD (Lib.split (Prod.fst (Lib.cut s [45])) [46]) (0 : Nat) default)))] (.tup [PV.lit (.int .u32 (numV (List.getD (Lib.split (Prod.fst (Lib.cut s [45])) [46]) (0 : Nat) default))), bolP (numB (List.getD (Lib.split (Prod.fst (Lib.cut s [45])) [46]) (0 : Nat) default))])) ∧
 ((!numB (List.getD (Lib.split (Prod.fst (Lib.cut s [45])) [46]) (0 : Nat) default)) = true →
 ((0 : Nat) = 0) ∧
 ((.tup [verP 0 0 0 (.sl 0 true true []), intP 70]) : PV) = r) ∧
 ((!numB (List.getD (Lib.split (Prod.fst (Lib.cut s [45])) [46]) (0 : Nat) default)) = false →
 ((20 : Nat) = 20) ∧
 (((0 : Int) ≤ (1 : Int)) ∧ ((false = false) ∧ ((1 : Nat) = 1))) ∧
 (((List.map strP (Lib.split (Prod.fst (Lib.cut s [45])) [46]))[(1 : Nat)]?) = some (PV.lit (.string (bs (List.getD (Lib.split (Prod.fst (Lib.cut s [45])) [46]) (1 : Nat) default))))) ∧
 (Den E1 70 [PV.lit (.string (bs (List.getD (Lib.split (Prod.fst (Lib.cut s [45])) [46]) (1 : Nat) default)))] (.tup [PV.lit (.int .u32 (numV (List.getD (Lib.split (Prod.fst (Lib.cut s [45])) [46]) (1 : Nat) default))), bolP (numB (List.getD (Lib.split (Prod.fst (Lib.cut s [45])) [46]) (1 : Nat) default))])) ∧
 ((!numB (List.getD (Lib.split (Prod.fst (Lib.cut s [45])) [46]) (1 : Nat) default)) = true →
 ((0 : Nat) = 0) ∧
 ((.tup [verP 0 0 0 (.sl 0 true true []), intP 70]) : PV) = r) ∧
 ((!numB (List.getD (Lib.split (Prod.fst (Lib.cut s [45])) [46]) (1 : Nat) default)) = false →
 ((20 : Nat) = 20) ∧
 (((0 : Int) ≤ (2 : Int)) ∧ ((false = false) ∧ ((1 : Nat) = 1))) ∧
 (((List.map strP (Lib.split (Prod.fst (Lib.cut s [45])) [46]))[(2 : Nat)]?) = some (PV.lit (.string (bs (List.getD (Lib.split (Prod.fst (Lib.cut s [45])) [46]) (2 : Nat) default))))) ∧
 (Den E1 70 [PV.lit (.string (bs (List.getD (Lib.split (Prod.fst (Lib.cut s [45])) [46]) (2 : Nat) default)))] (.tup [PV.lit (.int .u32 (numV (List.getD (Lib.split (Prod.fst (Lib.cut s [45])) [46]) (2 : Nat) default))), bolP (numB (List.getD (Lib.split (Prod.fst (Lib.cut s [45])) [46]) (2 : Nat) default))])) ∧
 ((!numB (List.getD (Lib.split (Prod.fst (Lib.cut s [45])) [46]) (2 : Nat) default)) = true →
 ((0 : Nat) = 0) ∧
 ((.tup [verP 0 0 0 (.sl 0 true true []), intP 70]) : PV) = r) ∧
 ((!numB (List.getD (Lib.split (Prod.fst (Lib.cut s [45])) [46]) (2 : Nat) default)) = false →
 ((20 : Nat) = 20) ∧
 ((Prod.snd (Prod.snd (Lib.cut s [45]))) = true →
 (Den E1 69 [PV.lit (.string (bs (Prod.fst (Prod.snd (Lib.cut s [45]))))), PV.lit (.string (bs [46]))] (.sl 1 false true (List.map strP (Lib.split (Prod.fst (Prod.snd (Lib.cut s [45]))) [46])))) ∧
 ((20 : Nat) = 20) ∧
 ((20 : Nat) = 20) ∧
 (Den E1 59 [verP (numV (List.getD (Lib.split (Prod.fst (Lib.cut s [45])) [46]) (0 : Nat) default)) (numV (List.getD (Lib.split (Prod.fst (Lib.cut s [45])) [46]) (1 : Nat) default)) (numV (List.getD (Lib.split (Prod.fst (Lib.cut s [45])) [46]) (2 : Nat) default)) (.sl 1 false true (List.map strP (Lib.split (Prod.fst (Prod.snd (Lib.cut s [45]))) [46])))] (intP (errV (mayV ⟨numV (List.getD (Lib.split (Prod.fst (Lib.cut s [45])) [46]) (0 : Nat) default), numV (List.getD (Lib.split (Prod.fst (Lib.cut s [45])) [46]) (1 : Nat) default), numV (List.getD (Lib.split (Prod.fst (Lib.cut s [45])) [46]) (2 : Nat) default), 1, false, true, Lib.split (Prod.fst (Prod.snd (Lib.cut s [45]))) [46]⟩)))) ∧
 ((errV (mayV ⟨numV (List.getD (Lib.split (Prod.fst (Lib.cut s [45])) [46]) (0 : Nat) default), numV (List.getD (Lib.split (Prod.fst (Lib.cut s [45])) [46]) (1 : Nat) default), numV (List.getD (Lib.split (Prod.fst (Lib.cut s [45])) [46]) (2 : Nat) default), 1, false, true, Lib.split (Prod.fst (Prod.snd (Lib.cut s [45]))) [46]⟩) != (0 : Int)) = true →
 ((0 : Nat) = 0) ∧
 ((.tup [verP 0 0 0 (.sl 0 true true []), intP 70]) : PV) = r) ∧
 ((errV (mayV ⟨numV (List.getD (Lib.split (Prod.fst (Lib.cut s [45])) [46]) (0 : Nat) default), numV (List.getD (Lib.split (Prod.fst (Lib.cut s [45])) [46]) (1 : Nat) default), numV (List.getD (Lib.split (Prod.fst (Lib.cut s [45])) [46]) (2 : Nat) default), 1, false, true, Lib.split (Prod.fst (Prod.snd (Lib.cut s [45]))) [46]⟩) != (0 : Int)) = false →
 ((20 : Nat) = 20) ∧
 (Den E1 71 [.sl 1 false true (List.map strP (Lib.split (Prod.fst (Prod.snd (Lib.cut s [45]))) [46]))] (.sl 1 false true (List.map strP (Lib.split (Prod.fst (Prod.snd (Lib.cut s [45]))) [46])))) ∧
 ((20 : Nat) = 20) ∧
 ((20 : Nat) = 20) ∧
 ((0 : Nat) = 0) ∧
 ((.tup [verP (numV (List.getD (Lib.split (Prod.fst (Lib.cut s [45])) [46]) (0 : Nat) default)) (numV (List.getD (Lib.split (Prod.fst (Lib.cut s [45])) [46]) (1 : Nat) default)) (numV (List.getD (Lib.split (Prod.fst (Lib.cut s [45])) [46]) (2 : Nat) default)) (.sl 1 false true (List.map strP (Lib.split (Prod.fst (Prod.snd (Lib.cut s [45]))) [46]))), intP 0]) : PV) = r)) ∧
 ((Prod.snd (Prod.snd (Lib.cut s [45]))) = false →
 ((20 : Nat) = 20) ∧
 (Den E1 59 [verP (numV (List.getD (Lib.split (Prod.fst (Lib.cut s [45])) [46]) (0 : Nat) default)) (numV (List.getD (Lib.split (Prod.fst (Lib.cut s [45])) [46]) (1 : Nat) default)) (numV (List.getD (Lib.split (Prod.fst (Lib.cut s [45])) [46]) (2 : Nat) default)) (.sl 0 true true [])] (intP (errV (mayV ⟨numV (List.getD (Lib.split (Prod.fst (Lib.cut s [45])) [46]) (0 : Nat) default), numV (List.getD (Lib.split (Prod.fst (Lib.cut s [45])) [46]) (1 : Nat) default), numV (List.getD (Lib.split (Prod.fst (Lib.cut s [45])) [46]) (2 : Nat) default), 0, true, true, []⟩)))) ∧
 ((errV (mayV ⟨numV (List.getD (Lib.split (Prod.fst (Lib.cut s [45])) [46]) (0 : Nat) default), numV (List.getD (Lib.split (Prod.fst (Lib.cut s [45])) [46]) (1 : Nat) default), numV (List.getD (Lib.split (Prod.fst (Lib.cut s [45])) [46]) (2 : Nat) default), 0, true, true, []⟩) != (0 : Int)) = true →
 ((0 : Nat) = 0) ∧
 ((.tup [verP 0 0 0 (.sl 0 true true []), intP 70]) : PV) = r) ∧
 ((errV (mayV ⟨numV (List.getD (Lib.split (Prod.fst (Lib.cut s [45])) [46]) (0 : Nat) default), numV (List.getD (Lib.split (Prod.fst (Lib.cut s [45])) [46]) (1 : Nat) default), numV (List.getD (Lib.split (Prod.fst (Lib.cut s [45])) [46]) (2 : Nat) default), 0, true, true, []⟩) != (0 : Int)) = false →
 ((20 : Nat) = 20) ∧
 (Den E1 71 [.sl 0 true true []] (.sl 0 true true [])) ∧
 ((20 : Nat) = 20) ∧
 ((20 : Nat) = 20) ∧
 ((0 : Nat) = 0) ∧
 ((.tup [verP (numV (List.getD (Lib.split (Prod.fst (Lib.cut s [45])) [46]) (0 : Nat) default)) (numV (List.getD (Lib.split (Prod.fst (Lib.cut s [45])) [46]) (1 : Nat) default)) (numV (List.getD (Lib.split (Prod.fst (Lib.cut s [45])) [46]) (2 : Nat) default)) (.sl 0 true true []), intP 0]) : PV) = r)))))))) := by kernel_rfl
end Go.Proofs.YtlhfgonjcpapnaaGreatDoor.Abs

set_option maxRecDepth 20000
namespace Go.Proofs.YtlhfgonjcpapnaaGreatDoor.Abs
open Go Go.Proofs
theorem dec_bound : ∀ (l : List UInt8) (k acc : Nat), l.all isDig = true → l.length + k ≤ 10 → acc < 10 ^ k → l.foldl (fun n b => 10 * n + (b.toNat - 48)) acc < 10 ^ (l.length + k)
  | [], k, acc, _, _, h => by simpa using h
  | c :: r, k, acc, ha, hk, hacc => by
    simp only [List.all_cons, Bool.and_eq_true] at ha
    obtain ⟨hc, hr⟩ := ha
    simp only [isDig, Bool.and_eq_true, decide_eq_true_eq] at hc
    simp only [List.length_cons] at hk ⊢
    have hp : 10 ^ (k + 1) = 10 * 10 ^ k := by rw [Nat.pow_succ, Nat.mul_comm]
    have := dec_bound r (k + 1) (10 * acc + (c.toNat - 48)) hr (by omega) (by omega)
    rw [show r.length + 1 + k = r.length + (k + 1) by omega]
    exact this
theorem digits_all {s : List UInt8} (h : digitsL s = true) : s.all isDig = true ∧ s ≠ [] := by
  simp only [digitsL, Bool.and_eq_true, Bool.not_eq_true'] at h
  exact ⟨h.1, by rintro rfl; simp at h⟩
theorem decV_lt {s : List UInt8} (h : digitsL s = true) (hl : s.length ≤ 10) : decV s < 10000000000 := by
  have := dec_bound s 0 0 (digits_all h).1 (by omega) (by simp)
  have h2 : 10 ^ (s.length + 0) ≤ 10 ^ 10 := Nat.pow_le_pow_right (by omega) (by omega)
  have h3 : (10 : Nat) ^ 10 = 10000000000 := by decide
  unfold decV
  omega
theorem parse_dec' : ∀ (l : List UInt8) (k acc : Nat), l.all isDig = true → l.length + k ≤ 10 → acc < 10 ^ k → Lib.parseUintM (2 ^ 64 - 1) acc l = .ok (l.foldl (fun n b => 10 * n + (b.toNat - 48)) acc)
  | [], _, _, _, _, _ => rfl
  | c :: r, k, acc, ha, hk, hacc => by
    simp only [List.all_cons, Bool.and_eq_true] at ha
    obtain ⟨hc, hr⟩ := ha
    simp only [isDig, Bool.and_eq_true, decide_eq_true_eq] at hc
    simp only [List.length_cons] at hk
    have hp : 10 ^ (k + 1) = 10 * 10 ^ k := by rw [Nat.pow_succ, Nat.mul_comm]
    have hle : 10 ^ k ≤ 10 ^ 9 := Nat.pow_le_pow_right (by omega) (by omega)
    have hn : acc * 10 + (c.toNat - 48) < 10 ^ (k + 1) := by omega
    have h9 : (10 : Nat) ^ 9 = 1000000000 := by decide
    have h64 : (2 : Nat) ^ 64 = 18446744073709551616 := by decide
    unfold Lib.parseUintM
    rw [if_pos hc, if_neg (by omega), if_neg (by omega), parse_dec' r (k + 1) _ hr (by omega) hn, List.foldl_cons, Nat.mul_comm acc 10]
theorem den_ParseUint (s : List UInt8) (hd : digitsL s = true) (hl : s.length ≤ 10) : Den E1 110 [strP s, intP 10, intP 64] (.tup [.lit (.int .u64 (decV s)), .lit .nilIface]) := by
  obtain ⟨ha, hn⟩ := digits_all hd
  refine den_intr (F := parseP) rfl ?_
  have hp : Lib.parseUintB 64 (bs s).data.toList = .ok (decV s) := by
    show Lib.parseUintB 64 s = _
    unfold Lib.parseUintB
    rw [if_neg hn]
    exact parse_dec' s 0 0 ha (by omega) (by simp)
  show (if (10 : Int) = 10 ∧ (64 : Int) = 64 ∧ (bs s).size ≤ 9223372036854775806 then match Lib.parseUintB 64 (bs s).data.toList with
    | .ok u => some (PV.tup [.lit (.int .u64 u), .lit .nilIface])
    | _ => none else none) = _
  rw [if_pos ⟨rfl, rfl, by rw [size_bs]; omega⟩, hp]
theorem wrap_u32' {n : Nat} (h : n < 10000000000) : IntKind.wrap IntKind.u32 (n : Int) = ((n % 4294967296 : Nat) : Int) := by
  simp only [IntKind.wrap, IntKind.bits, IntKind.signed, Bool.false_and, Bool.false_eq_true, if_false]
  omega
theorem numV_of {s : List UInt8} (h : numOk s = true) : numV s = IntKind.wrap IntKind.u32 (decV s) := by simp [numV, h]
theorem numV_no {s : List UInt8} (h : numOk s = false) : numV s = 0 := by simp [numV, h]
theorem numB_of {s : List UInt8} (h : numOk s = true) : numB s = decide ((decV s : Int) ≤ 2147483647) := by
  simp only [numB, h, Bool.true_and]
  rw [Bool.eq_iff_iff]; simp; omega
theorem numB_no {s : List UInt8} (h : numOk s = false) : numB s = false := by simp [numB, h]
theorem den_version_number (s : List UInt8) (hs : small s.length) : Den E1 70 [strP s] (.tup [.lit (.int .u32 (numV s)), bolP (numB s)]) := by
  refine den1 2000 _ rfl (by kernel_rfl) rfl rfl rfl (Eq.mpr (version_number_go s _) ⟨den_version_digits s hs, fun h1 => ⟨den_version_plain s (digits_all h1).2, fun h2 => ?_, fun h2 => ⟨fun h3 => ?_, fun h3 => ?_⟩⟩, fun h1 => ?_⟩)
  · have : numOk s = false := by simp only [Bool.not_eq_true'] at h2; simp [numOk, h2]
    rw [numV_no this, numB_no this]
  · have : numOk s = false := by simp only [decide_eq_true_eq, size_bs] at h3; simp [numOk]; omega
    rw [numV_no this, numB_no this]
  · simp only [decide_eq_false_iff_not, size_bs] at h3
    simp only [Bool.not_eq_false'] at h2
    have hl : s.length ≤ 10 := by omega
    have : numOk s = true := by simp [numOk, h1, h2, hl]
    refine ⟨den_ParseUint s h1 hl, ?_⟩
    rw [numV_of this, numB_of this, wrap_u32' (decV_lt h1 hl)]
  · have : numOk s = false := by simp [numOk, h1]
    rw [numV_no this, numB_no this]
theorem dec_snoc (l : List UInt8) (b : UInt8) : decV (l ++ [b]) = 10 * decV l + (b.toNat - 48) := by simp [decV, List.foldl_append]
theorem ref_number_S0 (s : List UInt8) (hd : digitsL s = true) (hl : s.length ≤ 10) : ∀ (n i : Nat) j jr g, i + n = s.length →
    LoopAt E1 Tryz.f87 (.tup [.lit (.int .u32 (IntKind.wrap IntKind.u32 (decV s))), bolP (decide ((decV s : Int) ≤ 2147483647))]) 0 (ref07_number_S0 s i (decV (s.take i)) j jr g) := by
  intro n
  induction n with
  | zero =>
    intro i j jr g hi
    refine loop_go 2000 _ (Eq.mpr (ref07_number_go_S0 s i (decV (s.take i)) j jr g _) ⟨fun h => ?_, fun h => ?_⟩)
    · simp only [decide_eq_true_eq, size_bs] at h; omega
    · rw [List.take_of_length_le (by omega)]
  | succ n ih =>
    intro i j jr g hi
    have hlt : i < s.length := by omega
    refine loop_go 2000 _ (Eq.mpr (ref07_number_go_S0 s i (decV (s.take i)) j jr g _) ⟨fun h => ⟨⟨by omega, by simpa [size_bs] using hlt⟩, fun j jr g => ?_⟩, fun h => ?_⟩)
    · have hda : (s.take i).all isDig = true := List.all_eq_true.2 fun x hx => List.all_eq_true.1 (digits_all hd).1 x (List.mem_of_mem_take hx)
      have hb : decV (s.take i) < 10 ^ (s.take i).length := dec_bound (s.take i) 0 0 hda (by simp; omega) (by simp)
      have hle : 10 ^ (s.take i).length ≤ 10 ^ 9 := Nat.pow_le_pow_right (by omega) (by simp; omega)
      have h9 : (10 : Nat) ^ 9 = 1000000000 := by decide
      have hdg : isDig s[i] = true := List.all_eq_true.1 (digits_all hd).1 _ (List.getElem_mem hlt)
      simp only [isDig, Bool.and_eq_true, decide_eq_true_eq] at hdg
      have e8 : IntKind.wrap IntKind.u8 ((↑(UInt8.toNat (List.getD s (Int.toNat (i : Int)) (0 : UInt8))) : Int) - (48 : Int)) = ((s[i].toNat - 48 : Nat) : Int) := by
        rw [Int.toNat_natCast, getD_lt hlt]
        simp only [IntKind.wrap, IntKind.bits, IntKind.signed]
        simp
        omega
      have e1 : IntKind.wrap IntKind.i64 ((i : Int) + 1) = ((i + 1 : Nat) : Int) := by rw [wrap_i64 _ (by omega) (by omega)]; rfl
      have e2 : decV (s.take (i + 1)) = 10 * decV (s.take i) + (s[i].toNat - 48) := by rw [← dec_snoc, List.take_succ_eq_append_getElem hlt]
      have e3 : IntKind.wrap IntKind.u64 (IntKind.wrap IntKind.u64 ((10 : Int) * (decV (s.take i) : Nat)) + IntKind.wrap IntKind.u64 ((s[i].toNat - 48 : Nat) : Int)) = ((decV (s.take (i + 1)) : Nat) : Int) := by
        rw [wrap_u64 ((10 : Int) * (decV (s.take i) : Nat)) (by omega) (by omega), wrap_u64 ((s[i].toNat - 48 : Nat) : Int) (by omega) (by omega), wrap_u64 _ (by omega) (by omega), e2]
        omega
      rw [e8, e1, e3]
      exact ih (i + 1) j jr g (by omega)
    · simp only [decide_eq_false_iff_not, size_bs] at h; omega
theorem den_ref07_number (s : List UInt8) (hs : small s.length) : Den E1 87 [strP s] (.tup [.lit (.int .u32 (numV s)), bolP (numB s)]) := by
  have fin : digitsL s = true → s.length ≤ 10 → plainL s = true → ∀ j jr g, LoopAt E1 Tryz.f87 (.tup [.lit (.int .u32 (numV s)), bolP (numB s)]) 0 (ref07_number_S0 s 0 0 j jr g) := by
    intro h1 hl h2 j jr g
    have : numOk s = true := by simp [numOk, h1, h2, hl]
    rw [numV_of this, numB_of this]
    exact ref_number_S0 s h1 hl s.length 0 j jr g (by omega)
  refine den1 2000 _ rfl (by kernel_rfl) rfl rfl rfl (Eq.mpr (ref07_number_go s _) ⟨den_ref07_digits s hs, fun h1 => ⟨fun h3 => ?_, fun h3 => ⟨fun h4 => ⟨⟨by omega, ?_⟩, fun h5 => ?_, fun h5 => fin h1 ?_ ?_⟩, fun h4 => fin h1 ?_ ?_⟩⟩, fun h1 => ?_⟩)
  · have : numOk s = false := by simp only [decide_eq_true_eq, size_bs] at h3; simp [numOk]; omega
    rw [numV_no this, numB_no this]
  · simp only [decide_eq_true_eq, size_bs] at h4 ⊢; omega
  · have : numOk s = false := by
      simp only [decide_eq_true_eq, size_bs] at h4
      have h5' : (s.getD 0 0).toNat = 48 := by have := eq_of_beq h5; omega
      have : plainL s = false := by simp only [plainL, h5']; simp; omega
      simp [numOk, this]
    rw [numV_no this, numB_no this]
  · simp only [decide_eq_false_iff_not, size_bs] at h3; omega
  · have h5' : ¬ (s.getD 0 0).toNat = 48 := by
      intro h; rw [h] at h5; simp at h5
    simp only [plainL, Bool.or_eq_true, bne_iff_ne, ne_eq]
    exact .inr h5'
  · simp only [decide_eq_false_iff_not, size_bs] at h3; omega
  · have := List.length_pos_iff.2 (digits_all h1).2
    simp only [decide_eq_false_iff_not, size_bs] at h4
    simp [plainL, show s.length = 1 by omega]
  · have : numOk s = false := by simp [numOk, h1]
    rw [numV_no this, numB_no this]
end Go.Proofs.YtlhfgonjcpapnaaGreatDoor.Abs

set_option maxRecDepth 20000
namespace Go.Proofs.YtlhfgonjcpapnaaGreatDoor.Abs
open Go Go.Proofs
theorem cut_le1 (s sep : List UInt8) : (Lib.cut s sep).1.length ≤ s.length := by
  rcases Lib.index_spec s sep with ⟨h, _⟩ | ⟨i, h, _⟩
  · simp [Lib.cut, h]
  · have hc : Lib.cut s sep = (s.take i, s.drop (i + sep.length), true) := by simp [Lib.cut, h]
    rw [hc]; simp; omega
theorem cut_le2 (s sep : List UInt8) : (Lib.cut s sep).2.1.length ≤ s.length := by
  rcases Lib.index_spec s sep with ⟨h, _⟩ | ⟨i, h, _⟩
  · simp [Lib.cut, h]
  · have hc : Lib.cut s sep = (s.take i, s.drop (i + sep.length), true) := by simp [Lib.cut, h]
    rw [hc]; simp
theorem split_le (sep : List UInt8) (hs : sep ≠ []) : ∀ (n : Nat) (s : List UInt8), s.length ≤ n → ((Lib.split s sep).length ≤ s.length + 1 ∧ ∀ p ∈ Lib.split s sep, p.length ≤ s.length) := by
  intro n
  induction n with
  | zero =>
    intro s hn
    rw [split_cut s sep hs]
    have hnf : (Lib.cut s sep).2.2 = false := by
      cases h : (Lib.cut s sep).2.2 with
      | false => rfl
      | true => have := cut_short s sep hs h; omega
    rw [hnf]
    simp only [Bool.false_eq_true, if_false, List.length_singleton, List.mem_singleton]
    exact ⟨by omega, fun p hp => by subst hp; exact cut_le1 s sep⟩
  | succ n ih =>
    intro s hn
    rw [split_cut s sep hs]
    cases h : (Lib.cut s sep).2.2 with
    | false =>
      simp only [Bool.false_eq_true, if_false, List.length_singleton, List.mem_singleton]
      exact ⟨by omega, fun p hp => by subst hp; exact cut_le1 s sep⟩
    | true =>
      have hc := cut_short s sep hs h
      obtain ⟨h1, h2⟩ := ih (Lib.cut s sep).2.1 (by omega)
      simp only [if_true, List.length_cons, List.mem_cons]
      refine ⟨by omega, fun p hp => ?_⟩
      rcases hp with rfl | hp
      · exact cut_le1 s sep
      · have := h2 p hp; omega
theorem split_ne (s sep : List UInt8) (hs : sep ≠ []) : Lib.split s sep ≠ [] := by rw [split_cut s sep hs]; simp
theorem den_Split (s sep : List UInt8) (hs : sep ≠ []) (h : s.length < 4294967281) : Den E1 69 [strP s, strP sep] (.sl 1 false true (List.map strP (Lib.split s sep))) := by
  refine den_intr (F := splitP) rfl ?_
  show (if (bs s).size < 4294967281 ∧ 1 ≤ (bs sep).size then _ else _) = _
  have hl : 0 < sep.length := List.length_pos_iff.2 hs
  rw [if_pos ⟨by rw [size_bs]; exact h, by rw [size_bs]; omega⟩]
  congr 2
  have hb := Lib.splitB_data (bs sep) 0 (Lib.countB (bs s) (bs sep)) (bs s)
  have hsp : Lib.split s sep = (Lib.splitB (bs sep) 0 (Lib.countB (bs s) (bs sep)) (bs s)).map (·.data.toList) := by rw [hb]; rfl
  rw [hsp, List.map_map]
  apply List.map_congr_left
  intro x _
  rfl
theorem getD_mem {α : Type} {l : List α} {i : Nat} (h : i < l.length) (d : α) : l.getD i d ∈ l := by
  rw [List.getD_eq_getElem?_getD, List.getElem?_eq_getElem h]; exact List.getElem_mem h
theorem numV_u32 (s : List UInt8) : u32 (numV s) := by
  unfold numV u32
  split
  · simp only [IntKind.wrap, IntKind.bits, IntKind.signed, Bool.false_and, Bool.false_eq_true, if_false]
    omega
  · omega
theorem raw_ok (fl : Bool) (s : List UInt8) (hl : s.length ≤ 128) : (rawV fl s).ok := by
  have hc2 := cut_le2 s [45]
  have hs := split_le [46] (by simp) _ (Lib.cut s [45]).2.1 (Nat.le_refl _)
  refine ⟨numV_u32 _, numV_u32 _, numV_u32 _, ?_, ?_, ?_⟩
  · show slOk 1 (if (Lib.cut s [45]).2.2 then 1 else 0) (!(Lib.cut s [45]).2.2) (preV s).length
    unfold preV
    cases (Lib.cut s [45]).2.2 with
    | true => exact ⟨fun h => by simp at h, fun _ => rfl⟩
    | false => exact ⟨fun _ => rfl, fun h => by simp at h⟩
  · show small (preV s).length
    unfold preV small
    split
    · have := hs.1; omega
    · simp
  · intro p hp
    have hp : p ∈ preV s := hp
    unfold preV at hp
    unfold small
    split at hp
    · have := hs.2 p hp; omega
    · simp at hp
theorem raw_may (s : List UInt8) : mayV (rawV false s) = mayV (rawV true s) := rfl
theorem rd_no {s : List UInt8} (h : rdOk0 s = false) (fl : Bool) : (.tup [verP 0 0 0 (.sl 0 true true []), intP 70] : PV) = .tup [(rdV fl s).p, intP (errV (rdOk s))] := by
  rw [rdV_eq, rdOk_eq, rdV0, h]
  rfl
theorem rd_yes {s : List UInt8} (h : rdOk0 s = true) (fl : Bool) : (.tup [(rawV fl s).p, intP 0] : PV) = .tup [(rdV fl s).p, intP (errV (rdOk s))] := by
  rw [rdV_eq, rdOk_eq, rdV0, h]
  rfl
theorem rd_ok {s : List UInt8} (fl : Bool) : (rdV fl s).ok := by
  rw [rdV_eq, rdV0]
  split
  · rename_i h
    have : s.length ≤ 128 := by simp only [rdOk0, Bool.and_eq_true, decide_eq_true_eq] at h; exact h.1.1.1.1.1
    exact raw_ok fl s this
  · exact zV_ok
theorem rd_may {s : List UInt8} (fl : Bool) : mayV (rdV fl s) = true := by
  rw [rdV_eq, rdV0]
  split
  · rename_i h
    simp only [rdOk0, Bool.and_eq_true] at h
    cases fl
    · rw [raw_may]; exact h.2
    · exact h.2
  · exact zV_may
theorem getW {W : List (List UInt8)} {i : Nat} (h : i < W.length) : (List.map strP W)[i]? = some (.lit (.string (bs (W.getD i default)))) := by
  rw [List.getElem?_map, List.getElem?_eq_getElem h, getD_lt h]; rfl
theorem raw_t {s : List UInt8} (h : (Lib.cut s [45]).2.2 = true) (fl : Bool) : rawV fl s = ⟨numV ((wordsV s).getD 0 default), numV ((wordsV s).getD 1 default), numV ((wordsV s).getD 2 default), 1, false, fl, Lib.split (Lib.cut s [45]).2.1 [46]⟩ := by
  simp only [rawV, h, preV, if_true]; rfl
theorem raw_f {s : List UInt8} (h : (Lib.cut s [45]).2.2 = false) (fl : Bool) : rawV fl s = ⟨numV ((wordsV s).getD 0 default), numV ((wordsV s).getD 1 default), numV ((wordsV s).getD 2 default), 0, true, true, []⟩ := by
  simp only [rawV, h, preV, if_false]; rfl
theorem den_version_Read (s : List UInt8) (hs : small s.length) : Den E1 34 [strP s] (.tup [(rdV true s).p, intP (errV (rdOk s))]) := by
  have h0 := version_Read_go s (.tup [(rdV true s).p, intP (errV (rdOk s))])
  by_cases hl : s.length ≤ 128
  · have hc1 := cut_le1 s [45]
    have hc2 := cut_le2 s [45]
    have hsp := split_le [46] (by simp) _ (Lib.cut s [45]).1 (Nat.le_refl _)
    have hwd : ∀ i, i < (wordsV s).length → small ((wordsV s).getD i default).length := fun i hi => by
      have : ((wordsV s).getD i default).length ≤ (Lib.cut s [45]).1.length := hsp.2 _ (getD_mem hi default)
      unfold small
      omega
    refine den1 2000 _ rfl (by kernel_rfl) rfl rfl rfl (Eq.mpr h0 ⟨fun h => ?_, fun h => ⟨den_Cut s [45] (by omega), den_Split _ _ (by simp) (by omega), fun h1 => ⟨rfl, rd_no ?_ true⟩, fun h1 => ?_⟩⟩)
    · simp only [decide_eq_true_eq, size_bs] at h; omega
    · have h1' : ¬ (wordsV s).length = 3 := by
        intro e
        have e' : (Lib.split (Lib.cut s [45]).1 [46]).length = 3 := e
        simp [e'] at h1
      simp [rdOk0, h1']
    · have h3 : (wordsV s).length = 3 := by
        have h1' : (((List.map strP (wordsV s)).length : Int) != 3) = false := h1
        simp only [List.length_map, bne_eq_false_iff_eq] at h1'
        omega
      refine ⟨⟨by omega, rfl, rfl⟩, getW (W := wordsV s) (by omega), den_version_number _ (hwd 0 (by omega)), fun h2 => ⟨rfl, rd_no ?_ true⟩, fun h2 => ⟨rfl, ⟨by omega, rfl, rfl⟩, getW (W := wordsV s) (by omega), den_version_number _ (hwd 1 (by omega)), fun h4 => ⟨rfl, rd_no ?_ true⟩, fun h4 => ⟨rfl, ⟨by omega, rfl, rfl⟩, getW (W := wordsV s) (by omega), den_version_number _ (hwd 2 (by omega)), fun h5 => ⟨rfl, rd_no ?_ true⟩, fun h5 => ⟨rfl, fun h6 => ?_, fun h6 => ?_⟩⟩⟩⟩
      · have h2' : numB ((wordsV s).getD 0 []) = false := not_eq.1 h2
        simp only [rdOk0, h2', Bool.and_false, Bool.false_and]
      · have h2' : numB ((wordsV s).getD 1 []) = false := not_eq.1 h4
        simp only [rdOk0, h2', Bool.and_false, Bool.false_and]
      · have h2' : numB ((wordsV s).getD 2 []) = false := not_eq.1 h5
        simp only [rdOk0, h2', Bool.and_false, Bool.false_and]
      · have b0 : numB ((wordsV s).getD 0 []) = true := not_eq.2 h2
        have b1 : numB ((wordsV s).getD 1 []) = true := not_eq.2 h4
        have b2 : numB ((wordsV s).getD 2 []) = true := not_eq.2 h5
        have hr := raw_ok true s hl
        rw [raw_t h6] at hr
        have hk : rdOk0 s = mayV (rawV true s) := by simp only [rdOk0, hl, h3, b0, b1, b2, decide_true, Bool.true_and, beq_self_eq_true]
        rw [raw_t h6] at hk
        refine ⟨den_Split _ _ (by simp) (by omega), rfl, rfl, den_version_May _ hr, fun h7 => ⟨rfl, rd_no ?_ true⟩, fun h7 => ⟨rfl, den_Clip 1 false true _ ⟨fun h => by simp at h, fun _ => rfl⟩, rfl, rfl, rfl, ?_⟩⟩
        · rw [hk]; rw [errV_ne] at h7; exact not_eq.1 h7
        · rw [errV_ne] at h7
          have := rd_yes (s := s) (by rw [hk]; exact not_eq.2 h7) true
          rw [raw_t h6] at this
          exact this
      · have b0 : numB ((wordsV s).getD 0 []) = true := not_eq.2 h2
        have b1 : numB ((wordsV s).getD 1 []) = true := not_eq.2 h4
        have b2 : numB ((wordsV s).getD 2 []) = true := not_eq.2 h5
        have hr := raw_ok true s hl
        rw [raw_f h6] at hr
        have hk : rdOk0 s = mayV (rawV true s) := by simp only [rdOk0, hl, h3, b0, b1, b2, decide_true, Bool.true_and, beq_self_eq_true]
        rw [raw_f h6] at hk
        refine ⟨rfl, den_version_May _ hr, fun h7 => ⟨rfl, rd_no ?_ true⟩, fun h7 => ⟨rfl, den_Clip 0 true true [] ⟨fun _ => rfl, fun h => by simp at h⟩, rfl, rfl, rfl, ?_⟩⟩
        · rw [hk]; rw [errV_ne] at h7; exact not_eq.1 h7
        · rw [errV_ne] at h7
          have := rd_yes (s := s) (by rw [hk]; exact not_eq.2 h7) true
          rw [raw_f h6] at this
          exact this
  · refine den1 2000 _ rfl (by kernel_rfl) rfl rfl rfl (Eq.mpr h0 ⟨fun h => ⟨rfl, rd_no ?_ true⟩, fun h => ?_⟩)
    · simp [rdOk0, hl]
    · simp only [decide_eq_false_iff_not, size_bs] at h; omega
end Go.Proofs.YtlhfgonjcpapnaaGreatDoor.Abs

namespace Go.Proofs.YtlhfgonjcpapnaaGreatDoor.Abs
open Go Go.Proofs
def strings_trimLeftASCII_S0 (s : List UInt8) (root : PV) (j : Nat → AV) (jr : Nat → Row) (g : Nat) : St :=
  { t := [strA (bs s), .pv (.ptr root 0)] ++ jj j 2 14, h := [List.replicate 16 row0], g := g }
theorem strings_trimLeftASCII_go (s : List UInt8) (root : PV) (r : PV) : FnGo E1 Tryz.f152 [strP s, .ptr root 0] r 2000 (.mask (iv [(2, 15)]) []) =
  (AtAll Tryz.f152 r 0 (strings_trimLeftASCII_S0 s root)) := by kernel_rfl
theorem strings_trimLeftASCII_go_S0 (s : List UInt8) (root : PV) (j : Nat → AV) (jr : Nat → Row) (g : Nat) (r : PV) : LoopGo E1 Tryz.f152 r 0 2000 (.fork (.res (bolP (trimC (↑(UInt8.toNat (List.getD s (0 : Nat) 0)) : Int))) (.fork (.hole 0) (.mask (iv [(2, 15)]) []))) (.hole 0)) (strings_trimLeftASCII_S0 s root j jr g) =
  (((decide ((↑(ByteArray.size (bs s)) : Int) > (0 : Int))) = true →
 (((0 : Int) ≤ (0 : Int)) ∧ ((0 : Nat) < ByteArray.size (bs s))) ∧
 (Den E1 176 [.ptr root 0, .lit (.int .u8 ((↑(UInt8.toNat (List.getD s (0 : Nat) 0)) : Int)))] (bolP (trimC (↑(UInt8.toNat (List.getD s (0 : Nat) 0)) : Int)))) ∧
 ((!trimC (↑(UInt8.toNat (List.getD s (0 : Nat) 0)) : Int)) = true →
 ((strP s) : PV) = r) ∧
 ((!trimC (↑(UInt8.toNat (List.getD s (0 : Nat) 0)) : Int)) = false →
 (((0 : Int) ≤ (1 : Int)) ∧ ((1 : Int) ≤ (↑(ByteArray.size (bs s)) : Int))) ∧
 (AtAll Tryz.f152 r 0 (strings_trimLeftASCII_S0 (Array.toList (ByteArray.extract (bs s) (1 : Nat) (ByteArray.size (bs s))).1) root)))) ∧
 ((decide ((↑(ByteArray.size (bs s)) : Int) > (0 : Int))) = false →
 ((strP s) : PV) = r)) := by kernel_rfl
end Go.Proofs.YtlhfgonjcpapnaaGreatDoor.Abs

set_option maxRecDepth 20000
namespace Go.Proofs.YtlhfgonjcpapnaaGreatDoor.Abs
open Go Go.Proofs
theorem contains_go (c : Int) (p r : PV) : FnGo E1 Tryz.f176 [.ptr aSetP 0, .lit (.int .u8 c)] r 2000 (.val p (.hole 0)) = ((0 ≤ c ∧ c < ((256 : Nat) : Int)) ∧ aSetP.cells[0 + c.toNat * 1]? = some p ∧ p = r) := by kernel_rfl
theorem aSet_get (n : Nat) (h : n < 256) : aSetP.cells[n]? = some (bolP (trimC n)) := by
  show ((List.range 256).map fun (c : Nat) => bolP (trimC c))[n]? = _
  rw [List.getElem?_map, List.getElem?_range h]
  rfl
theorem den_contains (b : UInt8) : Den E1 176 [.ptr aSetP 0, .lit (.int .u8 b.toNat)] (bolP (trimC b.toNat)) := by
  have hb : b.toNat < 256 := b.toNat_lt
  refine den1 2000 _ rfl (by kernel_rfl) rfl rfl rfl (Eq.mpr (contains_go b.toNat (bolP (trimC b.toNat)) _) ⟨⟨by omega, by omega⟩, ?_, rfl⟩)
  rw [Int.toNat_natCast, Nat.zero_add, Nat.mul_one]
  exact aSet_get b.toNat hb
theorem den_makeSet : Den E1 151 [strP [60, 62, 61, 126, 94]] (.tup [aSetP, bolP true]) :=
  den1 2000 _ rfl (by kernel_rfl) rfl rfl rfl (Eq.mpr (strings_makeASCIISet_go _) (by
    refine ⟨by decide, by decide, rfl, by decide, by decide, rfl, by decide, by decide, rfl, by decide, by decide, rfl, by decide, by decide, rfl, rfl, rfl, ?_⟩
    kernel_rfl))
theorem trim_S0 : ∀ (s : List UInt8) j jr g, LoopAt E1 Tryz.f152 (strP (trimL s)) 0 (strings_trimLeftASCII_S0 s aSetP j jr g)
  | [], j, jr, g => by
    refine loop_go 2000 _ (Eq.mpr (strings_trimLeftASCII_go_S0 [] aSetP j jr g _) ⟨fun h => ?_, fun h => rfl⟩)
    simp [size_bs] at h
  | c :: s, j, jr, g => by
    refine loop_go 2000 _ (Eq.mpr (strings_trimLeftASCII_go_S0 (c :: s) aSetP j jr g _) ⟨fun h => ⟨⟨by omega, by simp [size_bs]⟩, den_contains c, fun h1 => ?_, fun h1 => ⟨⟨by omega, by simp [size_bs]; omega⟩, fun j jr g => ?_⟩⟩, fun h => ?_⟩)
    · have h1' : trimC c.toNat = false := not_eq.1 h1
      have e2 : trimL (c :: s) = c :: s := by simp [trimL, h1']
      rw [e2]
      try rfl
    · have h1' : trimC c.toNat = true := not_eq.2 h1
      have e : (ByteArray.extract (bs (c :: s)) 1 (ByteArray.size (bs (c :: s)))).1.toList = s := by
        rw [extract_bs, size_bs]
        simp
      have e2 : trimL (c :: s) = trimL s := by simp [trimL, h1']
      rw [e, e2]
      exact trim_S0 s j jr g
    · simp [size_bs] at h
theorem den_trimASCII (s : List UInt8) : Den E1 152 [strP s, .ptr aSetP 0] (strP (trimL s)) :=
  den1 2000 _ rfl (by kernel_rfl) rfl rfl rfl (Eq.mpr (strings_trimLeftASCII_go s aSetP _) fun j jr g => trim_S0 s j jr g)
theorem den_TrimLeft (s : List UInt8) : Den E1 127 [strP s, strP [60, 62, 61, 126, 94]] (strP (trimL s)) := by
  refine den1 2000 _ rfl (by kernel_rfl) rfl rfl rfl (Eq.mpr (strings_TrimLeft_go s _) ⟨fun h => ?_, fun h => ⟨?_, rfl, ?_, rfl⟩⟩)
  · rw [toList_bs, toList_bs] at h
    have : s = [] := eq_of_beq h
    subst this; rfl
  · have := den_makeSet
    exact this
  · have := den_trimASCII s
    exact this
end Go.Proofs.YtlhfgonjcpapnaaGreatDoor.Abs

namespace Go.Proofs.YtlhfgonjcpapnaaGreatDoor.Abs
open Go Go.Proofs
def span_meet_S0 (l : List I) (m : List I) (k : Nat) (k' : Nat) (nl : Bool) (full : Bool) (nl' : Bool) (full' : Bool) (i : Int) (j : Nat → AV) (jr : Nat → Row) (g : Nat) : St :=
  { t := [j 0, .pv (.sl k' nl' full' (List.map I.p m)), j 2, j 3, j 4, .pv (.sl 0 true true [])] ++ jj j 6 6 ++ [.pv (.sl k nl full (List.map I.p l)), intA ((↑(List.length (List.map I.p l)) : Int)), intA i] ++ jj j 15 37, h := [List.replicate 7 row0 ++ [jr 7, row0, jr 9, jr 10, jr 11, row0, row0, row0, row0, row0, row0, row0, row0, row0, row0, row0, row0, row0, row0, row0, row0, row0, row0, row0, row0, row0, row0, row0, row0, row0, row0, row0, row0, row0, row0, row0, row0, row0, row0, jr 46] ++ List.replicate 5 row0], g := g }
def span_meet_S1 (l : List I) (m : List I) (k : Nat) (k' : Nat) (nl : Bool) (full : Bool) (nl' : Bool) (full' : Bool) (i : Int) (q : Int) (gx : Nat) (j : Nat → AV) (jr : Nat → Row) (g : Nat) : St :=
  { t := [j 0, .pv (.sl k' nl' full' (List.map I.p m)), j 2, j 3, j 4, .pv (.sl 0 true true []), j 6, .mptr 0 7 gx 0 0, j 8, j 9, j 10, j 11, .pv (.sl k nl full (List.map I.p l)), intA ((↑(List.length (List.map I.p l)) : Int)), intA i, j 15, j 16, j 17, .pv (.sl k' nl' full' (List.map I.p m)), intA ((↑(List.length (List.map I.p m)) : Int)), intA q] ++ jj j 21 31, h := [List.replicate 7 row0 ++ [⟨gx, .box (.pv (I.p (gI l i))) false⟩, row0, jr 9, jr 10, jr 11, row0, row0, row0, row0, row0, row0, row0, row0, row0, row0, row0, row0, row0, row0, row0, row0, row0, row0, row0, row0, row0, row0, row0, row0, row0, row0, row0, row0, row0, row0, row0, row0, row0, row0, jr 46] ++ List.replicate 5 row0], g := g }
def span_meet_S2 (l : List I) (m : List I) (k : Nat) (k' : Nat) (nl : Bool) (full : Bool) (nl' : Bool) (full' : Bool) (i : Int) (q : Int) (gx : Nat) (gm : Nat) (n : Nat) (xsI : List PV) (j : Nat → AV) (jr : Nat → Row) (g : Nat) : St :=
  { t := [j 0, .pv (.sl k' nl' full' (List.map I.p m)), j 2, j 3, j 4, .msl 0 47 gm 0 n false, j 6, .mptr 0 7 gx 0 0, j 8, j 9, j 10, j 11, .pv (.sl k nl full (List.map I.p l)), intA ((↑(List.length (List.map I.p l)) : Int)), intA i, j 15, j 16, j 17, .pv (.sl k' nl' full' (List.map I.p m)), intA ((↑(List.length (List.map I.p m)) : Int)), intA q] ++ jj j 21 31, h := [List.replicate 7 row0 ++ [⟨gx, .box (.pv (I.p (gI l i))) false⟩, row0, jr 9, jr 10, jr 11, row0, row0, row0, row0, row0, row0, row0, row0, row0, row0, row0, row0, row0, row0, row0, row0, row0, row0, row0, row0, row0, row0, row0, row0, row0, row0, row0, row0, row0, row0, row0, row0, row0, row0, jr 46, ⟨gm, .row 11 63 xsI false⟩] ++ List.replicate 4 row0], g := g }
def span_meet_S3 (l : List I) (m : List I) (k : Nat) (k' : Nat) (nl : Bool) (full : Bool) (nl' : Bool) (full' : Bool) (i : Int) (gm : Nat) (n : Nat) (xsI : List PV) (j : Nat → AV) (jr : Nat → Row) (g : Nat) : St :=
  { t := [j 0, .pv (.sl k' nl' full' (List.map I.p m)), j 2, j 3, j 4, .msl 0 47 gm 0 n false] ++ jj j 6 6 ++ [.pv (.sl k nl full (List.map I.p l)), intA ((↑(List.length (List.map I.p l)) : Int)), intA i] ++ jj j 15 37, h := [List.replicate 7 row0 ++ [jr 7, row0, jr 9, jr 10, jr 11, row0, row0, row0, row0, row0, row0, row0, row0, row0, row0, row0, row0, row0, row0, row0, row0, row0, row0, row0, row0, row0, row0, row0, row0, row0, row0, row0, row0, row0, row0, row0, row0, row0, row0, jr 46, ⟨gm, .row 11 63 xsI false⟩] ++ List.replicate 4 row0], g := g }
theorem span_meet_go (l : List I) (m : List I) (k : Nat) (k' : Nat) (nl : Bool) (full : Bool) (nl' : Bool) (full' : Bool) (r : PV) : FnGo E1 Tryz.f62 [.sl k nl full (List.map I.p l), .sl k' nl' full' (List.map I.p m)] r 2000 (.mask (iv [(0, 0), (2, 4), (6, 11), (15, 51)]) [7, 9, 10, 11, 46]) =
  (AtAll Tryz.f62 r 0 (span_meet_S0 l m k k' nl full nl' full' 0)) := by kernel_rfl
theorem span_meet_go_S0 (l : List I) (m : List I) (k : Nat) (k' : Nat) (nl : Bool) (full : Bool) (nl' : Bool) (full' : Bool) (i : Int) (j : Nat → AV) (jr : Nat → Row) (g : Nat) (r : PV) : LoopGo E1 Tryz.f62 r 0 2000 (.fork (.val (I.p (gI l i)) (.mask (iv [(0, 0), (2, 4), (6, 6), (8, 11), (15, 17), (21, 51)]) [9, 10, 11, 46])) (.res (.sl 0 true true []) (.hole 0))) (span_meet_S0 l m k k' nl full nl' full' i j jr g) =
  (((decide (i < (↑(List.length (List.map I.p l)) : Int))) = true →
 (((0 : Int) ≤ i) ∧ ((nl = false) ∧ (k = 11))) ∧
 (((List.map I.p l)[Int.toNat i]?) = some (I.p (gI l i))) ∧
 ((g + 1 + 2) = g + 1 + 2) ∧
 (AtAll Tryz.f62 r 1 (span_meet_S1 l m k k' nl full nl' full' i 0 (g + 1 + 2)))) ∧
 ((decide (i < (↑(List.length (List.map I.p l)) : Int))) = false →
 (Den E1 54 [.sl 0 true true []] (.sl 0 true true [])) ∧
 ((.sl 0 true true []) : PV) = r)) := by kernel_rfl
theorem span_meet_go_S1 (l : List I) (m : List I) (k : Nat) (k' : Nat) (nl : Bool) (full : Bool) (nl' : Bool) (full' : Bool) (i : Int) (q : Int) (gx : Nat) (j : Nat → AV) (jr : Nat → Row) (g : Nat) (r : PV) : LoopGo E1 Tryz.f62 r 1 2000 (.fork (.val (I.p (gI m q)) (.res (Ed.p ⟨(I.lo (gI l i)), (I.lopen (gI l i)), false⟩) (.res (Ed.p ⟨(I.hi (gI l i)), (!I.hopen (gI l i)), (I.less (gI l i))⟩) (.res (Ed.p ⟨(I.lo (gI m q)), (I.lopen (gI m q)), false⟩) (.res (intP (befE ⟨I.lo (gI l i), I.lopen (gI l i), false⟩ ⟨I.lo (gI m q), I.lopen (gI m q), false⟩)) (.fork (.res (Ed.p ⟨(I.lo (gI m q)), (I.lopen (gI m q)), false⟩) (.res (Ed.p ⟨(I.hi (gI m q)), (!I.hopen (gI m q)), (I.less (gI m q))⟩) (.res (intP (befE ⟨I.hi (gI m q), !I.hopen (gI m q), I.less (gI m q)⟩ ⟨I.hi (gI l i), !I.hopen (gI l i), I.less (gI l i)⟩)) (.fork (.res (Ed.p ⟨(I.hi (gI m q)), (!I.hopen (gI m q)), (I.less (gI m q))⟩) (.res (I.p ⟨(I.lo (gI m q)), (I.lopen (gI m q)), (if Ed.less ⟨I.hi (gI m q), !I.hopen (gI m q), I.less (gI m q)⟩ = true then zV else I.hi (gI m q)), (if Ed.less ⟨I.hi (gI m q), !I.hopen (gI m q), I.less (gI m q)⟩ = true then false else !!I.hopen (gI m q)), (I.less (gI m q))⟩) (.lit (.lit (.mask (iv [(0, 0), (2, 4), (6, 6), (8, 11), (15, 17), (21, 51)]) [9, 10, 11, 46]))))) (.res (I.p ⟨(I.lo (gI m q)), (I.lopen (gI m q)), (if Ed.less ⟨I.hi (gI l i), !I.hopen (gI l i), I.less (gI l i)⟩ = true then zV else I.hi (gI l i)), (if Ed.less ⟨I.hi (gI l i), !I.hopen (gI l i), I.less (gI l i)⟩ = true then false else !!I.hopen (gI l i)), (I.less (gI l i))⟩) (.lit (.lit (.mask (iv [(0, 0), (2, 4), (6, 6), (8, 11), (15, 17), (21, 51)]) [9, 10, 11, 46])))))))) (.res (Ed.p ⟨(I.hi (gI m q)), (!I.hopen (gI m q)), (I.less (gI m q))⟩) (.res (intP (befE ⟨I.hi (gI m q), !I.hopen (gI m q), I.less (gI m q)⟩ ⟨I.hi (gI l i), !I.hopen (gI l i), I.less (gI l i)⟩)) (.fork (.res (Ed.p ⟨(I.hi (gI m q)), (!I.hopen (gI m q)), (I.less (gI m q))⟩) (.res (I.p ⟨(I.lo (gI l i)), (I.lopen (gI l i)), (if Ed.less ⟨I.hi (gI m q), !I.hopen (gI m q), I.less (gI m q)⟩ = true then zV else I.hi (gI m q)), (if Ed.less ⟨I.hi (gI m q), !I.hopen (gI m q), I.less (gI m q)⟩ = true then false else !!I.hopen (gI m q)), (I.less (gI m q))⟩) (.lit (.lit (.mask (iv [(0, 0), (2, 4), (6, 6), (8, 11), (15, 17), (21, 51)]) [9, 10, 11, 46]))))) (.res (I.p ⟨(I.lo (gI l i)), (I.lopen (gI l i)), (if Ed.less ⟨I.hi (gI l i), !I.hopen (gI l i), I.less (gI l i)⟩ = true then zV else I.hi (gI l i)), (if Ed.less ⟨I.hi (gI l i), !I.hopen (gI l i), I.less (gI l i)⟩ = true then false else !!I.hopen (gI l i)), (I.less (gI l i))⟩) (.lit (.lit (.mask (iv [(0, 0), (2, 4), (6, 6), (8, 11), (15, 17), (21, 51)]) [9, 10, 11, 46]))))))))))))) (.mask (iv [(0, 0), (2, 4), (6, 11), (15, 51)]) [7, 9, 10, 11, 46])) (span_meet_S1 l m k k' nl full nl' full' i q gx j jr g) =
  (((decide (q < (↑(List.length (List.map I.p m)) : Int))) = true →
 (((0 : Int) ≤ q) ∧ ((nl' = false) ∧ (k' = 11))) ∧
 (((List.map I.p m)[Int.toNat q]?) = some (I.p (gI m q))) ∧
 ((g + 1 + 2) = g + 1 + 2) ∧
 (gx = gx) ∧
 (Den E1 37 [I.p (gI l i)] (Ed.p ⟨(I.lo (gI l i)), (I.lopen (gI l i)), false⟩)) ∧
 (gx = gx) ∧
 (Den E1 38 [I.p (gI l i)] (Ed.p ⟨(I.hi (gI l i)), (!I.hopen (gI l i)), (I.less (gI l i))⟩)) ∧
 ((g + 1 + 4 + 4) = g + 1 + 4 + 4) ∧
 ((g + 1 + 4 + 5) = g + 1 + 4 + 5) ∧
 ((g + 1 + 4 + 4) = g + 1 + 4 + 4) ∧
 ((g + 1 + 2) = g + 1 + 2) ∧
 (Den E1 37 [I.p (gI m q)] (Ed.p ⟨(I.lo (gI m q)), (I.lopen (gI m q)), false⟩)) ∧
 (Den E1 36 [Ed.p ⟨(I.lo (gI l i)), (I.lopen (gI l i)), false⟩, Ed.p ⟨(I.lo (gI m q)), (I.lopen (gI m q)), false⟩] (intP (befE ⟨I.lo (gI l i), I.lopen (gI l i), false⟩ ⟨I.lo (gI m q), I.lopen (gI m q), false⟩))) ∧
 ((decide (befE ⟨I.lo (gI l i), I.lopen (gI l i), false⟩ ⟨I.lo (gI m q), I.lopen (gI m q), false⟩ < (0 : Int))) = true →
 ((g + 1 + 2) = g + 1 + 2) ∧
 (Den E1 37 [I.p (gI m q)] (Ed.p ⟨(I.lo (gI m q)), (I.lopen (gI m q)), false⟩)) ∧
 ((g + 1 + 4 + 4) = g + 1 + 4 + 4) ∧
 ((g + 1 + 2) = g + 1 + 2) ∧
 (Den E1 38 [I.p (gI m q)] (Ed.p ⟨(I.hi (gI m q)), (!I.hopen (gI m q)), (I.less (gI m q))⟩)) ∧
 ((g + 1 + 4 + 5) = g + 1 + 4 + 5) ∧
 (Den E1 36 [Ed.p ⟨(I.hi (gI m q)), (!I.hopen (gI m q)), (I.less (gI m q))⟩, Ed.p ⟨(I.hi (gI l i)), (!I.hopen (gI l i)), (I.less (gI l i))⟩] (intP (befE ⟨I.hi (gI m q), !I.hopen (gI m q), I.less (gI m q)⟩ ⟨I.hi (gI l i), !I.hopen (gI l i), I.less (gI l i)⟩))) ∧
 ((decide (befE ⟨I.hi (gI m q), !I.hopen (gI m q), I.less (gI m q)⟩ ⟨I.hi (gI l i), !I.hopen (gI l i), I.less (gI l i)⟩ < (0 : Int))) = true →
 ((g + 1 + 2) = g + 1 + 2) ∧
 (Den E1 38 [I.p (gI m q)] (Ed.p ⟨(I.hi (gI m q)), (!I.hopen (gI m q)), (I.less (gI m q))⟩)) ∧
 ((g + 1 + 4 + 5) = g + 1 + 4 + 5) ∧
 ((g + 1 + 4 + 4) = g + 1 + 4 + 4) ∧
 ((g + 1 + 4 + 5) = g + 1 + 4 + 5) ∧
 (Den E1 89 [Ed.p ⟨(I.lo (gI m q)), (I.lopen (gI m q)), false⟩, Ed.p ⟨(I.hi (gI m q)), (!I.hopen (gI m q)), (I.less (gI m q))⟩] (I.p ⟨(I.lo (gI m q)), (I.lopen (gI m q)), (if Ed.less ⟨I.hi (gI m q), !I.hopen (gI m q), I.less (gI m q)⟩ = true then zV else I.hi (gI m q)), (if Ed.less ⟨I.hi (gI m q), !I.hopen (gI m q), I.less (gI m q)⟩ = true then false else !!I.hopen (gI m q)), (I.less (gI m q))⟩)) ∧
 ((g + 1 + 4 + 8 + 5 + 3 + 5 + 3 + 4) = g + 1 + 4 + 8 + 5 + 3 + 5 + 3 + 4) ∧
 (((11 : Nat) = 11) ∧ ((1 : Nat) ≤ (1 : Nat))) ∧
 (((0 : Nat) = 0) ∧ (true = true)) ∧
 (AtAll Tryz.f62 r 1 (span_meet_S2 l m k k' nl full nl' full' i (IntKind.i64.wrap (q + (1 : Int))) gx (g + 1 + 4 + 8 + 5 + 3 + 5 + 3 + 5) 1 [I.p ⟨(I.lo (gI m q)), (I.lopen (gI m q)), (if Ed.less ⟨I.hi (gI m q), !I.hopen (gI m q), I.less (gI m q)⟩ = true then zV else I.hi (gI m q)), (if Ed.less ⟨I.hi (gI m q), !I.hopen (gI m q), I.less (gI m q)⟩ = true then false else !!I.hopen (gI m q)), (I.less (gI m q))⟩]))) ∧
 ((decide (befE ⟨I.hi (gI m q), !I.hopen (gI m q), I.less (gI m q)⟩ ⟨I.hi (gI l i), !I.hopen (gI l i), I.less (gI l i)⟩ < (0 : Int))) = false →
 ((g + 1 + 4 + 4) = g + 1 + 4 + 4) ∧
 ((g + 1 + 4 + 5) = g + 1 + 4 + 5) ∧
 (Den E1 89 [Ed.p ⟨(I.lo (gI m q)), (I.lopen (gI m q)), false⟩, Ed.p ⟨(I.hi (gI l i)), (!I.hopen (gI l i)), (I.less (gI l i))⟩] (I.p ⟨(I.lo (gI m q)), (I.lopen (gI m q)), (if Ed.less ⟨I.hi (gI l i), !I.hopen (gI l i), I.less (gI l i)⟩ = true then zV else I.hi (gI l i)), (if Ed.less ⟨I.hi (gI l i), !I.hopen (gI l i), I.less (gI l i)⟩ = true then false else !!I.hopen (gI l i)), (I.less (gI l i))⟩)) ∧
 ((g + 1 + 4 + 8 + 5 + 3 + 5 + 4) = g + 1 + 4 + 8 + 5 + 3 + 5 + 4) ∧
 (((11 : Nat) = 11) ∧ ((1 : Nat) ≤ (1 : Nat))) ∧
 (((0 : Nat) = 0) ∧ (true = true)) ∧
 (AtAll Tryz.f62 r 1 (span_meet_S2 l m k k' nl full nl' full' i (IntKind.i64.wrap (q + (1 : Int))) gx (g + 1 + 4 + 8 + 5 + 3 + 5 + 5) 1 [I.p ⟨(I.lo (gI m q)), (I.lopen (gI m q)), (if Ed.less ⟨I.hi (gI l i), !I.hopen (gI l i), I.less (gI l i)⟩ = true then zV else I.hi (gI l i)), (if Ed.less ⟨I.hi (gI l i), !I.hopen (gI l i), I.less (gI l i)⟩ = true then false else !!I.hopen (gI l i)), (I.less (gI l i))⟩])))) ∧
 ((decide (befE ⟨I.lo (gI l i), I.lopen (gI l i), false⟩ ⟨I.lo (gI m q), I.lopen (gI m q), false⟩ < (0 : Int))) = false →
 ((g + 1 + 2) = g + 1 + 2) ∧
 (Den E1 38 [I.p (gI m q)] (Ed.p ⟨(I.hi (gI m q)), (!I.hopen (gI m q)), (I.less (gI m q))⟩)) ∧
 ((g + 1 + 4 + 5) = g + 1 + 4 + 5) ∧
 (Den E1 36 [Ed.p ⟨(I.hi (gI m q)), (!I.hopen (gI m q)), (I.less (gI m q))⟩, Ed.p ⟨(I.hi (gI l i)), (!I.hopen (gI l i)), (I.less (gI l i))⟩] (intP (befE ⟨I.hi (gI m q), !I.hopen (gI m q), I.less (gI m q)⟩ ⟨I.hi (gI l i), !I.hopen (gI l i), I.less (gI l i)⟩))) ∧
 ((decide (befE ⟨I.hi (gI m q), !I.hopen (gI m q), I.less (gI m q)⟩ ⟨I.hi (gI l i), !I.hopen (gI l i), I.less (gI l i)⟩ < (0 : Int))) = true →
 ((g + 1 + 2) = g + 1 + 2) ∧
 (Den E1 38 [I.p (gI m q)] (Ed.p ⟨(I.hi (gI m q)), (!I.hopen (gI m q)), (I.less (gI m q))⟩)) ∧
 ((g + 1 + 4 + 5) = g + 1 + 4 + 5) ∧
 ((g + 1 + 4 + 4) = g + 1 + 4 + 4) ∧
 ((g + 1 + 4 + 5) = g + 1 + 4 + 5) ∧
 (Den E1 89 [Ed.p ⟨(I.lo (gI l i)), (I.lopen (gI l i)), false⟩, Ed.p ⟨(I.hi (gI m q)), (!I.hopen (gI m q)), (I.less (gI m q))⟩] (I.p ⟨(I.lo (gI l i)), (I.lopen (gI l i)), (if Ed.less ⟨I.hi (gI m q), !I.hopen (gI m q), I.less (gI m q)⟩ = true then zV else I.hi (gI m q)), (if Ed.less ⟨I.hi (gI m q), !I.hopen (gI m q), I.less (gI m q)⟩ = true then false else !!I.hopen (gI m q)), (I.less (gI m q))⟩)) ∧
 ((g + 1 + 4 + 8 + 5 + 5 + 3 + 4) = g + 1 + 4 + 8 + 5 + 5 + 3 + 4) ∧
 (((11 : Nat) = 11) ∧ ((1 : Nat) ≤ (1 : Nat))) ∧
 (((0 : Nat) = 0) ∧ (true = true)) ∧
 (AtAll Tryz.f62 r 1 (span_meet_S2 l m k k' nl full nl' full' i (IntKind.i64.wrap (q + (1 : Int))) gx (g + 1 + 4 + 8 + 5 + 5 + 3 + 5) 1 [I.p ⟨(I.lo (gI l i)), (I.lopen (gI l i)), (if Ed.less ⟨I.hi (gI m q), !I.hopen (gI m q), I.less (gI m q)⟩ = true then zV else I.hi (gI m q)), (if Ed.less ⟨I.hi (gI m q), !I.hopen (gI m q), I.less (gI m q)⟩ = true then false else !!I.hopen (gI m q)), (I.less (gI m q))⟩]))) ∧
 ((decide (befE ⟨I.hi (gI m q), !I.hopen (gI m q), I.less (gI m q)⟩ ⟨I.hi (gI l i), !I.hopen (gI l i), I.less (gI l i)⟩ < (0 : Int))) = false →
 ((g + 1 + 4 + 4) = g + 1 + 4 + 4) ∧
 ((g + 1 + 4 + 5) = g + 1 + 4 + 5) ∧
 (Den E1 89 [Ed.p ⟨(I.lo (gI l i)), (I.lopen (gI l i)), false⟩, Ed.p ⟨(I.hi (gI l i)), (!I.hopen (gI l i)), (I.less (gI l i))⟩] (I.p ⟨(I.lo (gI l i)), (I.lopen (gI l i)), (if Ed.less ⟨I.hi (gI l i), !I.hopen (gI l i), I.less (gI l i)⟩ = true then zV else I.hi (gI l i)), (if Ed.less ⟨I.hi (gI l i), !I.hopen (gI l i), I.less (gI l i)⟩ = true then false else !!I.hopen (gI l i)), (I.less (gI l i))⟩)) ∧
 ((g + 1 + 4 + 8 + 5 + 5 + 4) = g + 1 + 4 + 8 + 5 + 5 + 4) ∧
 (((11 : Nat) = 11) ∧ ((1 : Nat) ≤ (1 : Nat))) ∧
 (((0 : Nat) = 0) ∧ (true = true)) ∧
 (AtAll Tryz.f62 r 1 (span_meet_S2 l m k k' nl full nl' full' i (IntKind.i64.wrap (q + (1 : Int))) gx (g + 1 + 4 + 8 + 5 + 5 + 5) 1 [I.p ⟨(I.lo (gI l i)), (I.lopen (gI l i)), (if Ed.less ⟨I.hi (gI l i), !I.hopen (gI l i), I.less (gI l i)⟩ = true then zV else I.hi (gI l i)), (if Ed.less ⟨I.hi (gI l i), !I.hopen (gI l i), I.less (gI l i)⟩ = true then false else !!I.hopen (gI l i)), (I.less (gI l i))⟩]))))) ∧
 ((decide (q < (↑(List.length (List.map I.p m)) : Int))) = false →
 AtAll Tryz.f62 r 0 (span_meet_S0 l m k k' nl full nl' full' (IntKind.i64.wrap (i + (1 : Int)))))) := by kernel_rfl
theorem span_meet_go_S2 (l : List I) (m : List I) (k : Nat) (k' : Nat) (nl : Bool) (full : Bool) (nl' : Bool) (full' : Bool) (i : Int) (q : Int) (gx : Nat) (gm : Nat) (n : Nat) (xs : List I) (j : Nat → AV) (jr : Nat → Row) (g : Nat) (r : PV) : LoopGo E1 Tryz.f62 r 1 2000 (.fork (.val (I.p (gI m q)) (.res (Ed.p ⟨(I.lo (gI l i)), (I.lopen (gI l i)), false⟩) (.res (Ed.p ⟨(I.hi (gI l i)), (!I.hopen (gI l i)), (I.less (gI l i))⟩) (.res (Ed.p ⟨(I.lo (gI m q)), (I.lopen (gI m q)), false⟩) (.res (intP (befE ⟨I.lo (gI l i), I.lopen (gI l i), false⟩ ⟨I.lo (gI m q), I.lopen (gI m q), false⟩)) (.fork (.res (Ed.p ⟨(I.lo (gI m q)), (I.lopen (gI m q)), false⟩) (.res (Ed.p ⟨(I.hi (gI m q)), (!I.hopen (gI m q)), (I.less (gI m q))⟩) (.res (intP (befE ⟨I.hi (gI m q), !I.hopen (gI m q), I.less (gI m q)⟩ ⟨I.hi (gI l i), !I.hopen (gI l i), I.less (gI l i)⟩)) (.fork (.res (Ed.p ⟨(I.hi (gI m q)), (!I.hopen (gI m q)), (I.less (gI m q))⟩) (.res (I.p ⟨(I.lo (gI m q)), (I.lopen (gI m q)), (if Ed.less ⟨I.hi (gI m q), !I.hopen (gI m q), I.less (gI m q)⟩ = true then zV else I.hi (gI m q)), (if Ed.less ⟨I.hi (gI m q), !I.hopen (gI m q), I.less (gI m q)⟩ = true then false else !!I.hopen (gI m q)), (I.less (gI m q))⟩) (.lit (.mask (iv [(0, 0), (2, 4), (6, 6), (8, 11), (15, 17), (21, 51)]) [9, 10, 11, 46])))) (.res (I.p ⟨(I.lo (gI m q)), (I.lopen (gI m q)), (if Ed.less ⟨I.hi (gI l i), !I.hopen (gI l i), I.less (gI l i)⟩ = true then zV else I.hi (gI l i)), (if Ed.less ⟨I.hi (gI l i), !I.hopen (gI l i), I.less (gI l i)⟩ = true then false else !!I.hopen (gI l i)), (I.less (gI l i))⟩) (.lit (.mask (iv [(0, 0), (2, 4), (6, 6), (8, 11), (15, 17), (21, 51)]) [9, 10, 11, 46]))))))) (.res (Ed.p ⟨(I.hi (gI m q)), (!I.hopen (gI m q)), (I.less (gI m q))⟩) (.res (intP (befE ⟨I.hi (gI m q), !I.hopen (gI m q), I.less (gI m q)⟩ ⟨I.hi (gI l i), !I.hopen (gI l i), I.less (gI l i)⟩)) (.fork (.res (Ed.p ⟨(I.hi (gI m q)), (!I.hopen (gI m q)), (I.less (gI m q))⟩) (.res (I.p ⟨(I.lo (gI l i)), (I.lopen (gI l i)), (if Ed.less ⟨I.hi (gI m q), !I.hopen (gI m q), I.less (gI m q)⟩ = true then zV else I.hi (gI m q)), (if Ed.less ⟨I.hi (gI m q), !I.hopen (gI m q), I.less (gI m q)⟩ = true then false else !!I.hopen (gI m q)), (I.less (gI m q))⟩) (.lit (.mask (iv [(0, 0), (2, 4), (6, 6), (8, 11), (15, 17), (21, 51)]) [9, 10, 11, 46])))) (.res (I.p ⟨(I.lo (gI l i)), (I.lopen (gI l i)), (if Ed.less ⟨I.hi (gI l i), !I.hopen (gI l i), I.less (gI l i)⟩ = true then zV else I.hi (gI l i)), (if Ed.less ⟨I.hi (gI l i), !I.hopen (gI l i), I.less (gI l i)⟩ = true then false else !!I.hopen (gI l i)), (I.less (gI l i))⟩) (.lit (.mask (iv [(0, 0), (2, 4), (6, 6), (8, 11), (15, 17), (21, 51)]) [9, 10, 11, 46])))))))))))) (.mask (iv [(0, 0), (2, 4), (6, 11), (15, 51)]) [7, 9, 10, 11, 46])) (span_meet_S2 l m k k' nl full nl' full' i q gx gm n (List.map I.p xs) j jr g) =
  (((decide (q < (↑(List.length (List.map I.p m)) : Int))) = true →
 (((0 : Int) ≤ q) ∧ ((nl' = false) ∧ (k' = 11))) ∧
 (((List.map I.p m)[Int.toNat q]?) = some (I.p (gI m q))) ∧
 ((g + 1 + 2) = g + 1 + 2) ∧
 (gx = gx) ∧
 (Den E1 37 [I.p (gI l i)] (Ed.p ⟨(I.lo (gI l i)), (I.lopen (gI l i)), false⟩)) ∧
 (gx = gx) ∧
 (Den E1 38 [I.p (gI l i)] (Ed.p ⟨(I.hi (gI l i)), (!I.hopen (gI l i)), (I.less (gI l i))⟩)) ∧
 ((g + 1 + 4 + 4) = g + 1 + 4 + 4) ∧
 ((g + 1 + 4 + 5) = g + 1 + 4 + 5) ∧
 ((g + 1 + 4 + 4) = g + 1 + 4 + 4) ∧
 ((g + 1 + 2) = g + 1 + 2) ∧
 (Den E1 37 [I.p (gI m q)] (Ed.p ⟨(I.lo (gI m q)), (I.lopen (gI m q)), false⟩)) ∧
 (Den E1 36 [Ed.p ⟨(I.lo (gI l i)), (I.lopen (gI l i)), false⟩, Ed.p ⟨(I.lo (gI m q)), (I.lopen (gI m q)), false⟩] (intP (befE ⟨I.lo (gI l i), I.lopen (gI l i), false⟩ ⟨I.lo (gI m q), I.lopen (gI m q), false⟩))) ∧
 ((decide (befE ⟨I.lo (gI l i), I.lopen (gI l i), false⟩ ⟨I.lo (gI m q), I.lopen (gI m q), false⟩ < (0 : Int))) = true →
 ((g + 1 + 2) = g + 1 + 2) ∧
 (Den E1 37 [I.p (gI m q)] (Ed.p ⟨(I.lo (gI m q)), (I.lopen (gI m q)), false⟩)) ∧
 ((g + 1 + 4 + 4) = g + 1 + 4 + 4) ∧
 ((g + 1 + 2) = g + 1 + 2) ∧
 (Den E1 38 [I.p (gI m q)] (Ed.p ⟨(I.hi (gI m q)), (!I.hopen (gI m q)), (I.less (gI m q))⟩)) ∧
 ((g + 1 + 4 + 5) = g + 1 + 4 + 5) ∧
 (Den E1 36 [Ed.p ⟨(I.hi (gI m q)), (!I.hopen (gI m q)), (I.less (gI m q))⟩, Ed.p ⟨(I.hi (gI l i)), (!I.hopen (gI l i)), (I.less (gI l i))⟩] (intP (befE ⟨I.hi (gI m q), !I.hopen (gI m q), I.less (gI m q)⟩ ⟨I.hi (gI l i), !I.hopen (gI l i), I.less (gI l i)⟩))) ∧
 ((decide (befE ⟨I.hi (gI m q), !I.hopen (gI m q), I.less (gI m q)⟩ ⟨I.hi (gI l i), !I.hopen (gI l i), I.less (gI l i)⟩ < (0 : Int))) = true →
 ((g + 1 + 2) = g + 1 + 2) ∧
 (Den E1 38 [I.p (gI m q)] (Ed.p ⟨(I.hi (gI m q)), (!I.hopen (gI m q)), (I.less (gI m q))⟩)) ∧
 ((g + 1 + 4 + 5) = g + 1 + 4 + 5) ∧
 ((g + 1 + 4 + 4) = g + 1 + 4 + 4) ∧
 ((g + 1 + 4 + 5) = g + 1 + 4 + 5) ∧
 (Den E1 89 [Ed.p ⟨(I.lo (gI m q)), (I.lopen (gI m q)), false⟩, Ed.p ⟨(I.hi (gI m q)), (!I.hopen (gI m q)), (I.less (gI m q))⟩] (I.p ⟨(I.lo (gI m q)), (I.lopen (gI m q)), (if Ed.less ⟨I.hi (gI m q), !I.hopen (gI m q), I.less (gI m q)⟩ = true then zV else I.hi (gI m q)), (if Ed.less ⟨I.hi (gI m q), !I.hopen (gI m q), I.less (gI m q)⟩ = true then false else !!I.hopen (gI m q)), (I.less (gI m q))⟩)) ∧
 ((g + 1 + 4 + 8 + 5 + 3 + 5 + 3 + 4) = g + 1 + 4 + 8 + 5 + 3 + 5 + 3 + 4) ∧
 (((11 : Nat) = 11) ∧ ((1 : Nat) ≤ (1 : Nat))) ∧
 (gm = gm) ∧
 ((false = false) ∧ (((11 : Nat) = 11) ∧ (((63 : Nat) = 63) ∧ ((((0 : Nat) + n) = List.length (List.map I.p xs)) ∧ ((fitsRow (n + 1) (104 : Nat)) = true))))) ∧
 (∀ (j' : Nat → AV) (jr' : Nat → Row) (g' : Nat), LoopAt E1 Tryz.f62 r 1 (span_meet_S2 l m k k' nl full nl' full' i (IntKind.i64.wrap (q + (1 : Int))) gx (g + 1 + 4 + 8 + 5 + 3 + 5 + 3 + 5) (n + 1) (List.drop (0 : Nat) (List.map I.p xs) ++ List.take (1 : Nat) (List.drop (0 : Nat) [PV.agg [PV.lit (Value.int IntKind.u32 (V.a (I.lo (gI m q)))), PV.lit (Value.int IntKind.u32 (V.b (I.lo (gI m q)))), PV.lit (Value.int IntKind.u32 (V.c (I.lo (gI m q)))), V.q (I.lo (gI m q)), PV.lit (Value.bool (I.lopen (gI m q))), PV.lit (Value.int IntKind.u32 (V.a (if Ed.less ⟨I.hi (gI m q), !I.hopen (gI m q), I.less (gI m q)⟩ = true then zV else I.hi (gI m q)))), PV.lit (Value.int IntKind.u32 (V.b (if Ed.less ⟨I.hi (gI m q), !I.hopen (gI m q), I.less (gI m q)⟩ = true then zV else I.hi (gI m q)))), PV.lit (Value.int IntKind.u32 (V.c (if Ed.less ⟨I.hi (gI m q), !I.hopen (gI m q), I.less (gI m q)⟩ = true then zV else I.hi (gI m q)))), V.q (if Ed.less ⟨I.hi (gI m q), !I.hopen (gI m q), I.less (gI m q)⟩ = true then zV else I.hi (gI m q)), PV.lit (Value.bool (if Ed.less ⟨I.hi (gI m q), !I.hopen (gI m q), I.less (gI m q)⟩ = true then false else !!I.hopen (gI m q))), PV.lit (Value.bool (I.less (gI m q)))]])) j' jr' g'))) ∧
 ((decide (befE ⟨I.hi (gI m q), !I.hopen (gI m q), I.less (gI m q)⟩ ⟨I.hi (gI l i), !I.hopen (gI l i), I.less (gI l i)⟩ < (0 : Int))) = false →
 ((g + 1 + 4 + 4) = g + 1 + 4 + 4) ∧
 ((g + 1 + 4 + 5) = g + 1 + 4 + 5) ∧
 (Den E1 89 [Ed.p ⟨(I.lo (gI m q)), (I.lopen (gI m q)), false⟩, Ed.p ⟨(I.hi (gI l i)), (!I.hopen (gI l i)), (I.less (gI l i))⟩] (I.p ⟨(I.lo (gI m q)), (I.lopen (gI m q)), (if Ed.less ⟨I.hi (gI l i), !I.hopen (gI l i), I.less (gI l i)⟩ = true then zV else I.hi (gI l i)), (if Ed.less ⟨I.hi (gI l i), !I.hopen (gI l i), I.less (gI l i)⟩ = true then false else !!I.hopen (gI l i)), (I.less (gI l i))⟩)) ∧
 ((g + 1 + 4 + 8 + 5 + 3 + 5 + 4) = g + 1 + 4 + 8 + 5 + 3 + 5 + 4) ∧
 (((11 : Nat) = 11) ∧ ((1 : Nat) ≤ (1 : Nat))) ∧
 (gm = gm) ∧
 ((false = false) ∧ (((11 : Nat) = 11) ∧ (((63 : Nat) = 63) ∧ ((((0 : Nat) + n) = List.length (List.map I.p xs)) ∧ ((fitsRow (n + 1) (104 : Nat)) = true))))) ∧
 (∀ (j' : Nat → AV) (jr' : Nat → Row) (g' : Nat), LoopAt E1 Tryz.f62 r 1 (span_meet_S2 l m k k' nl full nl' full' i (IntKind.i64.wrap (q + (1 : Int))) gx (g + 1 + 4 + 8 + 5 + 3 + 5 + 5) (n + 1) (List.drop (0 : Nat) (List.map I.p xs) ++ List.take (1 : Nat) (List.drop (0 : Nat) [PV.agg [PV.lit (Value.int IntKind.u32 (V.a (I.lo (gI m q)))), PV.lit (Value.int IntKind.u32 (V.b (I.lo (gI m q)))), PV.lit (Value.int IntKind.u32 (V.c (I.lo (gI m q)))), V.q (I.lo (gI m q)), PV.lit (Value.bool (I.lopen (gI m q))), PV.lit (Value.int IntKind.u32 (V.a (if Ed.less ⟨I.hi (gI l i), !I.hopen (gI l i), I.less (gI l i)⟩ = true then zV else I.hi (gI l i)))), PV.lit (Value.int IntKind.u32 (V.b (if Ed.less ⟨I.hi (gI l i), !I.hopen (gI l i), I.less (gI l i)⟩ = true then zV else I.hi (gI l i)))), PV.lit (Value.int IntKind.u32 (V.c (if Ed.less ⟨I.hi (gI l i), !I.hopen (gI l i), I.less (gI l i)⟩ = true then zV else I.hi (gI l i)))), V.q (if Ed.less ⟨I.hi (gI l i), !I.hopen (gI l i), I.less (gI l i)⟩ = true then zV else I.hi (gI l i)), PV.lit (Value.bool (if Ed.less ⟨I.hi (gI l i), !I.hopen (gI l i), I.less (gI l i)⟩ = true then false else !!I.hopen (gI l i))), PV.lit (Value.bool (I.less (gI l i)))]])) j' jr' g')))) ∧
 ((decide (befE ⟨I.lo (gI l i), I.lopen (gI l i), false⟩ ⟨I.lo (gI m q), I.lopen (gI m q), false⟩ < (0 : Int))) = false →
 ((g + 1 + 2) = g + 1 + 2) ∧
 (Den E1 38 [I.p (gI m q)] (Ed.p ⟨(I.hi (gI m q)), (!I.hopen (gI m q)), (I.less (gI m q))⟩)) ∧
 ((g + 1 + 4 + 5) = g + 1 + 4 + 5) ∧
 (Den E1 36 [Ed.p ⟨(I.hi (gI m q)), (!I.hopen (gI m q)), (I.less (gI m q))⟩, Ed.p ⟨(I.hi (gI l i)), (!I.hopen (gI l i)), (I.less (gI l i))⟩] (intP (befE ⟨I.hi (gI m q), !I.hopen (gI m q), I.less (gI m q)⟩ ⟨I.hi (gI l i), !I.hopen (gI l i), I.less (gI l i)⟩))) ∧
 ((decide (befE ⟨I.hi (gI m q), !I.hopen (gI m q), I.less (gI m q)⟩ ⟨I.hi (gI l i), !I.hopen (gI l i), I.less (gI l i)⟩ < (0 : Int))) = true →
 ((g + 1 + 2) = g + 1 + 2) ∧
 (Den E1 38 [I.p (gI m q)] (Ed.p ⟨(I.hi (gI m q)), (!I.hopen (gI m q)), (I.less (gI m q))⟩)) ∧
 ((g + 1 + 4 + 5) = g + 1 + 4 + 5) ∧
 ((g + 1 + 4 + 4) = g + 1 + 4 + 4) ∧
 ((g + 1 + 4 + 5) = g + 1 + 4 + 5) ∧
 (Den E1 89 [Ed.p ⟨(I.lo (gI l i)), (I.lopen (gI l i)), false⟩, Ed.p ⟨(I.hi (gI m q)), (!I.hopen (gI m q)), (I.less (gI m q))⟩] (I.p ⟨(I.lo (gI l i)), (I.lopen (gI l i)), (if Ed.less ⟨I.hi (gI m q), !I.hopen (gI m q), I.less (gI m q)⟩ = true then zV else I.hi (gI m q)), (if Ed.less ⟨I.hi (gI m q), !I.hopen (gI m q), I.less (gI m q)⟩ = true then false else !!I.hopen (gI m q)), (I.less (gI m q))⟩)) ∧
 ((g + 1 + 4 + 8 + 5 + 5 + 3 + 4) = g + 1 + 4 + 8 + 5 + 5 + 3 + 4) ∧
 (((11 : Nat) = 11) ∧ ((1 : Nat) ≤ (1 : Nat))) ∧
 (gm = gm) ∧
 ((false = false) ∧ (((11 : Nat) = 11) ∧ (((63 : Nat) = 63) ∧ ((((0 : Nat) + n) = List.length (List.map I.p xs)) ∧ ((fitsRow (n + 1) (104 : Nat)) = true))))) ∧
 (∀ (j' : Nat → AV) (jr' : Nat → Row) (g' : Nat), LoopAt E1 Tryz.f62 r 1 (span_meet_S2 l m k k' nl full nl' full' i (IntKind.i64.wrap (q + (1 : Int))) gx (g + 1 + 4 + 8 + 5 + 5 + 3 + 5) (n + 1) (List.drop (0 : Nat) (List.map I.p xs) ++ List.take (1 : Nat) (List.drop (0 : Nat) [PV.agg [PV.lit (Value.int IntKind.u32 (V.a (I.lo (gI l i)))), PV.lit (Value.int IntKind.u32 (V.b (I.lo (gI l i)))), PV.lit (Value.int IntKind.u32 (V.c (I.lo (gI l i)))), V.q (I.lo (gI l i)), PV.lit (Value.bool (I.lopen (gI l i))), PV.lit (Value.int IntKind.u32 (V.a (if Ed.less ⟨I.hi (gI m q), !I.hopen (gI m q), I.less (gI m q)⟩ = true then zV else I.hi (gI m q)))), PV.lit (Value.int IntKind.u32 (V.b (if Ed.less ⟨I.hi (gI m q), !I.hopen (gI m q), I.less (gI m q)⟩ = true then zV else I.hi (gI m q)))), PV.lit (Value.int IntKind.u32 (V.c (if Ed.less ⟨I.hi (gI m q), !I.hopen (gI m q), I.less (gI m q)⟩ = true then zV else I.hi (gI m q)))), V.q (if Ed.less ⟨I.hi (gI m q), !I.hopen (gI m q), I.less (gI m q)⟩ = true then zV else I.hi (gI m q)), PV.lit (Value.bool (if Ed.less ⟨I.hi (gI m q), !I.hopen (gI m q), I.less (gI m q)⟩ = true then false else !!I.hopen (gI m q))), PV.lit (Value.bool (I.less (gI m q)))]])) j' jr' g'))) ∧
 ((decide (befE ⟨I.hi (gI m q), !I.hopen (gI m q), I.less (gI m q)⟩ ⟨I.hi (gI l i), !I.hopen (gI l i), I.less (gI l i)⟩ < (0 : Int))) = false →
 ((g + 1 + 4 + 4) = g + 1 + 4 + 4) ∧
 ((g + 1 + 4 + 5) = g + 1 + 4 + 5) ∧
 (Den E1 89 [Ed.p ⟨(I.lo (gI l i)), (I.lopen (gI l i)), false⟩, Ed.p ⟨(I.hi (gI l i)), (!I.hopen (gI l i)), (I.less (gI l i))⟩] (I.p ⟨(I.lo (gI l i)), (I.lopen (gI l i)), (if Ed.less ⟨I.hi (gI l i), !I.hopen (gI l i), I.less (gI l i)⟩ = true then zV else I.hi (gI l i)), (if Ed.less ⟨I.hi (gI l i), !I.hopen (gI l i), I.less (gI l i)⟩ = true then false else !!I.hopen (gI l i)), (I.less (gI l i))⟩)) ∧
 ((g + 1 + 4 + 8 + 5 + 5 + 4) = g + 1 + 4 + 8 + 5 + 5 + 4) ∧
 (((11 : Nat) = 11) ∧ ((1 : Nat) ≤ (1 : Nat))) ∧
 (gm = gm) ∧
 ((false = false) ∧ (((11 : Nat) = 11) ∧ (((63 : Nat) = 63) ∧ ((((0 : Nat) + n) = List.length (List.map I.p xs)) ∧ ((fitsRow (n + 1) (104 : Nat)) = true))))) ∧
 (∀ (j' : Nat → AV) (jr' : Nat → Row) (g' : Nat), LoopAt E1 Tryz.f62 r 1 (span_meet_S2 l m k k' nl full nl' full' i (IntKind.i64.wrap (q + (1 : Int))) gx (g + 1 + 4 + 8 + 5 + 5 + 5) (n + 1) (List.drop (0 : Nat) (List.map I.p xs) ++ List.take (1 : Nat) (List.drop (0 : Nat) [PV.agg [PV.lit (Value.int IntKind.u32 (V.a (I.lo (gI l i)))), PV.lit (Value.int IntKind.u32 (V.b (I.lo (gI l i)))), PV.lit (Value.int IntKind.u32 (V.c (I.lo (gI l i)))), V.q (I.lo (gI l i)), PV.lit (Value.bool (I.lopen (gI l i))), PV.lit (Value.int IntKind.u32 (V.a (if Ed.less ⟨I.hi (gI l i), !I.hopen (gI l i), I.less (gI l i)⟩ = true then zV else I.hi (gI l i)))), PV.lit (Value.int IntKind.u32 (V.b (if Ed.less ⟨I.hi (gI l i), !I.hopen (gI l i), I.less (gI l i)⟩ = true then zV else I.hi (gI l i)))), PV.lit (Value.int IntKind.u32 (V.c (if Ed.less ⟨I.hi (gI l i), !I.hopen (gI l i), I.less (gI l i)⟩ = true then zV else I.hi (gI l i)))), V.q (if Ed.less ⟨I.hi (gI l i), !I.hopen (gI l i), I.less (gI l i)⟩ = true then zV else I.hi (gI l i)), PV.lit (Value.bool (if Ed.less ⟨I.hi (gI l i), !I.hopen (gI l i), I.less (gI l i)⟩ = true then false else !!I.hopen (gI l i))), PV.lit (Value.bool (I.less (gI l i)))]])) j' jr' g'))))) ∧
 ((decide (q < (↑(List.length (List.map I.p m)) : Int))) = false →
 AtAll Tryz.f62 r 0 (span_meet_S3 l m k k' nl full nl' full' (IntKind.i64.wrap (i + (1 : Int))) gm n (List.map I.p xs)))) := by kernel_rfl
theorem span_meet_go_S3 (l : List I) (m : List I) (k : Nat) (k' : Nat) (nl : Bool) (full : Bool) (nl' : Bool) (full' : Bool) (i : Int) (gm : Nat) (n : Nat) (xs : List I) (j : Nat → AV) (jr : Nat → Row) (g : Nat) (r : PV) : LoopGo E1 Tryz.f62 r 0 2000 (.fork (.val (I.p (gI l i)) (.mask (iv [(0, 0), (2, 4), (6, 6), (8, 11), (15, 17), (21, 51)]) [9, 10, 11, 46])) (.frz [.sl 11 false false (List.map I.p xs)] [List.replicate 7 row0 ++ [jr 7, row0, jr 9, jr 10, jr 11, row0, row0, row0, row0, row0, row0, row0, row0, row0, row0, row0, row0, row0, row0, row0, row0, row0, row0, row0, row0, row0, row0, row0, row0, row0, row0, row0, row0, row0, row0, row0, row0, row0, row0, jr 46, ⟨gm, .row 11 63 (List.map I.p xs) true⟩] ++ List.replicate 4 row0] (.res (resL (joinS xs)) (.hole 0)))) (span_meet_S3 l m k k' nl full nl' full' i gm n (List.map I.p xs) j jr g) =
  (((decide (i < (↑(List.length (List.map I.p l)) : Int))) = true →
 (((0 : Int) ≤ i) ∧ ((nl = false) ∧ (k = 11))) ∧
 (((List.map I.p l)[Int.toNat i]?) = some (I.p (gI l i))) ∧
 ((g + 1 + 2) = g + 1 + 2) ∧
 (AtAll Tryz.f62 r 1 (span_meet_S2 l m k k' nl full nl' full' i 0 (g + 1 + 2) gm n (List.map I.p xs)))) ∧
 ((decide (i < (↑(List.length (List.map I.p l)) : Int))) = false →
 (frzs frzDepth [.msl 0 47 gm 0 n false] [List.replicate 7 row0 ++ [jr 7, row0, jr 9, jr 10, jr 11, row0, row0, row0, row0, row0, row0, row0, row0, row0, row0, row0, row0, row0, row0, row0, row0, row0, row0, row0, row0, row0, row0, row0, row0, row0, row0, row0, row0, row0, row0, row0, row0, row0, row0, jr 46, ⟨gm, .row 11 63 (List.map I.p xs) false⟩] ++ List.replicate 4 row0] = some ([.sl 11 false false (List.map I.p xs)], [List.replicate 7 row0 ++ [jr 7, row0, jr 9, jr 10, jr 11, row0, row0, row0, row0, row0, row0, row0, row0, row0, row0, row0, row0, row0, row0, row0, row0, row0, row0, row0, row0, row0, row0, row0, row0, row0, row0, row0, row0, row0, row0, row0, row0, row0, row0, jr 46, ⟨gm, .row 11 63 (List.map I.p xs) true⟩] ++ List.replicate 4 row0])) ∧
 (Den E1 54 [.sl 11 false false (List.map I.p xs)] (resL (joinS xs))) ∧
 ((resL (joinS xs)) : PV) = r)) := by kernel_rfl
end Go.Proofs.YtlhfgonjcpapnaaGreatDoor.Abs

set_option maxRecDepth 20000
namespace Go.Proofs.YtlhfgonjcpapnaaGreatDoor.Abs
open Go Go.Proofs
theorem ok_get {l : List I} {i : Nat} (h : ∀ x ∈ l, x.ok) (hi : i < l.length) : (l.getD i default).ok := h _ (getD_mem hi default)
theorem meet1S_ok {x y : I} (hx : x.ok) (hy : y.ok) : (meet1S x y).ok := by
  unfold meet1S
  refine bet_ok ?_ ?_
  · split
    · exact hy.lo
    · exact hx.lo
  · split
    · exact hy.hi
    · exact hx.hi
theorem meet1S_of {x y : I} {a b : Bool} (h1 : decide (befE x.low y.low < 0) = a) (h2 : decide (befE y.high x.high < 0) = b) : meet1S x y = betE (if a then y.low else x.low) (if b then y.high else x.high) := by
  subst h1; subst h2
  simp only [meet1S, decide_eq_true_eq]
section
variable (l m : List I) (k k' : Nat) (nl full nl' full' : Bool)
theorem smeet_S2 (hll : l.length < 1000000) (hlm : m.length < 1000000) (hsl : slOk 11 k nl l.length) (hsm : slOk 11 k' nl' m.length) (hgl : ∀ x ∈ l, x.ok) (hgm : ∀ x ∈ m, x.ok) (i : Nat) (hil : i < l.length) {r : PV} : ∀ (n q : Nat) (xs : List I) (gx gm : Nat) j jr g, q + n = m.length → xs.length + n < 1000000 →
    (∀ gm j jr g, LoopAt E1 Tryz.f62 r 0 (span_meet_S3 l m k k' nl full nl' full' (i + 1 : Nat) gm (xs.length + n) (List.map I.p (xs ++ (m.drop q).map fun y => meet1S (l.getD i default) y)) j jr g)) →
    LoopAt E1 Tryz.f62 r 1 (span_meet_S2 l m k k' nl full nl' full' i q gx gm xs.length (List.map I.p xs) j jr g) := by
  have hw1 : IntKind.wrap IntKind.i64 ((i : Int) + 1) = ((i + 1 : Nat) : Int) := wrap_i64 _ (by omega) (by omega)
  have hx := ok_get hgl hil
  intro n
  induction n with
  | zero =>
    intro q xs gx gm j0 jr0 g0 hq hb next
    refine loop_go 2000 _ (Eq.mpr (span_meet_go_S2 l m k k' nl full nl' full' i q gx gm xs.length xs j0 jr0 g0 _) ⟨fun h => ?_, fun h j jr g => ?_⟩)
    · simp only [decide_eq_true_eq, List.length_map] at h; omega
    · rw [hw1]
      have := next gm j jr g
      rw [List.drop_eq_nil_of_le (by omega), List.map_nil, List.append_nil] at this
      exact this
  | succ n ih =>
    intro q xs gx gm j0 jr0 g0 hq hb next
    have hql : q < m.length := by omega
    have hy := ok_get hgm hql
    have hq0 : (0 : Int) ≤ (q : Int) ∧ nl' = false ∧ k' = 11 := ⟨by omega, sl_at hsm hql⟩
    have hgq := getI hql
    have hw2 : IntKind.wrap IntKind.i64 ((q : Int) + 1) = ((q + 1 : Nat) : Int) := wrap_i64 _ (by omega) (by omega)
    have hf : xs.length = (List.map I.p xs).length ∧ fitsRow (xs.length + 1) 104 = true := ⟨by simp, fits_104 (by omega)⟩
    have fin : ∀ (z : I) gx gm j jr g, meet1S (l.getD i default) (m.getD q default) = z → LoopAt E1 Tryz.f62 r 1 (span_meet_S2 l m k k' nl full nl' full' i (q + 1 : Nat) gx gm (xs.length + 1) (List.map I.p xs ++ [I.p z]) j jr g) := by
      intro z gx gm j jr g hz
      have := ih (q + 1) (xs ++ [z]) gx gm j jr g (by omega) (by simp; omega) fun gm j jr g => by
        have := next gm j jr g
        rw [drop_get hql, List.map_cons, hz] at this
        have e : (xs ++ [z]).length + n = xs.length + (n + 1) := by simp; omega
        rw [e, List.append_assoc]
        exact this
      rw [List.length_append, List.map_append] at this
      exact this
    have hb1 := den_before (l.getD i default).low (m.getD q default).low hx.lo hy.lo
    have hb2 := den_before (m.getD q default).high (l.getD i default).high hy.hi hx.hi
    refine loop_go 2000 _ (Eq.mpr (span_meet_go_S2 l m k k' nl full nl' full' i q gx gm xs.length xs j0 jr0 g0 _) ⟨fun h => ?_, fun h => ?_⟩)
    · simp only [hw2, Int.toNat_natCast, gI_nat, gI_zero, Nat.zero_add, eq_self, true_and, and_true, Nat.le_refl]
      exact ⟨hq0, hgq, den_low _, den_high _, den_low _, hb1,
        fun h1 => ⟨den_low _, den_high _, hb2, fun h2 => ⟨den_high _, den_between (m.getD q default).low (m.getD q default).high, hf, fun j jr g => fin (betE (m.getD q default).low (m.getD q default).high) _ _ j jr g (meet1S_of h1 h2)⟩,
          fun h2 => ⟨den_between (m.getD q default).low (l.getD i default).high, hf, fun j jr g => fin (betE (m.getD q default).low (l.getD i default).high) _ _ j jr g (meet1S_of h1 h2)⟩⟩,
        fun h1 => ⟨den_high _, hb2, fun h2 => ⟨den_high _, den_between (l.getD i default).low (m.getD q default).high, hf, fun j jr g => fin (betE (l.getD i default).low (m.getD q default).high) _ _ j jr g (meet1S_of h1 h2)⟩,
          fun h2 => ⟨den_between (l.getD i default).low (l.getD i default).high, hf, fun j jr g => fin (betE (l.getD i default).low (l.getD i default).high) _ _ j jr g (meet1S_of h1 h2)⟩⟩⟩
    · simp only [decide_eq_false_iff_not, List.length_map] at h; omega
theorem smeet_S1 (hll : l.length < 1000000) (hlm : m.length < 1000000) (hsl : slOk 11 k nl l.length) (hsm : slOk 11 k' nl' m.length) (hgl : ∀ x ∈ l, x.ok) (hgm : ∀ x ∈ m, x.ok) (i : Nat) (hil : i < l.length) {r : PV} (gx : Nat) (j0 : Nat → AV) (jr0 : Nat → Row) (g0 : Nat) (hm0 : 0 < m.length)
    (next : ∀ gm j jr g, LoopAt E1 Tryz.f62 r 0 (span_meet_S3 l m k k' nl full nl' full' (i + 1 : Nat) gm m.length (List.map I.p (m.map fun y => meet1S (l.getD i default) y)) j jr g)) :
    LoopAt E1 Tryz.f62 r 1 (span_meet_S1 l m k k' nl full nl' full' i 0 gx j0 jr0 g0) := by
  have hx := ok_get hgl hil
  have hy := ok_get hgm hm0
  have hq0 : (0 : Int) ≤ (0 : Int) ∧ nl' = false ∧ k' = 11 := ⟨by omega, sl_at hsm hm0⟩
  have hgq := getI hm0
  have hz : Int.toNat 0 = 0 := rfl
  have hw2 : IntKind.wrap IntKind.i64 ((0 : Int) + 1) = ((1 : Nat) : Int) := rfl
  have fin : ∀ (z : I) gx gm j jr g, meet1S (l.getD i default) (m.getD 0 default) = z → LoopAt E1 Tryz.f62 r 1 (span_meet_S2 l m k k' nl full nl' full' i (1 : Nat) gx gm 1 [I.p z] j jr g) := by
    intro z gx gm j jr g hzz
    refine smeet_S2 l m k k' nl full nl' full' hll hlm hsl hsm hgl hgm i hil (m.length - 1) 1 [z] gx gm j jr g (by omega) (by simp; omega) fun gm j jr g => ?_
    have := next gm j jr g
    have e : m = m.getD 0 default :: m.drop 1 := by rw [← drop_get hm0]; try rfl
    have e2 : (m.map fun y => meet1S (l.getD i default) y) = [z] ++ (m.drop 1).map fun y => meet1S (l.getD i default) y := by
      conv => lhs; rw [e]
      rw [List.map_cons, hzz]; try rfl
    have e3 : [z].length + (m.length - 1) = m.length := by simp; omega
    rw [e2] at this
    rw [e3]
    exact this
  have hb1 := den_before (l.getD i default).low (m.getD 0 default).low hx.lo hy.lo
  have hb2 := den_before (m.getD 0 default).high (l.getD i default).high hy.hi hx.hi
  refine loop_go 2000 _ (Eq.mpr (span_meet_go_S1 l m k k' nl full nl' full' i 0 gx j0 jr0 g0 _) ⟨fun h => ?_, fun h => ?_⟩)
  · simp only [hw2, hz, Int.toNat_natCast, gI_nat, gI_zero, Nat.zero_add, eq_self, true_and, and_true, Nat.le_refl]
    exact ⟨hq0, hgq, den_low _, den_high _, den_low _, hb1,
      fun h1 => ⟨den_low _, den_high _, hb2, fun h2 => ⟨den_high _, den_between (m.getD 0 default).low (m.getD 0 default).high, fun j jr g => fin (betE (m.getD 0 default).low (m.getD 0 default).high) _ _ j jr g (meet1S_of h1 h2)⟩,
        fun h2 => ⟨den_between (m.getD 0 default).low (l.getD i default).high, fun j jr g => fin (betE (m.getD 0 default).low (l.getD i default).high) _ _ j jr g (meet1S_of h1 h2)⟩⟩,
      fun h1 => ⟨den_high _, hb2, fun h2 => ⟨den_high _, den_between (l.getD i default).low (m.getD 0 default).high, fun j jr g => fin (betE (l.getD i default).low (m.getD 0 default).high) _ _ j jr g (meet1S_of h1 h2)⟩,
        fun h2 => ⟨den_between (l.getD i default).low (l.getD i default).high, fun j jr g => fin (betE (l.getD i default).low (l.getD i default).high) _ _ j jr g (meet1S_of h1 h2)⟩⟩⟩
  · simp only [decide_eq_false_iff_not, List.length_map] at h; omega
theorem smeet_S3 (hll : l.length < 1000000) (hlm : m.length < 1000000) (hb : l.length * m.length < 1000000) (hsl : slOk 11 k nl l.length) (hsm : slOk 11 k' nl' m.length) (hgl : ∀ x ∈ l, x.ok) (hgm : ∀ x ∈ m, x.ok) (hm0 : 0 < m.length) : ∀ (n i : Nat) (xs : List I) (gm : Nat) j jr g, i + n = l.length → xs.length = i * m.length →
    (Den E1 54 [listP 11 false false (xs ++ (l.drop i).flatMap fun x => m.map fun y => meet1S x y)] (resL (joinS (xs ++ (l.drop i).flatMap fun x => m.map fun y => meet1S x y)))) →
    LoopAt E1 Tryz.f62 (resL (joinS (xs ++ (l.drop i).flatMap fun x => m.map fun y => meet1S x y))) 0 (span_meet_S3 l m k k' nl full nl' full' i gm xs.length (List.map I.p xs) j jr g) := by
  intro n
  induction n with
  | zero =>
    intro i xs gm j0 jr0 g0 hi hxl hj
    have hxb : xs.length < 1000000 := by
      rw [hxl, show i = l.length by omega]; exact hb
    rw [List.drop_eq_nil_of_le (by omega), List.flatMap_nil, List.append_nil] at hj
    refine loop_go 2000 _ (Eq.mpr (span_meet_go_S3 l m k k' nl full nl' full' i gm xs.length xs j0 jr0 g0 _) ⟨fun h => ?_, fun h => ?_⟩)
    · simp only [decide_eq_true_eq, List.length_map] at h; omega
    · rw [List.drop_eq_nil_of_le (by omega), List.flatMap_nil, List.append_nil]
      exact ⟨frzs_msl rfl (by simp) rfl, hj, rfl⟩
  | succ n ih =>
    intro i xs gm j0 jr0 g0 hi hxl hj
    have hil : i < l.length := by omega
    have hi0 : (0 : Int) ≤ (i : Int) ∧ nl = false ∧ k = 11 := ⟨by omega, sl_at hsl hil⟩
    have hgi := getI hil
    have hmul : (i + 1) * m.length ≤ l.length * m.length := Nat.mul_le_mul_right _ (by omega)
    rw [Nat.add_mul, Nat.one_mul] at hmul
    have hst : (l.drop i).flatMap (fun x => m.map fun y => meet1S x y) = (m.map fun y => meet1S (l.getD i default) y) ++ (l.drop (i + 1)).flatMap fun x => m.map fun y => meet1S x y := by
      rw [drop_get hil, List.flatMap_cons]
    rw [hst, ← List.append_assoc] at hj ⊢
    refine loop_go 2000 _ (Eq.mpr (span_meet_go_S3 l m k k' nl full nl' full' i gm xs.length xs j0 jr0 g0 _) ⟨fun h => ⟨hi0, hgi, rfl, fun j jr g => ?_⟩, fun h => ?_⟩)
    · refine smeet_S2 l m k k' nl full nl' full' hll hlm hsl hsm hgl hgm i hil m.length 0 xs _ gm j jr g (by omega) (by omega) fun gm j jr g => ?_
      have hlen : (xs ++ m.map fun y => meet1S (l.getD i default) y).length = xs.length + m.length := by simp
      have := ih (i + 1) (xs ++ m.map fun y => meet1S (l.getD i default) y) gm j jr g (by omega) (by rw [hlen, hxl, Nat.add_mul, Nat.one_mul]) hj
      rw [hlen] at this
      exact this
    · simp only [decide_eq_false_iff_not, List.length_map] at h; omega
theorem smeet_S0 (hll : l.length < 1000000) (hlm : m.length < 1000000) (hb : l.length * m.length < 1000000) (hsl : slOk 11 k nl l.length) (hsm : slOk 11 k' nl' m.length) (hgl : ∀ x ∈ l, x.ok) (hgm : ∀ x ∈ m, x.ok) : ∀ (n i : Nat) j jr g, i + n = l.length → (m.length = 0 ∨ i = 0) →
    (l ≠ [] → m ≠ [] → Den E1 54 [listP 11 false false ((l.drop i).flatMap fun x => m.map fun y => meet1S x y)] (resL (joinS ((l.drop i).flatMap fun x => m.map fun y => meet1S x y)))) →
    LoopAt E1 Tryz.f62 (resL (joinS ((l.drop i).flatMap fun x => m.map fun y => meet1S x y))) 0 (span_meet_S0 l m k k' nl full nl' full' i j jr g) := by
  have hdj : Den E1 54 [.sl 0 true true []] (.sl 0 true true []) := den_join20 [] 0 true true ⟨fun _ => rfl, fun h => by cases h⟩ (by simp) (by simp [delN]) (fun x hx => by simp at hx)
  intro n
  induction n with
  | zero =>
    intro i j0 jr0 g0 hi h0 hj
    refine loop_go 2000 _ (Eq.mpr (span_meet_go_S0 l m k k' nl full nl' full' i j0 jr0 g0 _) ⟨fun h => ?_, fun h => ?_⟩)
    · simp only [decide_eq_true_eq, List.length_map] at h; omega
    · rw [List.drop_eq_nil_of_le (by omega)]
      exact ⟨hdj, rfl⟩
  | succ n ih =>
    intro i j0 jr0 g0 hi h0 hj
    have hil : i < l.length := by omega
    have hi0 : (0 : Int) ≤ (i : Int) ∧ nl = false ∧ k = 11 := ⟨by omega, sl_at hsl hil⟩
    have hgi := getI hil
    have hw1 : IntKind.wrap IntKind.i64 ((i : Int) + 1) = ((i + 1 : Nat) : Int) := wrap_i64 _ (by omega) (by omega)
    have hst : (l.drop i).flatMap (fun x => m.map fun y => meet1S x y) = (m.map fun y => meet1S (l.getD i default) y) ++ (l.drop (i + 1)).flatMap fun x => m.map fun y => meet1S x y := by
      rw [drop_get hil, List.flatMap_cons]
    rw [hst] at hj ⊢
    refine loop_go 2000 _ (Eq.mpr (span_meet_go_S0 l m k k' nl full nl' full' i j0 jr0 g0 _) ⟨fun h => ⟨hi0, hgi, rfl, fun j jr g => ?_⟩, fun h => ?_⟩)
    · rcases Nat.eq_zero_or_pos m.length with hm | hm
      · have hm' : m = [] := List.length_eq_zero_iff.1 hm
        refine loop_go 2000 _ (Eq.mpr (span_meet_go_S1 l m k k' nl full nl' full' i 0 _ j jr g _) ⟨fun h => ?_, fun h j jr g => ?_⟩)
        · simp only [decide_eq_true_eq, List.length_map, hm] at h; omega
        · rw [hw1, hm']
          rw [hm'] at ih
          exact ih (i + 1) j jr g (by omega) (.inl rfl) fun _ h => absurd rfl h
      · have hi0 : i = 0 := by omega
        subst hi0
        have hj' := hj (by rintro rfl; simp at hil) (by rintro rfl; simp at hm)
        refine smeet_S1 l m k k' nl full nl' full' hll hlm hsl hsm hgl hgm 0 hil _ j jr g hm fun gm j jr g => ?_
        have hlen : (m.map fun y => meet1S (l.getD 0 default) y).length = m.length := by simp
        have := smeet_S3 l m k k' nl full nl' full' hll hlm hb hsl hsm hgl hgm hm n 1 (m.map fun y => meet1S (l.getD 0 default) y) gm j jr g (by omega) (by rw [hlen, Nat.one_mul]) hj'
        rw [hlen] at this
        exact this
    · simp only [decide_eq_false_iff_not, List.length_map] at h; omega
theorem den_span_meet (hll : l.length < 1000000) (hlm : m.length < 1000000) (hb : l.length * m.length < 1000000) (hsl : slOk 11 k nl l.length) (hsm : slOk 11 k' nl' m.length) (hgl : ∀ x ∈ l, x.ok) (hgm : ∀ x ∈ m, x.ok)
    (hj : l ≠ [] → m ≠ [] → Den E1 54 [listP 11 false false (l.flatMap fun x => m.map fun y => meet1S x y)] (resL (joinS (l.flatMap fun x => m.map fun y => meet1S x y)))) :
    Den E1 62 [listP k nl full l, listP k' nl' full' m] (resL (meetS l m)) :=
  den1 2000 _ rfl (by kernel_rfl) rfl rfl rfl (Eq.mpr (span_meet_go l m k k' nl full nl' full' _) fun j jr g => smeet_S0 l m k k' nl full nl' full' hll hlm hb hsl hsm hgl hgm l.length 0 j jr g (by omega) (.inr rfl) hj)
theorem meets_ok (hgl : ∀ x ∈ l, x.ok) (hgm : ∀ x ∈ m, x.ok) : ∀ x ∈ (l.flatMap fun x => m.map fun y => meet1S x y), x.ok := by
  intro z hz
  obtain ⟨x, hx, hz⟩ := List.mem_flatMap.1 hz
  obtain ⟨y, hy, rfl⟩ := List.mem_map.1 hz
  exact meet1S_ok (hgl x hx) (hgm y hy)
theorem meets_len : (l.flatMap fun x => m.map fun y => meet1S x y).length = l.length * m.length := by
  induction l with
  | nil => simp
  | cons x l ih => rw [List.flatMap_cons, List.length_append, ih, List.length_map, List.length_cons, Nat.add_mul, Nat.one_mul, Nat.add_comm]
theorem den_span_meet20 (hb : l.length * m.length < 20) (hll : l.length < 1000000) (hlm : m.length < 1000000) (hsl : slOk 11 k nl l.length) (hsm : slOk 11 k' nl' m.length) (hgl : ∀ x ∈ l, x.ok) (hgm : ∀ x ∈ m, x.ok) :
    Den E1 62 [listP k nl full l, listP k' nl' full' m] (resL (meetS l m)) := by
  refine den_span_meet l m k k' nl full nl' full' hll hlm (by omega) hsl hsm hgl hgm fun h1 h2 => ?_
  have hlen := meets_len l m
  have h1' := List.length_pos_iff.2 h1
  have h2' := List.length_pos_iff.2 h2
  have hpos := Nat.mul_pos h1' h2'
  exact den_join20 _ 11 false false ⟨fun h => by simp at h, fun _ => rfl⟩ (by rw [hlen]; omega) (Nat.lt_of_le_of_lt (delN_le _) (by rw [hlen]; omega)) (meets_ok l m hgl hgm)
end
end Go.Proofs.YtlhfgonjcpapnaaGreatDoor.Abs

namespace Go.Proofs.YtlhfgonjcpapnaaGreatDoor.Abs
open Go Go.Proofs
theorem span_compared_go (s : List UInt8) (r : PV) : FnGo E1 Tryz.f91 [strP s] r 2000 (.res (strP (trimL s)) (.res (.tup [V.p (rdV true (trimL s)), intP (errV (rdOk (trimL s)))]) (.fork (.hole 0) (.fork (.br true (.res (.sl 11 false true [I.p ⟨(rdV true (trimL s)), false, zV, false, true⟩]) (.res (resL (joinS [downI (rdV true (trimL s)) false])) (.res (resL (meetS [⟨rdV true (trimL s), false, zV, false, true⟩] (joinS [downI (rdV true (trimL s)) false]))) (.hole 0))))) (.fork (.res (.sl 11 false true [I.p ⟨(rdV true (trimL s)), false, zV, false, true⟩]) (.res (resL (joinS [downI (rdV true (trimL s)) false])) (.res (resL (meetS [⟨rdV true (trimL s), false, zV, false, true⟩] (joinS [downI (rdV true (trimL s)) false]))) (.hole 0)))) (.fork (.res (resL (joinS [downI (rdV true (trimL s)) true])) (.hole 0)) (.fork (.res (resL (joinS [downI (rdV true (trimL s)) false])) (.hole 0)) (.fork (.res (.sl 11 false true [I.p ⟨(rdV true (trimL s)), true, zV, false, true⟩]) (.hole 0)) (.fork (.res (.sl 11 false true [I.p ⟨(rdV true (trimL s)), false, zV, false, true⟩]) (.hole 0)) (.fork (.fork (.res (.tup [V.p (nextV (rdV true (trimL s)) (0 : Int)), intP (nextE (rdV true (trimL s)) (0 : Int))]) (.fork (.res (.sl 11 false true [I.p ⟨(rdV true (trimL s)), false, zV, false, true⟩]) (.hole 0)) (.res (.tup [verP (V.a (nextV (rdV true (trimL s)) (0 : Int))) (V.b (nextV (rdV true (trimL s)) (0 : Int))) (V.c (nextV (rdV true (trimL s)) (0 : Int))) (.sl 1 false true [strP [48]]), intP 0]) (.res (.sl 11 false true [I.p ⟨(rdV true (trimL s)), false, zV, false, true⟩]) (.res (resL (joinS [downI ⟨V.a (nextV (rdV true (trimL s)) (0 : Int)), V.b (nextV (rdV true (trimL s)) (0 : Int)), V.c (nextV (rdV true (trimL s)) (0 : Int)), 1, false, true, [[48]]⟩ true])) (.res (resL (meetS [⟨rdV true (trimL s), false, zV, false, true⟩] (joinS [downI ⟨V.a (nextV (rdV true (trimL s)) (0 : Int)), V.b (nextV (rdV true (trimL s)) (0 : Int)), V.c (nextV (rdV true (trimL s)) (0 : Int)), 1, false, true, [[48]]⟩ true]))) (.hole 0))))))) (.fork (.res (.tup [V.p (nextV (rdV true (trimL s)) (1 : Int)), intP (nextE (rdV true (trimL s)) (1 : Int))]) (.fork (.res (.sl 11 false true [I.p ⟨(rdV true (trimL s)), false, zV, false, true⟩]) (.hole 0)) (.res (.tup [verP (V.a (nextV (rdV true (trimL s)) (1 : Int))) (V.b (nextV (rdV true (trimL s)) (1 : Int))) (V.c (nextV (rdV true (trimL s)) (1 : Int))) (.sl 1 false true [strP [48]]), intP 0]) (.res (.sl 11 false true [I.p ⟨(rdV true (trimL s)), false, zV, false, true⟩]) (.res (resL (joinS [downI ⟨V.a (nextV (rdV true (trimL s)) (1 : Int)), V.b (nextV (rdV true (trimL s)) (1 : Int)), V.c (nextV (rdV true (trimL s)) (1 : Int)), 1, false, true, [[48]]⟩ true])) (.res (resL (meetS [⟨rdV true (trimL s), false, zV, false, true⟩] (joinS [downI ⟨V.a (nextV (rdV true (trimL s)) (1 : Int)), V.b (nextV (rdV true (trimL s)) (1 : Int)), V.c (nextV (rdV true (trimL s)) (1 : Int)), 1, false, true, [[48]]⟩ true]))) (.hole 0))))))) (.res (.tup [V.p (nextV (rdV true (trimL s)) (2 : Int)), intP (nextE (rdV true (trimL s)) (2 : Int))]) (.fork (.res (.sl 11 false true [I.p ⟨(rdV true (trimL s)), false, zV, false, true⟩]) (.hole 0)) (.res (.tup [verP (V.a (nextV (rdV true (trimL s)) (2 : Int))) (V.b (nextV (rdV true (trimL s)) (2 : Int))) (V.c (nextV (rdV true (trimL s)) (2 : Int))) (.sl 1 false true [strP [48]]), intP 0]) (.res (.sl 11 false true [I.p ⟨(rdV true (trimL s)), false, zV, false, true⟩]) (.res (resL (joinS [downI ⟨V.a (nextV (rdV true (trimL s)) (2 : Int)), V.b (nextV (rdV true (trimL s)) (2 : Int)), V.c (nextV (rdV true (trimL s)) (2 : Int)), 1, false, true, [[48]]⟩ true])) (.res (resL (meetS [⟨rdV true (trimL s), false, zV, false, true⟩] (joinS [downI ⟨V.a (nextV (rdV true (trimL s)) (2 : Int)), V.b (nextV (rdV true (trimL s)) (2 : Int)), V.c (nextV (rdV true (trimL s)) (2 : Int)), 1, false, true, [[48]]⟩ true]))) (.hole 0))))))))) (.fork (.res (.tup [V.p (nextV (rdV true (trimL s)) (1 : Int)), intP (nextE (rdV true (trimL s)) (1 : Int))]) (.fork (.res (.sl 11 false true [I.p ⟨(rdV true (trimL s)), false, zV, false, true⟩]) (.hole 0)) (.res (.tup [verP (V.a (nextV (rdV true (trimL s)) (1 : Int))) (V.b (nextV (rdV true (trimL s)) (1 : Int))) (V.c (nextV (rdV true (trimL s)) (1 : Int))) (.sl 1 false true [strP [48]]), intP 0]) (.res (.sl 11 false true [I.p ⟨(rdV true (trimL s)), false, zV, false, true⟩]) (.res (resL (joinS [downI ⟨V.a (nextV (rdV true (trimL s)) (1 : Int)), V.b (nextV (rdV true (trimL s)) (1 : Int)), V.c (nextV (rdV true (trimL s)) (1 : Int)), 1, false, true, [[48]]⟩ true])) (.res (resL (meetS [⟨rdV true (trimL s), false, zV, false, true⟩] (joinS [downI ⟨V.a (nextV (rdV true (trimL s)) (1 : Int)), V.b (nextV (rdV true (trimL s)) (1 : Int)), V.c (nextV (rdV true (trimL s)) (1 : Int)), 1, false, true, [[48]]⟩ true]))) (.hole 0))))))) (.hole 0)))))))))))) =
  ((Den E1 127 [strP s, strP [60, 62, 61, 126, 94]] (strP (trimL s))) ∧
 (Den E1 34 [strP (trimL s)] (.tup [V.p (rdV true (trimL s)), intP (errV (rdOk (trimL s)))])) ∧
 ((10 : Nat) = 10) ∧
 ((errV (rdOk (trimL s)) != (0 : Int)) = true →
 ((.tup [.sl 0 true true [], bolP false]) : PV) = r) ∧
 ((errV (rdOk (trimL s)) != (0 : Int)) = false →
 (((0 : Int) ≤ IntKind.i64.wrap ((↑(ByteArray.size (bs s)) : Int) - (↑(ByteArray.size (bs (trimL s))) : Int))) ∧ (IntKind.i64.wrap ((↑(ByteArray.size (bs s)) : Int) - (↑(ByteArray.size (bs (trimL s))) : Int)) ≤ (↑(ByteArray.size (bs s)) : Int))) ∧
 ((ByteArray.toList (ByteArray.extract (bs s) (0 : Nat) (Int.toNat (IntKind.i64.wrap ((↑(ByteArray.size (bs s)) : Int) - (↑(ByteArray.size (bs (trimL s))) : Int))))) == ByteArray.toList (bs [])) = true →
 ((ByteArray.toList (ByteArray.extract (bs s) (0 : Nat) (Int.toNat (IntKind.i64.wrap ((↑(ByteArray.size (bs s)) : Int) - (↑(ByteArray.size (bs (trimL s))) : Int))))) == ByteArray.toList (bs [])) = true) ∧
 ((10 : Nat) = 10) ∧
 (Den E1 128 [V.p (rdV true (trimL s)), bolP false] (.sl 11 false true [I.p ⟨(rdV true (trimL s)), false, zV, false, true⟩])) ∧
 ((10 : Nat) = 10) ∧
 (Den E1 129 [V.p (rdV true (trimL s)), bolP false] (resL (joinS [downI (rdV true (trimL s)) false]))) ∧
 (Den E1 62 [.sl 11 false true [I.p ⟨(rdV true (trimL s)), false, zV, false, true⟩], resL (joinS [downI (rdV true (trimL s)) false])] (resL (meetS [⟨rdV true (trimL s), false, zV, false, true⟩] (joinS [downI (rdV true (trimL s)) false])))) ∧
 ((.tup [resL (meetS [⟨rdV true (trimL s), false, zV, false, true⟩] (joinS [downI (rdV true (trimL s)) false])), bolP true]) : PV) = r) ∧
 ((ByteArray.toList (ByteArray.extract (bs s) (0 : Nat) (Int.toNat (IntKind.i64.wrap ((↑(ByteArray.size (bs s)) : Int) - (↑(ByteArray.size (bs (trimL s))) : Int))))) == ByteArray.toList (bs [])) = false →
 ((ByteArray.toList (ByteArray.extract (bs s) (0 : Nat) (Int.toNat (IntKind.i64.wrap ((↑(ByteArray.size (bs s)) : Int) - (↑(ByteArray.size (bs (trimL s))) : Int))))) == ByteArray.toList (bs [61])) = true →
 ((10 : Nat) = 10) ∧
 (Den E1 128 [V.p (rdV true (trimL s)), bolP false] (.sl 11 false true [I.p ⟨(rdV true (trimL s)), false, zV, false, true⟩])) ∧
 ((10 : Nat) = 10) ∧
 (Den E1 129 [V.p (rdV true (trimL s)), bolP false] (resL (joinS [downI (rdV true (trimL s)) false]))) ∧
 (Den E1 62 [.sl 11 false true [I.p ⟨(rdV true (trimL s)), false, zV, false, true⟩], resL (joinS [downI (rdV true (trimL s)) false])] (resL (meetS [⟨rdV true (trimL s), false, zV, false, true⟩] (joinS [downI (rdV true (trimL s)) false])))) ∧
 ((.tup [resL (meetS [⟨rdV true (trimL s), false, zV, false, true⟩] (joinS [downI (rdV true (trimL s)) false])), bolP true]) : PV) = r) ∧
 ((ByteArray.toList (ByteArray.extract (bs s) (0 : Nat) (Int.toNat (IntKind.i64.wrap ((↑(ByteArray.size (bs s)) : Int) - (↑(ByteArray.size (bs (trimL s))) : Int))))) == ByteArray.toList (bs [61])) = false →
 ((ByteArray.toList (ByteArray.extract (bs s) (0 : Nat) (Int.toNat (IntKind.i64.wrap ((↑(ByteArray.size (bs s)) : Int) - (↑(ByteArray.size (bs (trimL s))) : Int))))) == ByteArray.toList (bs [60])) = true →
 ((10 : Nat) = 10) ∧
 (Den E1 129 [V.p (rdV true (trimL s)), bolP true] (resL (joinS [downI (rdV true (trimL s)) true]))) ∧
 ((.tup [resL (joinS [downI (rdV true (trimL s)) true]), bolP true]) : PV) = r) ∧
 ((ByteArray.toList (ByteArray.extract (bs s) (0 : Nat) (Int.toNat (IntKind.i64.wrap ((↑(ByteArray.size (bs s)) : Int) - (↑(ByteArray.size (bs (trimL s))) : Int))))) == ByteArray.toList (bs [60])) = false →
 ((ByteArray.toList (ByteArray.extract (bs s) (0 : Nat) (Int.toNat (IntKind.i64.wrap ((↑(ByteArray.size (bs s)) : Int) - (↑(ByteArray.size (bs (trimL s))) : Int))))) == ByteArray.toList (bs [60, 61])) = true →
 ((10 : Nat) = 10) ∧
 (Den E1 129 [V.p (rdV true (trimL s)), bolP false] (resL (joinS [downI (rdV true (trimL s)) false]))) ∧
 ((.tup [resL (joinS [downI (rdV true (trimL s)) false]), bolP true]) : PV) = r) ∧
 ((ByteArray.toList (ByteArray.extract (bs s) (0 : Nat) (Int.toNat (IntKind.i64.wrap ((↑(ByteArray.size (bs s)) : Int) - (↑(ByteArray.size (bs (trimL s))) : Int))))) == ByteArray.toList (bs [60, 61])) = false →
 ((ByteArray.toList (ByteArray.extract (bs s) (0 : Nat) (Int.toNat (IntKind.i64.wrap ((↑(ByteArray.size (bs s)) : Int) - (↑(ByteArray.size (bs (trimL s))) : Int))))) == ByteArray.toList (bs [62])) = true →
 ((10 : Nat) = 10) ∧
 (Den E1 128 [V.p (rdV true (trimL s)), bolP true] (.sl 11 false true [I.p ⟨(rdV true (trimL s)), true, zV, false, true⟩])) ∧
 ((.tup [.sl 11 false true [I.p ⟨(rdV true (trimL s)), true, zV, false, true⟩], bolP true]) : PV) = r) ∧
 ((ByteArray.toList (ByteArray.extract (bs s) (0 : Nat) (Int.toNat (IntKind.i64.wrap ((↑(ByteArray.size (bs s)) : Int) - (↑(ByteArray.size (bs (trimL s))) : Int))))) == ByteArray.toList (bs [62])) = false →
 ((ByteArray.toList (ByteArray.extract (bs s) (0 : Nat) (Int.toNat (IntKind.i64.wrap ((↑(ByteArray.size (bs s)) : Int) - (↑(ByteArray.size (bs (trimL s))) : Int))))) == ByteArray.toList (bs [62, 61])) = true →
 ((10 : Nat) = 10) ∧
 (Den E1 128 [V.p (rdV true (trimL s)), bolP false] (.sl 11 false true [I.p ⟨(rdV true (trimL s)), false, zV, false, true⟩])) ∧
 ((.tup [.sl 11 false true [I.p ⟨(rdV true (trimL s)), false, zV, false, true⟩], bolP true]) : PV) = r) ∧
 ((ByteArray.toList (ByteArray.extract (bs s) (0 : Nat) (Int.toNat (IntKind.i64.wrap ((↑(ByteArray.size (bs s)) : Int) - (↑(ByteArray.size (bs (trimL s))) : Int))))) == ByteArray.toList (bs [62, 61])) = false →
 ((ByteArray.toList (ByteArray.extract (bs s) (0 : Nat) (Int.toNat (IntKind.i64.wrap ((↑(ByteArray.size (bs s)) : Int) - (↑(ByteArray.size (bs (trimL s))) : Int))))) == ByteArray.toList (bs [94])) = true →
 ((10 : Nat) = 10) ∧
 ((decide (V.a (rdV true (trimL s)) > (0 : Int))) = true →
 ((10 : Nat) = 10) ∧
 (Den E1 130 [V.p (rdV true (trimL s)), intP 0] (.tup [V.p (nextV (rdV true (trimL s)) (0 : Int)), intP (nextE (rdV true (trimL s)) (0 : Int))])) ∧
 ((48 : Nat) = 48) ∧
 ((nextE (rdV true (trimL s)) (0 : Int) != (0 : Int)) = true →
 ((10 : Nat) = 10) ∧
 (Den E1 128 [V.p (rdV true (trimL s)), bolP false] (.sl 11 false true [I.p ⟨(rdV true (trimL s)), false, zV, false, true⟩])) ∧
 ((.tup [.sl 11 false true [I.p ⟨(rdV true (trimL s)), false, zV, false, true⟩], bolP true]) : PV) = r) ∧
 ((nextE (rdV true (trimL s)) (0 : Int) != (0 : Int)) = false →
 ((48 : Nat) = 48) ∧
 (Den E1 131 [V.p (nextV (rdV true (trimL s)) (0 : Int))] (.tup [verP (V.a (nextV (rdV true (trimL s)) (0 : Int))) (V.b (nextV (rdV true (trimL s)) (0 : Int))) (V.c (nextV (rdV true (trimL s)) (0 : Int))) (.sl 1 false true [strP [48]]), intP 0])) ∧
 ((48 : Nat) = 48) ∧
 ((10 : Nat) = 10) ∧
 (Den E1 128 [V.p (rdV true (trimL s)), bolP false] (.sl 11 false true [I.p ⟨(rdV true (trimL s)), false, zV, false, true⟩])) ∧
 ((48 : Nat) = 48) ∧
 (Den E1 129 [verP (V.a (nextV (rdV true (trimL s)) (0 : Int))) (V.b (nextV (rdV true (trimL s)) (0 : Int))) (V.c (nextV (rdV true (trimL s)) (0 : Int))) (.sl 1 false true [strP [48]]), bolP true] (resL (joinS [downI ⟨V.a (nextV (rdV true (trimL s)) (0 : Int)), V.b (nextV (rdV true (trimL s)) (0 : Int)), V.c (nextV (rdV true (trimL s)) (0 : Int)), 1, false, true, [[48]]⟩ true]))) ∧
 (Den E1 62 [.sl 11 false true [I.p ⟨(rdV true (trimL s)), false, zV, false, true⟩], resL (joinS [downI ⟨V.a (nextV (rdV true (trimL s)) (0 : Int)), V.b (nextV (rdV true (trimL s)) (0 : Int)), V.c (nextV (rdV true (trimL s)) (0 : Int)), 1, false, true, [[48]]⟩ true])] (resL (meetS [⟨rdV true (trimL s), false, zV, false, true⟩] (joinS [downI ⟨V.a (nextV (rdV true (trimL s)) (0 : Int)), V.b (nextV (rdV true (trimL s)) (0 : Int)), V.c (nextV (rdV true (trimL s)) (0 : Int)), 1, false, true, [[48]]⟩ true])))) ∧
 ((.tup [resL (meetS [⟨rdV true (trimL s), false, zV, false, true⟩] (joinS [downI ⟨V.a (nextV (rdV true (trimL s)) (0 : Int)), V.b (nextV (rdV true (trimL s)) (0 : Int)), V.c (nextV (rdV true (trimL s)) (0 : Int)), 1, false, true, [[48]]⟩ true])), bolP true]) : PV) = r)) ∧
 ((decide (V.a (rdV true (trimL s)) > (0 : Int))) = false →
 ((10 : Nat) = 10) ∧
 ((decide (V.b (rdV true (trimL s)) > (0 : Int))) = true →
 ((10 : Nat) = 10) ∧
 (Den E1 130 [V.p (rdV true (trimL s)), intP 1] (.tup [V.p (nextV (rdV true (trimL s)) (1 : Int)), intP (nextE (rdV true (trimL s)) (1 : Int))])) ∧
 ((51 : Nat) = 51) ∧
 ((nextE (rdV true (trimL s)) (1 : Int) != (0 : Int)) = true →
 ((10 : Nat) = 10) ∧
 (Den E1 128 [V.p (rdV true (trimL s)), bolP false] (.sl 11 false true [I.p ⟨(rdV true (trimL s)), false, zV, false, true⟩])) ∧
 ((.tup [.sl 11 false true [I.p ⟨(rdV true (trimL s)), false, zV, false, true⟩], bolP true]) : PV) = r) ∧
 ((nextE (rdV true (trimL s)) (1 : Int) != (0 : Int)) = false →
 ((51 : Nat) = 51) ∧
 (Den E1 131 [V.p (nextV (rdV true (trimL s)) (1 : Int))] (.tup [verP (V.a (nextV (rdV true (trimL s)) (1 : Int))) (V.b (nextV (rdV true (trimL s)) (1 : Int))) (V.c (nextV (rdV true (trimL s)) (1 : Int))) (.sl 1 false true [strP [48]]), intP 0])) ∧
 ((51 : Nat) = 51) ∧
 ((10 : Nat) = 10) ∧
 (Den E1 128 [V.p (rdV true (trimL s)), bolP false] (.sl 11 false true [I.p ⟨(rdV true (trimL s)), false, zV, false, true⟩])) ∧
 ((51 : Nat) = 51) ∧
 (Den E1 129 [verP (V.a (nextV (rdV true (trimL s)) (1 : Int))) (V.b (nextV (rdV true (trimL s)) (1 : Int))) (V.c (nextV (rdV true (trimL s)) (1 : Int))) (.sl 1 false true [strP [48]]), bolP true] (resL (joinS [downI ⟨V.a (nextV (rdV true (trimL s)) (1 : Int)), V.b (nextV (rdV true (trimL s)) (1 : Int)), V.c (nextV (rdV true (trimL s)) (1 : Int)), 1, false, true, [[48]]⟩ true]))) ∧
 (Den E1 62 [.sl 11 false true [I.p ⟨(rdV true (trimL s)), false, zV, false, true⟩], resL (joinS [downI ⟨V.a (nextV (rdV true (trimL s)) (1 : Int)), V.b (nextV (rdV true (trimL s)) (1 : Int)), V.c (nextV (rdV true (trimL s)) (1 : Int)), 1, false, true, [[48]]⟩ true])] (resL (meetS [⟨rdV true (trimL s), false, zV, false, true⟩] (joinS [downI ⟨V.a (nextV (rdV true (trimL s)) (1 : Int)), V.b (nextV (rdV true (trimL s)) (1 : Int)), V.c (nextV (rdV true (trimL s)) (1 : Int)), 1, false, true, [[48]]⟩ true])))) ∧
 ((.tup [resL (meetS [⟨rdV true (trimL s), false, zV, false, true⟩] (joinS [downI ⟨V.a (nextV (rdV true (trimL s)) (1 : Int)), V.b (nextV (rdV true (trimL s)) (1 : Int)), V.c (nextV (rdV true (trimL s)) (1 : Int)), 1, false, true, [[48]]⟩ true])), bolP true]) : PV) = r)) ∧
 ((decide (V.b (rdV true (trimL s)) > (0 : Int))) = false →
 ((10 : Nat) = 10) ∧
 (Den E1 130 [V.p (rdV true (trimL s)), intP 2] (.tup [V.p (nextV (rdV true (trimL s)) (2 : Int)), intP (nextE (rdV true (trimL s)) (2 : Int))])) ∧
 ((50 : Nat) = 50) ∧
 ((nextE (rdV true (trimL s)) (2 : Int) != (0 : Int)) = true →
 ((10 : Nat) = 10) ∧
 (Den E1 128 [V.p (rdV true (trimL s)), bolP false] (.sl 11 false true [I.p ⟨(rdV true (trimL s)), false, zV, false, true⟩])) ∧
 ((.tup [.sl 11 false true [I.p ⟨(rdV true (trimL s)), false, zV, false, true⟩], bolP true]) : PV) = r) ∧
 ((nextE (rdV true (trimL s)) (2 : Int) != (0 : Int)) = false →
 ((50 : Nat) = 50) ∧
 (Den E1 131 [V.p (nextV (rdV true (trimL s)) (2 : Int))] (.tup [verP (V.a (nextV (rdV true (trimL s)) (2 : Int))) (V.b (nextV (rdV true (trimL s)) (2 : Int))) (V.c (nextV (rdV true (trimL s)) (2 : Int))) (.sl 1 false true [strP [48]]), intP 0])) ∧
 ((50 : Nat) = 50) ∧
 ((10 : Nat) = 10) ∧
 (Den E1 128 [V.p (rdV true (trimL s)), bolP false] (.sl 11 false true [I.p ⟨(rdV true (trimL s)), false, zV, false, true⟩])) ∧
 ((50 : Nat) = 50) ∧
 (Den E1 129 [verP (V.a (nextV (rdV true (trimL s)) (2 : Int))) (V.b (nextV (rdV true (trimL s)) (2 : Int))) (V.c (nextV (rdV true (trimL s)) (2 : Int))) (.sl 1 false true [strP [48]]), bolP true] (resL (joinS [downI ⟨V.a (nextV (rdV true (trimL s)) (2 : Int)), V.b (nextV (rdV true (trimL s)) (2 : Int)), V.c (nextV (rdV true (trimL s)) (2 : Int)), 1, false, true, [[48]]⟩ true]))) ∧
 (Den E1 62 [.sl 11 false true [I.p ⟨(rdV true (trimL s)), false, zV, false, true⟩], resL (joinS [downI ⟨V.a (nextV (rdV true (trimL s)) (2 : Int)), V.b (nextV (rdV true (trimL s)) (2 : Int)), V.c (nextV (rdV true (trimL s)) (2 : Int)), 1, false, true, [[48]]⟩ true])] (resL (meetS [⟨rdV true (trimL s), false, zV, false, true⟩] (joinS [downI ⟨V.a (nextV (rdV true (trimL s)) (2 : Int)), V.b (nextV (rdV true (trimL s)) (2 : Int)), V.c (nextV (rdV true (trimL s)) (2 : Int)), 1, false, true, [[48]]⟩ true])))) ∧
 ((.tup [resL (meetS [⟨rdV true (trimL s), false, zV, false, true⟩] (joinS [downI ⟨V.a (nextV (rdV true (trimL s)) (2 : Int)), V.b (nextV (rdV true (trimL s)) (2 : Int)), V.c (nextV (rdV true (trimL s)) (2 : Int)), 1, false, true, [[48]]⟩ true])), bolP true]) : PV) = r)))) ∧
 ((ByteArray.toList (ByteArray.extract (bs s) (0 : Nat) (Int.toNat (IntKind.i64.wrap ((↑(ByteArray.size (bs s)) : Int) - (↑(ByteArray.size (bs (trimL s))) : Int))))) == ByteArray.toList (bs [94])) = false →
 ((ByteArray.toList (ByteArray.extract (bs s) (0 : Nat) (Int.toNat (IntKind.i64.wrap ((↑(ByteArray.size (bs s)) : Int) - (↑(ByteArray.size (bs (trimL s))) : Int))))) == ByteArray.toList (bs [126])) = true →
 ((10 : Nat) = 10) ∧
 (Den E1 130 [V.p (rdV true (trimL s)), intP 1] (.tup [V.p (nextV (rdV true (trimL s)) (1 : Int)), intP (nextE (rdV true (trimL s)) (1 : Int))])) ∧
 ((45 : Nat) = 45) ∧
 ((nextE (rdV true (trimL s)) (1 : Int) != (0 : Int)) = true →
 ((10 : Nat) = 10) ∧
 (Den E1 128 [V.p (rdV true (trimL s)), bolP false] (.sl 11 false true [I.p ⟨(rdV true (trimL s)), false, zV, false, true⟩])) ∧
 ((.tup [.sl 11 false true [I.p ⟨(rdV true (trimL s)), false, zV, false, true⟩], bolP true]) : PV) = r) ∧
 ((nextE (rdV true (trimL s)) (1 : Int) != (0 : Int)) = false →
 ((45 : Nat) = 45) ∧
 (Den E1 131 [V.p (nextV (rdV true (trimL s)) (1 : Int))] (.tup [verP (V.a (nextV (rdV true (trimL s)) (1 : Int))) (V.b (nextV (rdV true (trimL s)) (1 : Int))) (V.c (nextV (rdV true (trimL s)) (1 : Int))) (.sl 1 false true [strP [48]]), intP 0])) ∧
 ((45 : Nat) = 45) ∧
 ((10 : Nat) = 10) ∧
 (Den E1 128 [V.p (rdV true (trimL s)), bolP false] (.sl 11 false true [I.p ⟨(rdV true (trimL s)), false, zV, false, true⟩])) ∧
 ((45 : Nat) = 45) ∧
 (Den E1 129 [verP (V.a (nextV (rdV true (trimL s)) (1 : Int))) (V.b (nextV (rdV true (trimL s)) (1 : Int))) (V.c (nextV (rdV true (trimL s)) (1 : Int))) (.sl 1 false true [strP [48]]), bolP true] (resL (joinS [downI ⟨V.a (nextV (rdV true (trimL s)) (1 : Int)), V.b (nextV (rdV true (trimL s)) (1 : Int)), V.c (nextV (rdV true (trimL s)) (1 : Int)), 1, false, true, [[48]]⟩ true]))) ∧
 (Den E1 62 [.sl 11 false true [I.p ⟨(rdV true (trimL s)), false, zV, false, true⟩], resL (joinS [downI ⟨V.a (nextV (rdV true (trimL s)) (1 : Int)), V.b (nextV (rdV true (trimL s)) (1 : Int)), V.c (nextV (rdV true (trimL s)) (1 : Int)), 1, false, true, [[48]]⟩ true])] (resL (meetS [⟨rdV true (trimL s), false, zV, false, true⟩] (joinS [downI ⟨V.a (nextV (rdV true (trimL s)) (1 : Int)), V.b (nextV (rdV true (trimL s)) (1 : Int)), V.c (nextV (rdV true (trimL s)) (1 : Int)), 1, false, true, [[48]]⟩ true])))) ∧
 ((.tup [resL (meetS [⟨rdV true (trimL s), false, zV, false, true⟩] (joinS [downI ⟨V.a (nextV (rdV true (trimL s)) (1 : Int)), V.b (nextV (rdV true (trimL s)) (1 : Int)), V.c (nextV (rdV true (trimL s)) (1 : Int)), 1, false, true, [[48]]⟩ true])), bolP true]) : PV) = r)) ∧
 ((ByteArray.toList (ByteArray.extract (bs s) (0 : Nat) (Int.toNat (IntKind.i64.wrap ((↑(ByteArray.size (bs s)) : Int) - (↑(ByteArray.size (bs (trimL s))) : Int))))) == ByteArray.toList (bs [126])) = false →
 ((.tup [.sl 0 true true [], bolP false]) : PV) = r)))))))))) := by kernel_rfl
theorem ref08_upto_go (v : V) (n : Int) (r : PV) : FnGo E1 Tryz.f133 [V.p v, intP n] r 2000 (.res (.tup [V.p (nextV v n), intP (nextE v n)]) (.fork (.res (.sl 11 false true [I.p ⟨v, false, zV, false, true⟩]) (.hole 0)) (.res (.sl 11 false true [I.p ⟨v, false, zV, false, true⟩]) (.res (verP (V.a (nextV v n)) (V.b (nextV v n)) (V.c (nextV v n)) (.sl 1 false true [strP [48]])) (.res (resL (joinR [downI ⟨V.a (nextV v n), V.b (nextV v n), V.c (nextV v n), 1, false, true, [[48]]⟩ true])) (.res (resL (meetR [⟨v, false, zV, false, true⟩] (joinR [downI ⟨V.a (nextV v n), V.b (nextV v n), V.c (nextV v n), 1, false, true, [[48]]⟩ true]))) (.hole 0))))))) =
  (((0 : Nat) = 0) ∧
 (Den E1 156 [V.p v, intP n] (.tup [V.p (nextV v n), intP (nextE v n)])) ∧
 ((8 : Nat) = 8) ∧
 ((nextE v n != (0 : Int)) = true →
 ((0 : Nat) = 0) ∧
 (Den E1 67 [V.p v, bolP false] (.sl 11 false true [I.p ⟨v, false, zV, false, true⟩])) ∧
 ((.sl 11 false true [I.p ⟨v, false, zV, false, true⟩]) : PV) = r) ∧
 ((nextE v n != (0 : Int)) = false →
 ((0 : Nat) = 0) ∧
 (Den E1 67 [V.p v, bolP false] (.sl 11 false true [I.p ⟨v, false, zV, false, true⟩])) ∧
 ((8 : Nat) = 8) ∧
 (Den E1 157 [V.p (nextV v n)] (verP (V.a (nextV v n)) (V.b (nextV v n)) (V.c (nextV v n)) (.sl 1 false true [strP [48]]))) ∧
 (Den E1 66 [verP (V.a (nextV v n)) (V.b (nextV v n)) (V.c (nextV v n)) (.sl 1 false true [strP [48]]), bolP true] (resL (joinR [downI ⟨V.a (nextV v n), V.b (nextV v n), V.c (nextV v n), 1, false, true, [[48]]⟩ true]))) ∧
 (Den E1 61 [.sl 11 false true [I.p ⟨v, false, zV, false, true⟩], resL (joinR [downI ⟨V.a (nextV v n), V.b (nextV v n), V.c (nextV v n), 1, false, true, [[48]]⟩ true])] (resL (meetR [⟨v, false, zV, false, true⟩] (joinR [downI ⟨V.a (nextV v n), V.b (nextV v n), V.c (nextV v n), 1, false, true, [[48]]⟩ true])))) ∧
 ((resL (meetR [⟨v, false, zV, false, true⟩] (joinR [downI ⟨V.a (nextV v n), V.b (nextV v n), V.c (nextV v n), 1, false, true, [[48]]⟩ true]))) : PV) = r)) := by kernel_rfl
end Go.Proofs.YtlhfgonjcpapnaaGreatDoor.Abs

set_option maxRecDepth 20000
set_option maxHeartbeats 1000000
namespace Go.Proofs.YtlhfgonjcpapnaaGreatDoor.Abs
open Go Go.Proofs
theorem stepS_len (out : List I) (x : I) : (stepS out x).length ≤ out.length + 1 := by
  unfold stepS
  split
  · simp
  · split
    · split
      · rw [List.length_set]; omega
      · omega
    · simp
theorem foldS_len : ∀ (l out : List I), (l.foldl stepS out).length ≤ out.length + l.length
  | [], out => by simp
  | x :: l, out => by
    have h1 := foldS_len l (stepS out x)
    have h2 := stepS_len out x
    simp only [List.foldl_cons, List.length_cons]
    omega
theorem joinS_len (l : List I) : (joinS l).length ≤ l.length := by
  have h := foldS_len (sortS (l.filter fun x => !deadI x)) []
  rw [sortS_len] at h
  have h2 := List.length_filter_le (fun x => !deadI x) l
  simp only [List.length_nil, Nat.zero_add] at h
  unfold joinS
  omega
theorem mem_insS {s : List I} {x y : I} (h : y ∈ insS s x) : y ∈ s ∨ y = x := by
  unfold insS at h
  rcases List.mem_append.1 h with h | h
  · exact .inl (List.mem_of_mem_take h)
  · rcases List.mem_cons.1 h with h | h
    · exact .inr h
    · exact .inl (List.mem_of_mem_drop h)
theorem mem_sortS {l : List I} {y : I} : y ∈ sortS l → y ∈ l := by
  have : ∀ (l s : List I), y ∈ l.foldl insS s → y ∈ s ∨ y ∈ l := by
    intro l
    induction l with
    | nil => intro s h; exact .inl h
    | cons x l ih =>
      intro s h
      rcases ih _ h with h | h
      · rcases mem_insS h with h | h
        · exact .inl h
        · exact .inr (List.mem_cons.2 (.inl h))
      · exact .inr (List.mem_cons.2 (.inr h))
  intro h
  rcases this l [] h with h | h
  · simp at h
  · exact h
theorem stepS_all {P : I → Prop} (hb : ∀ x y, P x → P y → P (betE x.low y.high)) {out : List I} {x : I} (ho : ∀ y ∈ out, P y) (hx : P x) : ∀ y ∈ stepS out x, P y := by
  unfold stepS
  split
  · intro y hy; rw [List.mem_singleton.1 hy]; exact hx
  · rename_i hne
    have hlt : out.length - 1 < out.length := by
      have : out ≠ [] := by rintro rfl; simp at hne
      have := List.length_pos_iff.2 this
      omega
    split
    · split
      · intro y hy
        rcases List.mem_or_eq_of_mem_set hy with hy | rfl
        · exact ho y hy
        · exact hb _ _ (ho _ (getD_mem hlt default)) hx
      · exact ho
    · intro y hy
      rcases List.mem_append.1 hy with hy | hy
      · exact ho y hy
      · rw [List.mem_singleton.1 hy]; exact hx
theorem joinS_all {P : I → Prop} (hb : ∀ x y, P x → P y → P (betE x.low y.high)) {l : List I} (hl : ∀ x ∈ l, P x) : ∀ y ∈ joinS l, P y := by
  have : ∀ (l out : List I), (∀ x ∈ l, P x) → (∀ y ∈ out, P y) → ∀ y ∈ l.foldl stepS out, P y := by
    intro l
    induction l with
    | nil => intro out _ h; exact h
    | cons x l ih => intro out h1 h2; exact ih _ (fun y hy => h1 y (List.mem_cons_of_mem _ hy)) (stepS_all hb h2 (h1 x (List.mem_cons_self ..)))
  unfold joinS
  exact this _ [] (fun x hx => hl x (List.mem_filter.1 (mem_sortS hx)).1) (by simp)
theorem joinS_ok {l : List I} (hl : ∀ x ∈ l, x.ok) : ∀ y ∈ joinS l, y.ok := joinS_all (P := I.ok) (fun x y hx hy => bet_ok hx.lo hy.hi) hl
theorem meetS_ok {l m : List I} (hl : ∀ x ∈ l, x.ok) (hm : ∀ x ∈ m, x.ok) : ∀ y ∈ meetS l m, y.ok := joinS_ok (meets_ok l m hl hm)
theorem meetS_len (l m : List I) : (meetS l m).length ≤ l.length * m.length := by
  have := joinS_len (l.flatMap fun x => m.map fun y => meet1S x y)
  rw [meets_len] at this
  exact this
theorem one_ok {x : I} (h : x.ok) : ∀ y ∈ [x], y.ok := fun y hy => by rw [List.mem_singleton.1 hy]; exact h
theorem down_ok {v : V} (hv : v.ok) (o : Bool) : (downI v o).ok := ⟨bottom_ok, hv⟩
theorem from_ok {v : V} (hv : v.ok) (o : Bool) : (fromI v o).ok := ⟨hv, zV_ok⟩
theorem tw_sl (l : List I) : slOk 11 (twK l) (twN l) l.length := by
  unfold twK twN
  refine ⟨fun h => by simpa using h, fun h => ?_⟩
  have : ¬ l.length = 0 := by simpa using h
  rw [if_neg this]
theorem den_meet_fd (v w : V) (o p : Bool) (hv : v.ok) (hw : w.ok) : Den E1 62 [.sl 11 false true [itvP v.a v.b v.c (preP v.k v.nl v.full v.pre) o 0 0 0 (.sl 0 true true []) false true], resL (joinS [downI w p])] (resL (meetS [⟨v, o, zV, false, true⟩] (joinS [downI w p]))) := by
  have hl := joinS_len [downI w p]
  simp only [List.length_singleton] at hl
  exact den_span_meet20 [fromI v o] (joinS [downI w p]) 11 _ false true _ _ (by simp only [List.length_singleton, Nat.one_mul]; omega) (by simp) (by omega) ⟨(by simp), fun _ => rfl⟩ (tw_sl _) (one_ok (from_ok hv o)) (joinS_ok (one_ok (down_ok hw p)))
theorem res_fd {c : LF × Bool} {v w : V} {o p : Bool} (h : c = (lfR (meetS [fromI v o] (joinS [downI w p])), true)) : (.tup [resL (meetS [⟨v, o, zV, false, true⟩] (joinS [downI w p])), bolP true] : PV) = .tup [c.1.p, bolP c.2] := by rw [h]; try rfl
theorem res_d {c : LF × Bool} {w : V} {p : Bool} (h : c = (lfR (joinS [downI w p]), true)) : (.tup [resL (joinS [downI w p]), bolP true] : PV) = .tup [c.1.p, bolP c.2] := by rw [h]; try rfl
theorem res_f {c : LF × Bool} {v : V} {o : Bool} (h : c = (lf1 (fromI v o), true)) : (.tup [.sl 11 false true [itvP v.a v.b v.c (preP v.k v.nl v.full v.pre) o 0 0 0 (.sl 0 true true []) false true], bolP true] : PV) = .tup [c.1.p, bolP c.2] := by rw [h]; try rfl
theorem res_no {c : LF × Bool} (h : c = (lf0, false)) : (.tup [.sl 0 true true [], bolP false] : PV) = .tup [c.1.p, bolP c.2] := by rw [h]; try rfl
theorem wrap_u32_of {n : Int} (h0 : 0 ≤ n) (h : n < 4294967296) : IntKind.wrap IntKind.u32 n = n := by
  simp only [IntKind.wrap, IntKind.bits, IntKind.signed, Bool.false_and, Bool.false_eq_true, if_false]
  omega
theorem next_num {x : Int} (hx : u32 x) (h1 : x ≤ 2147483647) (h2 : ¬ x = 2147483647) : IntKind.wrap IntKind.u32 (x + 1) = x + 1 := wrap_u32_of (by have := hx.1; omega) (by omega)
theorem mayV_iff (v : V) : mayV v = true ↔ v.a ≤ 2147483647 ∧ v.b ≤ 2147483647 ∧ v.c ≤ 2147483647 ∧ v.pre.length ≤ 8 ∧ v.pre.all identL = true := by
  simp only [mayV, Bool.and_eq_true, decide_eq_true_eq, and_assoc]
theorem next_is (v : V) (hv : v.ok) (n : Int) (h0 : 0 ≤ n) (h2 : n ≤ 2) : (nextV v n).ok ∧ mayV (nextV v n) = true := by
  cases hn : nextOk v n with
  | false =>
    have : nextV v n = zV := by simp [nextV, hn]
    rw [this]; exact ⟨zV_ok, zV_may⟩
  | true =>
    have hn' := hn
    simp only [nextOk, Bool.and_eq_true, Bool.not_eq_true', Bool.and_eq_false_iff, beq_eq_false_iff_ne, ne_eq] at hn'
    obtain ⟨⟨⟨hm, ha⟩, hb⟩, hc⟩ := hn'
    obtain ⟨ma, mb, mc, _, _⟩ := (mayV_iff v).1 hm
    have hz : u32 0 := ⟨by omega, by omega⟩
    have hs : slOk 1 0 true 0 := ⟨fun _ => rfl, fun h => by cases h⟩
    rcases (show n = 0 ∨ n = 1 ∨ n = 2 by omega) with rfl | rfl | rfl
    · have h := next_num hv.a ma (by simpa using ha)
      have ha' : ¬ v.a = 2147483647 := by simpa using ha
      have e : nextV v 0 = ⟨v.a + 1, 0, 0, 0, true, true, []⟩ := by simp [nextV, hn, h]
      rw [e]
      exact ⟨⟨⟨by have := hv.a.1; show 0 ≤ v.a + 1; omega, by show v.a + 1 < _; omega⟩, hz, hz, hs, by unfold small; simp, fun s hs => by simp at hs⟩, (mayV_iff _).2 ⟨by show v.a + 1 ≤ _; omega, by simp, by simp, by simp, by simp⟩⟩
    · have hb' : ¬ v.b = 2147483647 := by simpa using hb
      have h := next_num hv.b mb hb'
      have e : nextV v 1 = ⟨v.a, v.b + 1, 0, 0, true, true, []⟩ := by simp [nextV, hn, h]
      rw [e]
      exact ⟨⟨hv.a, ⟨by have := hv.b.1; show 0 ≤ v.b + 1; omega, by show v.b + 1 < _; omega⟩, hz, hs, by unfold small; simp, fun s hs => by simp at hs⟩, (mayV_iff _).2 ⟨ma, by show v.b + 1 ≤ _; omega, by simp, by simp, by simp⟩⟩
    · have hc' : ¬ v.c = 2147483647 := by simpa using hc
      have h := next_num hv.c mc hc'
      have e : nextV v 2 = ⟨v.a, v.b, v.c + 1, 0, true, true, []⟩ := by simp [nextV, hn, h]
      rw [e]
      exact ⟨⟨hv.a, hv.b, ⟨by have := hv.c.1; show 0 ≤ v.c + 1; omega, by show v.c + 1 < _; omega⟩, hs, by unfold small; simp, fun s hs => by simp at hs⟩, (mayV_iff _).2 ⟨ma, mb, by show v.c + 1 ≤ _; omega, by simp, by simp⟩⟩
theorem least_is {v : V} (hv : v.ok) (hm : mayV v = true) : (leastV v).ok ∧ mayV (leastV v) = true := by
  obtain ⟨ma, mb, mc, _, _⟩ := (mayV_iff v).1 hm
  refine ⟨⟨hv.a, hv.b, hv.c, ⟨fun h => by simp [leastV] at h, fun _ => rfl⟩, by simp [leastV, small], fun s hs => by simp [leastV] at hs; simp [hs, small]⟩, (mayV_iff _).2 ⟨ma, mb, mc, by simp [leastV], ?_⟩⟩
  show [[(48 : UInt8)]].all identL = true
  decide
theorem nextE_ne {v : V} {n : Int} : (nextE v n != 0) = !nextOk v n := by
  unfold nextE
  cases h : nextOk v n with
  | true =>
    have : mayV v = true := by simp only [nextOk, Bool.and_eq_true] at h; exact h.1.1.1
    simp [this]
  | false => cases mayV v <;> simp
theorem trim_le : ∀ s : List UInt8, (trimL s).length ≤ s.length
  | [] => by simp [trimL]
  | c :: s => by
    have := trim_le s
    unfold trimL at this ⊢
    rw [List.dropWhile_cons]
    split
    · simp only [List.length_cons]; omega
    · simp
theorem sign_sl (s : List UInt8) (hs : small s.length) : ByteArray.extract (bs s) 0 (Int.toNat (IntKind.wrap IntKind.i64 ((↑(ByteArray.size (bs s)) : Int) - (↑(ByteArray.size (bs (trimL s))) : Int)))) = bs (signL s) := by
  have := trim_le s
  unfold small at hs
  rw [extract_bs, size_bs, size_bs, wrap_i64 _ (by omega) (by omega)]
  unfold signL
  rw [List.drop_zero, Nat.sub_zero]
  congr 3
  omega
theorem upto_yes {v : V} {n : Int} (h : nextOk v n = true) : uptoS v n = lfR (meetS [fromI v false] (joinS [downI (leastV (nextV v n)) true])) := by simp [uptoS, h]
theorem upto_no {v : V} {n : Int} (h : nextOk v n = false) : uptoS v n = lf1 (fromI v false) := by simp [uptoS, h]
theorem den_span_compared (s : List UInt8) (hs : small s.length) : Den E1 91 [strP s] (.tup [(cmprS s).1.p, bolP (cmprS s).2]) := by
  have hle := trim_le s
  have ht : small (trimL s).length := by unfold small at hs ⊢; omega
  have hv : (rdV true (trimL s)).ok := rd_ok true
  have hm : mayV (rdV true (trimL s)) = true := rd_may true
  have h0 := span_compared_go s (.tup [(cmprS s).1.p, bolP (cmprS s).2])
  simp only [sign_sl s hs, toList_bs, errV_ne, nextE_ne] at h0
  refine den1 2000 _ rfl (by kernel_rfl) rfl rfl rfl (Eq.mpr h0 ?_)
  generalize hV : rdV true (trimL s) = v at hv hm ⊢
  have b1 := fun o => den_span_below v o hv
  have hup : ∀ n : Int, 0 ≤ n → n ≤ 2 → nextOk v n = true → (leastV (nextV v n)).ok := fun n h0 h2 hk => (least_is (next_is v hv n h0 h2).1 (next_is v hv n h0 h2).2).1
  have sg : ∀ {a : List UInt8}, (signL s == a) = true → signL s = a := fun h => eq_of_beq h
  have ns : ∀ {a : List UInt8}, (signL s == a) = false → ¬ signL s = a := fun h e => by rw [e] at h; simp at h
  refine ⟨den_TrimLeft s, ?_, trivial, fun h => ?_, fun h => ⟨?_, fun h1 => ?_, fun h1 => ⟨fun h2 => ?_, fun h2 => ⟨fun h3 => ?_, fun h3 => ⟨fun h4 => ?_, fun h4 => ⟨fun h5 => ?_, fun h5 => ⟨fun h6 => ?_, fun h6 => ⟨fun h7 => ?_, fun h7 => ⟨fun h8 => ?_, fun h8 => ?_⟩⟩⟩⟩⟩⟩⟩⟩⟩
  · have := den_version_Read (trimL s) ht
    rw [hV] at this
    exact this
  · exact res_no (by have h' : rdOk (trimL s) = false := not_eq.1 h; simp [cmprS, h'])
  · unfold small at hs
    simp only [size_bs]
    rw [wrap_i64 _ (by omega) (by omega)]
    omega
  · have h' : rdOk (trimL s) = true := not_eq.2 h
    exact ⟨h1, trivial, den_from v false, trivial, b1 false, den_meet_fd v v false false hv hv, res_fd (v := v) (w := v) (by simp [cmprS, h', hV, sg h1])⟩
  · have h' : rdOk (trimL s) = true := not_eq.2 h
    exact ⟨trivial, den_from v false, trivial, b1 false, den_meet_fd v v false false hv hv, res_fd (v := v) (w := v) (by simp [cmprS, h', hV, sg h2])⟩
  · have h' : rdOk (trimL s) = true := not_eq.2 h
    exact ⟨trivial, b1 true, res_d (by simp [cmprS, h', hV, sg h3])⟩
  · have h' : rdOk (trimL s) = true := not_eq.2 h
    exact ⟨trivial, b1 false, res_d (by simp [cmprS, h', hV, sg h4])⟩
  · have h' : rdOk (trimL s) = true := not_eq.2 h
    exact ⟨trivial, den_from v true, res_f (by simp [cmprS, h', hV, sg h5])⟩
  · have h' : rdOk (trimL s) = true := not_eq.2 h
    exact ⟨trivial, den_from v false, res_f (by simp [cmprS, h', hV, sg h6])⟩
  · have h' : rdOk (trimL s) = true := not_eq.2 h
    have hc : cmprS s = (uptoS v (kindV v), true) := by simp [cmprS, h', hV, sg h7]
    have no : ∀ n : Int, kindV v = n → nextOk v n = false → cmprS s = (lf1 (fromI v false), true) := fun n hk hn => by rw [hc, hk, upto_no hn]
    have yes : ∀ n : Int, kindV v = n → nextOk v n = true → cmprS s = (lfR (meetS [fromI v false] (joinS [downI (leastV (nextV v n)) true])), true) := fun n hk hn => by rw [hc, hk, upto_yes hn]
    refine ⟨trivial, fun h8 => ⟨trivial, den_Next v hv 0 (by omega) (by omega), trivial, fun h9 => ⟨trivial, den_from v false, res_f (no 0 ?_ (not_eq.1 h9))⟩, fun h9 => ⟨trivial, den_Least _ (next_is v hv 0 (by omega) (by omega)).1 (next_is v hv 0 (by omega) (by omega)).2, trivial, trivial, den_from v false, trivial, den_span_below _ true (hup 0 (by omega) (by omega) (not_eq.2 h9)), den_meet_fd v (leastV (nextV v 0)) false true hv (hup 0 (by omega) (by omega) (not_eq.2 h9)), res_fd (yes 0 ?_ (not_eq.2 h9))⟩⟩,
      fun h8 => ⟨trivial, fun h10 => ⟨trivial, den_Next v hv 1 (by omega) (by omega), trivial, fun h9 => ⟨trivial, den_from v false, res_f (no 1 ?_ (not_eq.1 h9))⟩, fun h9 => ⟨trivial, den_Least _ (next_is v hv 1 (by omega) (by omega)).1 (next_is v hv 1 (by omega) (by omega)).2, trivial, trivial, den_from v false, trivial, den_span_below _ true (hup 1 (by omega) (by omega) (not_eq.2 h9)), den_meet_fd v (leastV (nextV v 1)) false true hv (hup 1 (by omega) (by omega) (not_eq.2 h9)), res_fd (yes 1 ?_ (not_eq.2 h9))⟩⟩,
        fun h10 => ⟨trivial, den_Next v hv 2 (by omega) (by omega), trivial, fun h9 => ⟨trivial, den_from v false, res_f (no 2 ?_ (not_eq.1 h9))⟩, fun h9 => ⟨trivial, den_Least _ (next_is v hv 2 (by omega) (by omega)).1 (next_is v hv 2 (by omega) (by omega)).2, trivial, trivial, den_from v false, trivial, den_span_below _ true (hup 2 (by omega) (by omega) (not_eq.2 h9)), den_meet_fd v (leastV (nextV v 2)) false true hv (hup 2 (by omega) (by omega) (not_eq.2 h9)), res_fd (yes 2 ?_ (not_eq.2 h9))⟩⟩⟩⟩
    all_goals simp only [decide_eq_true_eq, decide_eq_false_iff_not] at h8
    all_goals try simp only [decide_eq_true_eq, decide_eq_false_iff_not] at h10
    all_goals unfold kindV
    · rw [if_pos h8]
    · rw [if_pos h8]
    · rw [if_neg h8, if_pos h10]
    · rw [if_neg h8, if_pos h10]
    · rw [if_neg h8, if_neg h10]
    · rw [if_neg h8, if_neg h10]
  · have h' : rdOk (trimL s) = true := not_eq.2 h
    have hc : cmprS s = (uptoS v 1, true) := by simp [cmprS, h', hV, sg h8]
    exact ⟨trivial, den_Next v hv 1 (by omega) (by omega), trivial, fun h9 => ⟨trivial, den_from v false, res_f (v := v) (o := false) (hc.trans (by rw [upto_no (not_eq.1 h9)]))⟩, fun h9 => ⟨trivial, den_Least _ (next_is v hv 1 (by omega) (by omega)).1 (next_is v hv 1 (by omega) (by omega)).2, trivial, trivial, den_from v false, trivial, den_span_below _ true (hup 1 (by omega) (by omega) (not_eq.2 h9)), den_meet_fd v (leastV (nextV v 1)) false true hv (hup 1 (by omega) (by omega) (not_eq.2 h9)), res_fd (v := v) (w := leastV (nextV v 1)) (o := false) (p := true) (hc.trans (by rw [upto_yes (not_eq.2 h9)]))⟩⟩
  · have h' : rdOk (trimL s) = true := not_eq.2 h
    exact res_no (by simp [cmprS, h', ns h1, ns h2, ns h3, ns h4, ns h5, ns h6, ns h7, ns h8])
end Go.Proofs.YtlhfgonjcpapnaaGreatDoor.Abs

namespace Go.Proofs.YtlhfgonjcpapnaaGreatDoor.Abs
open Go Go.Proofs
def span_alternative_R0 (s : List UInt8) : St :=
  { t := [strA (bs s), undefA, .mptr 0 2 0 0 0, .mptr 0 3 1 0 0, .mptr 0 4 6 0 0, .mptr 0 5 13 0 0, undefA, undefA, undefA, .pv (edgP 0 0 0 (.sl 1 false true [strP [48]]) false false), .pv (edgP 0 0 0 (.sl 0 true true []) false true), .pv (itvP 0 0 0 (.sl 1 false true [strP [48]]) false 0 0 0 (.sl 0 true true []) false true), .msl 0 12 5 0 1 true, strA (bs s), bolA (ByteArray.toList (bs s) == ByteArray.toList (bs [42])), bolA (ByteArray.toList (bs s) == ByteArray.toList (bs [42])), undefA, bolA (ByteArray.toList (bs s) == ByteArray.toList (bs [33])), bolA (ByteArray.toList (bs s) == ByteArray.toList (bs [33])), strA (bs s), .clo (.func 88) [] [.mptr 1 2 17 0 0, .mptr 1 3 18 0 0], undefA, undefA, undefA, undefA, undefA, undefA, undefA, undefA, undefA, undefA, undefA, undefA, undefA, undefA, undefA, undefA, undefA, undefA], h := [[row0, row0, ⟨0, .box (.pv (.sl 0 true true [])) false⟩, ⟨1, .box (bolA false) false⟩, ⟨6, .box (.msl 0 12 5 0 1 true) false⟩, ⟨13, .box (intA 0) false⟩, row0, row0, row0, row0, row0, row0, ⟨5, .row 11 63 [itvP 0 0 0 (.sl 1 false true [strP [48]]) false 0 0 0 (.sl 0 true true []) false true] false⟩] ++ List.replicate 26 row0, [row0, row0, ⟨17, .box (strA (bs s)) false⟩, ⟨18, .box (strA (bs [32])) false⟩, row0, row0]], g := 22 }
theorem span_alternative_go (s : List UInt8) (r : PV) : FnGo E1 Tryz.f52 [strP s] r 2000 (.res (edgP 0 0 0 (.sl 1 false true [strP [48]]) false false) (.res (edgP 0 0 0 (.sl 0 true true []) false true) (.res (itvP 0 0 0 (.sl 1 false true [strP [48]]) false 0 0 0 (.sl 0 true true []) false true) (.fork (.hole 0) (.fork (.hole 0) (.resI (fun g => spV g) (fun g => spF s [32] g) 5 (.hole 0))))))) =
  ((Den E1 76 [] (edgP 0 0 0 (.sl 1 false true [strP [48]]) false false)) ∧
 (Den E1 90 [] (edgP 0 0 0 (.sl 0 true true []) false true)) ∧
 (Den E1 89 [edgP 0 0 0 (.sl 1 false true [strP [48]]) false false, edgP 0 0 0 (.sl 0 true true []) false true] (itvP 0 0 0 (.sl 1 false true [strP [48]]) false 0 0 0 (.sl 0 true true []) false true)) ∧
 ((6 : Nat) = 6) ∧
 ((ByteArray.toList (bs s) == ByteArray.toList (bs [42])) = true →
 ((6 : Nat) = 6) ∧
 ((0 : Nat) = 0) ∧
 ((1 : Nat) = 1) ∧
 ∃ hp, frz frzDepth (.tup [.msl 0 12 5 0 1 true, bolA true]) [[row0, row0, ⟨0, .box (.msl 0 12 5 0 1 true) false⟩, ⟨1, .box (bolA true) false⟩, ⟨6, .box (.msl 0 12 5 0 1 true) false⟩, row0, row0, row0, row0, row0, row0, row0, ⟨5, .row 11 63 [itvP 0 0 0 (.sl 1 false true [strP [48]]) false 0 0 0 (.sl 0 true true []) false true] false⟩] ++ List.replicate 26 row0] = some (r, hp)) ∧
 ((ByteArray.toList (bs s) == ByteArray.toList (bs [42])) = false →
 ((ByteArray.toList (bs s) == ByteArray.toList (bs [33])) = true →
 ((0 : Nat) = 0) ∧
 ((1 : Nat) = 1) ∧
 ((.tup [.sl 0 true true [], bolP true]) : PV) = r) ∧
 ((ByteArray.toList (bs s) == ByteArray.toList (bs [33])) = false →
 ((13 : Nat) = 13) ∧
 (DenI E1 51 [strP s, strP [32]] (fun g => spV g) (fun g => spF s [32] g) 5) ∧
 RangeAtF E1 Tryz.f52 r 0 { t := [strA (bs s), undefA, .mptr 0 2 0 0 0, .mptr 0 3 1 0 0, .mptr 0 4 6 0 0, .mptr 0 5 13 0 0, undefA, undefA, undefA, .pv (edgP 0 0 0 (.sl 1 false true [strP [48]]) false false), .pv (edgP 0 0 0 (.sl 0 true true []) false true), .pv (itvP 0 0 0 (.sl 1 false true [strP [48]]) false 0 0 0 (.sl 0 true true []) false true), .msl 0 12 5 0 1 true, strA (bs s), bolA (ByteArray.toList (bs s) == ByteArray.toList (bs [42])), bolA (ByteArray.toList (bs s) == ByteArray.toList (bs [42])), undefA, bolA (ByteArray.toList (bs s) == ByteArray.toList (bs [33])), bolA (ByteArray.toList (bs s) == ByteArray.toList (bs [33])), strA (bs s), .clo (.func 88) [] [.mptr 1 2 17 0 0, .mptr 1 3 18 0 0], undefA, undefA, undefA, undefA, undefA, undefA, undefA, undefA, undefA, undefA, undefA, undefA, undefA, undefA, undefA, undefA, undefA, undefA], h := [[row0, row0, ⟨0, .box (.pv (.sl 0 true true [])) false⟩, ⟨1, .box (bolA false) false⟩, ⟨6, .box (.msl 0 12 5 0 1 true) false⟩, ⟨13, .box (intA 0) false⟩, row0, row0, row0, row0, row0, row0, ⟨5, .row 11 63 [itvP 0 0 0 (.sl 1 false true [strP [48]]) false 0 0 0 (.sl 0 true true []) false true] false⟩] ++ List.replicate 26 row0, [row0, row0, ⟨17, .box (strA (bs s)) false⟩, ⟨18, .box (strA (bs [32])) false⟩, row0, row0]], g := 22 }))) := by kernel_rfl
theorem span_alternative_as0 (s : List UInt8) (p : List UInt8) (n : Int) (l : AV) (z : Row) (F1 : List Row) (FR : List Row) (gy : Nat) (g : Nat) (R : AExit → St → Prop) : AssignGo E1 Tryz.f52 0 R 2000 (.hole 0) { t := [strA (bs s), undefA, .mptr 0 2 0 0 0, .mptr 0 3 1 0 0, .mptr 0 4 6 0 0, .mptr 0 5 13 0 0, undefA, undefA, undefA, .pv (edgP 0 0 0 (.sl 1 false true [strP [48]]) false false), .pv (edgP 0 0 0 (.sl 0 true true []) false true), .pv (itvP 0 0 0 (.sl 1 false true [strP [48]]) false 0 0 0 (.sl 0 true true []) false true), .msl 0 12 5 0 1 true, strA (bs s), bolA (ByteArray.toList (bs s) == ByteArray.toList (bs [42])), bolA (ByteArray.toList (bs s) == ByteArray.toList (bs [42])), undefA, bolA (ByteArray.toList (bs s) == ByteArray.toList (bs [33])), bolA (ByteArray.toList (bs s) == ByteArray.toList (bs [33])), strA (bs s), .clo (.func 88) [] [.mptr 1 2 17 0 0, .mptr 1 3 18 0 0], strA (bs p), undefA, undefA, undefA, undefA, undefA, undefA, undefA, undefA, undefA, undefA, undefA, undefA, undefA, undefA, undefA, undefA, undefA], h := [[row0, row0, ⟨0, .box (.pv (.sl 0 true true [])) false⟩, ⟨1, .box (bolA false) false⟩, ⟨6, .box l false⟩, ⟨13, .box (intA n) false⟩, row0, row0, row0, row0, row0, row0, z, row0, row0, row0, row0, row0, row0, row0, row0, ⟨gy, .lp .ready⟩] ++ List.replicate 17 row0, F1, FR], g := g } =
  (R .normal { t := [strA (bs s), undefA, .mptr 0 2 0 0 0, .mptr 0 3 1 0 0, .mptr 0 4 6 0 0, .mptr 0 5 13 0 0, strA (bs p), undefA, undefA, .pv (edgP 0 0 0 (.sl 1 false true [strP [48]]) false false), .pv (edgP 0 0 0 (.sl 0 true true []) false true), .pv (itvP 0 0 0 (.sl 1 false true [strP [48]]) false 0 0 0 (.sl 0 true true []) false true), .msl 0 12 5 0 1 true, strA (bs s), bolA (ByteArray.toList (bs s) == ByteArray.toList (bs [42])), bolA (ByteArray.toList (bs s) == ByteArray.toList (bs [42])), undefA, bolA (ByteArray.toList (bs s) == ByteArray.toList (bs [33])), bolA (ByteArray.toList (bs s) == ByteArray.toList (bs [33])), strA (bs s), .clo (.func 88) [] [.mptr 1 2 17 0 0, .mptr 1 3 18 0 0], strA (bs p), undefA, undefA, undefA, undefA, undefA, undefA, undefA, undefA, undefA, undefA, undefA, undefA, undefA, undefA, undefA, undefA, undefA], h := [[row0, row0, ⟨0, .box (.pv (.sl 0 true true [])) false⟩, ⟨1, .box (bolA false) false⟩, ⟨6, .box l false⟩, ⟨13, .box (intA n) false⟩, row0, row0, row0, row0, row0, row0, z, row0, row0, row0, row0, row0, row0, row0, row0, ⟨gy, .lp .ready⟩] ++ List.replicate 17 row0, F1, FR], g := g + 1 }) := by kernel_rfl
theorem span_alternative_a_bd0 (s : List UInt8) (p : List UInt8) (F1 : List Row) (FR : List Row) (gy : Nat) (g : Nat) (R : AExit → St → Prop) : BodyGo E1 Tryz.f52 0 R 2000 (.res (.tup [LF.p (Prod.fst (cmprS p)), bolP (Prod.snd (cmprS p))]) (.fork (.lts 4 (.hole 0)) (.lts 4 (.ev (.res (resL (meetS [⟨bottomV, false, zV, false, true⟩] (LF.l (Prod.fst (cmprS p))))) (.hole 0)))))) { t := [strA (bs s), undefA, .mptr 0 2 0 0 0, .mptr 0 3 1 0 0, .mptr 0 4 6 0 0, .mptr 0 5 13 0 0, strA (bs p), undefA, undefA, .pv (edgP 0 0 0 (.sl 1 false true [strP [48]]) false false), .pv (edgP 0 0 0 (.sl 0 true true []) false true), .pv (itvP 0 0 0 (.sl 1 false true [strP [48]]) false 0 0 0 (.sl 0 true true []) false true), .msl 0 12 5 0 1 true, strA (bs s), bolA (ByteArray.toList (bs s) == ByteArray.toList (bs [42])), bolA (ByteArray.toList (bs s) == ByteArray.toList (bs [42])), undefA, bolA (ByteArray.toList (bs s) == ByteArray.toList (bs [33])), bolA (ByteArray.toList (bs s) == ByteArray.toList (bs [33])), strA (bs s), .clo (.func 88) [] [.mptr 1 2 17 0 0, .mptr 1 3 18 0 0], strA (bs p), undefA, undefA, undefA, undefA, undefA, undefA, undefA, undefA, undefA, undefA, undefA, undefA, undefA, undefA, undefA, undefA, undefA], h := [[row0, row0, ⟨0, .box (.pv (.sl 0 true true [])) false⟩, ⟨1, .box (bolA false) false⟩, ⟨6, .box (.msl 0 12 5 0 1 true) false⟩, ⟨13, .box (intA 0) false⟩, row0, row0, row0, row0, row0, row0, ⟨5, .row 11 63 [itvP 0 0 0 (.sl 1 false true [strP [48]]) false 0 0 0 (.sl 0 true true []) false true] false⟩, row0, row0, row0, row0, row0, row0, row0, row0, ⟨gy, .lp .busy⟩] ++ List.replicate 17 row0, F1, FR], g := g } =
  ((Den E1 91 [strP p] (.tup [LF.p (Prod.fst (cmprS p)), bolP (Prod.snd (cmprS p))])) ∧
 ((13 : Nat) = 13) ∧
 ((13 : Nat) = 13) ∧
 ((!Prod.snd (cmprS p)) = true →
 ((0 : Nat) = 0) ∧
 ((1 : Nat) = 1) ∧
 R .ret { t := [strA (bs s), undefA, .mptr 0 2 0 0 0, .mptr 0 3 1 0 0, .mptr 0 4 6 0 0, .mptr 0 5 13 0 0, strA (bs p), .pv (LF.p (Prod.fst (cmprS p))), bolA (Prod.snd (cmprS p)), .pv (edgP 0 0 0 (.sl 1 false true [strP [48]]) false false), .pv (edgP 0 0 0 (.sl 0 true true []) false true), .pv (itvP 0 0 0 (.sl 1 false true [strP [48]]) false 0 0 0 (.sl 0 true true []) false true), .msl 0 12 5 0 1 true, strA (bs s), bolA (ByteArray.toList (bs s) == ByteArray.toList (bs [42])), bolA (ByteArray.toList (bs s) == ByteArray.toList (bs [42])), undefA, bolA (ByteArray.toList (bs s) == ByteArray.toList (bs [33])), bolA (ByteArray.toList (bs s) == ByteArray.toList (bs [33])), strA (bs s), .clo (.func 88) [] [.mptr 1 2 17 0 0, .mptr 1 3 18 0 0], strA (bs p), .pv (.tup [LF.p (Prod.fst (cmprS p)), bolP (Prod.snd (cmprS p))]), strA (bs p), .pv (.tup [LF.p (Prod.fst (cmprS p)), bolP (Prod.snd (cmprS p))]), .pv (LF.p (Prod.fst (cmprS p))), bolA (Prod.snd (cmprS p)), intA 0, intA 1, bolA (Prod.snd (cmprS p)), bolA (!Prod.snd (cmprS p)), bolA true, undefA, undefA, bolA true, undefA, undefA, undefA, undefA], h := [[row0, row0, ⟨0, .box (.pv (.sl 0 true true [])) false⟩, ⟨1, .box (bolA false) false⟩, ⟨6, .box (.msl 0 12 5 0 1 true) false⟩, ⟨13, .box (intA 1) false⟩, row0, row0, row0, row0, row0, row0, ⟨5, .row 11 63 [itvP 0 0 0 (.sl 1 false true [strP [48]]) false 0 0 0 (.sl 0 true true []) false true] false⟩, row0, row0, row0, row0, row0, row0, row0, row0, ⟨gy, .lp .busy⟩] ++ List.replicate 17 row0, F1, FR], g := g + 7 + 3 + 6 + 2 }) ∧
 ((!Prod.snd (cmprS p)) = false →
 ((13 : Nat) = 13) ∧
 ((6 : Nat) = 6) ∧
 (Den E1 62 [.sl 11 false true [itvP 0 0 0 (.sl 1 false true [strP [48]]) false 0 0 0 (.sl 0 true true []) false true], LF.p (Prod.fst (cmprS p))] (resL (meetS [⟨bottomV, false, zV, false, true⟩] (LF.l (Prod.fst (cmprS p)))))) ∧
 ((6 : Nat) = 6) ∧
 R .normal { t := [strA (bs s), undefA, .mptr 0 2 0 0 0, .mptr 0 3 1 0 0, .mptr 0 4 6 0 0, .mptr 0 5 13 0 0, strA (bs p), .pv (LF.p (Prod.fst (cmprS p))), bolA (Prod.snd (cmprS p)), .pv (edgP 0 0 0 (.sl 1 false true [strP [48]]) false false), .pv (edgP 0 0 0 (.sl 0 true true []) false true), .pv (itvP 0 0 0 (.sl 1 false true [strP [48]]) false 0 0 0 (.sl 0 true true []) false true), .msl 0 12 5 0 1 true, strA (bs s), bolA (ByteArray.toList (bs s) == ByteArray.toList (bs [42])), bolA (ByteArray.toList (bs s) == ByteArray.toList (bs [42])), undefA, bolA (ByteArray.toList (bs s) == ByteArray.toList (bs [33])), bolA (ByteArray.toList (bs s) == ByteArray.toList (bs [33])), strA (bs s), .clo (.func 88) [] [.mptr 1 2 17 0 0, .mptr 1 3 18 0 0], strA (bs p), .pv (.tup [LF.p (Prod.fst (cmprS p)), bolP (Prod.snd (cmprS p))]), strA (bs p), .pv (.tup [LF.p (Prod.fst (cmprS p)), bolP (Prod.snd (cmprS p))]), .pv (LF.p (Prod.fst (cmprS p))), bolA (Prod.snd (cmprS p)), intA 0, intA 1, bolA (Prod.snd (cmprS p)), bolA (!Prod.snd (cmprS p)), bolA false, intA 1, bolA false, bolA false, .msl 0 12 5 0 1 true, .pv (LF.p (Prod.fst (cmprS p))), .pv (resL (meetS [⟨bottomV, false, zV, false, true⟩] (LF.l (Prod.fst (cmprS p))))), undefA], h := [[row0, row0, ⟨0, .box (.pv (.sl 0 true true [])) false⟩, ⟨1, .box (bolA false) false⟩, ⟨6, .box (.pv (resL (meetS [⟨bottomV, false, zV, false, true⟩] (LF.l (Prod.fst (cmprS p)))))) false⟩, ⟨13, .box (intA 1) false⟩, row0, row0, row0, row0, row0, row0, ⟨5, .row 11 63 [itvP 0 0 0 (.sl 1 false true [strP [48]]) false 0 0 0 (.sl 0 true true []) false true] true⟩, row0, row0, row0, row0, row0, row0, row0, row0, ⟨gy, .lp .busy⟩] ++ List.replicate 17 row0, F1, FR], g := g + 7 + 3 + 6 + 4 })) := by kernel_rfl
theorem span_alternative_b_bd0 (s : List UInt8) (p : List UInt8) (n : Int) (l : List I) (z : Row) (F1 : List Row) (FR : List Row) (gy : Nat) (g : Nat) (R : AExit → St → Prop) : BodyGo E1 Tryz.f52 0 R 2000 (.res (.tup [LF.p (Prod.fst (cmprS p)), bolP (Prod.snd (cmprS p))]) (.fork (.lts 4 (.hole 0)) (.lts 3 (.fork (.hole 0) (.res (resL (meetS l (LF.l (Prod.fst (cmprS p))))) (.hole 0)))))) { t := [strA (bs s), undefA, .mptr 0 2 0 0 0, .mptr 0 3 1 0 0, .mptr 0 4 6 0 0, .mptr 0 5 13 0 0, strA (bs p), undefA, undefA, .pv (edgP 0 0 0 (.sl 1 false true [strP [48]]) false false), .pv (edgP 0 0 0 (.sl 0 true true []) false true), .pv (itvP 0 0 0 (.sl 1 false true [strP [48]]) false 0 0 0 (.sl 0 true true []) false true), .msl 0 12 5 0 1 true, strA (bs s), bolA (ByteArray.toList (bs s) == ByteArray.toList (bs [42])), bolA (ByteArray.toList (bs s) == ByteArray.toList (bs [42])), undefA, bolA (ByteArray.toList (bs s) == ByteArray.toList (bs [33])), bolA (ByteArray.toList (bs s) == ByteArray.toList (bs [33])), strA (bs s), .clo (.func 88) [] [.mptr 1 2 17 0 0, .mptr 1 3 18 0 0], strA (bs p), undefA, undefA, undefA, undefA, undefA, undefA, undefA, undefA, undefA, undefA, undefA, undefA, undefA, undefA, undefA, undefA, undefA], h := [[row0, row0, ⟨0, .box (.pv (.sl 0 true true [])) false⟩, ⟨1, .box (bolA false) false⟩, ⟨6, .box (.pv (resL l)) false⟩, ⟨13, .box (intA n) false⟩, row0, row0, row0, row0, row0, row0, z, row0, row0, row0, row0, row0, row0, row0, row0, ⟨gy, .lp .busy⟩] ++ List.replicate 17 row0, F1, FR], g := g } =
  ((Den E1 91 [strP p] (.tup [LF.p (Prod.fst (cmprS p)), bolP (Prod.snd (cmprS p))])) ∧
 ((13 : Nat) = 13) ∧
 ((13 : Nat) = 13) ∧
 ((!Prod.snd (cmprS p)) = true →
 ((0 : Nat) = 0) ∧
 ((1 : Nat) = 1) ∧
 R .ret { t := [strA (bs s), undefA, .mptr 0 2 0 0 0, .mptr 0 3 1 0 0, .mptr 0 4 6 0 0, .mptr 0 5 13 0 0, strA (bs p), .pv (LF.p (Prod.fst (cmprS p))), bolA (Prod.snd (cmprS p)), .pv (edgP 0 0 0 (.sl 1 false true [strP [48]]) false false), .pv (edgP 0 0 0 (.sl 0 true true []) false true), .pv (itvP 0 0 0 (.sl 1 false true [strP [48]]) false 0 0 0 (.sl 0 true true []) false true), .msl 0 12 5 0 1 true, strA (bs s), bolA (ByteArray.toList (bs s) == ByteArray.toList (bs [42])), bolA (ByteArray.toList (bs s) == ByteArray.toList (bs [42])), undefA, bolA (ByteArray.toList (bs s) == ByteArray.toList (bs [33])), bolA (ByteArray.toList (bs s) == ByteArray.toList (bs [33])), strA (bs s), .clo (.func 88) [] [.mptr 1 2 17 0 0, .mptr 1 3 18 0 0], strA (bs p), .pv (.tup [LF.p (Prod.fst (cmprS p)), bolP (Prod.snd (cmprS p))]), strA (bs p), .pv (.tup [LF.p (Prod.fst (cmprS p)), bolP (Prod.snd (cmprS p))]), .pv (LF.p (Prod.fst (cmprS p))), bolA (Prod.snd (cmprS p)), intA n, intA (IntKind.i64.wrap (n + (1 : Int))), bolA (Prod.snd (cmprS p)), bolA (!Prod.snd (cmprS p)), bolA true, undefA, undefA, bolA true, undefA, undefA, undefA, undefA], h := [[row0, row0, ⟨0, .box (.pv (.sl 0 true true [])) false⟩, ⟨1, .box (bolA false) false⟩, ⟨6, .box (.pv (resL l)) false⟩, ⟨13, .box (intA (IntKind.i64.wrap (n + (1 : Int)))) false⟩, row0, row0, row0, row0, row0, row0, z, row0, row0, row0, row0, row0, row0, row0, row0, ⟨gy, .lp .busy⟩] ++ List.replicate 17 row0, F1, FR], g := g + 7 + 3 + 6 + 2 }) ∧
 ((!Prod.snd (cmprS p)) = false →
 ((13 : Nat) = 13) ∧
 ((decide (IntKind.i64.wrap (n + (1 : Int)) > (16 : Int))) = true →
 ((0 : Nat) = 0) ∧
 ((1 : Nat) = 1) ∧
 R .ret { t := [strA (bs s), undefA, .mptr 0 2 0 0 0, .mptr 0 3 1 0 0, .mptr 0 4 6 0 0, .mptr 0 5 13 0 0, strA (bs p), .pv (LF.p (Prod.fst (cmprS p))), bolA (Prod.snd (cmprS p)), .pv (edgP 0 0 0 (.sl 1 false true [strP [48]]) false false), .pv (edgP 0 0 0 (.sl 0 true true []) false true), .pv (itvP 0 0 0 (.sl 1 false true [strP [48]]) false 0 0 0 (.sl 0 true true []) false true), .msl 0 12 5 0 1 true, strA (bs s), bolA (ByteArray.toList (bs s) == ByteArray.toList (bs [42])), bolA (ByteArray.toList (bs s) == ByteArray.toList (bs [42])), undefA, bolA (ByteArray.toList (bs s) == ByteArray.toList (bs [33])), bolA (ByteArray.toList (bs s) == ByteArray.toList (bs [33])), strA (bs s), .clo (.func 88) [] [.mptr 1 2 17 0 0, .mptr 1 3 18 0 0], strA (bs p), .pv (.tup [LF.p (Prod.fst (cmprS p)), bolP (Prod.snd (cmprS p))]), strA (bs p), .pv (.tup [LF.p (Prod.fst (cmprS p)), bolP (Prod.snd (cmprS p))]), .pv (LF.p (Prod.fst (cmprS p))), bolA (Prod.snd (cmprS p)), intA n, intA (IntKind.i64.wrap (n + (1 : Int))), bolA (Prod.snd (cmprS p)), bolA (!Prod.snd (cmprS p)), bolA false, intA (IntKind.i64.wrap (n + (1 : Int))), bolA (decide (IntKind.i64.wrap (n + (1 : Int)) > (16 : Int))), bolA (decide (IntKind.i64.wrap (n + (1 : Int)) > (16 : Int))), undefA, undefA, undefA, undefA], h := [[row0, row0, ⟨0, .box (.pv (.sl 0 true true [])) false⟩, ⟨1, .box (bolA false) false⟩, ⟨6, .box (.pv (resL l)) false⟩, ⟨13, .box (intA (IntKind.i64.wrap (n + (1 : Int)))) false⟩, row0, row0, row0, row0, row0, row0, z, row0, row0, row0, row0, row0, row0, row0, row0, ⟨gy, .lp .busy⟩] ++ List.replicate 17 row0, F1, FR], g := g + 7 + 3 + 6 + 2 }) ∧
 ((decide (IntKind.i64.wrap (n + (1 : Int)) > (16 : Int))) = false →
 ((6 : Nat) = 6) ∧
 (Den E1 62 [resL l, LF.p (Prod.fst (cmprS p))] (resL (meetS l (LF.l (Prod.fst (cmprS p)))))) ∧
 ((6 : Nat) = 6) ∧
 R .normal { t := [strA (bs s), undefA, .mptr 0 2 0 0 0, .mptr 0 3 1 0 0, .mptr 0 4 6 0 0, .mptr 0 5 13 0 0, strA (bs p), .pv (LF.p (Prod.fst (cmprS p))), bolA (Prod.snd (cmprS p)), .pv (edgP 0 0 0 (.sl 1 false true [strP [48]]) false false), .pv (edgP 0 0 0 (.sl 0 true true []) false true), .pv (itvP 0 0 0 (.sl 1 false true [strP [48]]) false 0 0 0 (.sl 0 true true []) false true), .msl 0 12 5 0 1 true, strA (bs s), bolA (ByteArray.toList (bs s) == ByteArray.toList (bs [42])), bolA (ByteArray.toList (bs s) == ByteArray.toList (bs [42])), undefA, bolA (ByteArray.toList (bs s) == ByteArray.toList (bs [33])), bolA (ByteArray.toList (bs s) == ByteArray.toList (bs [33])), strA (bs s), .clo (.func 88) [] [.mptr 1 2 17 0 0, .mptr 1 3 18 0 0], strA (bs p), .pv (.tup [LF.p (Prod.fst (cmprS p)), bolP (Prod.snd (cmprS p))]), strA (bs p), .pv (.tup [LF.p (Prod.fst (cmprS p)), bolP (Prod.snd (cmprS p))]), .pv (LF.p (Prod.fst (cmprS p))), bolA (Prod.snd (cmprS p)), intA n, intA (IntKind.i64.wrap (n + (1 : Int))), bolA (Prod.snd (cmprS p)), bolA (!Prod.snd (cmprS p)), bolA false, intA (IntKind.i64.wrap (n + (1 : Int))), bolA (decide (IntKind.i64.wrap (n + (1 : Int)) > (16 : Int))), bolA (decide (IntKind.i64.wrap (n + (1 : Int)) > (16 : Int))), .pv (resL l), .pv (LF.p (Prod.fst (cmprS p))), .pv (resL (meetS l (LF.l (Prod.fst (cmprS p))))), undefA], h := [[row0, row0, ⟨0, .box (.pv (.sl 0 true true [])) false⟩, ⟨1, .box (bolA false) false⟩, ⟨6, .box (.pv (resL (meetS l (LF.l (Prod.fst (cmprS p)))))) false⟩, ⟨13, .box (intA (IntKind.i64.wrap (n + (1 : Int)))) false⟩, row0, row0, row0, row0, row0, row0, z, row0, row0, row0, row0, row0, row0, row0, row0, ⟨gy, .lp .busy⟩] ++ List.replicate 17 row0, F1, FR], g := g + 7 + 3 + 6 + 4 }))) := by kernel_rfl
theorem span_alternative_af0 (s : List UInt8) (n : Int) (l : List I) (z : Row) (F1 : List Row) (g : Nat) (r : PV) : AfterGo E1 Tryz.f52 r 0 2000 (.hole 0) .normal { t := [strA (bs s), undefA, .mptr 0 2 0 0 0, .mptr 0 3 1 0 0, .mptr 0 4 6 0 0, .mptr 0 5 13 0 0, undefA, undefA, undefA, .pv (edgP 0 0 0 (.sl 1 false true [strP [48]]) false false), .pv (edgP 0 0 0 (.sl 0 true true []) false true), .pv (itvP 0 0 0 (.sl 1 false true [strP [48]]) false 0 0 0 (.sl 0 true true []) false true), .msl 0 12 5 0 1 true, strA (bs s), bolA (ByteArray.toList (bs s) == ByteArray.toList (bs [42])), bolA (ByteArray.toList (bs s) == ByteArray.toList (bs [42])), undefA, bolA (ByteArray.toList (bs s) == ByteArray.toList (bs [33])), bolA (ByteArray.toList (bs s) == ByteArray.toList (bs [33])), strA (bs s), .clo (.func 88) [] [.mptr 1 2 17 0 0, .mptr 1 3 18 0 0], undefA, undefA, undefA, undefA, undefA, undefA, undefA, undefA, undefA, undefA, undefA, undefA, undefA, undefA, undefA, undefA, undefA, undefA], h := [[row0, row0, ⟨0, .box (.pv (.sl 0 true true [])) false⟩, ⟨1, .box (bolA false) false⟩, ⟨6, .box (.pv (resL l)) false⟩, ⟨13, .box (intA n) false⟩, row0, row0, row0, row0, row0, row0, z] ++ List.replicate 26 row0, F1], g := g } =
  (((6 : Nat) = 6) ∧
 ((0 : Nat) = 0) ∧
 ((1 : Nat) = 1) ∧
 ((.tup [resL l, bolP true]) : PV) = r) := by kernel_rfl
theorem span_alternative_af0r (s : List UInt8) (n : Int) (l : AV) (z : Row) (F1 : List Row) (g : Nat) (r : PV) : AfterGo E1 Tryz.f52 r 0 2000 (.hole 0) .ret { t := [strA (bs s), undefA, .mptr 0 2 0 0 0, .mptr 0 3 1 0 0, .mptr 0 4 6 0 0, .mptr 0 5 13 0 0, undefA, undefA, undefA, .pv (edgP 0 0 0 (.sl 1 false true [strP [48]]) false false), .pv (edgP 0 0 0 (.sl 0 true true []) false true), .pv (itvP 0 0 0 (.sl 1 false true [strP [48]]) false 0 0 0 (.sl 0 true true []) false true), .msl 0 12 5 0 1 true, strA (bs s), bolA (ByteArray.toList (bs s) == ByteArray.toList (bs [42])), bolA (ByteArray.toList (bs s) == ByteArray.toList (bs [42])), undefA, bolA (ByteArray.toList (bs s) == ByteArray.toList (bs [33])), bolA (ByteArray.toList (bs s) == ByteArray.toList (bs [33])), strA (bs s), .clo (.func 88) [] [.mptr 1 2 17 0 0, .mptr 1 3 18 0 0], undefA, undefA, undefA, undefA, undefA, undefA, undefA, undefA, undefA, undefA, undefA, undefA, undefA, undefA, undefA, undefA, undefA, undefA], h := [[row0, row0, ⟨0, .box (.pv (.sl 0 true true [])) false⟩, ⟨1, .box (bolA false) false⟩, ⟨6, .box l false⟩, ⟨13, .box (intA n) false⟩, row0, row0, row0, row0, row0, row0, z] ++ List.replicate 26 row0, F1], g := g } =
  (((.tup [.sl 0 true true [], bolP false]) : PV) = r) := by kernel_rfl
def span_Read_R0 (s : List UInt8) : St :=
  { t := [strA (bs s), undefA, .mptr 0 2 0 0 0, .mptr 0 3 1 0 0, .mptr 0 4 5 0 0, .mptr 0 5 6 0 0, undefA, undefA, undefA, strA (bs s), intA ((↑(ByteArray.size (bs s)) : Int)), bolA (decide ((↑(ByteArray.size (bs s)) : Int) > (128 : Int))), strA (bs s), .clo (.func 88) [] [.mptr 1 2 10 0 0, .mptr 1 3 11 0 0], undefA, undefA, undefA, undefA, undefA, undefA, undefA, undefA, undefA, undefA, undefA, undefA, undefA, undefA, undefA, undefA, undefA, undefA, undefA, undefA, undefA, undefA], h := [[row0, row0, ⟨0, .box (.pv (.sl 0 true true [])) false⟩, ⟨1, .box (intA 0) false⟩, ⟨5, .box (.pv (.sl 0 true true [])) false⟩, ⟨6, .box (intA 0) false⟩] ++ List.replicate 30 row0, [row0, row0, ⟨10, .box (strA (bs s)) false⟩, ⟨11, .box (strA (bs [32, 124, 124, 32])) false⟩, row0, row0]], g := 15 }
theorem span_Read_go (s : List UInt8) (r : PV) : FnGo E1 Tryz.f19 [strP s] r 2000 (.fork (.hole 0) (.resI (fun g => spV g) (fun g => spF s [32, 124, 124, 32] g) 5 (.hole 0))) =
  (((decide ((↑(ByteArray.size (bs s)) : Int) > (128 : Int))) = true →
 ((0 : Nat) = 0) ∧
 ((1 : Nat) = 1) ∧
 ((.tup [.sl 0 true true [], intP 80]) : PV) = r) ∧
 ((decide ((↑(ByteArray.size (bs s)) : Int) > (128 : Int))) = false →
 ((6 : Nat) = 6) ∧
 (DenI E1 51 [strP s, strP [32, 124, 124, 32]] (fun g => spV g) (fun g => spF s [32, 124, 124, 32] g) 5) ∧
 RangeAtF E1 Tryz.f19 r 0 { t := [strA (bs s), undefA, .mptr 0 2 0 0 0, .mptr 0 3 1 0 0, .mptr 0 4 5 0 0, .mptr 0 5 6 0 0, undefA, undefA, undefA, strA (bs s), intA ((↑(ByteArray.size (bs s)) : Int)), bolA (decide ((↑(ByteArray.size (bs s)) : Int) > (128 : Int))), strA (bs s), .clo (.func 88) [] [.mptr 1 2 10 0 0, .mptr 1 3 11 0 0], undefA, undefA, undefA, undefA, undefA, undefA, undefA, undefA, undefA, undefA, undefA, undefA, undefA, undefA, undefA, undefA, undefA, undefA, undefA, undefA, undefA, undefA], h := [[row0, row0, ⟨0, .box (.pv (.sl 0 true true [])) false⟩, ⟨1, .box (intA 0) false⟩, ⟨5, .box (.pv (.sl 0 true true [])) false⟩, ⟨6, .box (intA 0) false⟩] ++ List.replicate 30 row0, [row0, row0, ⟨10, .box (strA (bs s)) false⟩, ⟨11, .box (strA (bs [32, 124, 124, 32])) false⟩, row0, row0]], g := 15 })) := by kernel_rfl
theorem span_Read_as0 (s : List UInt8) (p : List UInt8) (n : Int) (l : AV) (z : Row) (F1 : List Row) (FR : List Row) (gy : Nat) (g : Nat) (R : AExit → St → Prop) : AssignGo E1 Tryz.f19 0 R 2000 (.hole 0) { t := [strA (bs s), undefA, .mptr 0 2 0 0 0, .mptr 0 3 1 0 0, .mptr 0 4 5 0 0, .mptr 0 5 6 0 0, undefA, undefA, undefA, strA (bs s), intA ((↑(ByteArray.size (bs s)) : Int)), bolA (decide ((↑(ByteArray.size (bs s)) : Int) > (128 : Int))), strA (bs s), .clo (.func 88) [] [.mptr 1 2 10 0 0, .mptr 1 3 11 0 0], strA (bs p), undefA, undefA, undefA, undefA, undefA, undefA, undefA, undefA, undefA, undefA, undefA, undefA, undefA, undefA, undefA, undefA, undefA, undefA, undefA, undefA, undefA], h := [[row0, row0, ⟨0, .box (.pv (.sl 0 true true [])) false⟩, ⟨1, .box (intA 0) false⟩, ⟨5, .box l false⟩, ⟨6, .box (intA n) false⟩, row0, row0, row0, row0, row0, row0, row0, row0, ⟨gy, .lp .ready⟩, row0, row0, row0, row0, row0, row0, row0, row0, row0, row0, row0, row0, row0, row0, row0, z] ++ List.replicate 5 row0, F1, FR], g := g } =
  (R .normal { t := [strA (bs s), undefA, .mptr 0 2 0 0 0, .mptr 0 3 1 0 0, .mptr 0 4 5 0 0, .mptr 0 5 6 0 0, strA (bs p), undefA, undefA, strA (bs s), intA ((↑(ByteArray.size (bs s)) : Int)), bolA (decide ((↑(ByteArray.size (bs s)) : Int) > (128 : Int))), strA (bs s), .clo (.func 88) [] [.mptr 1 2 10 0 0, .mptr 1 3 11 0 0], strA (bs p), undefA, undefA, undefA, undefA, undefA, undefA, undefA, undefA, undefA, undefA, undefA, undefA, undefA, undefA, undefA, undefA, undefA, undefA, undefA, undefA, undefA], h := [[row0, row0, ⟨0, .box (.pv (.sl 0 true true [])) false⟩, ⟨1, .box (intA 0) false⟩, ⟨5, .box l false⟩, ⟨6, .box (intA n) false⟩, row0, row0, row0, row0, row0, row0, row0, row0, ⟨gy, .lp .ready⟩, row0, row0, row0, row0, row0, row0, row0, row0, row0, row0, row0, row0, row0, row0, row0, z] ++ List.replicate 5 row0, F1, FR], g := g + 1 }) := by kernel_rfl
theorem span_Read_a_bd0 (s : List UInt8) (p : List UInt8) (n : Int) (z : Row) (F1 : List Row) (FR : List Row) (gy : Nat) (g : Nat) (R : AExit → St → Prop) : BodyGo E1 Tryz.f19 0 R 2000 (.res (.tup [LF.p (Prod.fst (altS p)), bolP (Prod.snd (altS p))]) (.fork (.lts 4 (.hole 0)) (.lts 3 (.fork (.hole 0) (.fork (.hole 0) (.lit (.hole 0))))))) { t := [strA (bs s), undefA, .mptr 0 2 0 0 0, .mptr 0 3 1 0 0, .mptr 0 4 5 0 0, .mptr 0 5 6 0 0, strA (bs p), undefA, undefA, strA (bs s), intA ((↑(ByteArray.size (bs s)) : Int)), bolA (decide ((↑(ByteArray.size (bs s)) : Int) > (128 : Int))), strA (bs s), .clo (.func 88) [] [.mptr 1 2 10 0 0, .mptr 1 3 11 0 0], strA (bs p), undefA, undefA, undefA, undefA, undefA, undefA, undefA, undefA, undefA, undefA, undefA, undefA, undefA, undefA, undefA, undefA, undefA, undefA, undefA, undefA, undefA], h := [[row0, row0, ⟨0, .box (.pv (.sl 0 true true [])) false⟩, ⟨1, .box (intA 0) false⟩, ⟨5, .box (.pv (.sl 0 true true [])) false⟩, ⟨6, .box (intA n) false⟩, row0, row0, row0, row0, row0, row0, row0, row0, ⟨gy, .lp .busy⟩, row0, row0, row0, row0, row0, row0, row0, row0, row0, row0, row0, row0, row0, row0, row0, z] ++ List.replicate 5 row0, F1, FR], g := g } =
  ((Den E1 52 [strP p] (.tup [LF.p (Prod.fst (altS p)), bolP (Prod.snd (altS p))])) ∧
 ((6 : Nat) = 6) ∧
 ((6 : Nat) = 6) ∧
 ((!Prod.snd (altS p)) = true →
 ((0 : Nat) = 0) ∧
 ((1 : Nat) = 1) ∧
 R .ret { t := [strA (bs s), undefA, .mptr 0 2 0 0 0, .mptr 0 3 1 0 0, .mptr 0 4 5 0 0, .mptr 0 5 6 0 0, strA (bs p), .pv (LF.p (Prod.fst (altS p))), bolA (Prod.snd (altS p)), strA (bs s), intA ((↑(ByteArray.size (bs s)) : Int)), bolA (decide ((↑(ByteArray.size (bs s)) : Int) > (128 : Int))), strA (bs s), .clo (.func 88) [] [.mptr 1 2 10 0 0, .mptr 1 3 11 0 0], strA (bs p), .pv (.tup [LF.p (Prod.fst (altS p)), bolP (Prod.snd (altS p))]), strA (bs p), .pv (.tup [LF.p (Prod.fst (altS p)), bolP (Prod.snd (altS p))]), .pv (LF.p (Prod.fst (altS p))), bolA (Prod.snd (altS p)), intA n, intA (IntKind.i64.wrap (n + (1 : Int))), bolA (Prod.snd (altS p)), bolA (!Prod.snd (altS p)), bolA true, undefA, undefA, bolA true, undefA, undefA, undefA, undefA, undefA, undefA, undefA, undefA], h := [[row0, row0, ⟨0, .box (.pv (.sl 0 true true [])) false⟩, ⟨1, .box (intA 80) false⟩, ⟨5, .box (.pv (.sl 0 true true [])) false⟩, ⟨6, .box (intA (IntKind.i64.wrap (n + (1 : Int)))) false⟩, row0, row0, row0, row0, row0, row0, row0, row0, ⟨gy, .lp .busy⟩, row0, row0, row0, row0, row0, row0, row0, row0, row0, row0, row0, row0, row0, row0, row0, z] ++ List.replicate 5 row0, F1, FR], g := g + 7 + 3 + 6 + 2 }) ∧
 ((!Prod.snd (altS p)) = false →
 ((6 : Nat) = 6) ∧
 ((decide (IntKind.i64.wrap (n + (1 : Int)) > (16 : Int))) = true →
 ((0 : Nat) = 0) ∧
 ((1 : Nat) = 1) ∧
 R .ret { t := [strA (bs s), undefA, .mptr 0 2 0 0 0, .mptr 0 3 1 0 0, .mptr 0 4 5 0 0, .mptr 0 5 6 0 0, strA (bs p), .pv (LF.p (Prod.fst (altS p))), bolA (Prod.snd (altS p)), strA (bs s), intA ((↑(ByteArray.size (bs s)) : Int)), bolA (decide ((↑(ByteArray.size (bs s)) : Int) > (128 : Int))), strA (bs s), .clo (.func 88) [] [.mptr 1 2 10 0 0, .mptr 1 3 11 0 0], strA (bs p), .pv (.tup [LF.p (Prod.fst (altS p)), bolP (Prod.snd (altS p))]), strA (bs p), .pv (.tup [LF.p (Prod.fst (altS p)), bolP (Prod.snd (altS p))]), .pv (LF.p (Prod.fst (altS p))), bolA (Prod.snd (altS p)), intA n, intA (IntKind.i64.wrap (n + (1 : Int))), bolA (Prod.snd (altS p)), bolA (!Prod.snd (altS p)), bolA false, intA (IntKind.i64.wrap (n + (1 : Int))), bolA (decide (IntKind.i64.wrap (n + (1 : Int)) > (16 : Int))), bolA (decide (IntKind.i64.wrap (n + (1 : Int)) > (16 : Int))), undefA, undefA, undefA, undefA, undefA, undefA, undefA, undefA], h := [[row0, row0, ⟨0, .box (.pv (.sl 0 true true [])) false⟩, ⟨1, .box (intA 80) false⟩, ⟨5, .box (.pv (.sl 0 true true [])) false⟩, ⟨6, .box (intA (IntKind.i64.wrap (n + (1 : Int)))) false⟩, row0, row0, row0, row0, row0, row0, row0, row0, ⟨gy, .lp .busy⟩, row0, row0, row0, row0, row0, row0, row0, row0, row0, row0, row0, row0, row0, row0, row0, z] ++ List.replicate 5 row0, F1, FR], g := g + 7 + 3 + 6 + 2 }) ∧
 ((decide (IntKind.i64.wrap (n + (1 : Int)) > (16 : Int))) = false →
 ((5 : Nat) = 5) ∧
 ((((LF.nl (Prod.fst (altS p))) = true → (List.map I.p (LF.l (Prod.fst (altS p)))) = [])) ∧ (((LF.nl (Prod.fst (altS p))) = false → (LF.k (Prod.fst (altS p))) = 11))) ∧
 ((List.isEmpty (List.map I.p (LF.l (Prod.fst (altS p))))) = true →
 ((5 : Nat) = 5) ∧
 R .normal { t := [strA (bs s), undefA, .mptr 0 2 0 0 0, .mptr 0 3 1 0 0, .mptr 0 4 5 0 0, .mptr 0 5 6 0 0, strA (bs p), .pv (LF.p (Prod.fst (altS p))), bolA (Prod.snd (altS p)), strA (bs s), intA ((↑(ByteArray.size (bs s)) : Int)), bolA (decide ((↑(ByteArray.size (bs s)) : Int) > (128 : Int))), strA (bs s), .clo (.func 88) [] [.mptr 1 2 10 0 0, .mptr 1 3 11 0 0], strA (bs p), .pv (.tup [LF.p (Prod.fst (altS p)), bolP (Prod.snd (altS p))]), strA (bs p), .pv (.tup [LF.p (Prod.fst (altS p)), bolP (Prod.snd (altS p))]), .pv (LF.p (Prod.fst (altS p))), bolA (Prod.snd (altS p)), intA n, intA (IntKind.i64.wrap (n + (1 : Int))), bolA (Prod.snd (altS p)), bolA (!Prod.snd (altS p)), bolA false, intA (IntKind.i64.wrap (n + (1 : Int))), bolA (decide (IntKind.i64.wrap (n + (1 : Int)) > (16 : Int))), bolA (decide (IntKind.i64.wrap (n + (1 : Int)) > (16 : Int))), .pv (.sl 0 true true []), .pv (LF.p (Prod.fst (altS p))), .pv (.sl 0 true true []), undefA, undefA, undefA, undefA, undefA], h := [[row0, row0, ⟨0, .box (.pv (.sl 0 true true [])) false⟩, ⟨1, .box (intA 0) false⟩, ⟨5, .box (.pv (.sl 0 true true [])) false⟩, ⟨6, .box (intA (IntKind.i64.wrap (n + (1 : Int)))) false⟩, row0, row0, row0, row0, row0, row0, row0, row0, ⟨gy, .lp .busy⟩, row0, row0, row0, row0, row0, row0, row0, row0, row0, row0, row0, row0, row0, row0, row0, z] ++ List.replicate 5 row0, F1, FR], g := g + 7 + 3 + 6 + 4 }) ∧
 ((List.isEmpty (List.map I.p (LF.l (Prod.fst (altS p))))) = false →
 (((0 : Nat) = 0) ∧ ((fitsRow (List.length (List.map I.p (LF.l (Prod.fst (altS p))))) (104 : Nat)) = true)) ∧
 ((5 : Nat) = 5) ∧
 R .normal { t := [strA (bs s), undefA, .mptr 0 2 0 0 0, .mptr 0 3 1 0 0, .mptr 0 4 5 0 0, .mptr 0 5 6 0 0, strA (bs p), .pv (LF.p (Prod.fst (altS p))), bolA (Prod.snd (altS p)), strA (bs s), intA ((↑(ByteArray.size (bs s)) : Int)), bolA (decide ((↑(ByteArray.size (bs s)) : Int) > (128 : Int))), strA (bs s), .clo (.func 88) [] [.mptr 1 2 10 0 0, .mptr 1 3 11 0 0], strA (bs p), .pv (.tup [LF.p (Prod.fst (altS p)), bolP (Prod.snd (altS p))]), strA (bs p), .pv (.tup [LF.p (Prod.fst (altS p)), bolP (Prod.snd (altS p))]), .pv (LF.p (Prod.fst (altS p))), bolA (Prod.snd (altS p)), intA n, intA (IntKind.i64.wrap (n + (1 : Int))), bolA (Prod.snd (altS p)), bolA (!Prod.snd (altS p)), bolA false, intA (IntKind.i64.wrap (n + (1 : Int))), bolA (decide (IntKind.i64.wrap (n + (1 : Int)) > (16 : Int))), bolA (decide (IntKind.i64.wrap (n + (1 : Int)) > (16 : Int))), .pv (.sl 0 true true []), .pv (LF.p (Prod.fst (altS p))), .msl 0 30 (g + 7 + 3 + 6 + 2) 0 (List.length (List.map I.p (LF.l (Prod.fst (altS p))))) false, undefA, undefA, undefA, undefA, undefA], h := [[row0, row0, ⟨0, .box (.pv (.sl 0 true true [])) false⟩, ⟨1, .box (intA 0) false⟩, ⟨5, .box (.msl 0 30 (g + 7 + 3 + 6 + 2) 0 (List.length (List.map I.p (LF.l (Prod.fst (altS p))))) false) false⟩, ⟨6, .box (intA (IntKind.i64.wrap (n + (1 : Int)))) false⟩, row0, row0, row0, row0, row0, row0, row0, row0, ⟨gy, .lp .busy⟩, row0, row0, row0, row0, row0, row0, row0, row0, row0, row0, row0, row0, row0, row0, row0, ⟨g + 7 + 3 + 6 + 2, .row 11 63 (List.map I.p (LF.l (Prod.fst (altS p)))) false⟩] ++ List.replicate 5 row0, F1, FR], g := g + 7 + 3 + 6 + 4 })))) := by kernel_rfl
theorem span_Read_a_af0 (s : List UInt8) (n : Int) (z : Row) (F1 : List Row) (g : Nat) (r : PV) : AfterGo E1 Tryz.f19 r 0 2000 (.res (.sl 0 true true []) (.res (.tup [.sl 0 true true [], intP 0]) (.hole 0))) .normal { t := [strA (bs s), undefA, .mptr 0 2 0 0 0, .mptr 0 3 1 0 0, .mptr 0 4 5 0 0, .mptr 0 5 6 0 0, undefA, undefA, undefA, strA (bs s), intA ((↑(ByteArray.size (bs s)) : Int)), bolA (decide ((↑(ByteArray.size (bs s)) : Int) > (128 : Int))), strA (bs s), .clo (.func 88) [] [.mptr 1 2 10 0 0, .mptr 1 3 11 0 0], undefA, undefA, undefA, undefA, undefA, undefA, undefA, undefA, undefA, undefA, undefA, undefA, undefA, undefA, undefA, undefA, undefA, undefA, undefA, undefA, undefA, undefA], h := [[row0, row0, ⟨0, .box (.pv (.sl 0 true true [])) false⟩, ⟨1, .box (intA 0) false⟩, ⟨5, .box (.pv (.sl 0 true true [])) false⟩, ⟨6, .box (intA n) false⟩, row0, row0, row0, row0, row0, row0, row0, row0, row0, row0, row0, row0, row0, row0, row0, row0, row0, row0, row0, row0, row0, row0, row0, row0, z] ++ List.replicate 5 row0, F1], g := g } =
  (((5 : Nat) = 5) ∧
 (Den E1 54 [.sl 0 true true []] (.sl 0 true true [])) ∧
 (Den E1 53 [.sl 0 true true []] (.tup [.sl 0 true true [], intP 0])) ∧
 ((0 : Nat) = 0) ∧
 ((1 : Nat) = 1) ∧
 ((.tup [.sl 0 true true [], intP 0]) : PV) = r) := by kernel_rfl
theorem span_Read_b_bd0 (s : List UInt8) (p : List UInt8) (n : Int) (l : List I) (gm : Nat) (F1 : List Row) (FR : List Row) (gy : Nat) (g : Nat) (R : AExit → St → Prop) : BodyGo E1 Tryz.f19 0 R 2000 (.res (.tup [LF.p (Prod.fst (altS p)), bolP (Prod.snd (altS p))]) (.fork (.lts 4 (.hole 0)) (.lts 3 (.fork (.hole 0) (.lit (.hole 0)))))) { t := [strA (bs s), undefA, .mptr 0 2 0 0 0, .mptr 0 3 1 0 0, .mptr 0 4 5 0 0, .mptr 0 5 6 0 0, strA (bs p), undefA, undefA, strA (bs s), intA ((↑(ByteArray.size (bs s)) : Int)), bolA (decide ((↑(ByteArray.size (bs s)) : Int) > (128 : Int))), strA (bs s), .clo (.func 88) [] [.mptr 1 2 10 0 0, .mptr 1 3 11 0 0], strA (bs p), undefA, undefA, undefA, undefA, undefA, undefA, undefA, undefA, undefA, undefA, undefA, undefA, undefA, undefA, undefA, undefA, undefA, undefA, undefA, undefA, undefA], h := [[row0, row0, ⟨0, .box (.pv (.sl 0 true true [])) false⟩, ⟨1, .box (intA 0) false⟩, ⟨5, .box (.msl 0 30 gm 0 (List.length l) false) false⟩, ⟨6, .box (intA n) false⟩, row0, row0, row0, row0, row0, row0, row0, row0, ⟨gy, .lp .busy⟩, row0, row0, row0, row0, row0, row0, row0, row0, row0, row0, row0, row0, row0, row0, row0, ⟨gm, .row 11 63 (List.map I.p l) false⟩] ++ List.replicate 5 row0, F1, FR], g := g } =
  ((Den E1 52 [strP p] (.tup [LF.p (Prod.fst (altS p)), bolP (Prod.snd (altS p))])) ∧
 ((6 : Nat) = 6) ∧
 ((6 : Nat) = 6) ∧
 ((!Prod.snd (altS p)) = true →
 ((0 : Nat) = 0) ∧
 ((1 : Nat) = 1) ∧
 R .ret { t := [strA (bs s), undefA, .mptr 0 2 0 0 0, .mptr 0 3 1 0 0, .mptr 0 4 5 0 0, .mptr 0 5 6 0 0, strA (bs p), .pv (LF.p (Prod.fst (altS p))), bolA (Prod.snd (altS p)), strA (bs s), intA ((↑(ByteArray.size (bs s)) : Int)), bolA (decide ((↑(ByteArray.size (bs s)) : Int) > (128 : Int))), strA (bs s), .clo (.func 88) [] [.mptr 1 2 10 0 0, .mptr 1 3 11 0 0], strA (bs p), .pv (.tup [LF.p (Prod.fst (altS p)), bolP (Prod.snd (altS p))]), strA (bs p), .pv (.tup [LF.p (Prod.fst (altS p)), bolP (Prod.snd (altS p))]), .pv (LF.p (Prod.fst (altS p))), bolA (Prod.snd (altS p)), intA n, intA (IntKind.i64.wrap (n + (1 : Int))), bolA (Prod.snd (altS p)), bolA (!Prod.snd (altS p)), bolA true, undefA, undefA, bolA true, undefA, undefA, undefA, undefA, undefA, undefA, undefA, undefA], h := [[row0, row0, ⟨0, .box (.pv (.sl 0 true true [])) false⟩, ⟨1, .box (intA 80) false⟩, ⟨5, .box (.msl 0 30 gm 0 (List.length l) false) false⟩, ⟨6, .box (intA (IntKind.i64.wrap (n + (1 : Int)))) false⟩, row0, row0, row0, row0, row0, row0, row0, row0, ⟨gy, .lp .busy⟩, row0, row0, row0, row0, row0, row0, row0, row0, row0, row0, row0, row0, row0, row0, row0, ⟨gm, .row 11 63 (List.map I.p l) false⟩] ++ List.replicate 5 row0, F1, FR], g := g + 7 + 3 + 6 + 2 }) ∧
 ((!Prod.snd (altS p)) = false →
 ((6 : Nat) = 6) ∧
 ((decide (IntKind.i64.wrap (n + (1 : Int)) > (16 : Int))) = true →
 ((0 : Nat) = 0) ∧
 ((1 : Nat) = 1) ∧
 R .ret { t := [strA (bs s), undefA, .mptr 0 2 0 0 0, .mptr 0 3 1 0 0, .mptr 0 4 5 0 0, .mptr 0 5 6 0 0, strA (bs p), .pv (LF.p (Prod.fst (altS p))), bolA (Prod.snd (altS p)), strA (bs s), intA ((↑(ByteArray.size (bs s)) : Int)), bolA (decide ((↑(ByteArray.size (bs s)) : Int) > (128 : Int))), strA (bs s), .clo (.func 88) [] [.mptr 1 2 10 0 0, .mptr 1 3 11 0 0], strA (bs p), .pv (.tup [LF.p (Prod.fst (altS p)), bolP (Prod.snd (altS p))]), strA (bs p), .pv (.tup [LF.p (Prod.fst (altS p)), bolP (Prod.snd (altS p))]), .pv (LF.p (Prod.fst (altS p))), bolA (Prod.snd (altS p)), intA n, intA (IntKind.i64.wrap (n + (1 : Int))), bolA (Prod.snd (altS p)), bolA (!Prod.snd (altS p)), bolA false, intA (IntKind.i64.wrap (n + (1 : Int))), bolA (decide (IntKind.i64.wrap (n + (1 : Int)) > (16 : Int))), bolA (decide (IntKind.i64.wrap (n + (1 : Int)) > (16 : Int))), undefA, undefA, undefA, undefA, undefA, undefA, undefA, undefA], h := [[row0, row0, ⟨0, .box (.pv (.sl 0 true true [])) false⟩, ⟨1, .box (intA 80) false⟩, ⟨5, .box (.msl 0 30 gm 0 (List.length l) false) false⟩, ⟨6, .box (intA (IntKind.i64.wrap (n + (1 : Int)))) false⟩, row0, row0, row0, row0, row0, row0, row0, row0, ⟨gy, .lp .busy⟩, row0, row0, row0, row0, row0, row0, row0, row0, row0, row0, row0, row0, row0, row0, row0, ⟨gm, .row 11 63 (List.map I.p l) false⟩] ++ List.replicate 5 row0, F1, FR], g := g + 7 + 3 + 6 + 2 }) ∧
 ((decide (IntKind.i64.wrap (n + (1 : Int)) > (16 : Int))) = false →
 ((5 : Nat) = 5) ∧
 ((((LF.nl (Prod.fst (altS p))) = true → (List.map I.p (LF.l (Prod.fst (altS p)))) = [])) ∧ (((LF.nl (Prod.fst (altS p))) = false → (LF.k (Prod.fst (altS p))) = 11))) ∧
 (gm = gm) ∧
 ((false = false) ∧ (((11 : Nat) = 11) ∧ (((63 : Nat) = 63) ∧ ((((0 : Nat) + List.length l) = List.length (List.map I.p l)) ∧ ((fitsRow (List.length l + List.length (List.map I.p (LF.l (Prod.fst (altS p))))) (104 : Nat)) = true))))) ∧
 ((5 : Nat) = 5) ∧
 R .normal { t := [strA (bs s), undefA, .mptr 0 2 0 0 0, .mptr 0 3 1 0 0, .mptr 0 4 5 0 0, .mptr 0 5 6 0 0, strA (bs p), .pv (LF.p (Prod.fst (altS p))), bolA (Prod.snd (altS p)), strA (bs s), intA ((↑(ByteArray.size (bs s)) : Int)), bolA (decide ((↑(ByteArray.size (bs s)) : Int) > (128 : Int))), strA (bs s), .clo (.func 88) [] [.mptr 1 2 10 0 0, .mptr 1 3 11 0 0], strA (bs p), .pv (.tup [LF.p (Prod.fst (altS p)), bolP (Prod.snd (altS p))]), strA (bs p), .pv (.tup [LF.p (Prod.fst (altS p)), bolP (Prod.snd (altS p))]), .pv (LF.p (Prod.fst (altS p))), bolA (Prod.snd (altS p)), intA n, intA (IntKind.i64.wrap (n + (1 : Int))), bolA (Prod.snd (altS p)), bolA (!Prod.snd (altS p)), bolA false, intA (IntKind.i64.wrap (n + (1 : Int))), bolA (decide (IntKind.i64.wrap (n + (1 : Int)) > (16 : Int))), bolA (decide (IntKind.i64.wrap (n + (1 : Int)) > (16 : Int))), .msl 0 30 gm 0 (List.length l) false, .pv (LF.p (Prod.fst (altS p))), .msl 0 30 (g + 7 + 3 + 6 + 2) 0 (List.length l + List.length (List.map I.p (LF.l (Prod.fst (altS p))))) false, undefA, undefA, undefA, undefA, undefA], h := [[row0, row0, ⟨0, .box (.pv (.sl 0 true true [])) false⟩, ⟨1, .box (intA 0) false⟩, ⟨5, .box (.msl 0 30 (g + 7 + 3 + 6 + 2) 0 (List.length l + List.length (List.map I.p (LF.l (Prod.fst (altS p))))) false) false⟩, ⟨6, .box (intA (IntKind.i64.wrap (n + (1 : Int)))) false⟩, row0, row0, row0, row0, row0, row0, row0, row0, ⟨gy, .lp .busy⟩, row0, row0, row0, row0, row0, row0, row0, row0, row0, row0, row0, row0, row0, row0, row0, ⟨g + 7 + 3 + 6 + 2, .row 11 63 (List.drop (0 : Nat) (List.map I.p l) ++ List.map I.p (LF.l (Prod.fst (altS p)))) false⟩] ++ List.replicate 5 row0, F1, FR], g := g + 7 + 3 + 6 + 4 }))) := by kernel_rfl
theorem span_Read_b_af0 (s : List UInt8) (n : Int) (l : List I) (gm : Nat) (F1 : List Row) (g : Nat) (r : PV) : AfterGo E1 Tryz.f19 r 0 2000 (.frz [.sl 11 false false (List.map I.p l)] [[row0, row0, ⟨0, .box (.pv (.sl 0 true true [])) false⟩, ⟨1, .box (intA 0) false⟩, ⟨5, .box (.msl 0 30 gm 0 (List.length l) false) false⟩, ⟨6, .box (intA n) false⟩, row0, row0, row0, row0, row0, row0, row0, row0, row0, row0, row0, row0, row0, row0, row0, row0, row0, row0, row0, row0, row0, row0, row0, row0, ⟨gm, .row 11 63 (List.map I.p l) true⟩] ++ List.replicate 5 row0, F1] (.res (resL (joinS l)) (.res (.tup [LF.p (Prod.fst (limS (joinS l))), intP (Prod.snd (limS (joinS l)))]) (.hole 0)))) .normal { t := [strA (bs s), undefA, .mptr 0 2 0 0 0, .mptr 0 3 1 0 0, .mptr 0 4 5 0 0, .mptr 0 5 6 0 0, undefA, undefA, undefA, strA (bs s), intA ((↑(ByteArray.size (bs s)) : Int)), bolA (decide ((↑(ByteArray.size (bs s)) : Int) > (128 : Int))), strA (bs s), .clo (.func 88) [] [.mptr 1 2 10 0 0, .mptr 1 3 11 0 0], undefA, undefA, undefA, undefA, undefA, undefA, undefA, undefA, undefA, undefA, undefA, undefA, undefA, undefA, undefA, undefA, undefA, undefA, undefA, undefA, undefA, undefA], h := [[row0, row0, ⟨0, .box (.pv (.sl 0 true true [])) false⟩, ⟨1, .box (intA 0) false⟩, ⟨5, .box (.msl 0 30 gm 0 (List.length l) false) false⟩, ⟨6, .box (intA n) false⟩, row0, row0, row0, row0, row0, row0, row0, row0, row0, row0, row0, row0, row0, row0, row0, row0, row0, row0, row0, row0, row0, row0, row0, row0, ⟨gm, .row 11 63 (List.map I.p l) false⟩] ++ List.replicate 5 row0, F1], g := g } =
  (((5 : Nat) = 5) ∧
 (frzs frzDepth [.msl 0 30 gm 0 (List.length l) false] [[row0, row0, ⟨0, .box (.pv (.sl 0 true true [])) false⟩, ⟨1, .box (intA 0) false⟩, ⟨5, .box (.msl 0 30 gm 0 (List.length l) false) false⟩, ⟨6, .box (intA n) false⟩, row0, row0, row0, row0, row0, row0, row0, row0, row0, row0, row0, row0, row0, row0, row0, row0, row0, row0, row0, row0, row0, row0, row0, row0, ⟨gm, .row 11 63 (List.map I.p l) false⟩] ++ List.replicate 5 row0, F1] = some ([.sl 11 false false (List.map I.p l)], [[row0, row0, ⟨0, .box (.pv (.sl 0 true true [])) false⟩, ⟨1, .box (intA 0) false⟩, ⟨5, .box (.msl 0 30 gm 0 (List.length l) false) false⟩, ⟨6, .box (intA n) false⟩, row0, row0, row0, row0, row0, row0, row0, row0, row0, row0, row0, row0, row0, row0, row0, row0, row0, row0, row0, row0, row0, row0, row0, row0, ⟨gm, .row 11 63 (List.map I.p l) true⟩] ++ List.replicate 5 row0, F1])) ∧
 (Den E1 54 [.sl 11 false false (List.map I.p l)] (resL (joinS l))) ∧
 (Den E1 53 [resL (joinS l)] (.tup [LF.p (Prod.fst (limS (joinS l))), intP (Prod.snd (limS (joinS l)))])) ∧
 ((0 : Nat) = 0) ∧
 ((1 : Nat) = 1) ∧
 ((.tup [LF.p (Prod.fst (limS (joinS l))), intP (Prod.snd (limS (joinS l)))]) : PV) = r) := by kernel_rfl
theorem span_Read_af0r (s : List UInt8) (n : Int) (l : AV) (z : Row) (F1 : List Row) (g : Nat) (r : PV) : AfterGo E1 Tryz.f19 r 0 2000 (.hole 0) .ret { t := [strA (bs s), undefA, .mptr 0 2 0 0 0, .mptr 0 3 1 0 0, .mptr 0 4 5 0 0, .mptr 0 5 6 0 0, undefA, undefA, undefA, strA (bs s), intA ((↑(ByteArray.size (bs s)) : Int)), bolA (decide ((↑(ByteArray.size (bs s)) : Int) > (128 : Int))), strA (bs s), .clo (.func 88) [] [.mptr 1 2 10 0 0, .mptr 1 3 11 0 0], undefA, undefA, undefA, undefA, undefA, undefA, undefA, undefA, undefA, undefA, undefA, undefA, undefA, undefA, undefA, undefA, undefA, undefA, undefA, undefA, undefA, undefA], h := [[row0, row0, ⟨0, .box (.pv (.sl 0 true true [])) false⟩, ⟨1, .box (intA 80) false⟩, ⟨5, .box l false⟩, ⟨6, .box (intA n) false⟩, row0, row0, row0, row0, row0, row0, row0, row0, row0, row0, row0, row0, row0, row0, row0, row0, row0, row0, row0, row0, row0, row0, row0, row0, z] ++ List.replicate 5 row0, F1], g := g } =
  (((.tup [.sl 0 true true [], intP 80]) : PV) = r) := by kernel_rfl
end Go.Proofs.YtlhfgonjcpapnaaGreatDoor.Abs

set_option maxRecDepth 20000
namespace Go.Proofs.YtlhfgonjcpapnaaGreatDoor.Abs
open Go Go.Proofs
theorem assign_ok {fn : Func} {k : Nat} {R : AExit → St → Prop} {n : Nat} {scr : Scr} {s : St} {f : Operand} {ps : Array Tmp} {a b : Code} {fr : List Frame} (hk : (rangesOf (bodyOf fn) [])[k]? = some (f, ps, a, b, fr)) (h : AssignGo E1 fn k R n scr s) : Wp E1 noY 0 a R s := by
  unfold AssignGo at h
  rw [hk] at h
  exact wpGo_ok n scr _ h
theorem body_ok {fn : Func} {k : Nat} {R : AExit → St → Prop} {n : Nat} {scr : Scr} {s : St} {f : Operand} {ps : Array Tmp} {a b : Code} {fr : List Frame} (hk : (rangesOf (bodyOf fn) [])[k]? = some (f, ps, a, b, fr)) (h : BodyGo E1 fn k R n scr s) : Wp E1 noY 0 b R s := by
  unfold BodyGo at h
  rw [hk] at h
  exact wpGo_ok n scr _ h
theorem after_ok {fn : Func} {r : PV} {k n : Nat} {scr : Scr} {x : AExit} {s : St} {f : Operand} {ps : Array Tmp} {a b : Code} {fr : List Frame} (hk : (rangesOf (bodyOf fn) [])[k]? = some (f, ps, a, b, fr)) (h : AfterGo E1 fn r k n scr x s) : KQ E1 noY 0 fr (finQ E1.P fn r) x s := by
  unfold AfterGo at h
  rw [hk] at h
  exact wpGo_ok n scr _ h
theorem rangeF_split {fn : Func} {r : PV} {k sl : Nat} {t : List AV} {f0 : List Row} {s sep : List UInt8} {g g1 g2 : Nat}
    (hshape : ((rangesOf (bodyOf fn) [])[k]?.map fun x => (evalA t x.1, x.2.1)) = some (.clo (.func 88) [] [.mptr 1 2 g1 0 0, .mptr 1 3 g2 0 0], #[sl])) (hsep : sep ≠ []) (hl : s.length < 4294967281)
    (Inv : List (List UInt8) → List Row → Prop) (Fin : AExit → List Row → Prop) (h0 : Inv (Lib.split s sep) (putL row0 f0 sl ⟨g, .lp .ready⟩))
    (hround : ∀ p rest f0 F1 FR g', Inv (p :: rest) f0 → live [f0, F1, FR] 0 sl g = .lp .ready ∧ ∃ n1 sc1, AssignGo E1 fn k (fun x s1 => x = .normal ∧ live s1.h 0 sl g = .lp .ready ∧
      ∃ n2 sc2, BodyGo E1 fn k (fun x s2 => live s2.h 0 sl g = .lp .busy ∧ ∃ f0', hput s2.h 0 sl ⟨g, .lp (if x = .normal then .ready else .done x)⟩ = [f0', F1, FR] ∧ (x = .normal → Inv rest f0') ∧ (x ≠ .normal → Fin x f0')) n2 sc2 { s1 with h := hput s1.h 0 sl ⟨g, .lp .busy⟩ }) n1 sc1
      { t := setTs [sl] [strA (bs p)] t, h := [f0, F1, FR], g := g' })
    (hend : ∀ f0 F1 g', Inv [] f0 → live [f0, F1] 0 sl g = .lp .ready ∧ ∃ n1 sc1, AfterGo E1 fn r k n1 sc1 .normal { t := t, h := hput [f0, F1] 0 sl row0, g := g' })
    (hfin : ∀ x f0 F1 g', Fin x f0 → x ≠ .normal ∧ live [f0, F1] 0 sl g = .lp (.done x) ∧ ∃ n1 sc1, AfterGo E1 fn r k n1 sc1 x { t := t, h := hput [f0, F1] 0 sl row0, g := g' }) :
    RangeAtF E1 fn r k { t := t, h := [f0, [row0, row0, ⟨g1, .box (strA (bs s)) false⟩, ⟨g2, .box (strA (bs sep)) false⟩, row0, row0]], g := g } := by
  unfold RangeAtF
  cases hk : (rangesOf (bodyOf fn) [])[k]? with
  | none => rw [hk] at hshape; cases hshape
  | some q =>
    obtain ⟨f, ps, a, b, fr⟩ := q
    rw [hk] at hshape
    simp only [Option.map_some, Option.some.injEq, Prod.mk.injEq] at hshape
    obtain ⟨hev, hps⟩ := hshape
    refine range_split hev hps hsep hl Inv Fin h0 (fun p rest f0 F1 FR g' hI => ?_) (fun f0 F1 g' hI => ?_) (fun x f0 F1 g' hF => ?_)
    · obtain ⟨h1, n1, sc1, h2⟩ := hround p rest f0 F1 FR g' hI
      refine ⟨h1, ?_⟩
      obtain ⟨x, s1, hr, hx, hlv, n2, sc2, h3⟩ := assign_ok hk h2
      exact ⟨x, s1, hr, hx, hlv, body_ok hk h3⟩
    · obtain ⟨h1, n1, sc1, h2⟩ := hend f0 F1 g' hI
      exact ⟨h1, after_ok hk h2⟩
    · obtain ⟨h0, h1, n1, sc1, h2⟩ := hfin x f0 F1 g' hF
      exact ⟨h0, h1, after_ok hk h2⟩
end Go.Proofs.YtlhfgonjcpapnaaGreatDoor.Abs

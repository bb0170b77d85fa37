/-
  The abstract machine over the model, its soundness, walks of the program's functions and what they compute. Conditions: the values are of their types.
-/
import Derived.Test.YtlhfgonjcpapnaaGreatDoorNj

set_option linter.all false
set_option linter.unnecessarySimpa false

namespace Go.Proofs.YtlhfgonjcpapnaaGreatDoor.Abs
open Go Go.Proofs
theorem version_Least_go (v : V) (r : PV) : FnGo E1 Tryz.f131 [V.p v] r 2000 (.res (intP (errV (mayV v))) (.fork (.hole 0) (.lit (.fork (.ev (.res (.sl 1 false true [PV.lit (.string (bs [48]))]) (.hole 0))) (.ev (.res (.sl 1 false true [PV.lit (.string (bs [48]))]) (.hole 0))))))) =
  (((0 : Nat) = 0) ∧
 (Den E1 59 [V.p v] (intP (errV (mayV v)))) ∧
 ((errV (mayV v) != (0 : Int)) = true →
 ((1 : Nat) = 1) ∧
 ((.tup [verP 0 0 0 (.sl 0 true true []), intP 70]) : PV) = r) ∧
 ((errV (mayV v) != (0 : Int)) = false →
 ((0 : Nat) = 0) ∧
 (((0 : Int) ≤ (0 : Int)) ∧ ((0 : Int) ≤ (↑(List.length (List.map strP (V.pre v))) : Int))) ∧
 (((0 : Int) ≤ (0 : Int)) ∧ ((0 : Int) ≤ (0 : Int))) ∧
 (((V.nl v) = true) ∨ ((V.k v) = 1)) ∧
 ((9 : Nat) = 9) ∧
 (((1 : Nat) = 1) ∧ ((1 : Nat) ≤ (1 : Nat))) ∧
 ((V.nl v) = true →
 (((0 : Nat) = 0) ∧ (true = true)) ∧
 ((0 : Nat) = 0) ∧
 ((0 : Nat) = 0) ∧
 (Den E1 71 [.sl 1 false false [PV.lit (.string (bs [48]))]] (.sl 1 false true [PV.lit (.string (bs [48]))])) ∧
 ((0 : Nat) = 0) ∧
 ((0 : Nat) = 0) ∧
 ((1 : Nat) = 1) ∧
 ((.tup [verP (V.a v) (V.b v) (V.c v) (.sl 1 false true [PV.lit (.string (bs [48]))]), intP 0]) : PV) = r) ∧
 ((V.nl v) = false →
 ((true = true) ∧ (((V.k v) = 1) ∧ (true = true))) ∧
 ((0 : Nat) = 0) ∧
 ((0 : Nat) = 0) ∧
 (Den E1 71 [.sl 1 false false [PV.lit (.string (bs [48]))]] (.sl 1 false true [PV.lit (.string (bs [48]))])) ∧
 ((0 : Nat) = 0) ∧
 ((0 : Nat) = 0) ∧
 ((1 : Nat) = 1) ∧
 ((.tup [verP (V.a v) (V.b v) (V.c v) (.sl 1 false true [PV.lit (.string (bs [48]))]), intP 0]) : PV) = r))) := by kernel_rfl
theorem strings_makeASCIISet_go (r : PV) : FnGo E1 Tryz.f151 [PV.lit (.string (bs [60, 62, 61, 126, 94]))] r 2000 (.go (.lit (.lit (.go (.lit (.lit (.go (.lit (.lit (.go (.lit (.lit (.go (.lit (.lit (.go (.lit (.hole 0)))))))))))))))))) =
  ((((0 : Int) ≤ (0 : Int)) ∧ ((0 : Nat) < (5 : Nat))) ∧
 (((0 : Int) ≤ (60 : Int)) ∧ ((60 : Int) < (256 : Int))) ∧
 ((0 : Nat) = 0) ∧
 (((0 : Int) ≤ (1 : Int)) ∧ ((1 : Nat) < (5 : Nat))) ∧
 (((0 : Int) ≤ (62 : Int)) ∧ ((62 : Int) < (256 : Int))) ∧
 ((0 : Nat) = 0) ∧
 (((0 : Int) ≤ (2 : Int)) ∧ ((2 : Nat) < (5 : Nat))) ∧
 (((0 : Int) ≤ (61 : Int)) ∧ ((61 : Int) < (256 : Int))) ∧
 ((0 : Nat) = 0) ∧
 (((0 : Int) ≤ (3 : Int)) ∧ ((3 : Nat) < (5 : Nat))) ∧
 (((0 : Int) ≤ (126 : Int)) ∧ ((126 : Int) < (256 : Int))) ∧
 ((0 : Nat) = 0) ∧
 (((0 : Int) ≤ (4 : Int)) ∧ ((4 : Nat) < (5 : Nat))) ∧
 (((0 : Int) ≤ (94 : Int)) ∧ ((94 : Int) < (256 : Int))) ∧
 ((0 : Nat) = 0) ∧
 ((0 : Nat) = 0) ∧
 ((0 : Nat) = 0) ∧
 ((.tup [.agg [bolP false, bolP false, bolP false, bolP false, bolP false, bolP false, bolP false, bolP false, bolP false, bolP false, bolP false, bolP false, bolP false, bolP false, bolP false, bolP false, bolP false, bolP false, bolP false, bolP false, bolP false, bolP false, bolP false, bolP false, bolP false, bolP false, bolP false, bolP false, bolP false, bolP false, bolP false, bolP false, bolP false, bolP false, bolP false, bolP false, bolP false, bolP false, bolP false, bolP false, bolP false, bolP false, bolP false, bolP false, bolP false, bolP false, bolP false, bolP false, bolP false, bolP false, bolP false, bolP false, bolP false, bolP false, bolP false, bolP false, bolP false, bolP false, bolP false, bolP false, bolP true, bolP true, bolP true, bolP false, bolP false, bolP false, bolP false, bolP false, bolP false, bolP false, bolP false, bolP false, bolP false, bolP false, bolP false, bolP false, bolP false, bolP false, bolP false, bolP false, bolP false, bolP false, bolP false, bolP false, bolP false, bolP false, bolP false, bolP false, bolP false, bolP false, bolP false, bolP false, bolP false, bolP false, bolP true, bolP false, bolP false, bolP false, bolP false, bolP false, bolP false, bolP false, bolP false, bolP false, bolP false, bolP false, bolP false, bolP false, bolP false, bolP false, bolP false, bolP false, bolP false, bolP false, bolP false, bolP false, bolP false, bolP false, bolP false, bolP false, bolP false, bolP false, bolP false, bolP false, bolP false, bolP false, bolP true, bolP false, bolP false, bolP false, bolP false, bolP false, bolP false, bolP false, bolP false, bolP false, bolP false, bolP false, bolP false, bolP false, bolP false, bolP false, bolP false, bolP false, bolP false, bolP false, bolP false, bolP false, bolP false, bolP false, bolP false, bolP false, bolP false, bolP false, bolP false, bolP false, bolP false, bolP false, bolP false, bolP false, bolP false, bolP false, bolP false, bolP false, bolP false, bolP false, bolP false, bolP false, bolP false, bolP false, bolP false, bolP false, bolP false, bolP false, bolP false, bolP false, bolP false, bolP false, bolP false, bolP false, bolP false, bolP false, bolP false, bolP false, bolP false, bolP false, bolP false, bolP false, bolP false, bolP false, bolP false, bolP false, bolP false, bolP false, bolP false, bolP false, bolP false, bolP false, bolP false, bolP false, bolP false, bolP false, bolP false, bolP false, bolP false, bolP false, bolP false, bolP false, bolP false, bolP false, bolP false, bolP false, bolP false, bolP false, bolP false, bolP false, bolP false, bolP false, bolP false, bolP false, bolP false, bolP false, bolP false, bolP false, bolP false, bolP false, bolP false, bolP false, bolP false, bolP false, bolP false, bolP false, bolP false, bolP false, bolP false, bolP false, bolP false, bolP false, bolP false, bolP false, bolP false, bolP false, bolP false, bolP false, bolP false, bolP false, bolP false, bolP false, bolP false, bolP false, bolP false, bolP false, bolP false, bolP false, bolP false, bolP false], bolP true]) : PV) = r) := by kernel_rfl
end Go.Proofs.YtlhfgonjcpapnaaGreatDoor.Abs

set_option maxRecDepth 20000
namespace Go.Proofs.YtlhfgonjcpapnaaGreatDoor.Abs
open Go Go.Proofs
theorem den_top : Den E1 90 [] (edgP 0 0 0 (.sl 0 true true []) false true) :=
  den1 2000 _ rfl (by kernel_rfl) rfl rfl rfl (Eq.mpr (span_top_go _) ⟨rfl, rfl⟩)
theorem den_from (v : V) (o : Bool) : Den E1 128 [v.p, bolP o] (lf1 (fromI v o)).p :=
  den1 2000 _ rfl (by kernel_rfl) rfl rfl rfl (Eq.mpr (span_from_go v o _) ⟨rfl, den_top, den_between ⟨v, o, false⟩ ⟨zV, false, true⟩, ex_frz (by kernel_rfl)⟩)
theorem bottom_ok : bottomV.ok := ⟨⟨by decide, by decide⟩, ⟨by decide, by decide⟩, ⟨by decide, by decide⟩, ⟨by simp [bottomV], by simp [bottomV]⟩, by simp [bottomV, small], by simp [bottomV, small]⟩
theorem bottom_may : mayV bottomV = true := by decide
theorem zV_ok : zV.ok := ⟨⟨by decide, by decide⟩, ⟨by decide, by decide⟩, ⟨by decide, by decide⟩, ⟨by simp [zV], by simp [zV]⟩, by simp [zV, small], by simp [zV, small]⟩
theorem zV_may : mayV zV = true := by decide
theorem den_span_below (v : V) (o : Bool) (hv : v.ok) : Den E1 129 [v.p, bolP o] (resL (joinS [downI v o])) := by
  have h := span_below_go v o (resL (joinS [downI v o]))
  simp only [Bool.not_not] at h
  exact den1 2000 _ rfl (by kernel_rfl) rfl rfl rfl (Eq.mpr h ⟨den_bottom, trivial, by
      have := den_between bottomE ⟨v, !o, false⟩
      have e : betE bottomE ⟨v, !o, false⟩ = downI v o := by simp [betE, bottomE, downI]
      rw [e] at this
      exact this,
    den_join20 [downI v o] 11 false true ⟨by simp, fun _ => rfl⟩ (by simp) (Nat.lt_of_le_of_lt (delN_le _) (by simp)) (fun x hx => by simp only [List.mem_singleton] at hx; subst hx; exact ⟨bottom_ok, hv⟩), rfl⟩)
theorem den_Next0 (v : V) (hv : v.ok) : Den E1 130 [v.p, intP 0] (.tup [(nextV v 0).p, intP (nextE v 0)]) := by
  refine den1 2000 _ rfl (by kernel_rfl) rfl rfl rfl (Eq.mpr (version_Next_0_go v _) ⟨rfl, den_version_May v hv, fun h1 => ⟨rfl, ?_⟩, fun h1 => ⟨rfl, rfl, rfl, rfl, by decide, rfl, fun h2 => ⟨rfl, ?_⟩, fun h2 => ?_⟩⟩)
  · have hm : mayV v = false := by cases hm : mayV v <;> simp [hm, errV] at h1 ⊢
    simp [nextV, nextE, nextOk, hm, zV]
  · have hm : mayV v = true := by cases hm : mayV v <;> simp [hm, errV] at h1 ⊢
    have h2' : v.a = 2147483647 := by simpa using h2
    simp [nextV, nextE, nextOk, hm, zV, h2']
  · have hm : mayV v = true := by cases hm : mayV v <;> simp [hm, errV] at h1 ⊢
    have h2' : ¬ v.a = 2147483647 := by simpa using h2
    simp [nextV, nextE, nextOk, hm, zV, h2']
theorem den_Next1 (v : V) (hv : v.ok) : Den E1 130 [v.p, intP 1] (.tup [(nextV v 1).p, intP (nextE v 1)]) := by
  refine den1 2000 _ rfl (by kernel_rfl) rfl rfl rfl (Eq.mpr (version_Next_1_go v _) ⟨rfl, den_version_May v hv, fun h1 => ⟨rfl, ?_⟩, fun h1 => ⟨rfl, rfl, rfl, rfl, by decide, rfl, fun h2 => ⟨rfl, ?_⟩, fun h2 => ?_⟩⟩)
  · have hm : mayV v = false := by cases hm : mayV v <;> simp [hm, errV] at h1 ⊢
    simp [nextV, nextE, nextOk, hm, zV]
  · have hm : mayV v = true := by cases hm : mayV v <;> simp [hm, errV] at h1 ⊢
    have h2' : v.b = 2147483647 := by simpa using h2
    simp [nextV, nextE, nextOk, hm, zV, h2']
  · have hm : mayV v = true := by cases hm : mayV v <;> simp [hm, errV] at h1 ⊢
    have h2' : ¬ v.b = 2147483647 := by simpa using h2
    simp [nextV, nextE, nextOk, hm, zV, h2']
theorem den_Next2 (v : V) (hv : v.ok) : Den E1 130 [v.p, intP 2] (.tup [(nextV v 2).p, intP (nextE v 2)]) := by
  refine den1 2000 _ rfl (by kernel_rfl) rfl rfl rfl (Eq.mpr (version_Next_2_go v _) ⟨rfl, den_version_May v hv, fun h1 => ⟨rfl, ?_⟩, fun h1 => ⟨rfl, rfl, rfl, rfl, by decide, rfl, fun h2 => ⟨rfl, ?_⟩, fun h2 => ?_⟩⟩)
  · have hm : mayV v = false := by cases hm : mayV v <;> simp [hm, errV] at h1 ⊢
    simp [nextV, nextE, nextOk, hm, zV]
  · have hm : mayV v = true := by cases hm : mayV v <;> simp [hm, errV] at h1 ⊢
    have h2' : v.c = 2147483647 := by simpa using h2
    simp [nextV, nextE, nextOk, hm, zV, h2']
  · have hm : mayV v = true := by cases hm : mayV v <;> simp [hm, errV] at h1 ⊢
    have h2' : ¬ v.c = 2147483647 := by simpa using h2
    simp [nextV, nextE, nextOk, hm, zV, h2']
theorem den_Next (v : V) (hv : v.ok) (n : Int) (h0 : 0 ≤ n) (h2 : n ≤ 2) : Den E1 130 [v.p, intP n] (.tup [(nextV v n).p, intP (nextE v n)]) := by
  rcases (show n = 0 ∨ n = 1 ∨ n = 2 by omega) with rfl | rfl | rfl
  · exact den_Next0 v hv
  · exact den_Next1 v hv
  · exact den_Next2 v hv
theorem den_Clip (k : Nat) (nl full : Bool) (x : List (List UInt8)) (hs : slOk 1 k nl x.length) : Den E1 71 [preP k nl full x] (preP k nl true x) := by
  refine den1 2000 _ rfl (by kernel_rfl) rfl rfl rfl (Eq.mpr (slices_Clip_string_string_go k nl full x _) ?_)
  have hk : nl = true ∨ k = 1 := by cases nl with
    | true => exact .inl rfl
    | false => exact .inr (hs.2 rfl)
  simp only [List.length_map, Int.toNat_natCast, gI_nat, gI_zero, Nat.sub_zero, List.drop_zero, beq_self_eq_true]
  refine ⟨⟨by omega, by omega⟩, ⟨by omega, by omega⟩, hk, ?_⟩
  rw [List.take_of_length_le (by simp)]
theorem den_Least (v : V) (hv : v.ok) (hm : mayV v = true) : Den E1 131 [v.p] (.tup [(leastV v).p, intP 0]) := by
  have hc : Den E1 71 [preP 1 false false [[48]]] (preP 1 false true [[48]]) := den_Clip 1 false false [[48]] ⟨by simp, fun _ => rfl⟩
  have hk : v.nl = true ∨ v.k = 1 := by cases h : v.nl with
    | true => exact .inl rfl
    | false => exact .inr (hv.sl.2 h)
  refine den1 2000 _ rfl (by kernel_rfl) rfl rfl rfl (Eq.mpr (version_Least_go v _) ⟨rfl, den_version_May v hv, fun h1 => ?_, fun h1 => ⟨rfl, ⟨by omega, by omega⟩, by decide, hk, rfl, by decide, fun h2 => ⟨by decide, rfl, rfl, hc, rfl, rfl, rfl, rfl⟩, fun h2 => ⟨⟨rfl, hv.sl.2 h2, rfl⟩, rfl, rfl, hc, rfl, rfl, rfl, rfl⟩⟩⟩)
  simp [hm, errV] at h1
end Go.Proofs.YtlhfgonjcpapnaaGreatDoor.Abs

set_option maxRecDepth 20000
namespace Go.Proofs.YtlhfgonjcpapnaaGreatDoor.Abs
open Go Go.Proofs
theorem extract_bs (s : List UInt8) (q i : Nat) : ByteArray.extract (bs s) q i = bs ((s.drop q).take (i - q)) := by
  apply ByteArray.ext
  apply Array.toList_inj.1
  rw [Lib.extract_data]
end Go.Proofs.YtlhfgonjcpapnaaGreatDoor.Abs

namespace Go.Proofs.YtlhfgonjcpapnaaGreatDoor.Abs
open Go Go.Proofs
theorem strings_TrimLeft_go (s : List UInt8) (r : PV) : FnGo E1 Tryz.f127 [PV.lit (.string (bs s)), PV.lit (.string (bs [60, 62, 61, 126, 94]))] r 2000 (.fork (.lts 4 (.hole 0)) (.lts 10 (.res (.tup [.agg [bolP false, bolP false, bolP false, bolP false, bolP false, bolP false, bolP false, bolP false, bolP false, bolP false, bolP false, bolP false, bolP false, bolP false, bolP false, bolP false, bolP false, bolP false, bolP false, bolP false, bolP false, bolP false, bolP false, bolP false, bolP false, bolP false, bolP false, bolP false, bolP false, bolP false, bolP false, bolP false, bolP false, bolP false, bolP false, bolP false, bolP false, bolP false, bolP false, bolP false, bolP false, bolP false, bolP false, bolP false, bolP false, bolP false, bolP false, bolP false, bolP false, bolP false, bolP false, bolP false, bolP false, bolP false, bolP false, bolP false, bolP false, bolP false, bolP false, bolP false, bolP true, bolP true, bolP true, bolP false, bolP false, bolP false, bolP false, bolP false, bolP false, bolP false, bolP false, bolP false, bolP false, bolP false, bolP false, bolP false, bolP false, bolP false, bolP false, bolP false, bolP false, bolP false, bolP false, bolP false, bolP false, bolP false, bolP false, bolP false, bolP false, bolP false, bolP false, bolP false, bolP false, bolP false, bolP true, bolP false, bolP false, bolP false, bolP false, bolP false, bolP false, bolP false, bolP false, bolP false, bolP false, bolP false, bolP false, bolP false, bolP false, bolP false, bolP false, bolP false, bolP false, bolP false, bolP false, bolP false, bolP false, bolP false, bolP false, bolP false, bolP false, bolP false, bolP false, bolP false, bolP false, bolP false, bolP true, bolP false, bolP false, bolP false, bolP false, bolP false, bolP false, bolP false, bolP false, bolP false, bolP false, bolP false, bolP false, bolP false, bolP false, bolP false, bolP false, bolP false, bolP false, bolP false, bolP false, bolP false, bolP false, bolP false, bolP false, bolP false, bolP false, bolP false, bolP false, bolP false, bolP false, bolP false, bolP false, bolP false, bolP false, bolP false, bolP false, bolP false, bolP false, bolP false, bolP false, bolP false, bolP false, bolP false, bolP false, bolP false, bolP false, bolP false, bolP false, bolP false, bolP false, bolP false, bolP false, bolP false, bolP false, bolP false, bolP false, bolP false, bolP false, bolP false, bolP false, bolP false, bolP false, bolP false, bolP false, bolP false, bolP false, bolP false, bolP false, bolP false, bolP false, bolP false, bolP false, bolP false, bolP false, bolP false, bolP false, bolP false, bolP false, bolP false, bolP false, bolP false, bolP false, bolP false, bolP false, bolP false, bolP false, bolP false, bolP false, bolP false, bolP false, bolP false, bolP false, bolP false, bolP false, bolP false, bolP false, bolP false, bolP false, bolP false, bolP false, bolP false, bolP false, bolP false, bolP false, bolP false, bolP false, bolP false, bolP false, bolP false, bolP false, bolP false, bolP false, bolP false, bolP false, bolP false, bolP false, bolP false, bolP false, bolP false, bolP false, bolP false, bolP false, bolP false, bolP false, bolP false, bolP false, bolP false, bolP false, bolP false], bolP true]) (.lit (.ev (.res (PV.lit (.string (bs (trimL s)))) (.hole 0))))))) =
  (((ByteArray.toList (bs s) == ByteArray.toList (bs [])) = true →
 ((PV.lit (.string (bs s))) : PV) = r) ∧
 ((ByteArray.toList (bs s) == ByteArray.toList (bs [])) = false →
 (Den E1 151 [PV.lit (.string (bs [60, 62, 61, 126, 94]))] (.tup [.agg [bolP false, bolP false, bolP false, bolP false, bolP false, bolP false, bolP false, bolP false, bolP false, bolP false, bolP false, bolP false, bolP false, bolP false, bolP false, bolP false, bolP false, bolP false, bolP false, bolP false, bolP false, bolP false, bolP false, bolP false, bolP false, bolP false, bolP false, bolP false, bolP false, bolP false, bolP false, bolP false, bolP false, bolP false, bolP false, bolP false, bolP false, bolP false, bolP false, bolP false, bolP false, bolP false, bolP false, bolP false, bolP false, bolP false, bolP false, bolP false, bolP false, bolP false, bolP false, bolP false, bolP false, bolP false, bolP false, bolP false, bolP false, bolP false, bolP false, bolP false, bolP true, bolP true, bolP true, bolP false, bolP false, bolP false, bolP false, bolP false, bolP false, bolP false, bolP false, bolP false, bolP false, bolP false, bolP false, bolP false, bolP false, bolP false, bolP false, bolP false, bolP false, bolP false, bolP false, bolP false, bolP false, bolP false, bolP false, bolP false, bolP false, bolP false, bolP false, bolP false, bolP false, bolP false, bolP true, bolP false, bolP false, bolP false, bolP false, bolP false, bolP false, bolP false, bolP false, bolP false, bolP false, bolP false, bolP false, bolP false, bolP false, bolP false, bolP false, bolP false, bolP false, bolP false, bolP false, bolP false, bolP false, bolP false, bolP false, bolP false, bolP false, bolP false, bolP false, bolP false, bolP false, bolP false, bolP true, bolP false, bolP false, bolP false, bolP false, bolP false, bolP false, bolP false, bolP false, bolP false, bolP false, bolP false, bolP false, bolP false, bolP false, bolP false, bolP false, bolP false, bolP false, bolP false, bolP false, bolP false, bolP false, bolP false, bolP false, bolP false, bolP false, bolP false, bolP false, bolP false, bolP false, bolP false, bolP false, bolP false, bolP false, bolP false, bolP false, bolP false, bolP false, bolP false, bolP false, bolP false, bolP false, bolP false, bolP false, bolP false, bolP false, bolP false, bolP false, bolP false, bolP false, bolP false, bolP false, bolP false, bolP false, bolP false, bolP false, bolP false, bolP false, bolP false, bolP false, bolP false, bolP false, bolP false, bolP false, bolP false, bolP false, bolP false, bolP false, bolP false, bolP false, bolP false, bolP false, bolP false, bolP false, bolP false, bolP false, bolP false, bolP false, bolP false, bolP false, bolP false, bolP false, bolP false, bolP false, bolP false, bolP false, bolP false, bolP false, bolP false, bolP false, bolP false, bolP false, bolP false, bolP false, bolP false, bolP false, bolP false, bolP false, bolP false, bolP false, bolP false, bolP false, bolP false, bolP false, bolP false, bolP false, bolP false, bolP false, bolP false, bolP false, bolP false, bolP false, bolP false, bolP false, bolP false, bolP false, bolP false, bolP false, bolP false, bolP false, bolP false, bolP false, bolP false, bolP false, bolP false, bolP false, bolP false, bolP false, bolP false], bolP true])) ∧
 ((20 : Nat) = 20) ∧
 (Den E1 152 [PV.lit (.string (bs s)), .ptr (.agg [bolP false, bolP false, bolP false, bolP false, bolP false, bolP false, bolP false, bolP false, bolP false, bolP false, bolP false, bolP false, bolP false, bolP false, bolP false, bolP false, bolP false, bolP false, bolP false, bolP false, bolP false, bolP false, bolP false, bolP false, bolP false, bolP false, bolP false, bolP false, bolP false, bolP false, bolP false, bolP false, bolP false, bolP false, bolP false, bolP false, bolP false, bolP false, bolP false, bolP false, bolP false, bolP false, bolP false, bolP false, bolP false, bolP false, bolP false, bolP false, bolP false, bolP false, bolP false, bolP false, bolP false, bolP false, bolP false, bolP false, bolP false, bolP false, bolP false, bolP false, bolP true, bolP true, bolP true, bolP false, bolP false, bolP false, bolP false, bolP false, bolP false, bolP false, bolP false, bolP false, bolP false, bolP false, bolP false, bolP false, bolP false, bolP false, bolP false, bolP false, bolP false, bolP false, bolP false, bolP false, bolP false, bolP false, bolP false, bolP false, bolP false, bolP false, bolP false, bolP false, bolP false, bolP false, bolP true, bolP false, bolP false, bolP false, bolP false, bolP false, bolP false, bolP false, bolP false, bolP false, bolP false, bolP false, bolP false, bolP false, bolP false, bolP false, bolP false, bolP false, bolP false, bolP false, bolP false, bolP false, bolP false, bolP false, bolP false, bolP false, bolP false, bolP false, bolP false, bolP false, bolP false, bolP false, bolP true, bolP false, bolP false, bolP false, bolP false, bolP false, bolP false, bolP false, bolP false, bolP false, bolP false, bolP false, bolP false, bolP false, bolP false, bolP false, bolP false, bolP false, bolP false, bolP false, bolP false, bolP false, bolP false, bolP false, bolP false, bolP false, bolP false, bolP false, bolP false, bolP false, bolP false, bolP false, bolP false, bolP false, bolP false, bolP false, bolP false, bolP false, bolP false, bolP false, bolP false, bolP false, bolP false, bolP false, bolP false, bolP false, bolP false, bolP false, bolP false, bolP false, bolP false, bolP false, bolP false, bolP false, bolP false, bolP false, bolP false, bolP false, bolP false, bolP false, bolP false, bolP false, bolP false, bolP false, bolP false, bolP false, bolP false, bolP false, bolP false, bolP false, bolP false, bolP false, bolP false, bolP false, bolP false, bolP false, bolP false, bolP false, bolP false, bolP false, bolP false, bolP false, bolP false, bolP false, bolP false, bolP false, bolP false, bolP false, bolP false, bolP false, bolP false, bolP false, bolP false, bolP false, bolP false, bolP false, bolP false, bolP false, bolP false, bolP false, bolP false, bolP false, bolP false, bolP false, bolP false, bolP false, bolP false, bolP false, bolP false, bolP false, bolP false, bolP false, bolP false, bolP false, bolP false, bolP false, bolP false, bolP false, bolP false, bolP false, bolP false, bolP false, bolP false, bolP false, bolP false, bolP false, bolP false, bolP false, bolP false, bolP false]) 0] (PV.lit (.string (bs (trimL s))))) ∧
 ((PV.lit (.string (bs (trimL s)))) : PV) = r)) := by kernel_rfl
theorem slices_Clone_string_string_go (k : Nat) (full : Bool) (x : List (List UInt8)) (r : PV) : FnGo E1 Tryz.f92 [.sl k false full (List.map strP x)] r 2000 (.lit (.fork (.hole 0) (.lit (.hole 0)))) =
  ((((false = true → (List.map strP x) = [])) ∧ ((false = false → k = 1))) ∧
 ((List.isEmpty (List.map strP x)) = true →
 ((.sl 1 false true []) : PV) = r) ∧
 ((List.isEmpty (List.map strP x)) = false →
 ((true = true) ∧ (((1 : Nat) = 1) ∧ ((fitsRow ((0 : Nat) + List.length (List.map strP x)) (16 : Nat)) = true))) ∧
 ∃ hp, frz frzDepth (.msl 0 7 5 0 ((0 : Nat) + List.length (List.map strP x)) false) [[row0, row0, row0, row0, row0, row0, row0, ⟨5, .row 1 9 ([] ++ List.map strP x) false⟩]] = some (r, hp))) := by kernel_rfl
theorem slices_Clone_string_string_N_go (k : Nat) (full : Bool) (r : PV) : FnGo E1 Tryz.f92 [.sl k true full []] r 2000 (.lit (.hole 0)) =
  (((.sl 0 true true []) : PV) = r) := by kernel_rfl
theorem slices_Clip_api_Interval_api_Interval_go (k : Nat) (nl : Bool) (full : Bool) (l : List I) (r : PV) : FnGo E1 Tryz.f93 [.sl k nl full (List.map I.p l)] r 2000 (.hole 0) =
  ((((0 : Int) ≤ (↑(List.length (List.map I.p l)) : Int)) ∧ ((↑(List.length (List.map I.p l)) : Int) ≤ (↑(List.length (List.map I.p l)) : Int))) ∧
 (((0 : Int) ≤ (↑(List.length (List.map I.p l)) : Int)) ∧ ((↑(List.length (List.map I.p l)) : Int) ≤ (↑(Int.toNat (↑(List.length (List.map I.p l)) : Int)) : Int))) ∧
 ((nl = true) ∨ (k = 11)) ∧
 ((.sl k nl (Int.toNat (↑(List.length (List.map I.p l)) : Int) == Int.toNat (↑(List.length (List.map I.p l)) : Int)) (List.take (Int.toNat (↑(List.length (List.map I.p l)) : Int) - (0 : Nat)) (List.drop (0 : Nat) (List.map I.p l)))) : PV) = r) := by kernel_rfl
def span_limited_S0 (k : Nat) (nl : Bool) (full : Bool) (l : List I) (i : Int) (j : Nat → AV) (jr : Nat → Row) (g : Nat) : St :=
  { t := [j 0, j 1, j 2, j 3, .pv (.sl 0 true true [])] ++ jj j 5 5 ++ [.pv (.sl k nl full (List.map I.p l)), intA ((↑(List.length (List.map I.p l)) : Int)), intA i] ++ jj j 13 28, h := [List.replicate 6 row0 ++ [jr 6, row0, row0, row0, row0, row0, row0, row0, row0, row0, row0, row0, row0, row0, jr 20, row0, row0, row0, row0, row0, row0, row0, row0, jr 29, row0, row0, row0, row0, row0, row0, jr 36] ++ List.replicate 4 row0], g := g }
def span_limited_S1 (k : Nat) (nl : Bool) (full : Bool) (l : List I) (i : Int) (gm : Nat) (n : Nat) (xsI : List PV) (j : Nat → AV) (jr : Nat → Row) (g : Nat) : St :=
  { t := [j 0, j 1, j 2, j 3, .msl 0 37 gm 0 n false] ++ jj j 5 5 ++ [.pv (.sl k nl full (List.map I.p l)), intA ((↑(List.length (List.map I.p l)) : Int)), intA i] ++ jj j 13 28, h := [[row0, row0, row0, row0, row0, row0, jr 6, row0, row0, row0, row0, row0, row0, row0, row0, row0, row0, row0, row0, row0, jr 20, row0, row0, row0, row0, row0, row0, row0, row0, jr 29, row0, row0, row0, row0, row0, row0, jr 36, ⟨gm, .row 11 63 xsI false⟩, row0, row0, row0]], g := g }
theorem span_limited_go (k : Nat) (nl : Bool) (full : Bool) (l : List I) (r : PV) : FnGo E1 Tryz.f53 [.sl k nl full (List.map I.p l)] r 2000 (.fork (.hole 0) (.mask (iv [(0, 3), (5, 9), (13, 40)]) [6, 20, 29, 36])) =
  (((decide ((↑(List.length (List.map I.p l)) : Int) > (16 : Int))) = true →
 ((.tup [.sl 0 true true [], intP 80]) : PV) = r) ∧
 ((decide ((↑(List.length (List.map I.p l)) : Int) > (16 : Int))) = false →
 AtAll Tryz.f53 r 0 (span_limited_S0 k nl full l 0))) := by kernel_rfl
theorem span_limited_go_S0 (k : Nat) (nl : Bool) (full : Bool) (l : List I) (i : Int) (j : Nat → AV) (jr : Nat → Row) (g : Nat) (r : PV) : LoopGo E1 Tryz.f53 r 0 2000 (.fork (.val (I.p (gI l i)) (.res (.sl (bif V.nl (I.lo (gI l i)) then (0 : Nat) else (1 : Nat)) (V.nl (I.lo (gI l i))) (V.nl (I.lo (gI l i))) (List.map strP (V.pre (I.lo (gI l i))))) (.res (.sl (bif V.nl (I.lo (gI l i)) then (0 : Nat) else (1 : Nat)) (V.nl (I.lo (gI l i))) true (List.map strP (V.pre (I.lo (gI l i))))) (.res (.sl (bif V.nl (I.hi (gI l i)) then (0 : Nat) else (1 : Nat)) (V.nl (I.hi (gI l i))) (V.nl (I.hi (gI l i))) (List.map strP (V.pre (I.hi (gI l i))))) (.res (.sl (bif V.nl (I.hi (gI l i)) then (0 : Nat) else (1 : Nat)) (V.nl (I.hi (gI l i))) true (List.map strP (V.pre (I.hi (gI l i))))) (.lit (.lit (.mask (iv [(0, 3), (5, 9), (13, 40)]) [6, 20, 29, 36])))))))) (.res (.sl 0 true true []) (.hole 0))) (span_limited_S0 k nl full l i j jr g) =
  (((decide (i < (↑(List.length (List.map I.p l)) : Int))) = true →
 (((0 : Int) ≤ i) ∧ ((nl = false) ∧ (k = 11))) ∧
 (((List.map I.p l)[Int.toNat i]?) = some (I.p (gI l i))) ∧
 ((g + 1 + 2) = g + 1 + 2) ∧
 ((g + 1 + 2) = g + 1 + 2) ∧
 (Den E1 92 [V.q (I.lo (gI l i))] (.sl (bif V.nl (I.lo (gI l i)) then (0 : Nat) else (1 : Nat)) (V.nl (I.lo (gI l i))) (V.nl (I.lo (gI l i))) (List.map strP (V.pre (I.lo (gI l i)))))) ∧
 (Den E1 71 [.sl (bif V.nl (I.lo (gI l i)) then (0 : Nat) else (1 : Nat)) (V.nl (I.lo (gI l i))) (V.nl (I.lo (gI l i))) (List.map strP (V.pre (I.lo (gI l i))))] (.sl (bif V.nl (I.lo (gI l i)) then (0 : Nat) else (1 : Nat)) (V.nl (I.lo (gI l i))) true (List.map strP (V.pre (I.lo (gI l i)))))) ∧
 ((g + 1 + 2) = g + 1 + 2) ∧
 ((g + 1 + 2) = g + 1 + 2) ∧
 (Den E1 92 [V.q (I.hi (gI l i))] (.sl (bif V.nl (I.hi (gI l i)) then (0 : Nat) else (1 : Nat)) (V.nl (I.hi (gI l i))) (V.nl (I.hi (gI l i))) (List.map strP (V.pre (I.hi (gI l i)))))) ∧
 (Den E1 71 [.sl (bif V.nl (I.hi (gI l i)) then (0 : Nat) else (1 : Nat)) (V.nl (I.hi (gI l i))) (V.nl (I.hi (gI l i))) (List.map strP (V.pre (I.hi (gI l i))))] (.sl (bif V.nl (I.hi (gI l i)) then (0 : Nat) else (1 : Nat)) (V.nl (I.hi (gI l i))) true (List.map strP (V.pre (I.hi (gI l i)))))) ∧
 ((g + 1 + 2) = g + 1 + 2) ∧
 ((g + 1 + 2) = g + 1 + 2) ∧
 ((g + 1 + 4 + 10 + 10 + 2) = g + 1 + 4 + 10 + 10 + 2) ∧
 (((11 : Nat) = 11) ∧ ((1 : Nat) ≤ (1 : Nat))) ∧
 (((0 : Nat) = 0) ∧ (true = true)) ∧
 (AtAll Tryz.f53 r 0 (span_limited_S1 k nl full l (IntKind.i64.wrap (i + (1 : Int))) (g + 1 + 4 + 10 + 10 + 3) 1 [itvP (V.a (I.lo (gI l i))) (V.b (I.lo (gI l i))) (V.c (I.lo (gI l i))) (.sl (bif V.nl (I.lo (gI l i)) then (0 : Nat) else (1 : Nat)) (V.nl (I.lo (gI l i))) true (List.map strP (V.pre (I.lo (gI l i))))) (I.lopen (gI l i)) (V.a (I.hi (gI l i))) (V.b (I.hi (gI l i))) (V.c (I.hi (gI l i))) (.sl (bif V.nl (I.hi (gI l i)) then (0 : Nat) else (1 : Nat)) (V.nl (I.hi (gI l i))) true (List.map strP (V.pre (I.hi (gI l i))))) (I.hopen (gI l i)) (I.less (gI l i))]))) ∧
 ((decide (i < (↑(List.length (List.map I.p l)) : Int))) = false →
 (Den E1 93 [.sl 0 true true []] (.sl 0 true true [])) ∧
 ((.tup [.sl 0 true true [], intP 0]) : PV) = r)) := by kernel_rfl
theorem span_limited_go_S1 (k : Nat) (nl : Bool) (full : Bool) (l : List I) (i : Int) (gm : Nat) (n : Nat) (xs : List I) (j : Nat → AV) (jr : Nat → Row) (g : Nat) (r : PV) : LoopGo E1 Tryz.f53 r 0 2000 (.fork (.val (I.p (gI l i)) (.res (.sl (bif V.nl (I.lo (gI l i)) then (0 : Nat) else (1 : Nat)) (V.nl (I.lo (gI l i))) (V.nl (I.lo (gI l i))) (List.map strP (V.pre (I.lo (gI l i))))) (.res (.sl (bif V.nl (I.lo (gI l i)) then (0 : Nat) else (1 : Nat)) (V.nl (I.lo (gI l i))) true (List.map strP (V.pre (I.lo (gI l i))))) (.res (.sl (bif V.nl (I.hi (gI l i)) then (0 : Nat) else (1 : Nat)) (V.nl (I.hi (gI l i))) (V.nl (I.hi (gI l i))) (List.map strP (V.pre (I.hi (gI l i))))) (.res (.sl (bif V.nl (I.hi (gI l i)) then (0 : Nat) else (1 : Nat)) (V.nl (I.hi (gI l i))) true (List.map strP (V.pre (I.hi (gI l i))))) (.lit (.mask (iv [(0, 3), (5, 9), (13, 40)]) [6, 20, 29, 36]))))))) (.frz [.sl 11 false false (List.map I.p xs)] [[row0, row0, row0, row0, row0, row0, jr 6, row0, row0, row0, row0, row0, row0, row0, row0, row0, row0, row0, row0, row0, jr 20, row0, row0, row0, row0, row0, row0, row0, row0, jr 29, row0, row0, row0, row0, row0, row0, jr 36, ⟨gm, .row 11 63 (List.map I.p xs) true⟩, row0, row0, row0]] (.res (.sl 11 false true (List.map I.p xs)) (.hole 0)))) (span_limited_S1 k nl full l i gm n (List.map I.p xs) j jr g) =
  (((decide (i < (↑(List.length (List.map I.p l)) : Int))) = true →
 (((0 : Int) ≤ i) ∧ ((nl = false) ∧ (k = 11))) ∧
 (((List.map I.p l)[Int.toNat i]?) = some (I.p (gI l i))) ∧
 ((g + 1 + 2) = g + 1 + 2) ∧
 ((g + 1 + 2) = g + 1 + 2) ∧
 (Den E1 92 [V.q (I.lo (gI l i))] (.sl (bif V.nl (I.lo (gI l i)) then (0 : Nat) else (1 : Nat)) (V.nl (I.lo (gI l i))) (V.nl (I.lo (gI l i))) (List.map strP (V.pre (I.lo (gI l i)))))) ∧
 (Den E1 71 [.sl (bif V.nl (I.lo (gI l i)) then (0 : Nat) else (1 : Nat)) (V.nl (I.lo (gI l i))) (V.nl (I.lo (gI l i))) (List.map strP (V.pre (I.lo (gI l i))))] (.sl (bif V.nl (I.lo (gI l i)) then (0 : Nat) else (1 : Nat)) (V.nl (I.lo (gI l i))) true (List.map strP (V.pre (I.lo (gI l i)))))) ∧
 ((g + 1 + 2) = g + 1 + 2) ∧
 ((g + 1 + 2) = g + 1 + 2) ∧
 (Den E1 92 [V.q (I.hi (gI l i))] (.sl (bif V.nl (I.hi (gI l i)) then (0 : Nat) else (1 : Nat)) (V.nl (I.hi (gI l i))) (V.nl (I.hi (gI l i))) (List.map strP (V.pre (I.hi (gI l i)))))) ∧
 (Den E1 71 [.sl (bif V.nl (I.hi (gI l i)) then (0 : Nat) else (1 : Nat)) (V.nl (I.hi (gI l i))) (V.nl (I.hi (gI l i))) (List.map strP (V.pre (I.hi (gI l i))))] (.sl (bif V.nl (I.hi (gI l i)) then (0 : Nat) else (1 : Nat)) (V.nl (I.hi (gI l i))) true (List.map strP (V.pre (I.hi (gI l i)))))) ∧
 ((g + 1 + 2) = g + 1 + 2) ∧
 ((g + 1 + 2) = g + 1 + 2) ∧
 ((g + 1 + 4 + 10 + 10 + 2) = g + 1 + 4 + 10 + 10 + 2) ∧
 (((11 : Nat) = 11) ∧ ((1 : Nat) ≤ (1 : Nat))) ∧
 (gm = gm) ∧
 ((false = false) ∧ (((11 : Nat) = 11) ∧ (((63 : Nat) = 63) ∧ ((((0 : Nat) + n) = List.length (List.map I.p xs)) ∧ ((fitsRow (n + 1) (104 : Nat)) = true))))) ∧
 (∀ (j' : Nat → AV) (jr' : Nat → Row) (g' : Nat), LoopAt E1 Tryz.f53 r 0 (span_limited_S1 k nl full l (IntKind.i64.wrap (i + (1 : Int))) (g + 1 + 4 + 10 + 10 + 3) (n + 1) (List.drop (0 : Nat) (List.map I.p xs) ++ List.take (1 : Nat) (List.drop (0 : Nat) [PV.agg [PV.lit (Value.int IntKind.u32 (V.a (I.lo (gI l i)))), PV.lit (Value.int IntKind.u32 (V.b (I.lo (gI l i)))), PV.lit (Value.int IntKind.u32 (V.c (I.lo (gI l i)))), PV.sl (bif V.nl (I.lo (gI l i)) then (0 : Nat) else (1 : Nat)) (V.nl (I.lo (gI l i))) true (List.map strP (V.pre (I.lo (gI l i)))), PV.lit (Value.bool (I.lopen (gI l i))), PV.lit (Value.int IntKind.u32 (V.a (I.hi (gI l i)))), PV.lit (Value.int IntKind.u32 (V.b (I.hi (gI l i)))), PV.lit (Value.int IntKind.u32 (V.c (I.hi (gI l i)))), PV.sl (bif V.nl (I.hi (gI l i)) then (0 : Nat) else (1 : Nat)) (V.nl (I.hi (gI l i))) true (List.map strP (V.pre (I.hi (gI l i)))), PV.lit (Value.bool (I.hopen (gI l i))), PV.lit (Value.bool (I.less (gI l i)))]])) j' jr' g'))) ∧
 ((decide (i < (↑(List.length (List.map I.p l)) : Int))) = false →
 (frzs frzDepth [.msl 0 37 gm 0 n false] [[row0, row0, row0, row0, row0, row0, jr 6, row0, row0, row0, row0, row0, row0, row0, row0, row0, row0, row0, row0, row0, jr 20, row0, row0, row0, row0, row0, row0, row0, row0, jr 29, row0, row0, row0, row0, row0, row0, jr 36, ⟨gm, .row 11 63 (List.map I.p xs) false⟩, row0, row0, row0]] = some ([.sl 11 false false (List.map I.p xs)], [[row0, row0, row0, row0, row0, row0, jr 6, row0, row0, row0, row0, row0, row0, row0, row0, row0, row0, row0, row0, row0, jr 20, row0, row0, row0, row0, row0, row0, row0, row0, jr 29, row0, row0, row0, row0, row0, row0, jr 36, ⟨gm, .row 11 63 (List.map I.p xs) true⟩, row0, row0, row0]])) ∧
 (Den E1 93 [.sl 11 false false (List.map I.p xs)] (.sl 11 false true (List.map I.p xs))) ∧
 ((.tup [.sl 11 false true (List.map I.p xs), intP 0]) : PV) = r)) := by kernel_rfl
theorem version_number_go (s : List UInt8) (r : PV) : FnGo E1 Tryz.f70 [PV.lit (.string (bs s))] r 2000 (.resB (digitsL s) (.lts 3 (.res (bolP (plainL s)) (.lit (.lit (.fork (.lts 5 (.hole 0)) (.lts 4 (.fork (.hole 0) (.res (.tup [PV.lit (.int .u64 ((↑(decV s) : Int))), .lit .nilIface]) (.hole 0))))))))) (.lts 11 (.hole 0))) =
  ((Den E1 108 [PV.lit (.string (bs s))] (bolP (digitsL s))) ∧
 ((digitsL s) = true →
 (Den E1 109 [PV.lit (.string (bs s))] (bolP (plainL s))) ∧
 ((!plainL s) = true →
 ((.tup [PV.lit (.int .u32 0), bolP false]) : PV) = r) ∧
 ((!plainL s) = false →
 ((decide ((↑(ByteArray.size (bs s)) : Int) > (10 : Int))) = true →
 ((.tup [PV.lit (.int .u32 0), bolP false]) : PV) = r) ∧
 ((decide ((↑(ByteArray.size (bs s)) : Int) > (10 : Int))) = false →
 (Den E1 110 [PV.lit (.string (bs s)), intP 10, intP 64] (.tup [PV.lit (.int .u64 ((↑(decV s) : Int))), .lit .nilIface])) ∧
 ((.tup [PV.lit (.int .u32 ((↑(decV s % (4294967296 : Nat)) : Int))), bolP (decide ((↑(decV s) : Int) ≤ (2147483647 : Int)))]) : PV) = r))) ∧
 ((digitsL s) = false →
 ((.tup [PV.lit (.int .u32 0), bolP false]) : PV) = r)) := by kernel_rfl
theorem version_Read_go (s : List UInt8) (r : PV) : FnGo E1 Tryz.f34 [PV.lit (.string (bs s))] r 2000 (.fork (.hole 0) (.res (.tup [PV.lit (.string (bs (Prod.fst (Lib.cut s [45])))), PV.lit (.string (bs (Prod.fst (Prod.snd (Lib.cut s [45]))))), bolP (Prod.snd (Prod.snd (Lib.cut s [45])))]) (.res (.sl 1 false true (List.map strP (Lib.split (Prod.fst (Lib.cut s [45])) [46]))) (.fork (.hole 0) (.go (.lit (.val (PV.lit (.string (bs (List.getD (Lib.split (Prod.fst (Lib.cut s [45])) [46]) (0 : Nat) default)))) (.res (.tup [PV.lit (.int .u32 (numV (List.getD (Lib.split (Prod.fst (Lib.cut s [45])) [46]) (0 : Nat) default))), bolP (numB (List.getD (Lib.split (Prod.fst (Lib.cut s [45])) [46]) (0 : Nat) default))]) (.fork (.hole 0) (.go (.lit (.val (PV.lit (.string (bs (List.getD (Lib.split (Prod.fst (Lib.cut s [45])) [46]) (1 : Nat) default)))) (.res (.tup [PV.lit (.int .u32 (numV (List.getD (Lib.split (Prod.fst (Lib.cut s [45])) [46]) (1 : Nat) default))), bolP (numB (List.getD (Lib.split (Prod.fst (Lib.cut s [45])) [46]) (1 : Nat) default))]) (.fork (.hole 0) (.go (.lit (.val (PV.lit (.string (bs (List.getD (Lib.split (Prod.fst (Lib.cut s [45])) [46]) (2 : Nat) default)))) (.res (.tup [PV.lit (.int .u32 (numV (List.getD (Lib.split (Prod.fst (Lib.cut s [45])) [46]) (2 : Nat) default))), bolP (numB (List.getD (Lib.split (Prod.fst (Lib.cut s [45])) [46]) (2 : Nat) default))]) (.fork (.hole 0) (.go (.lit (.fork (.res (.sl 1 false true (List.map strP (Lib.split (Prod.fst (Prod.snd (Lib.cut s [45]))) [46]))) (.res (intP (errV (mayV ⟨numV (List.getD (Lib.split (Prod.fst (Lib.cut s [45])) [46]) (0 : Nat) default), numV (List.getD (Lib.split (Prod.fst (Lib.cut s [45])) [46]) (1 : Nat) default), numV (List.getD (Lib.split (Prod.fst (Lib.cut s [45])) [46]) (2 : Nat) default), 1, false, true, Lib.split (Prod.fst (Prod.snd (Lib.cut s [45]))) [46]⟩))) (.fork (.hole 0) (.res (.sl 1 false true (List.map strP (Lib.split (Prod.fst (Prod.snd (Lib.cut s [45]))) [46]))) (.hole 0))))) (.res (intP (errV (mayV ⟨numV (List.getD (Lib.split (Prod.fst (Lib.cut s [45])) [46]) (0 : Nat) default), numV (List.getD (Lib.split (Prod.fst (Lib.cut s [45])) [46]) (1 : Nat) default), numV (List.getD (Lib.split (Prod.fst (Lib.cut s [45])) [46]) (2 : Nat) default), 0, true, true, []⟩))) (.fork (.hole 0) (.res (.sl 0 true true []) (.hole 0)))))))))))))))))))))))))) =
  (((decide ((↑(ByteArray.size (bs s)) : Int) > (128 : Int))) = true →
 ((0 : Nat) = 0) ∧
 ((.tup [verP 0 0 0 (.sl 0 true true []), intP 70]) : PV) = r) ∧
 ((decide ((↑(ByteArray.size (bs s)) : Int) > (128 : Int))) = false →
 (Den E1 68 [PV.lit (.string (bs s)), PV.lit (.string (bs [45]))] (.tup [PV.lit (.string (bs (Prod.fst (Lib.cut s [45])))), PV.lit (.string (bs (Prod.fst (Prod.snd (Lib.cut s [45]))))), bolP (Prod.snd (Prod.snd (Lib.cut s [45])))])) ∧
 (Den E1 69 [PV.lit (.string (bs (Prod.fst (Lib.cut s [45])))), PV.lit (.string (bs [46]))] (.sl 1 false true (List.map strP (Lib.split (Prod.fst (Lib.cut s [45])) [46])))) ∧
 (((↑(List.length (List.map strP (Lib.split (Prod.fst (Lib.cut s [45])) [46]))) : Int) != (3 : Int)) = true →
 ((0 : Nat) = 0) ∧
 ((.tup [verP 0 0 0 (.sl 0 true true []), intP 70]) : PV) = r) ∧
 (((↑(List.length (List.map strP (Lib.split (Prod.fst (Lib.cut s [45])) [46]))) : Int) != (3 : Int)) = false →
 (((0 : Int) ≤ (0 : Int)) ∧ ((false = false) ∧ ((1 : Nat) = 1))) ∧
 (((List.map strP (Lib.split (Prod.fst (Lib.cut s [45])) [46]))[(0 : Nat)]?) = some (PV.lit (.string (bs (List.getD (Lib.split (Prod.fst (Lib.cut s [45])) [46]) (0 : Nat) default))))) ∧
 (Den E1 70 [PV.lit (.string (bs (List.getD (Lib.split (Prod.fst (Lib.cut s [45])) [46]) (0 : Nat) default)))] (.tup [PV.lit (.int .u32 (numV (List.getD (Lib.split (Prod.fst (Lib.cut s [45])) [46]) (0 : Nat) default))), bolP (numB (List.getD (Lib.split (Prod.fst (Lib.cut s [45])) [46]) (0 : Nat) default))])) ∧
 ((!numB (List.getD (Lib.split (Prod.fst (Lib.cut s [45])) [46]) (0 : Nat) default)) = true →
 ((0 : Nat) = 0) ∧
 ((.tup [verP 0 0 0 (.sl 0 true true []), intP 70]) : PV) = r) ∧
 ((!numB (List.getD (Lib.split (Prod.fst (Lib.cut s [45])) [46]) (0 : Nat) default)) = false →
 ((20 : Nat) = 20) ∧
 (((0 : Int) ≤ (1 : Int)) ∧ ((false = false) ∧ ((1 : Nat) = 1))) ∧
 (((List.map strP (Lib.split (Prod.fst (Lib.cut s [45])) [46]))[(1 : Nat)]?) = some (PV.lit (.string (bs (List.getD (Lib.split (Prod.fst (Lib.cut s [45])) [46]) (1 : Nat) default))))) ∧
 (Den E1 70 [PV.lit (.string (bs (List.getD (Lib.split (Prod.fst (Lib.cut s [45])) [46]) (1 : Nat) default)))] (.tup [PV.lit (.int .u32 (numV (List.getD (Lib.split (Prod.fst (Lib.cut s [45])) [46]) (1 : Nat) default))), bolP (numB (List.getD (Lib.split (Prod.fst (Lib.cut s [45])) [46]) (1 : Nat) default))])) ∧
 ((!numB (List.getD (Lib.split (Prod.fst (Lib.cut s [45])) [46]) (1 : Nat) default)) = true →
 ((0 : Nat) = 0) ∧
 ((.tup [verP 0 0 0 (.sl 0 true true []), intP 70]) : PV) = r) ∧
 ((!numB (List.getD (Lib.split (Prod.fst (Lib.cut s [45])) [46]) (1 : Nat) default)) = false →
 ((20 : Nat) = 20) ∧
 (((0 : Int) ≤ (2 : Int)) ∧ ((false = false) ∧ ((1 : Nat) = 1))) ∧
 (((List.map strP (Lib.split (Prod.fst (Lib.cut s [45])) [46]))[(2 : Nat)]?) = some (PV.lit (.string (bs (List.getD (Lib.split (Prod.fst (Lib.cut s [45])) [46]) (2 : Nat) default))))) ∧
 (Den E1 70 [PV.lit (.string (bs (List.getD (Lib.split (Prod.fst (Lib.cut s [45])) [46]) (2 : Nat) default)))] (.tup [PV.lit (.int .u32 (numV (List.getD (Lib.split (Prod.fst (Lib.cut s [45])) [46]) (2 : Nat) default))), bolP (numB (List.getD (Lib.split (Prod.fst (Lib.cut s [45])) [46]) (2 : Nat) default))])) ∧
 ((!numB (List.getD (Lib.split (Prod.fst (Lib.cut s [45])) [46]) (2 : Nat) default)) = true →
 ((0 : Nat) = 0) ∧
 ((.tup [verP 0 0 0 (.sl 0 true true []), intP 70]) : PV) = r) ∧
 ((!numB (List.getD (Lib.split (Prod.fst (Lib.cut s [45])) [46]) (2 : Nat) default)) = false →
 ((20 : Nat) = 20) ∧
 ((Prod.snd (Prod.snd (Lib.cut s [45]))) = true →
 (Den E1 69 [PV.lit (.string (bs (Prod.fst (Prod.snd (Lib.cut s [45]))))), PV.lit (.string (bs [46]))] (.sl 1 false true (List.map strP (Lib.split (Prod.fst (Prod.snd (Lib.cut s [45]))) [46])))) ∧
 ((20 : Nat) = 20) ∧
 ((20 : Nat) = 20) ∧
 (Den E1 59 [verP (numV (List.getD (Lib.split (Prod.fst (Lib.cut s [45])) [46]) (0 : Nat) default)) (numV (List.getD (Lib.split (Prod.fst (Lib.cut s [45])) [46]) (1 : Nat) default)) (numV (List.getD (Lib.split (Prod.fst (Lib.cut s [45])) [46]) (2 : Nat) default)) (.sl 1 false true (List.map strP (Lib.split (Prod.fst (Prod.snd (Lib.cut s [45]))) [46])))] (intP (errV (mayV ⟨numV (List.getD (Lib.split (Prod.fst (Lib.cut s [45])) [46]) (0 : Nat) default), numV (List.getD (Lib.split (Prod.fst (Lib.cut s [45])) [46]) (1 : Nat) default), numV (List.getD (Lib.split (Prod.fst (Lib.cut s [45])) [46]) (2 : Nat) default), 1, false, true, Lib.split (Prod.fst (Prod.snd (Lib.cut s [45]))) [46]⟩)))) ∧
 ((errV (mayV ⟨numV (List.getD (Lib.split (Prod.fst (Lib.cut s [45])) [46]) (0 : Nat) default), numV (List.getD (Lib.split (Prod.fst (Lib.cut s [45])) [46]) (1 : Nat) default), numV (List.getD (Lib.split (Prod.fst (Lib.cut s [45])) [46]) (2 : Nat) default), 1, false, true, Lib.split (Prod.fst (Prod.snd (Lib.cut s [45]))) [46]⟩) != (0 : Int)) = true →
 ((0 : Nat) = 0) ∧
 ((.tup [verP 0 0 0 (.sl 0 true true []), intP 70]) : PV) = r) ∧
 ((errV (mayV ⟨numV (List.getD (Lib.split (Prod.fst (Lib.cut s [45])) [46]) (0 : Nat) default), numV (List.getD (Lib.split (Prod.fst (Lib.cut s [45])) [46]) (1 : Nat) default), numV (List.getD (Lib.split (Prod.fst (Lib.cut s [45])) [46]) (2 : Nat) default), 1, false, true, Lib.split (Prod.fst (Prod.snd (Lib.cut s [45]))) [46]⟩) != (0 : Int)) = false →
 ((20 : Nat) = 20) ∧
 (Den E1 71 [.sl 1 false true (List.map strP (Lib.split (Prod.fst (Prod.snd (Lib.cut s [45]))) [46]))] (.sl 1 false true (List.map strP (Lib.split (Prod.fst (Prod.snd (Lib.cut s [45]))) [46])))) ∧
 ((20 : Nat) = 20) ∧
 ((20 : Nat) = 20) ∧
 ((0 : Nat) = 0) ∧
 ((.tup [verP (numV (List.getD (Lib.split (Prod.fst (Lib.cut s [45])) [46]) (0 : Nat) default)) (numV (List.getD (Lib.split (Prod.fst (Lib.cut s [45])) [46]) (1 : Nat) default)) (numV (List.getD (Lib.split (Prod.fst (Lib.cut s [45])) [46]) (2 : Nat) default)) (.sl 1 false true (List.map strP (Lib.split (Prod.fst (Prod.snd (Lib.cut s [45]))) [46]))), intP 0]) : PV) = r)) ∧
 ((Prod.snd (Prod.snd (Lib.cut s [45]))) = false →
 ((20 : Nat) = 20) ∧
 (Den E1 59 [verP (numV (List.getD (Lib.split (Prod.fst (Lib.cut s [45])) [46]) (0 : Nat) default)) (numV (List.getD (Lib.split (Prod.fst (Lib.cut s [45])) [46]) (1 : Nat) default)) (numV (List.getD (Lib.split (Prod.fst (Lib.cut s [45])) [46]) (2 : Nat) default)) (.sl 0 true true [])] (intP (errV (mayV ⟨numV (List.getD (Lib.split (Prod.fst (Lib.cut s [45])) [46]) (0 : Nat) default), numV (List.getD (Lib.split (Prod.fst (Lib.cut s [45])) [46]) (1 : Nat) default), numV (List.getD (Lib.split (Prod.fst (Lib.cut s [45])) [46]) (2 : Nat) default), 0, true, true, []⟩)))) ∧
 ((errV (mayV ⟨numV (List.getD (Lib.split (Prod.fst (Lib.cut s [45])) [46]) (0 : Nat) default), numV (List.getD (Lib.split (Prod.fst (Lib.cut s [45])) [46]) (1 : Nat) default), numV (List.getD (Lib.split (Prod.fst (Lib.cut s [45])) [46]) (2 : Nat) default), 0, true, true, []⟩) != (0 : Int)) = true →
 ((0 : Nat) = 0) ∧
 ((.tup [verP 0 0 0 (.sl 0 true true []), intP 70]) : PV) = r) ∧
 ((errV (mayV ⟨numV (List.getD (Lib.split (Prod.fst (Lib.cut s [45])) [46]) (0 : Nat) default), numV (List.getD (Lib.split (Prod.fst (Lib.cut s [45])) [46]) (1 : Nat) default), numV (List.getD (Lib.split (Prod.fst (Lib.cut s [45])) [46]) (2 : Nat) default), 0, true, true, []⟩) != (0 : Int)) = false →
 ((20 : Nat) = 20) ∧
 (Den E1 71 [.sl 0 true true []] (.sl 0 true true [])) ∧
 ((20 : Nat) = 20) ∧
 ((20 : Nat) = 20) ∧
 ((0 : Nat) = 0) ∧
 ((.tup [verP (numV (List.getD (Lib.split (Prod.fst (Lib.cut s [45])) [46]) (0 : Nat) default)) (numV (List.getD (Lib.split (Prod.fst (Lib.cut s [45])) [46]) (1 : Nat) default)) (numV (List.getD (Lib.split (Prod.fst (Lib.cut s [45])) [46]) (2 : Nat) default)) (.sl 0 true true []), intP 0]) : PV) = r)))))))) := by kernel_rfl
end Go.Proofs.YtlhfgonjcpapnaaGreatDoor.Abs

set_option maxRecDepth 20000
namespace Go.Proofs.YtlhfgonjcpapnaaGreatDoor.Abs
open Go Go.Proofs
theorem dec_bound : ∀ (l : List UInt8) (k acc : Nat), l.all isDig = true → l.length + k ≤ 10 → acc < 10 ^ k → l.foldl (fun n b => 10 * n + (b.toNat - 48)) acc < 10 ^ (l.length + k)
  | [], k, acc, _, _, h => by simpa using h
  | c :: r, k, acc, ha, hk, hacc => by
    simp only [List.all_cons, Bool.and_eq_true] at ha
    obtain ⟨hc, hr⟩ := ha
    simp only [isDig, Bool.and_eq_true, decide_eq_true_eq] at hc
    simp only [List.length_cons] at hk ⊢
    have hp : 10 ^ (k + 1) = 10 * 10 ^ k := by rw [Nat.pow_succ, Nat.mul_comm]
    have := dec_bound r (k + 1) (10 * acc + (c.toNat - 48)) hr (by omega) (by omega)
    rw [show r.length + 1 + k = r.length + (k + 1) by omega]
    exact this
theorem digits_all {s : List UInt8} (h : digitsL s = true) : s.all isDig = true ∧ s ≠ [] := by
  simp only [digitsL, Bool.and_eq_true, Bool.not_eq_true'] at h
  exact ⟨h.1, by rintro rfl; simp at h⟩
theorem decV_lt {s : List UInt8} (h : digitsL s = true) (hl : s.length ≤ 10) : decV s < 10000000000 := by
  have := dec_bound s 0 0 (digits_all h).1 (by omega) (by simp)
  have h2 : 10 ^ (s.length + 0) ≤ 10 ^ 10 := Nat.pow_le_pow_right (by omega) (by omega)
  have h3 : (10 : Nat) ^ 10 = 10000000000 := by decide
  unfold decV
  omega
theorem parse_dec' : ∀ (l : List UInt8) (k acc : Nat), l.all isDig = true → l.length + k ≤ 10 → acc < 10 ^ k → Lib.parseUintM (2 ^ 64 - 1) acc l = .ok (l.foldl (fun n b => 10 * n + (b.toNat - 48)) acc)
  | [], _, _, _, _, _ => rfl
  | c :: r, k, acc, ha, hk, hacc => by
    simp only [List.all_cons, Bool.and_eq_true] at ha
    obtain ⟨hc, hr⟩ := ha
    simp only [isDig, Bool.and_eq_true, decide_eq_true_eq] at hc
    simp only [List.length_cons] at hk
    have hp : 10 ^ (k + 1) = 10 * 10 ^ k := by rw [Nat.pow_succ, Nat.mul_comm]
    have hle : 10 ^ k ≤ 10 ^ 9 := Nat.pow_le_pow_right (by omega) (by omega)
    have hn : acc * 10 + (c.toNat - 48) < 10 ^ (k + 1) := by omega
    have h9 : (10 : Nat) ^ 9 = 1000000000 := by decide
    have h64 : (2 : Nat) ^ 64 = 18446744073709551616 := by decide
    unfold Lib.parseUintM
    rw [if_pos hc, if_neg (by omega), if_neg (by omega), parse_dec' r (k + 1) _ hr (by omega) hn, List.foldl_cons, Nat.mul_comm acc 10]
theorem den_ParseUint (s : List UInt8) (hd : digitsL s = true) (hl : s.length ≤ 10) : Den E1 110 [strP s, intP 10, intP 64] (.tup [.lit (.int .u64 (decV s)), .lit .nilIface]) := by
  obtain ⟨ha, hn⟩ := digits_all hd
  refine den_intr (F := parseP) rfl ?_
  have hp : Lib.parseUintB 64 (bs s).data.toList = .ok (decV s) := by
    show Lib.parseUintB 64 s = _
    unfold Lib.parseUintB
    rw [if_neg hn]
    exact parse_dec' s 0 0 ha (by omega) (by simp)
  show (if (10 : Int) = 10 ∧ (64 : Int) = 64 ∧ (bs s).size ≤ 9223372036854775806 then match Lib.parseUintB 64 (bs s).data.toList with
    | .ok u => some (PV.tup [.lit (.int .u64 u), .lit .nilIface])
    | _ => none else none) = _
  rw [if_pos ⟨rfl, rfl, by rw [size_bs]; omega⟩, hp]
theorem wrap_u32' {n : Nat} (h : n < 10000000000) : IntKind.wrap IntKind.u32 (n : Int) = ((n % 4294967296 : Nat) : Int) := by
  simp only [IntKind.wrap, IntKind.bits, IntKind.signed, Bool.false_and, Bool.false_eq_true, if_false]
  omega
theorem numV_of {s : List UInt8} (h : numOk s = true) : numV s = IntKind.wrap IntKind.u32 (decV s) := by simp [numV, h]
theorem numV_no {s : List UInt8} (h : numOk s = false) : numV s = 0 := by simp [numV, h]
theorem numB_of {s : List UInt8} (h : numOk s = true) : numB s = decide ((decV s : Int) ≤ 2147483647) := by
  simp only [numB, h, Bool.true_and]
  rw [Bool.eq_iff_iff]; simp; omega
theorem numB_no {s : List UInt8} (h : numOk s = false) : numB s = false := by simp [numB, h]
theorem den_version_number (s : List UInt8) (hs : small s.length) : Den E1 70 [strP s] (.tup [.lit (.int .u32 (numV s)), bolP (numB s)]) := by
  refine den1 2000 _ rfl (by kernel_rfl) rfl rfl rfl (Eq.mpr (version_number_go s _) ⟨den_version_digits s hs, fun h1 => ⟨den_version_plain s (digits_all h1).2, fun h2 => ?_, fun h2 => ⟨fun h3 => ?_, fun h3 => ?_⟩⟩, fun h1 => ?_⟩)
  · have : numOk s = false := by simp only [Bool.not_eq_true'] at h2; simp [numOk, h2]
    rw [numV_no this, numB_no this]
  · have : numOk s = false := by simp only [decide_eq_true_eq, size_bs] at h3; simp [numOk]; omega
    rw [numV_no this, numB_no this]
  · simp only [decide_eq_false_iff_not, size_bs] at h3
    simp only [Bool.not_eq_false'] at h2
    have hl : s.length ≤ 10 := by omega
    have : numOk s = true := by simp [numOk, h1, h2, hl]
    refine ⟨den_ParseUint s h1 hl, ?_⟩
    rw [numV_of this, numB_of this, wrap_u32' (decV_lt h1 hl)]
  · have : numOk s = false := by simp [numOk, h1]
    rw [numV_no this, numB_no this]
end Go.Proofs.YtlhfgonjcpapnaaGreatDoor.Abs

set_option maxRecDepth 20000
namespace Go.Proofs.YtlhfgonjcpapnaaGreatDoor.Abs
open Go Go.Proofs
theorem cut_le1 (s sep : List UInt8) : (Lib.cut s sep).1.length ≤ s.length := by
  rcases Lib.index_spec s sep with ⟨h, _⟩ | ⟨i, h, _⟩
  · simp [Lib.cut, h]
  · have hc : Lib.cut s sep = (s.take i, s.drop (i + sep.length), true) := by simp [Lib.cut, h]
    rw [hc]; simp; omega
theorem cut_le2 (s sep : List UInt8) : (Lib.cut s sep).2.1.length ≤ s.length := by
  rcases Lib.index_spec s sep with ⟨h, _⟩ | ⟨i, h, _⟩
  · simp [Lib.cut, h]
  · have hc : Lib.cut s sep = (s.take i, s.drop (i + sep.length), true) := by simp [Lib.cut, h]
    rw [hc]; simp
theorem split_le (sep : List UInt8) (hs : sep ≠ []) : ∀ (n : Nat) (s : List UInt8), s.length ≤ n → ((Lib.split s sep).length ≤ s.length + 1 ∧ ∀ p ∈ Lib.split s sep, p.length ≤ s.length) := by
  intro n
  induction n with
  | zero =>
    intro s hn
    rw [split_cut s sep hs]
    have hnf : (Lib.cut s sep).2.2 = false := by
      cases h : (Lib.cut s sep).2.2 with
      | false => rfl
      | true => have := cut_short s sep hs h; omega
    rw [hnf]
    simp only [Bool.false_eq_true, if_false, List.length_singleton, List.mem_singleton]
    exact ⟨by omega, fun p hp => by subst hp; exact cut_le1 s sep⟩
  | succ n ih =>
    intro s hn
    rw [split_cut s sep hs]
    cases h : (Lib.cut s sep).2.2 with
    | false =>
      simp only [Bool.false_eq_true, if_false, List.length_singleton, List.mem_singleton]
      exact ⟨by omega, fun p hp => by subst hp; exact cut_le1 s sep⟩
    | true =>
      have hc := cut_short s sep hs h
      obtain ⟨h1, h2⟩ := ih (Lib.cut s sep).2.1 (by omega)
      simp only [if_true, List.length_cons, List.mem_cons]
      refine ⟨by omega, fun p hp => ?_⟩
      rcases hp with rfl | hp
      · exact cut_le1 s sep
      · have := h2 p hp; omega
theorem split_ne (s sep : List UInt8) (hs : sep ≠ []) : Lib.split s sep ≠ [] := by rw [split_cut s sep hs]; simp
theorem den_Split (s sep : List UInt8) (hs : sep ≠ []) (h : s.length < 4294967281) : Den E1 69 [strP s, strP sep] (.sl 1 false true (List.map strP (Lib.split s sep))) := by
  refine den_intr (F := splitP) rfl ?_
  show (if (bs s).size < 4294967281 ∧ 1 ≤ (bs sep).size then _ else _) = _
  have hl : 0 < sep.length := List.length_pos_iff.2 hs
  rw [if_pos ⟨by rw [size_bs]; exact h, by rw [size_bs]; omega⟩]
  congr 2
  have hb := Lib.splitB_data (bs sep) 0 (Lib.countB (bs s) (bs sep)) (bs s)
  have hsp : Lib.split s sep = (Lib.splitB (bs sep) 0 (Lib.countB (bs s) (bs sep)) (bs s)).map (·.data.toList) := by rw [hb]; rfl
  rw [hsp, List.map_map]
  apply List.map_congr_left
  intro x _
  rfl
theorem getD_mem {α : Type} {l : List α} {i : Nat} (h : i < l.length) (d : α) : l.getD i d ∈ l := by
  rw [List.getD_eq_getElem?_getD, List.getElem?_eq_getElem h]; exact List.getElem_mem h
theorem numV_u32 (s : List UInt8) : u32 (numV s) := by
  unfold numV u32
  split
  · simp only [IntKind.wrap, IntKind.bits, IntKind.signed, Bool.false_and, Bool.false_eq_true, if_false]
    omega
  · omega
theorem raw_ok (fl : Bool) (s : List UInt8) (hl : s.length ≤ 128) : (rawV fl s).ok := by
  have hc2 := cut_le2 s [45]
  have hs := split_le [46] (by simp) _ (Lib.cut s [45]).2.1 (Nat.le_refl _)
  refine ⟨numV_u32 _, numV_u32 _, numV_u32 _, ?_, ?_, ?_⟩
  · show slOk 1 (if (Lib.cut s [45]).2.2 then 1 else 0) (!(Lib.cut s [45]).2.2) (preV s).length
    unfold preV
    cases (Lib.cut s [45]).2.2 with
    | true => exact ⟨fun h => by simp at h, fun _ => rfl⟩
    | false => exact ⟨fun _ => rfl, fun h => by simp at h⟩
  · show small (preV s).length
    unfold preV small
    split
    · have := hs.1; omega
    · simp
  · intro p hp
    have hp : p ∈ preV s := hp
    unfold preV at hp
    unfold small
    split at hp
    · have := hs.2 p hp; omega
    · simp at hp
theorem raw_may (s : List UInt8) : mayV (rawV false s) = mayV (rawV true s) := rfl
theorem rd_no {s : List UInt8} (h : rdOk0 s = false) (fl : Bool) : (.tup [verP 0 0 0 (.sl 0 true true []), intP 70] : PV) = .tup [(rdV fl s).p, intP (errV (rdOk s))] := by
  rw [rdV_eq, rdOk_eq, rdV0, h]
  rfl
theorem rd_yes {s : List UInt8} (h : rdOk0 s = true) (fl : Bool) : (.tup [(rawV fl s).p, intP 0] : PV) = .tup [(rdV fl s).p, intP (errV (rdOk s))] := by
  rw [rdV_eq, rdOk_eq, rdV0, h]
  rfl
theorem rd_ok {s : List UInt8} (fl : Bool) : (rdV fl s).ok := by
  rw [rdV_eq, rdV0]
  split
  · rename_i h
    have : s.length ≤ 128 := by simp only [rdOk0, Bool.and_eq_true, decide_eq_true_eq] at h; exact h.1.1.1.1.1
    exact raw_ok fl s this
  · exact zV_ok
theorem rd_may {s : List UInt8} (fl : Bool) : mayV (rdV fl s) = true := by
  rw [rdV_eq, rdV0]
  split
  · rename_i h
    simp only [rdOk0, Bool.and_eq_true] at h
    cases fl
    · rw [raw_may]; exact h.2
    · exact h.2
  · exact zV_may
theorem getW {W : List (List UInt8)} {i : Nat} (h : i < W.length) : (List.map strP W)[i]? = some (.lit (.string (bs (W.getD i default)))) := by
  rw [List.getElem?_map, List.getElem?_eq_getElem h, getD_lt h]; rfl
theorem raw_t {s : List UInt8} (h : (Lib.cut s [45]).2.2 = true) (fl : Bool) : rawV fl s = ⟨numV ((wordsV s).getD 0 default), numV ((wordsV s).getD 1 default), numV ((wordsV s).getD 2 default), 1, false, fl, Lib.split (Lib.cut s [45]).2.1 [46]⟩ := by
  simp only [rawV, h, preV, if_true]; rfl
theorem raw_f {s : List UInt8} (h : (Lib.cut s [45]).2.2 = false) (fl : Bool) : rawV fl s = ⟨numV ((wordsV s).getD 0 default), numV ((wordsV s).getD 1 default), numV ((wordsV s).getD 2 default), 0, true, true, []⟩ := by
  simp only [rawV, h, preV, if_false]; rfl
theorem den_version_Read (s : List UInt8) (hs : small s.length) : Den E1 34 [strP s] (.tup [(rdV true s).p, intP (errV (rdOk s))]) := by
  have h0 := version_Read_go s (.tup [(rdV true s).p, intP (errV (rdOk s))])
  by_cases hl : s.length ≤ 128
  · have hc1 := cut_le1 s [45]
    have hc2 := cut_le2 s [45]
    have hsp := split_le [46] (by simp) _ (Lib.cut s [45]).1 (Nat.le_refl _)
    have hwd : ∀ i, i < (wordsV s).length → small ((wordsV s).getD i default).length := fun i hi => by
      have : ((wordsV s).getD i default).length ≤ (Lib.cut s [45]).1.length := hsp.2 _ (getD_mem hi default)
      unfold small
      omega
    refine den1 2000 _ rfl (by kernel_rfl) rfl rfl rfl (Eq.mpr h0 ⟨fun h => ?_, fun h => ⟨den_Cut s [45] (by omega), den_Split _ _ (by simp) (by omega), fun h1 => ⟨rfl, rd_no ?_ true⟩, fun h1 => ?_⟩⟩)
    · simp only [decide_eq_true_eq, size_bs] at h; omega
    · have h1' : ¬ (wordsV s).length = 3 := by
        intro e
        have e' : (Lib.split (Lib.cut s [45]).1 [46]).length = 3 := e
        simp [e'] at h1
      simp [rdOk0, h1']
    · have h3 : (wordsV s).length = 3 := by
        have h1' : (((List.map strP (wordsV s)).length : Int) != 3) = false := h1
        simp only [List.length_map, bne_eq_false_iff_eq] at h1'
        omega
      refine ⟨⟨by omega, rfl, rfl⟩, getW (W := wordsV s) (by omega), den_version_number _ (hwd 0 (by omega)), fun h2 => ⟨rfl, rd_no ?_ true⟩, fun h2 => ⟨rfl, ⟨by omega, rfl, rfl⟩, getW (W := wordsV s) (by omega), den_version_number _ (hwd 1 (by omega)), fun h4 => ⟨rfl, rd_no ?_ true⟩, fun h4 => ⟨rfl, ⟨by omega, rfl, rfl⟩, getW (W := wordsV s) (by omega), den_version_number _ (hwd 2 (by omega)), fun h5 => ⟨rfl, rd_no ?_ true⟩, fun h5 => ⟨rfl, fun h6 => ?_, fun h6 => ?_⟩⟩⟩⟩
      · have h2' : numB ((wordsV s).getD 0 []) = false := not_eq.1 h2
        simp only [rdOk0, h2', Bool.and_false, Bool.false_and]
      · have h2' : numB ((wordsV s).getD 1 []) = false := not_eq.1 h4
        simp only [rdOk0, h2', Bool.and_false, Bool.false_and]
      · have h2' : numB ((wordsV s).getD 2 []) = false := not_eq.1 h5
        simp only [rdOk0, h2', Bool.and_false, Bool.false_and]
      · have b0 : numB ((wordsV s).getD 0 []) = true := not_eq.2 h2
        have b1 : numB ((wordsV s).getD 1 []) = true := not_eq.2 h4
        have b2 : numB ((wordsV s).getD 2 []) = true := not_eq.2 h5
        have hr := raw_ok true s hl
        rw [raw_t h6] at hr
        have hk : rdOk0 s = mayV (rawV true s) := by simp only [rdOk0, hl, h3, b0, b1, b2, decide_true, Bool.true_and, beq_self_eq_true]
        rw [raw_t h6] at hk
        refine ⟨den_Split _ _ (by simp) (by omega), rfl, rfl, den_version_May _ hr, fun h7 => ⟨rfl, rd_no ?_ true⟩, fun h7 => ⟨rfl, den_Clip 1 false true _ ⟨fun h => by simp at h, fun _ => rfl⟩, rfl, rfl, rfl, ?_⟩⟩
        · rw [hk]; rw [errV_ne] at h7; exact not_eq.1 h7
        · rw [errV_ne] at h7
          have := rd_yes (s := s) (by rw [hk]; exact not_eq.2 h7) true
          rw [raw_t h6] at this
          exact this
      · have b0 : numB ((wordsV s).getD 0 []) = true := not_eq.2 h2
        have b1 : numB ((wordsV s).getD 1 []) = true := not_eq.2 h4
        have b2 : numB ((wordsV s).getD 2 []) = true := not_eq.2 h5
        have hr := raw_ok true s hl
        rw [raw_f h6] at hr
        have hk : rdOk0 s = mayV (rawV true s) := by simp only [rdOk0, hl, h3, b0, b1, b2, decide_true, Bool.true_and, beq_self_eq_true]
        rw [raw_f h6] at hk
        refine ⟨rfl, den_version_May _ hr, fun h7 => ⟨rfl, rd_no ?_ true⟩, fun h7 => ⟨rfl, den_Clip 0 true true [] ⟨fun _ => rfl, fun h => by simp at h⟩, rfl, rfl, rfl, ?_⟩⟩
        · rw [hk]; rw [errV_ne] at h7; exact not_eq.1 h7
        · rw [errV_ne] at h7
          have := rd_yes (s := s) (by rw [hk]; exact not_eq.2 h7) true
          rw [raw_f h6] at this
          exact this
  · refine den1 2000 _ rfl (by kernel_rfl) rfl rfl rfl (Eq.mpr h0 ⟨fun h => ⟨rfl, rd_no ?_ true⟩, fun h => ?_⟩)
    · simp [rdOk0, hl]
    · simp only [decide_eq_false_iff_not, size_bs] at h; omega
end Go.Proofs.YtlhfgonjcpapnaaGreatDoor.Abs

namespace Go.Proofs.YtlhfgonjcpapnaaGreatDoor.Abs
open Go Go.Proofs
def strings_trimLeftASCII_S0 (s : List UInt8) (root : PV) (j : Nat → AV) (jr : Nat → Row) (g : Nat) : St :=
  { t := [strA (bs s), .pv (.ptr root 0)] ++ jj j 2 14, h := [List.replicate 16 row0], g := g }
theorem strings_trimLeftASCII_go (s : List UInt8) (root : PV) (r : PV) : FnGo E1 Tryz.f152 [strP s, .ptr root 0] r 2000 (.mask (iv [(2, 15)]) []) =
  (AtAll Tryz.f152 r 0 (strings_trimLeftASCII_S0 s root)) := by kernel_rfl
theorem strings_trimLeftASCII_go_S0 (s : List UInt8) (root : PV) (j : Nat → AV) (jr : Nat → Row) (g : Nat) (r : PV) : LoopGo E1 Tryz.f152 r 0 2000 (.fork (.res (bolP (trimC (↑(UInt8.toNat (List.getD s (0 : Nat) 0)) : Int))) (.fork (.hole 0) (.mask (iv [(2, 15)]) []))) (.hole 0)) (strings_trimLeftASCII_S0 s root j jr g) =
  (((decide ((↑(ByteArray.size (bs s)) : Int) > (0 : Int))) = true →
 (((0 : Int) ≤ (0 : Int)) ∧ ((0 : Nat) < ByteArray.size (bs s))) ∧
 (Den E1 176 [.ptr root 0, .lit (.int .u8 ((↑(UInt8.toNat (List.getD s (0 : Nat) 0)) : Int)))] (bolP (trimC (↑(UInt8.toNat (List.getD s (0 : Nat) 0)) : Int)))) ∧
 ((!trimC (↑(UInt8.toNat (List.getD s (0 : Nat) 0)) : Int)) = true →
 ((strP s) : PV) = r) ∧
 ((!trimC (↑(UInt8.toNat (List.getD s (0 : Nat) 0)) : Int)) = false →
 (((0 : Int) ≤ (1 : Int)) ∧ ((1 : Int) ≤ (↑(ByteArray.size (bs s)) : Int))) ∧
 (AtAll Tryz.f152 r 0 (strings_trimLeftASCII_S0 (Array.toList (ByteArray.extract (bs s) (1 : Nat) (ByteArray.size (bs s))).1) root)))) ∧
 ((decide ((↑(ByteArray.size (bs s)) : Int) > (0 : Int))) = false →
 ((strP s) : PV) = r)) := by kernel_rfl
end Go.Proofs.YtlhfgonjcpapnaaGreatDoor.Abs

set_option maxRecDepth 20000
namespace Go.Proofs.YtlhfgonjcpapnaaGreatDoor.Abs
open Go Go.Proofs
theorem contains_go (c : Int) (p r : PV) : FnGo E1 Tryz.f176 [.ptr aSetP 0, .lit (.int .u8 c)] r 2000 (.val p (.hole 0)) = ((0 ≤ c ∧ c < ((256 : Nat) : Int)) ∧ aSetP.cells[0 + c.toNat * 1]? = some p ∧ p = r) := by kernel_rfl
theorem aSet_get (n : Nat) (h : n < 256) : aSetP.cells[n]? = some (bolP (trimC n)) := by
  show ((List.range 256).map fun (c : Nat) => bolP (trimC c))[n]? = _
  rw [List.getElem?_map, List.getElem?_range h]
  rfl
theorem den_contains (b : UInt8) : Den E1 176 [.ptr aSetP 0, .lit (.int .u8 b.toNat)] (bolP (trimC b.toNat)) := by
  have hb : b.toNat < 256 := b.toNat_lt
  refine den1 2000 _ rfl (by kernel_rfl) rfl rfl rfl (Eq.mpr (contains_go b.toNat (bolP (trimC b.toNat)) _) ⟨⟨by omega, by omega⟩, ?_, rfl⟩)
  rw [Int.toNat_natCast, Nat.zero_add, Nat.mul_one]
  exact aSet_get b.toNat hb
theorem den_makeSet : Den E1 151 [strP [60, 62, 61, 126, 94]] (.tup [aSetP, bolP true]) :=
  den1 2000 _ rfl (by kernel_rfl) rfl rfl rfl (Eq.mpr (strings_makeASCIISet_go _) (by
    refine ⟨by decide, by decide, rfl, by decide, by decide, rfl, by decide, by decide, rfl, by decide, by decide, rfl, by decide, by decide, rfl, rfl, rfl, ?_⟩
    kernel_rfl))
theorem trim_S0 : ∀ (s : List UInt8) j jr g, LoopAt E1 Tryz.f152 (strP (trimL s)) 0 (strings_trimLeftASCII_S0 s aSetP j jr g)
  | [], j, jr, g => by
    refine loop_go 2000 _ (Eq.mpr (strings_trimLeftASCII_go_S0 [] aSetP j jr g _) ⟨fun h => ?_, fun h => rfl⟩)
    simp [size_bs] at h
  | c :: s, j, jr, g => by
    refine loop_go 2000 _ (Eq.mpr (strings_trimLeftASCII_go_S0 (c :: s) aSetP j jr g _) ⟨fun h => ⟨⟨by omega, by simp [size_bs]⟩, den_contains c, fun h1 => ?_, fun h1 => ⟨⟨by omega, by simp [size_bs]; omega⟩, fun j jr g => ?_⟩⟩, fun h => ?_⟩)
    · have h1' : trimC c.toNat = false := not_eq.1 h1
      have e2 : trimL (c :: s) = c :: s := by simp [trimL, h1']
      rw [e2]
      try rfl
    · have h1' : trimC c.toNat = true := not_eq.2 h1
      have e : (ByteArray.extract (bs (c :: s)) 1 (ByteArray.size (bs (c :: s)))).1.toList = s := by
        rw [extract_bs, size_bs]
        simp
      have e2 : trimL (c :: s) = trimL s := by simp [trimL, h1']
      rw [e, e2]
      exact trim_S0 s j jr g
    · simp [size_bs] at h
theorem den_trimASCII (s : List UInt8) : Den E1 152 [strP s, .ptr aSetP 0] (strP (trimL s)) :=
  den1 2000 _ rfl (by kernel_rfl) rfl rfl rfl (Eq.mpr (strings_trimLeftASCII_go s aSetP _) fun j jr g => trim_S0 s j jr g)
theorem den_TrimLeft (s : List UInt8) : Den E1 127 [strP s, strP [60, 62, 61, 126, 94]] (strP (trimL s)) := by
  refine den1 2000 _ rfl (by kernel_rfl) rfl rfl rfl (Eq.mpr (strings_TrimLeft_go s _) ⟨fun h => ?_, fun h => ⟨?_, rfl, ?_, rfl⟩⟩)
  · rw [toList_bs, toList_bs] at h
    have : s = [] := eq_of_beq h
    subst this; rfl
  · have := den_makeSet
    exact this
  · have := den_trimASCII s
    exact this
end Go.Proofs.YtlhfgonjcpapnaaGreatDoor.Abs

namespace Go.Proofs.YtlhfgonjcpapnaaGreatDoor.Abs
open Go Go.Proofs
def span_meet_S0 (l : List I) (m : List I) (k : Nat) (k' : Nat) (nl : Bool) (full : Bool) (nl' : Bool) (full' : Bool) (i : Int) (j : Nat → AV) (jr : Nat → Row) (g : Nat) : St :=
  { t := [j 0, .pv (.sl k' nl' full' (List.map I.p m)), j 2, j 3, j 4, .pv (.sl 0 true true [])] ++ jj j 6 6 ++ [.pv (.sl k nl full (List.map I.p l)), intA ((↑(List.length (List.map I.p l)) : Int)), intA i] ++ jj j 15 37, h := [List.replicate 7 row0 ++ [jr 7, row0, jr 9, jr 10, jr 11, row0, row0, row0, row0, row0, row0, row0, row0, row0, row0, row0, row0, row0, row0, row0, row0, row0, row0, row0, row0, row0, row0, row0, row0, row0, row0, row0, row0, row0, row0, row0, row0, row0, row0, jr 46] ++ List.replicate 5 row0], g := g }
def span_meet_S1 (l : List I) (m : List I) (k : Nat) (k' : Nat) (nl : Bool) (full : Bool) (nl' : Bool) (full' : Bool) (i : Int) (q : Int) (gx : Nat) (j : Nat → AV) (jr : Nat → Row) (g : Nat) : St :=
  { t := [j 0, .pv (.sl k' nl' full' (List.map I.p m)), j 2, j 3, j 4, .pv (.sl 0 true true []), j 6, .mptr 0 7 gx 0 0, j 8, j 9, j 10, j 11, .pv (.sl k nl full (List.map I.p l)), intA ((↑(List.length (List.map I.p l)) : Int)), intA i, j 15, j 16, j 17, .pv (.sl k' nl' full' (List.map I.p m)), intA ((↑(List.length (List.map I.p m)) : Int)), intA q] ++ jj j 21 31, h := [List.replicate 7 row0 ++ [⟨gx, .box (.pv (I.p (gI l i))) false⟩, row0, jr 9, jr 10, jr 11, row0, row0, row0, row0, row0, row0, row0, row0, row0, row0, row0, row0, row0, row0, row0, row0, row0, row0, row0, row0, row0, row0, row0, row0, row0, row0, row0, row0, row0, row0, row0, row0, row0, row0, jr 46] ++ List.replicate 5 row0], g := g }
def span_meet_S2 (l : List I) (m : List I) (k : Nat) (k' : Nat) (nl : Bool) (full : Bool) (nl' : Bool) (full' : Bool) (i : Int) (q : Int) (gx : Nat) (gm : Nat) (n : Nat) (xsI : List PV) (j : Nat → AV) (jr : Nat → Row) (g : Nat) : St :=
  { t := [j 0, .pv (.sl k' nl' full' (List.map I.p m)), j 2, j 3, j 4, .msl 0 47 gm 0 n false, j 6, .mptr 0 7 gx 0 0, j 8, j 9, j 10, j 11, .pv (.sl k nl full (List.map I.p l)), intA ((↑(List.length (List.map I.p l)) : Int)), intA i, j 15, j 16, j 17, .pv (.sl k' nl' full' (List.map I.p m)), intA ((↑(List.length (List.map I.p m)) : Int)), intA q] ++ jj j 21 31, h := [List.replicate 7 row0 ++ [⟨gx, .box (.pv (I.p (gI l i))) false⟩, row0, jr 9, jr 10, jr 11, row0, row0, row0, row0, row0, row0, row0, row0, row0, row0, row0, row0, row0, row0, row0, row0, row0, row0, row0, row0, row0, row0, row0, row0, row0, row0, row0, row0, row0, row0, row0, row0, row0, row0, jr 46, ⟨gm, .row 11 63 xsI false⟩] ++ List.replicate 4 row0], g := g }
def span_meet_S3 (l : List I) (m : List I) (k : Nat) (k' : Nat) (nl : Bool) (full : Bool) (nl' : Bool) (full' : Bool) (i : Int) (gm : Nat) (n : Nat) (xsI : List PV) (j : Nat → AV) (jr : Nat → Row) (g : Nat) : St :=
  { t := [j 0, .pv (.sl k' nl' full' (List.map I.p m)), j 2, j 3, j 4, .msl 0 47 gm 0 n false] ++ jj j 6 6 ++ [.pv (.sl k nl full (List.map I.p l)), intA ((↑(List.length (List.map I.p l)) : Int)), intA i] ++ jj j 15 37, h := [List.replicate 7 row0 ++ [jr 7, row0, jr 9, jr 10, jr 11, row0, row0, row0, row0, row0, row0, row0, row0, row0, row0, row0, row0, row0, row0, row0, row0, row0, row0, row0, row0, row0, row0, row0, row0, row0, row0, row0, row0, row0, row0, row0, row0, row0, row0, jr 46, ⟨gm, .row 11 63 xsI false⟩] ++ List.replicate 4 row0], g := g }
theorem span_meet_go (l : List I) (m : List I) (k : Nat) (k' : Nat) (nl : Bool) (full : Bool) (nl' : Bool) (full' : Bool) (r : PV) : FnGo E1 Tryz.f62 [.sl k nl full (List.map I.p l), .sl k' nl' full' (List.map I.p m)] r 2000 (.mask (iv [(0, 0), (2, 4), (6, 11), (15, 51)]) [7, 9, 10, 11, 46]) =
  (AtAll Tryz.f62 r 0 (span_meet_S0 l m k k' nl full nl' full' 0)) := by kernel_rfl
theorem span_meet_go_S0 (l : List I) (m : List I) (k : Nat) (k' : Nat) (nl : Bool) (full : Bool) (nl' : Bool) (full' : Bool) (i : Int) (j : Nat → AV) (jr : Nat → Row) (g : Nat) (r : PV) : LoopGo E1 Tryz.f62 r 0 2000 (.fork (.val (I.p (gI l i)) (.mask (iv [(0, 0), (2, 4), (6, 6), (8, 11), (15, 17), (21, 51)]) [9, 10, 11, 46])) (.res (.sl 0 true true []) (.hole 0))) (span_meet_S0 l m k k' nl full nl' full' i j jr g) =
  (((decide (i < (↑(List.length (List.map I.p l)) : Int))) = true →
 (((0 : Int) ≤ i) ∧ ((nl = false) ∧ (k = 11))) ∧
 (((List.map I.p l)[Int.toNat i]?) = some (I.p (gI l i))) ∧
 ((g + 1 + 2) = g + 1 + 2) ∧
 (AtAll Tryz.f62 r 1 (span_meet_S1 l m k k' nl full nl' full' i 0 (g + 1 + 2)))) ∧
 ((decide (i < (↑(List.length (List.map I.p l)) : Int))) = false →
 (Den E1 54 [.sl 0 true true []] (.sl 0 true true [])) ∧
 ((.sl 0 true true []) : PV) = r)) := by kernel_rfl
theorem span_meet_go_S1 (l : List I) (m : List I) (k : Nat) (k' : Nat) (nl : Bool) (full : Bool) (nl' : Bool) (full' : Bool) (i : Int) (q : Int) (gx : Nat) (j : Nat → AV) (jr : Nat → Row) (g : Nat) (r : PV) : LoopGo E1 Tryz.f62 r 1 2000 (.fork (.val (I.p (gI m q)) (.res (Ed.p ⟨(I.lo (gI l i)), (I.lopen (gI l i)), false⟩) (.res (Ed.p ⟨(I.hi (gI l i)), (!I.hopen (gI l i)), (I.less (gI l i))⟩) (.res (Ed.p ⟨(I.lo (gI m q)), (I.lopen (gI m q)), false⟩) (.res (intP (befE ⟨I.lo (gI l i), I.lopen (gI l i), false⟩ ⟨I.lo (gI m q), I.lopen (gI m q), false⟩)) (.fork (.res (Ed.p ⟨(I.lo (gI m q)), (I.lopen (gI m q)), false⟩) (.res (Ed.p ⟨(I.hi (gI m q)), (!I.hopen (gI m q)), (I.less (gI m q))⟩) (.res (intP (befE ⟨I.hi (gI m q), !I.hopen (gI m q), I.less (gI m q)⟩ ⟨I.hi (gI l i), !I.hopen (gI l i), I.less (gI l i)⟩)) (.fork (.res (Ed.p ⟨(I.hi (gI m q)), (!I.hopen (gI m q)), (I.less (gI m q))⟩) (.res (I.p ⟨(I.lo (gI m q)), (I.lopen (gI m q)), (if Ed.less ⟨I.hi (gI m q), !I.hopen (gI m q), I.less (gI m q)⟩ = true then zV else I.hi (gI m q)), (if Ed.less ⟨I.hi (gI m q), !I.hopen (gI m q), I.less (gI m q)⟩ = true then false else !!I.hopen (gI m q)), (I.less (gI m q))⟩) (.lit (.lit (.mask (iv [(0, 0), (2, 4), (6, 6), (8, 11), (15, 17), (21, 51)]) [9, 10, 11, 46]))))) (.res (I.p ⟨(I.lo (gI m q)), (I.lopen (gI m q)), (if Ed.less ⟨I.hi (gI l i), !I.hopen (gI l i), I.less (gI l i)⟩ = true then zV else I.hi (gI l i)), (if Ed.less ⟨I.hi (gI l i), !I.hopen (gI l i), I.less (gI l i)⟩ = true then false else !!I.hopen (gI l i)), (I.less (gI l i))⟩) (.lit (.lit (.mask (iv [(0, 0), (2, 4), (6, 6), (8, 11), (15, 17), (21, 51)]) [9, 10, 11, 46])))))))) (.res (Ed.p ⟨(I.hi (gI m q)), (!I.hopen (gI m q)), (I.less (gI m q))⟩) (.res (intP (befE ⟨I.hi (gI m q), !I.hopen (gI m q), I.less (gI m q)⟩ ⟨I.hi (gI l i), !I.hopen (gI l i), I.less (gI l i)⟩)) (.fork (.res (Ed.p ⟨(I.hi (gI m q)), (!I.hopen (gI m q)), (I.less (gI m q))⟩) (.res (I.p ⟨(I.lo (gI l i)), (I.lopen (gI l i)), (if Ed.less ⟨I.hi (gI m q), !I.hopen (gI m q), I.less (gI m q)⟩ = true then zV else I.hi (gI m q)), (if Ed.less ⟨I.hi (gI m q), !I.hopen (gI m q), I.less (gI m q)⟩ = true then false else !!I.hopen (gI m q)), (I.less (gI m q))⟩) (.lit (.lit (.mask (iv [(0, 0), (2, 4), (6, 6), (8, 11), (15, 17), (21, 51)]) [9, 10, 11, 46]))))) (.res (I.p ⟨(I.lo (gI l i)), (I.lopen (gI l i)), (if Ed.less ⟨I.hi (gI l i), !I.hopen (gI l i), I.less (gI l i)⟩ = true then zV else I.hi (gI l i)), (if Ed.less ⟨I.hi (gI l i), !I.hopen (gI l i), I.less (gI l i)⟩ = true then false else !!I.hopen (gI l i)), (I.less (gI l i))⟩) (.lit (.lit (.mask (iv [(0, 0), (2, 4), (6, 6), (8, 11), (15, 17), (21, 51)]) [9, 10, 11, 46]))))))))))))) (.mask (iv [(0, 0), (2, 4), (6, 11), (15, 51)]) [7, 9, 10, 11, 46])) (span_meet_S1 l m k k' nl full nl' full' i q gx j jr g) =
  (((decide (q < (↑(List.length (List.map I.p m)) : Int))) = true →
 (((0 : Int) ≤ q) ∧ ((nl' = false) ∧ (k' = 11))) ∧
 (((List.map I.p m)[Int.toNat q]?) = some (I.p (gI m q))) ∧
 ((g + 1 + 2) = g + 1 + 2) ∧
 (gx = gx) ∧
 (Den E1 37 [I.p (gI l i)] (Ed.p ⟨(I.lo (gI l i)), (I.lopen (gI l i)), false⟩)) ∧
 (gx = gx) ∧
 (Den E1 38 [I.p (gI l i)] (Ed.p ⟨(I.hi (gI l i)), (!I.hopen (gI l i)), (I.less (gI l i))⟩)) ∧
 ((g + 1 + 4 + 4) = g + 1 + 4 + 4) ∧
 ((g + 1 + 4 + 5) = g + 1 + 4 + 5) ∧
 ((g + 1 + 4 + 4) = g + 1 + 4 + 4) ∧
 ((g + 1 + 2) = g + 1 + 2) ∧
 (Den E1 37 [I.p (gI m q)] (Ed.p ⟨(I.lo (gI m q)), (I.lopen (gI m q)), false⟩)) ∧
 (Den E1 36 [Ed.p ⟨(I.lo (gI l i)), (I.lopen (gI l i)), false⟩, Ed.p ⟨(I.lo (gI m q)), (I.lopen (gI m q)), false⟩] (intP (befE ⟨I.lo (gI l i), I.lopen (gI l i), false⟩ ⟨I.lo (gI m q), I.lopen (gI m q), false⟩))) ∧
 ((decide (befE ⟨I.lo (gI l i), I.lopen (gI l i), false⟩ ⟨I.lo (gI m q), I.lopen (gI m q), false⟩ < (0 : Int))) = true →
 ((g + 1 + 2) = g + 1 + 2) ∧
 (Den E1 37 [I.p (gI m q)] (Ed.p ⟨(I.lo (gI m q)), (I.lopen (gI m q)), false⟩)) ∧
 ((g + 1 + 4 + 4) = g + 1 + 4 + 4) ∧
 ((g + 1 + 2) = g + 1 + 2) ∧
 (Den E1 38 [I.p (gI m q)] (Ed.p ⟨(I.hi (gI m q)), (!I.hopen (gI m q)), (I.less (gI m q))⟩)) ∧
 ((g + 1 + 4 + 5) = g + 1 + 4 + 5) ∧
 (Den E1 36 [Ed.p ⟨(I.hi (gI m q)), (!I.hopen (gI m q)), (I.less (gI m q))⟩, Ed.p ⟨(I.hi (gI l i)), (!I.hopen (gI l i)), (I.less (gI l i))⟩] (intP (befE ⟨I.hi (gI m q), !I.hopen (gI m q), I.less (gI m q)⟩ ⟨I.hi (gI l i), !I.hopen (gI l i), I.less (gI l i)⟩))) ∧
 ((decide (befE ⟨I.hi (gI m q), !I.hopen (gI m q), I.less (gI m q)⟩ ⟨I.hi (gI l i), !I.hopen (gI l i), I.less (gI l i)⟩ < (0 : Int))) = true →
 ((g + 1 + 2) = g + 1 + 2) ∧
 (Den E1 38 [I.p (gI m q)] (Ed.p ⟨(I.hi (gI m q)), (!I.hopen (gI m q)), (I.less (gI m q))⟩)) ∧
 ((g + 1 + 4 + 5) = g + 1 + 4 + 5) ∧
 ((g + 1 + 4 + 4) = g + 1 + 4 + 4) ∧
 ((g + 1 + 4 + 5) = g + 1 + 4 + 5) ∧
 (Den E1 89 [Ed.p ⟨(I.lo (gI m q)), (I.lopen (gI m q)), false⟩, Ed.p ⟨(I.hi (gI m q)), (!I.hopen (gI m q)), (I.less (gI m q))⟩] (I.p ⟨(I.lo (gI m q)), (I.lopen (gI m q)), (if Ed.less ⟨I.hi (gI m q), !I.hopen (gI m q), I.less (gI m q)⟩ = true then zV else I.hi (gI m q)), (if Ed.less ⟨I.hi (gI m q), !I.hopen (gI m q), I.less (gI m q)⟩ = true then false else !!I.hopen (gI m q)), (I.less (gI m q))⟩)) ∧
 ((g + 1 + 4 + 8 + 5 + 3 + 5 + 3 + 4) = g + 1 + 4 + 8 + 5 + 3 + 5 + 3 + 4) ∧
 (((11 : Nat) = 11) ∧ ((1 : Nat) ≤ (1 : Nat))) ∧
 (((0 : Nat) = 0) ∧ (true = true)) ∧
 (AtAll Tryz.f62 r 1 (span_meet_S2 l m k k' nl full nl' full' i (IntKind.i64.wrap (q + (1 : Int))) gx (g + 1 + 4 + 8 + 5 + 3 + 5 + 3 + 5) 1 [I.p ⟨(I.lo (gI m q)), (I.lopen (gI m q)), (if Ed.less ⟨I.hi (gI m q), !I.hopen (gI m q), I.less (gI m q)⟩ = true then zV else I.hi (gI m q)), (if Ed.less ⟨I.hi (gI m q), !I.hopen (gI m q), I.less (gI m q)⟩ = true then false else !!I.hopen (gI m q)), (I.less (gI m q))⟩]))) ∧
 ((decide (befE ⟨I.hi (gI m q), !I.hopen (gI m q), I.less (gI m q)⟩ ⟨I.hi (gI l i), !I.hopen (gI l i), I.less (gI l i)⟩ < (0 : Int))) = false →
 ((g + 1 + 4 + 4) = g + 1 + 4 + 4) ∧
 ((g + 1 + 4 + 5) = g + 1 + 4 + 5) ∧
 (Den E1 89 [Ed.p ⟨(I.lo (gI m q)), (I.lopen (gI m q)), false⟩, Ed.p ⟨(I.hi (gI l i)), (!I.hopen (gI l i)), (I.less (gI l i))⟩] (I.p ⟨(I.lo (gI m q)), (I.lopen (gI m q)), (if Ed.less ⟨I.hi (gI l i), !I.hopen (gI l i), I.less (gI l i)⟩ = true then zV else I.hi (gI l i)), (if Ed.less ⟨I.hi (gI l i), !I.hopen (gI l i), I.less (gI l i)⟩ = true then false else !!I.hopen (gI l i)), (I.less (gI l i))⟩)) ∧
 ((g + 1 + 4 + 8 + 5 + 3 + 5 + 4) = g + 1 + 4 + 8 + 5 + 3 + 5 + 4) ∧
 (((11 : Nat) = 11) ∧ ((1 : Nat) ≤ (1 : Nat))) ∧
 (((0 : Nat) = 0) ∧ (true = true)) ∧
 (AtAll Tryz.f62 r 1 (span_meet_S2 l m k k' nl full nl' full' i (IntKind.i64.wrap (q + (1 : Int))) gx (g + 1 + 4 + 8 + 5 + 3 + 5 + 5) 1 [I.p ⟨(I.lo (gI m q)), (I.lopen (gI m q)), (if Ed.less ⟨I.hi (gI l i), !I.hopen (gI l i), I.less (gI l i)⟩ = true then zV else I.hi (gI l i)), (if Ed.less ⟨I.hi (gI l i), !I.hopen (gI l i), I.less (gI l i)⟩ = true then false else !!I.hopen (gI l i)), (I.less (gI l i))⟩])))) ∧
 ((decide (befE ⟨I.lo (gI l i), I.lopen (gI l i), false⟩ ⟨I.lo (gI m q), I.lopen (gI m q), false⟩ < (0 : Int))) = false →
 ((g + 1 + 2) = g + 1 + 2) ∧
 (Den E1 38 [I.p (gI m q)] (Ed.p ⟨(I.hi (gI m q)), (!I.hopen (gI m q)), (I.less (gI m q))⟩)) ∧
 ((g + 1 + 4 + 5) = g + 1 + 4 + 5) ∧
 (Den E1 36 [Ed.p ⟨(I.hi (gI m q)), (!I.hopen (gI m q)), (I.less (gI m q))⟩, Ed.p ⟨(I.hi (gI l i)), (!I.hopen (gI l i)), (I.less (gI l i))⟩] (intP (befE ⟨I.hi (gI m q), !I.hopen (gI m q), I.less (gI m q)⟩ ⟨I.hi (gI l i), !I.hopen (gI l i), I.less (gI l i)⟩))) ∧
 ((decide (befE ⟨I.hi (gI m q), !I.hopen (gI m q), I.less (gI m q)⟩ ⟨I.hi (gI l i), !I.hopen (gI l i), I.less (gI l i)⟩ < (0 : Int))) = true →
 ((g + 1 + 2) = g + 1 + 2) ∧
 (Den E1 38 [I.p (gI m q)] (Ed.p ⟨(I.hi (gI m q)), (!I.hopen (gI m q)), (I.less (gI m q))⟩)) ∧
 ((g + 1 + 4 + 5) = g + 1 + 4 + 5) ∧
 ((g + 1 + 4 + 4) = g + 1 + 4 + 4) ∧
 ((g + 1 + 4 + 5) = g + 1 + 4 + 5) ∧
 (Den E1 89 [Ed.p ⟨(I.lo (gI l i)), (I.lopen (gI l i)), false⟩, Ed.p ⟨(I.hi (gI m q)), (!I.hopen (gI m q)), (I.less (gI m q))⟩] (I.p ⟨(I.lo (gI l i)), (I.lopen (gI l i)), (if Ed.less ⟨I.hi (gI m q), !I.hopen (gI m q), I.less (gI m q)⟩ = true then zV else I.hi (gI m q)), (if Ed.less ⟨I.hi (gI m q), !I.hopen (gI m q), I.less (gI m q)⟩ = true then false else !!I.hopen (gI m q)), (I.less (gI m q))⟩)) ∧
 ((g + 1 + 4 + 8 + 5 + 5 + 3 + 4) = g + 1 + 4 + 8 + 5 + 5 + 3 + 4) ∧
 (((11 : Nat) = 11) ∧ ((1 : Nat) ≤ (1 : Nat))) ∧
 (((0 : Nat) = 0) ∧ (true = true)) ∧
 (AtAll Tryz.f62 r 1 (span_meet_S2 l m k k' nl full nl' full' i (IntKind.i64.wrap (q + (1 : Int))) gx (g + 1 + 4 + 8 + 5 + 5 + 3 + 5) 1 [I.p ⟨(I.lo (gI l i)), (I.lopen (gI l i)), (if Ed.less ⟨I.hi (gI m q), !I.hopen (gI m q), I.less (gI m q)⟩ = true then zV else I.hi (gI m q)), (if Ed.less ⟨I.hi (gI m q), !I.hopen (gI m q), I.less (gI m q)⟩ = true then false else !!I.hopen (gI m q)), (I.less (gI m q))⟩]))) ∧
 ((decide (befE ⟨I.hi (gI m q), !I.hopen (gI m q), I.less (gI m q)⟩ ⟨I.hi (gI l i), !I.hopen (gI l i), I.less (gI l i)⟩ < (0 : Int))) = false →
 ((g + 1 + 4 + 4) = g + 1 + 4 + 4) ∧
 ((g + 1 + 4 + 5) = g + 1 + 4 + 5) ∧
 (Den E1 89 [Ed.p ⟨(I.lo (gI l i)), (I.lopen (gI l i)), false⟩, Ed.p ⟨(I.hi (gI l i)), (!I.hopen (gI l i)), (I.less (gI l i))⟩] (I.p ⟨(I.lo (gI l i)), (I.lopen (gI l i)), (if Ed.less ⟨I.hi (gI l i), !I.hopen (gI l i), I.less (gI l i)⟩ = true then zV else I.hi (gI l i)), (if Ed.less ⟨I.hi (gI l i), !I.hopen (gI l i), I.less (gI l i)⟩ = true then false else !!I.hopen (gI l i)), (I.less (gI l i))⟩)) ∧
 ((g + 1 + 4 + 8 + 5 + 5 + 4) = g + 1 + 4 + 8 + 5 + 5 + 4) ∧
 (((11 : Nat) = 11) ∧ ((1 : Nat) ≤ (1 : Nat))) ∧
 (((0 : Nat) = 0) ∧ (true = true)) ∧
 (AtAll Tryz.f62 r 1 (span_meet_S2 l m k k' nl full nl' full' i (IntKind.i64.wrap (q + (1 : Int))) gx (g + 1 + 4 + 8 + 5 + 5 + 5) 1 [I.p ⟨(I.lo (gI l i)), (I.lopen (gI l i)), (if Ed.less ⟨I.hi (gI l i), !I.hopen (gI l i), I.less (gI l i)⟩ = true then zV else I.hi (gI l i)), (if Ed.less ⟨I.hi (gI l i), !I.hopen (gI l i), I.less (gI l i)⟩ = true then false else !!I.hopen (gI l i)), (I.less (gI l i))⟩]))))) ∧
 ((decide (q < (↑(List.length (List.map I.p m)) : Int))) = false →
 AtAll Tryz.f62 r 0 (span_meet_S0 l m k k' nl full nl' full' (IntKind.i64.wrap (i + (1 : Int)))))) := by kernel_rfl
theorem span_meet_go_S2 (l : List I) (m : List I) (k : Nat) (k' : Nat) (nl : Bool) (full : Bool) (nl' : Bool) (full' : Bool) (i : Int) (q : Int) (gx : Nat) (gm : Nat) (n : Nat) (xs : List I) (j : Nat → AV) (jr : Nat → Row) (g : Nat) (r : PV) : LoopGo E1 Tryz.f62 r 1 2000 (.fork (.val (I.p (gI m q)) (.res (Ed.p ⟨(I.lo (gI l i)), (I.lopen (gI l i)), false⟩) (.res (Ed.p ⟨(I.hi (gI l i)), (!I.hopen (gI l i)), (I.less (gI l i))⟩) (.res (Ed.p ⟨(I.lo (gI m q)), (I.lopen (gI m q)), false⟩) (.res (intP (befE ⟨I.lo (gI l i), I.lopen (gI l i), false⟩ ⟨I.lo (gI m q), I.lopen (gI m q), false⟩)) (.fork (.res (Ed.p ⟨(I.lo (gI m q)), (I.lopen (gI m q)), false⟩) (.res (Ed.p ⟨(I.hi (gI m q)), (!I.hopen (gI m q)), (I.less (gI m q))⟩) (.res (intP (befE ⟨I.hi (gI m q), !I.hopen (gI m q), I.less (gI m q)⟩ ⟨I.hi (gI l i), !I.hopen (gI l i), I.less (gI l i)⟩)) (.fork (.res (Ed.p ⟨(I.hi (gI m q)), (!I.hopen (gI m q)), (I.less (gI m q))⟩) (.res (I.p ⟨(I.lo (gI m q)), (I.lopen (gI m q)), (if Ed.less ⟨I.hi (gI m q), !I.hopen (gI m q), I.less (gI m q)⟩ = true then zV else I.hi (gI m q)), (if Ed.less ⟨I.hi (gI m q), !I.hopen (gI m q), I.less (gI m q)⟩ = true then false else !!I.hopen (gI m q)), (I.less (gI m q))⟩) (.lit (.mask (iv [(0, 0), (2, 4), (6, 6), (8, 11), (15, 17), (21, 51)]) [9, 10, 11, 46])))) (.res (I.p ⟨(I.lo (gI m q)), (I.lopen (gI m q)), (if Ed.less ⟨I.hi (gI l i), !I.hopen (gI l i), I.less (gI l i)⟩ = true then zV else I.hi (gI l i)), (if Ed.less ⟨I.hi (gI l i), !I.hopen (gI l i), I.less (gI l i)⟩ = true then false else !!I.hopen (gI l i)), (I.less (gI l i))⟩) (.lit (.mask (iv [(0, 0), (2, 4), (6, 6), (8, 11), (15, 17), (21, 51)]) [9, 10, 11, 46]))))))) (.res (Ed.p ⟨(I.hi (gI m q)), (!I.hopen (gI m q)), (I.less (gI m q))⟩) (.res (intP (befE ⟨I.hi (gI m q), !I.hopen (gI m q), I.less (gI m q)⟩ ⟨I.hi (gI l i), !I.hopen (gI l i), I.less (gI l i)⟩)) (.fork (.res (Ed.p ⟨(I.hi (gI m q)), (!I.hopen (gI m q)), (I.less (gI m q))⟩) (.res (I.p ⟨(I.lo (gI l i)), (I.lopen (gI l i)), (if Ed.less ⟨I.hi (gI m q), !I.hopen (gI m q), I.less (gI m q)⟩ = true then zV else I.hi (gI m q)), (if Ed.less ⟨I.hi (gI m q), !I.hopen (gI m q), I.less (gI m q)⟩ = true then false else !!I.hopen (gI m q)), (I.less (gI m q))⟩) (.lit (.mask (iv [(0, 0), (2, 4), (6, 6), (8, 11), (15, 17), (21, 51)]) [9, 10, 11, 46])))) (.res (I.p ⟨(I.lo (gI l i)), (I.lopen (gI l i)), (if Ed.less ⟨I.hi (gI l i), !I.hopen (gI l i), I.less (gI l i)⟩ = true then zV else I.hi (gI l i)), (if Ed.less ⟨I.hi (gI l i), !I.hopen (gI l i), I.less (gI l i)⟩ = true then false else !!I.hopen (gI l i)), (I.less (gI l i))⟩) (.lit (.mask (iv [(0, 0), (2, 4), (6, 6), (8, 11), (15, 17), (21, 51)]) [9, 10, 11, 46])))))))))))) (.mask (iv [(0, 0), (2, 4), (6, 11), (15, 51)]) [7, 9, 10, 11, 46])) (span_meet_S2 l m k k' nl full nl' full' i q gx gm n (List.map I.p xs) j jr g) =
  (((decide (q < (↑(List.length (List.map I.p m)) : Int))) = true →
 (((0 : Int) ≤ q) ∧ ((nl' = false) ∧ (k' = 11))) ∧
 (((List.map I.p m)[Int.toNat q]?) = some (I.p (gI m q))) ∧
 ((g + 1 + 2) = g + 1 + 2) ∧
 (gx = gx) ∧
 (Den E1 37 [I.p (gI l i)] (Ed.p ⟨(I.lo (gI l i)), (I.lopen (gI l i)), false⟩)) ∧
 (gx = gx) ∧
 (Den E1 38 [I.p (gI l i)] (Ed.p ⟨(I.hi (gI l i)), (!I.hopen (gI l i)), (I.less (gI l i))⟩)) ∧
 ((g + 1 + 4 + 4) = g + 1 + 4 + 4) ∧
 ((g + 1 + 4 + 5) = g + 1 + 4 + 5) ∧
 ((g + 1 + 4 + 4) = g + 1 + 4 + 4) ∧
 ((g + 1 + 2) = g + 1 + 2) ∧
 (Den E1 37 [I.p (gI m q)] (Ed.p ⟨(I.lo (gI m q)), (I.lopen (gI m q)), false⟩)) ∧
 (Den E1 36 [Ed.p ⟨(I.lo (gI l i)), (I.lopen (gI l i)), false⟩, Ed.p ⟨(I.lo (gI m q)), (I.lopen (gI m q)), false⟩] (intP (befE ⟨I.lo (gI l i), I.lopen (gI l i), false⟩ ⟨I.lo (gI m q), I.lopen (gI m q), false⟩))) ∧
 ((decide (befE ⟨I.lo (gI l i), I.lopen (gI l i), false⟩ ⟨I.lo (gI m q), I.lopen (gI m q), false⟩ < (0 : Int))) = true →
 ((g + 1 + 2) = g + 1 + 2) ∧
 (Den E1 37 [I.p (gI m q)] (Ed.p ⟨(I.lo (gI m q)), (I.lopen (gI m q)), false⟩)) ∧
 ((g + 1 + 4 + 4) = g + 1 + 4 + 4) ∧
 ((g + 1 + 2) = g + 1 + 2) ∧
 (Den E1 38 [I.p (gI m q)] (Ed.p ⟨(I.hi (gI m q)), (!I.hopen (gI m q)), (I.less (gI m q))⟩)) ∧
 ((g + 1 + 4 + 5) = g + 1 + 4 + 5) ∧
 (Den E1 36 [Ed.p ⟨(I.hi (gI m q)), (!I.hopen (gI m q)), (I.less (gI m q))⟩, Ed.p ⟨(I.hi (gI l i)), (!I.hopen (gI l i)), (I.less (gI l i))⟩] (intP (befE ⟨I.hi (gI m q), !I.hopen (gI m q), I.less (gI m q)⟩ ⟨I.hi (gI l i), !I.hopen (gI l i), I.less (gI l i)⟩))) ∧
 ((decide (befE ⟨I.hi (gI m q), !I.hopen (gI m q), I.less (gI m q)⟩ ⟨I.hi (gI l i), !I.hopen (gI l i), I.less (gI l i)⟩ < (0 : Int))) = true →
 ((g + 1 + 2) = g + 1 + 2) ∧
 (Den E1 38 [I.p (gI m q)] (Ed.p ⟨(I.hi (gI m q)), (!I.hopen (gI m q)), (I.less (gI m q))⟩)) ∧
 ((g + 1 + 4 + 5) = g + 1 + 4 + 5) ∧
 ((g + 1 + 4 + 4) = g + 1 + 4 + 4) ∧
 ((g + 1 + 4 + 5) = g + 1 + 4 + 5) ∧
 (Den E1 89 [Ed.p ⟨(I.lo (gI m q)), (I.lopen (gI m q)), false⟩, Ed.p ⟨(I.hi (gI m q)), (!I.hopen (gI m q)), (I.less (gI m q))⟩] (I.p ⟨(I.lo (gI m q)), (I.lopen (gI m q)), (if Ed.less ⟨I.hi (gI m q), !I.hopen (gI m q), I.less (gI m q)⟩ = true then zV else I.hi (gI m q)), (if Ed.less ⟨I.hi (gI m q), !I.hopen (gI m q), I.less (gI m q)⟩ = true then false else !!I.hopen (gI m q)), (I.less (gI m q))⟩)) ∧
 ((g + 1 + 4 + 8 + 5 + 3 + 5 + 3 + 4) = g + 1 + 4 + 8 + 5 + 3 + 5 + 3 + 4) ∧
 (((11 : Nat) = 11) ∧ ((1 : Nat) ≤ (1 : Nat))) ∧
 (gm = gm) ∧
 ((false = false) ∧ (((11 : Nat) = 11) ∧ (((63 : Nat) = 63) ∧ ((((0 : Nat) + n) = List.length (List.map I.p xs)) ∧ ((fitsRow (n + 1) (104 : Nat)) = true))))) ∧
 (∀ (j' : Nat → AV) (jr' : Nat → Row) (g' : Nat), LoopAt E1 Tryz.f62 r 1 (span_meet_S2 l m k k' nl full nl' full' i (IntKind.i64.wrap (q + (1 : Int))) gx (g + 1 + 4 + 8 + 5 + 3 + 5 + 3 + 5) (n + 1) (List.drop (0 : Nat) (List.map I.p xs) ++ List.take (1 : Nat) (List.drop (0 : Nat) [PV.agg [PV.lit (Value.int IntKind.u32 (V.a (I.lo (gI m q)))), PV.lit (Value.int IntKind.u32 (V.b (I.lo (gI m q)))), PV.lit (Value.int IntKind.u32 (V.c (I.lo (gI m q)))), V.q (I.lo (gI m q)), PV.lit (Value.bool (I.lopen (gI m q))), PV.lit (Value.int IntKind.u32 (V.a (if Ed.less ⟨I.hi (gI m q), !I.hopen (gI m q), I.less (gI m q)⟩ = true then zV else I.hi (gI m q)))), PV.lit (Value.int IntKind.u32 (V.b (if Ed.less ⟨I.hi (gI m q), !I.hopen (gI m q), I.less (gI m q)⟩ = true then zV else I.hi (gI m q)))), PV.lit (Value.int IntKind.u32 (V.c (if Ed.less ⟨I.hi (gI m q), !I.hopen (gI m q), I.less (gI m q)⟩ = true then zV else I.hi (gI m q)))), V.q (if Ed.less ⟨I.hi (gI m q), !I.hopen (gI m q), I.less (gI m q)⟩ = true then zV else I.hi (gI m q)), PV.lit (Value.bool (if Ed.less ⟨I.hi (gI m q), !I.hopen (gI m q), I.less (gI m q)⟩ = true then false else !!I.hopen (gI m q))), PV.lit (Value.bool (I.less (gI m q)))]])) j' jr' g'))) ∧
 ((decide (befE ⟨I.hi (gI m q), !I.hopen (gI m q), I.less (gI m q)⟩ ⟨I.hi (gI l i), !I.hopen (gI l i), I.less (gI l i)⟩ < (0 : Int))) = false →
 ((g + 1 + 4 + 4) = g + 1 + 4 + 4) ∧
 ((g + 1 + 4 + 5) = g + 1 + 4 + 5) ∧
 (Den E1 89 [Ed.p ⟨(I.lo (gI m q)), (I.lopen (gI m q)), false⟩, Ed.p ⟨(I.hi (gI l i)), (!I.hopen (gI l i)), (I.less (gI l i))⟩] (I.p ⟨(I.lo (gI m q)), (I.lopen (gI m q)), (if Ed.less ⟨I.hi (gI l i), !I.hopen (gI l i), I.less (gI l i)⟩ = true then zV else I.hi (gI l i)), (if Ed.less ⟨I.hi (gI l i), !I.hopen (gI l i), I.less (gI l i)⟩ = true then false else !!I.hopen (gI l i)), (I.less (gI l i))⟩)) ∧
 ((g + 1 + 4 + 8 + 5 + 3 + 5 + 4) = g + 1 + 4 + 8 + 5 + 3 + 5 + 4) ∧
 (((11 : Nat) = 11) ∧ ((1 : Nat) ≤ (1 : Nat))) ∧
 (gm = gm) ∧
 ((false = false) ∧ (((11 : Nat) = 11) ∧ (((63 : Nat) = 63) ∧ ((((0 : Nat) + n) = List.length (List.map I.p xs)) ∧ ((fitsRow (n + 1) (104 : Nat)) = true))))) ∧
 (∀ (j' : Nat → AV) (jr' : Nat → Row) (g' : Nat), LoopAt E1 Tryz.f62 r 1 (span_meet_S2 l m k k' nl full nl' full' i (IntKind.i64.wrap (q + (1 : Int))) gx (g + 1 + 4 + 8 + 5 + 3 + 5 + 5) (n + 1) (List.drop (0 : Nat) (List.map I.p xs) ++ List.take (1 : Nat) (List.drop (0 : Nat) [PV.agg [PV.lit (Value.int IntKind.u32 (V.a (I.lo (gI m q)))), PV.lit (Value.int IntKind.u32 (V.b (I.lo (gI m q)))), PV.lit (Value.int IntKind.u32 (V.c (I.lo (gI m q)))), V.q (I.lo (gI m q)), PV.lit (Value.bool (I.lopen (gI m q))), PV.lit (Value.int IntKind.u32 (V.a (if Ed.less ⟨I.hi (gI l i), !I.hopen (gI l i), I.less (gI l i)⟩ = true then zV else I.hi (gI l i)))), PV.lit (Value.int IntKind.u32 (V.b (if Ed.less ⟨I.hi (gI l i), !I.hopen (gI l i), I.less (gI l i)⟩ = true then zV else I.hi (gI l i)))), PV.lit (Value.int IntKind.u32 (V.c (if Ed.less ⟨I.hi (gI l i), !I.hopen (gI l i), I.less (gI l i)⟩ = true then zV else I.hi (gI l i)))), V.q (if Ed.less ⟨I.hi (gI l i), !I.hopen (gI l i), I.less (gI l i)⟩ = true then zV else I.hi (gI l i)), PV.lit (Value.bool (if Ed.less ⟨I.hi (gI l i), !I.hopen (gI l i), I.less (gI l i)⟩ = true then false else !!I.hopen (gI l i))), PV.lit (Value.bool (I.less (gI l i)))]])) j' jr' g')))) ∧
 ((decide (befE ⟨I.lo (gI l i), I.lopen (gI l i), false⟩ ⟨I.lo (gI m q), I.lopen (gI m q), false⟩ < (0 : Int))) = false →
 ((g + 1 + 2) = g + 1 + 2) ∧
 (Den E1 38 [I.p (gI m q)] (Ed.p ⟨(I.hi (gI m q)), (!I.hopen (gI m q)), (I.less (gI m q))⟩)) ∧
 ((g + 1 + 4 + 5) = g + 1 + 4 + 5) ∧
 (Den E1 36 [Ed.p ⟨(I.hi (gI m q)), (!I.hopen (gI m q)), (I.less (gI m q))⟩, Ed.p ⟨(I.hi (gI l i)), (!I.hopen (gI l i)), (I.less (gI l i))⟩] (intP (befE ⟨I.hi (gI m q), !I.hopen (gI m q), I.less (gI m q)⟩ ⟨I.hi (gI l i), !I.hopen (gI l i), I.less (gI l i)⟩))) ∧
 ((decide (befE ⟨I.hi (gI m q), !I.hopen (gI m q), I.less (gI m q)⟩ ⟨I.hi (gI l i), !I.hopen (gI l i), I.less (gI l i)⟩ < (0 : Int))) = true →
 ((g + 1 + 2) = g + 1 + 2) ∧
 (Den E1 38 [I.p (gI m q)] (Ed.p ⟨(I.hi (gI m q)), (!I.hopen (gI m q)), (I.less (gI m q))⟩)) ∧
 ((g + 1 + 4 + 5) = g + 1 + 4 + 5) ∧
 ((g + 1 + 4 + 4) = g + 1 + 4 + 4) ∧
 ((g + 1 + 4 + 5) = g + 1 + 4 + 5) ∧
 (Den E1 89 [Ed.p ⟨(I.lo (gI l i)), (I.lopen (gI l i)), false⟩, Ed.p ⟨(I.hi (gI m q)), (!I.hopen (gI m q)), (I.less (gI m q))⟩] (I.p ⟨(I.lo (gI l i)), (I.lopen (gI l i)), (if Ed.less ⟨I.hi (gI m q), !I.hopen (gI m q), I.less (gI m q)⟩ = true then zV else I.hi (gI m q)), (if Ed.less ⟨I.hi (gI m q), !I.hopen (gI m q), I.less (gI m q)⟩ = true then false else !!I.hopen (gI m q)), (I.less (gI m q))⟩)) ∧
 ((g + 1 + 4 + 8 + 5 + 5 + 3 + 4) = g + 1 + 4 + 8 + 5 + 5 + 3 + 4) ∧
 (((11 : Nat) = 11) ∧ ((1 : Nat) ≤ (1 : Nat))) ∧
 (gm = gm) ∧
 ((false = false) ∧ (((11 : Nat) = 11) ∧ (((63 : Nat) = 63) ∧ ((((0 : Nat) + n) = List.length (List.map I.p xs)) ∧ ((fitsRow (n + 1) (104 : Nat)) = true))))) ∧
 (∀ (j' : Nat → AV) (jr' : Nat → Row) (g' : Nat), LoopAt E1 Tryz.f62 r 1 (span_meet_S2 l m k k' nl full nl' full' i (IntKind.i64.wrap (q + (1 : Int))) gx (g + 1 + 4 + 8 + 5 + 5 + 3 + 5) (n + 1) (List.drop (0 : Nat) (List.map I.p xs) ++ List.take (1 : Nat) (List.drop (0 : Nat) [PV.agg [PV.lit (Value.int IntKind.u32 (V.a (I.lo (gI l i)))), PV.lit (Value.int IntKind.u32 (V.b (I.lo (gI l i)))), PV.lit (Value.int IntKind.u32 (V.c (I.lo (gI l i)))), V.q (I.lo (gI l i)), PV.lit (Value.bool (I.lopen (gI l i))), PV.lit (Value.int IntKind.u32 (V.a (if Ed.less ⟨I.hi (gI m q), !I.hopen (gI m q), I.less (gI m q)⟩ = true then zV else I.hi (gI m q)))), PV.lit (Value.int IntKind.u32 (V.b (if Ed.less ⟨I.hi (gI m q), !I.hopen (gI m q), I.less (gI m q)⟩ = true then zV else I.hi (gI m q)))), PV.lit (Value.int IntKind.u32 (V.c (if Ed.less ⟨I.hi (gI m q), !I.hopen (gI m q), I.less (gI m q)⟩ = true then zV else I.hi (gI m q)))), V.q (if Ed.less ⟨I.hi (gI m q), !I.hopen (gI m q), I.less (gI m q)⟩ = true then zV else I.hi (gI m q)), PV.lit (Value.bool (if Ed.less ⟨I.hi (gI m q), !I.hopen (gI m q), I.less (gI m q)⟩ = true then false else !!I.hopen (gI m q))), PV.lit (Value.bool (I.less (gI m q)))]])) j' jr' g'))) ∧
 ((decide (befE ⟨I.hi (gI m q), !I.hopen (gI m q), I.less (gI m q)⟩ ⟨I.hi (gI l i), !I.hopen (gI l i), I.less (gI l i)⟩ < (0 : Int))) = false →
 ((g + 1 + 4 + 4) = g + 1 + 4 + 4) ∧
 ((g + 1 + 4 + 5) = g + 1 + 4 + 5) ∧
 (Den E1 89 [Ed.p ⟨(I.lo (gI l i)), (I.lopen (gI l i)), false⟩, Ed.p ⟨(I.hi (gI l i)), (!I.hopen (gI l i)), (I.less (gI l i))⟩] (I.p ⟨(I.lo (gI l i)), (I.lopen (gI l i)), (if Ed.less ⟨I.hi (gI l i), !I.hopen (gI l i), I.less (gI l i)⟩ = true then zV else I.hi (gI l i)), (if Ed.less ⟨I.hi (gI l i), !I.hopen (gI l i), I.less (gI l i)⟩ = true then false else !!I.hopen (gI l i)), (I.less (gI l i))⟩)) ∧
 ((g + 1 + 4 + 8 + 5 + 5 + 4) = g + 1 + 4 + 8 + 5 + 5 + 4) ∧
 (((11 : Nat) = 11) ∧ ((1 : Nat) ≤ (1 : Nat))) ∧
 (gm = gm) ∧
 ((false = false) ∧ (((11 : Nat) = 11) ∧ (((63 : Nat) = 63) ∧ ((((0 : Nat) + n) = List.length (List.map I.p xs)) ∧ ((fitsRow (n + 1) (104 : Nat)) = true))))) ∧
 (∀ (j' : Nat → AV) (jr' : Nat → Row) (g' : Nat), LoopAt E1 Tryz.f62 r 1 (span_meet_S2 l m k k' nl full nl' full' i (IntKind.i64.wrap (q + (1 : Int))) gx (g + 1 + 4 + 8 + 5 + 5 + 5) (n + 1) (List.drop (0 : Nat) (List.map I.p xs) ++ List.take (1 : Nat) (List.drop (0 : Nat) [PV.agg [PV.lit (Value.int IntKind.u32 (V.a (I.lo (gI l i)))), PV.lit (Value.int IntKind.u32 (V.b (I.lo (gI l i)))), PV.lit (Value.int IntKind.u32 (V.c (I.lo (gI l i)))), V.q (I.lo (gI l i)), PV.lit (Value.bool (I.lopen (gI l i))), PV.lit (Value.int IntKind.u32 (V.a (if Ed.less ⟨I.hi (gI l i), !I.hopen (gI l i), I.less (gI l i)⟩ = true then zV else I.hi (gI l i)))), PV.lit (Value.int IntKind.u32 (V.b (if Ed.less ⟨I.hi (gI l i), !I.hopen (gI l i), I.less (gI l i)⟩ = true then zV else I.hi (gI l i)))), PV.lit (Value.int IntKind.u32 (V.c (if Ed.less ⟨I.hi (gI l i), !I.hopen (gI l i), I.less (gI l i)⟩ = true then zV else I.hi (gI l i)))), V.q (if Ed.less ⟨I.hi (gI l i), !I.hopen (gI l i), I.less (gI l i)⟩ = true then zV else I.hi (gI l i)), PV.lit (Value.bool (if Ed.less ⟨I.hi (gI l i), !I.hopen (gI l i), I.less (gI l i)⟩ = true then false else !!I.hopen (gI l i))), PV.lit (Value.bool (I.less (gI l i)))]])) j' jr' g'))))) ∧
 ((decide (q < (↑(List.length (List.map I.p m)) : Int))) = false →
 AtAll Tryz.f62 r 0 (span_meet_S3 l m k k' nl full nl' full' (IntKind.i64.wrap (i + (1 : Int))) gm n (List.map I.p xs)))) := by kernel_rfl
theorem span_meet_go_S3 (l : List I) (m : List I) (k : Nat) (k' : Nat) (nl : Bool) (full : Bool) (nl' : Bool) (full' : Bool) (i : Int) (gm : Nat) (n : Nat) (xs : List I) (j : Nat → AV) (jr : Nat → Row) (g : Nat) (r : PV) : LoopGo E1 Tryz.f62 r 0 2000 (.fork (.val (I.p (gI l i)) (.mask (iv [(0, 0), (2, 4), (6, 6), (8, 11), (15, 17), (21, 51)]) [9, 10, 11, 46])) (.frz [.sl 11 false false (List.map I.p xs)] [List.replicate 7 row0 ++ [jr 7, row0, jr 9, jr 10, jr 11, row0, row0, row0, row0, row0, row0, row0, row0, row0, row0, row0, row0, row0, row0, row0, row0, row0, row0, row0, row0, row0, row0, row0, row0, row0, row0, row0, row0, row0, row0, row0, row0, row0, row0, jr 46, ⟨gm, .row 11 63 (List.map I.p xs) true⟩] ++ List.replicate 4 row0] (.res (resL (joinS xs)) (.hole 0)))) (span_meet_S3 l m k k' nl full nl' full' i gm n (List.map I.p xs) j jr g) =
  (((decide (i < (↑(List.length (List.map I.p l)) : Int))) = true →
 (((0 : Int) ≤ i) ∧ ((nl = false) ∧ (k = 11))) ∧
 (((List.map I.p l)[Int.toNat i]?) = some (I.p (gI l i))) ∧
 ((g + 1 + 2) = g + 1 + 2) ∧
 (AtAll Tryz.f62 r 1 (span_meet_S2 l m k k' nl full nl' full' i 0 (g + 1 + 2) gm n (List.map I.p xs)))) ∧
 ((decide (i < (↑(List.length (List.map I.p l)) : Int))) = false →
 (frzs frzDepth [.msl 0 47 gm 0 n false] [List.replicate 7 row0 ++ [jr 7, row0, jr 9, jr 10, jr 11, row0, row0, row0, row0, row0, row0, row0, row0, row0, row0, row0, row0, row0, row0, row0, row0, row0, row0, row0, row0, row0, row0, row0, row0, row0, row0, row0, row0, row0, row0, row0, row0, row0, row0, jr 46, ⟨gm, .row 11 63 (List.map I.p xs) false⟩] ++ List.replicate 4 row0] = some ([.sl 11 false false (List.map I.p xs)], [List.replicate 7 row0 ++ [jr 7, row0, jr 9, jr 10, jr 11, row0, row0, row0, row0, row0, row0, row0, row0, row0, row0, row0, row0, row0, row0, row0, row0, row0, row0, row0, row0, row0, row0, row0, row0, row0, row0, row0, row0, row0, row0, row0, row0, row0, row0, jr 46, ⟨gm, .row 11 63 (List.map I.p xs) true⟩] ++ List.replicate 4 row0])) ∧
 (Den E1 54 [.sl 11 false false (List.map I.p xs)] (resL (joinS xs))) ∧
 ((resL (joinS xs)) : PV) = r)) := by kernel_rfl
end Go.Proofs.YtlhfgonjcpapnaaGreatDoor.Abs

set_option maxRecDepth 20000
namespace Go.Proofs.YtlhfgonjcpapnaaGreatDoor.Abs
open Go Go.Proofs
theorem ok_get {l : List I} {i : Nat} (h : ∀ x ∈ l, x.ok) (hi : i < l.length) : (l.getD i default).ok := h _ (getD_mem hi default)
theorem meet1S_ok {x y : I} (hx : x.ok) (hy : y.ok) : (meet1S x y).ok := by
  unfold meet1S
  refine bet_ok ?_ ?_
  · split
    · exact hy.lo
    · exact hx.lo
  · split
    · exact hy.hi
    · exact hx.hi
theorem meet1S_of {x y : I} {a b : Bool} (h1 : decide (befE x.low y.low < 0) = a) (h2 : decide (befE y.high x.high < 0) = b) : meet1S x y = betE (if a then y.low else x.low) (if b then y.high else x.high) := by
  subst h1; subst h2
  simp only [meet1S, decide_eq_true_eq]
section
variable (l m : List I) (k k' : Nat) (nl full nl' full' : Bool)
theorem smeet_S2 (hll : l.length < 1000000) (hlm : m.length < 1000000) (hsl : slOk 11 k nl l.length) (hsm : slOk 11 k' nl' m.length) (hgl : ∀ x ∈ l, x.ok) (hgm : ∀ x ∈ m, x.ok) (i : Nat) (hil : i < l.length) {r : PV} : ∀ (n q : Nat) (xs : List I) (gx gm : Nat) j jr g, q + n = m.length → xs.length + n < 1000000 →
    (∀ gm j jr g, LoopAt E1 Tryz.f62 r 0 (span_meet_S3 l m k k' nl full nl' full' (i + 1 : Nat) gm (xs.length + n) (List.map I.p (xs ++ (m.drop q).map fun y => meet1S (l.getD i default) y)) j jr g)) →
    LoopAt E1 Tryz.f62 r 1 (span_meet_S2 l m k k' nl full nl' full' i q gx gm xs.length (List.map I.p xs) j jr g) := by
  have hw1 : IntKind.wrap IntKind.i64 ((i : Int) + 1) = ((i + 1 : Nat) : Int) := wrap_i64 _ (by omega) (by omega)
  have hx := ok_get hgl hil
  intro n
  induction n with
  | zero =>
    intro q xs gx gm j0 jr0 g0 hq hb next
    refine loop_go 2000 _ (Eq.mpr (span_meet_go_S2 l m k k' nl full nl' full' i q gx gm xs.length xs j0 jr0 g0 _) ⟨fun h => ?_, fun h j jr g => ?_⟩)
    · simp only [decide_eq_true_eq, List.length_map] at h; omega
    · rw [hw1]
      have := next gm j jr g
      rw [List.drop_eq_nil_of_le (by omega), List.map_nil, List.append_nil] at this
      exact this
  | succ n ih =>
    intro q xs gx gm j0 jr0 g0 hq hb next
    have hql : q < m.length := by omega
    have hy := ok_get hgm hql
    have hq0 : (0 : Int) ≤ (q : Int) ∧ nl' = false ∧ k' = 11 := ⟨by omega, sl_at hsm hql⟩
    have hgq := getI hql
    have hw2 : IntKind.wrap IntKind.i64 ((q : Int) + 1) = ((q + 1 : Nat) : Int) := wrap_i64 _ (by omega) (by omega)
    have hf : xs.length = (List.map I.p xs).length ∧ fitsRow (xs.length + 1) 104 = true := ⟨by simp, fits_104 (by omega)⟩
    have fin : ∀ (z : I) gx gm j jr g, meet1S (l.getD i default) (m.getD q default) = z → LoopAt E1 Tryz.f62 r 1 (span_meet_S2 l m k k' nl full nl' full' i (q + 1 : Nat) gx gm (xs.length + 1) (List.map I.p xs ++ [I.p z]) j jr g) := by
      intro z gx gm j jr g hz
      have := ih (q + 1) (xs ++ [z]) gx gm j jr g (by omega) (by simp; omega) fun gm j jr g => by
        have := next gm j jr g
        rw [drop_get hql, List.map_cons, hz] at this
        have e : (xs ++ [z]).length + n = xs.length + (n + 1) := by simp; omega
        rw [e, List.append_assoc]
        exact this
      rw [List.length_append, List.map_append] at this
      exact this
    have hb1 := den_before (l.getD i default).low (m.getD q default).low hx.lo hy.lo
    have hb2 := den_before (m.getD q default).high (l.getD i default).high hy.hi hx.hi
    refine loop_go 2000 _ (Eq.mpr (span_meet_go_S2 l m k k' nl full nl' full' i q gx gm xs.length xs j0 jr0 g0 _) ⟨fun h => ?_, fun h => ?_⟩)
    · simp only [hw2, Int.toNat_natCast, gI_nat, gI_zero, Nat.zero_add, eq_self, true_and, and_true, Nat.le_refl]
      exact ⟨hq0, hgq, den_low _, den_high _, den_low _, hb1,
        fun h1 => ⟨den_low _, den_high _, hb2, fun h2 => ⟨den_high _, den_between (m.getD q default).low (m.getD q default).high, hf, fun j jr g => fin (betE (m.getD q default).low (m.getD q default).high) _ _ j jr g (meet1S_of h1 h2)⟩,
          fun h2 => ⟨den_between (m.getD q default).low (l.getD i default).high, hf, fun j jr g => fin (betE (m.getD q default).low (l.getD i default).high) _ _ j jr g (meet1S_of h1 h2)⟩⟩,
        fun h1 => ⟨den_high _, hb2, fun h2 => ⟨den_high _, den_between (l.getD i default).low (m.getD q default).high, hf, fun j jr g => fin (betE (l.getD i default).low (m.getD q default).high) _ _ j jr g (meet1S_of h1 h2)⟩,
          fun h2 => ⟨den_between (l.getD i default).low (l.getD i default).high, hf, fun j jr g => fin (betE (l.getD i default).low (l.getD i default).high) _ _ j jr g (meet1S_of h1 h2)⟩⟩⟩
    · simp only [decide_eq_false_iff_not, List.length_map] at h; omega
theorem smeet_S1 (hll : l.length < 1000000) (hlm : m.length < 1000000) (hsl : slOk 11 k nl l.length) (hsm : slOk 11 k' nl' m.length) (hgl : ∀ x ∈ l, x.ok) (hgm : ∀ x ∈ m, x.ok) (i : Nat) (hil : i < l.length) {r : PV} (gx : Nat) (j0 : Nat → AV) (jr0 : Nat → Row) (g0 : Nat) (hm0 : 0 < m.length)
    (next : ∀ gm j jr g, LoopAt E1 Tryz.f62 r 0 (span_meet_S3 l m k k' nl full nl' full' (i + 1 : Nat) gm m.length (List.map I.p (m.map fun y => meet1S (l.getD i default) y)) j jr g)) :
    LoopAt E1 Tryz.f62 r 1 (span_meet_S1 l m k k' nl full nl' full' i 0 gx j0 jr0 g0) := by
  have hx := ok_get hgl hil
  have hy := ok_get hgm hm0
  have hq0 : (0 : Int) ≤ (0 : Int) ∧ nl' = false ∧ k' = 11 := ⟨by omega, sl_at hsm hm0⟩
  have hgq := getI hm0
  have hz : Int.toNat 0 = 0 := rfl
  have hw2 : IntKind.wrap IntKind.i64 ((0 : Int) + 1) = ((1 : Nat) : Int) := rfl
  have fin : ∀ (z : I) gx gm j jr g, meet1S (l.getD i default) (m.getD 0 default) = z → LoopAt E1 Tryz.f62 r 1 (span_meet_S2 l m k k' nl full nl' full' i (1 : Nat) gx gm 1 [I.p z] j jr g) := by
    intro z gx gm j jr g hzz
    refine smeet_S2 l m k k' nl full nl' full' hll hlm hsl hsm hgl hgm i hil (m.length - 1) 1 [z] gx gm j jr g (by omega) (by simp; omega) fun gm j jr g => ?_
    have := next gm j jr g
    have e : m = m.getD 0 default :: m.drop 1 := by rw [← drop_get hm0]; try rfl
    have e2 : (m.map fun y => meet1S (l.getD i default) y) = [z] ++ (m.drop 1).map fun y => meet1S (l.getD i default) y := by
      conv => lhs; rw [e]
      rw [List.map_cons, hzz]; try rfl
    have e3 : [z].length + (m.length - 1) = m.length := by simp; omega
    rw [e2] at this
    rw [e3]
    exact this
  have hb1 := den_before (l.getD i default).low (m.getD 0 default).low hx.lo hy.lo
  have hb2 := den_before (m.getD 0 default).high (l.getD i default).high hy.hi hx.hi
  refine loop_go 2000 _ (Eq.mpr (span_meet_go_S1 l m k k' nl full nl' full' i 0 gx j0 jr0 g0 _) ⟨fun h => ?_, fun h => ?_⟩)
  · simp only [hw2, hz, Int.toNat_natCast, gI_nat, gI_zero, Nat.zero_add, eq_self, true_and, and_true, Nat.le_refl]
    exact ⟨hq0, hgq, den_low _, den_high _, den_low _, hb1,
      fun h1 => ⟨den_low _, den_high _, hb2, fun h2 => ⟨den_high _, den_between (m.getD 0 default).low (m.getD 0 default).high, fun j jr g => fin (betE (m.getD 0 default).low (m.getD 0 default).high) _ _ j jr g (meet1S_of h1 h2)⟩,
        fun h2 => ⟨den_between (m.getD 0 default).low (l.getD i default).high, fun j jr g => fin (betE (m.getD 0 default).low (l.getD i default).high) _ _ j jr g (meet1S_of h1 h2)⟩⟩,
      fun h1 => ⟨den_high _, hb2, fun h2 => ⟨den_high _, den_between (l.getD i default).low (m.getD 0 default).high, fun j jr g => fin (betE (l.getD i default).low (m.getD 0 default).high) _ _ j jr g (meet1S_of h1 h2)⟩,
        fun h2 => ⟨den_between (l.getD i default).low (l.getD i default).high, fun j jr g => fin (betE (l.getD i default).low (l.getD i default).high) _ _ j jr g (meet1S_of h1 h2)⟩⟩⟩
  · simp only [decide_eq_false_iff_not, List.length_map] at h; omega
theorem smeet_S3 (hll : l.length < 1000000) (hlm : m.length < 1000000) (hb : l.length * m.length < 1000000) (hsl : slOk 11 k nl l.length) (hsm : slOk 11 k' nl' m.length) (hgl : ∀ x ∈ l, x.ok) (hgm : ∀ x ∈ m, x.ok) (hm0 : 0 < m.length) : ∀ (n i : Nat) (xs : List I) (gm : Nat) j jr g, i + n = l.length → xs.length = i * m.length →
    (Den E1 54 [listP 11 false false (xs ++ (l.drop i).flatMap fun x => m.map fun y => meet1S x y)] (resL (joinS (xs ++ (l.drop i).flatMap fun x => m.map fun y => meet1S x y)))) →
    LoopAt E1 Tryz.f62 (resL (joinS (xs ++ (l.drop i).flatMap fun x => m.map fun y => meet1S x y))) 0 (span_meet_S3 l m k k' nl full nl' full' i gm xs.length (List.map I.p xs) j jr g) := by
  intro n
  induction n with
  | zero =>
    intro i xs gm j0 jr0 g0 hi hxl hj
    have hxb : xs.length < 1000000 := by
      rw [hxl, show i = l.length by omega]; exact hb
    rw [List.drop_eq_nil_of_le (by omega), List.flatMap_nil, List.append_nil] at hj
    refine loop_go 2000 _ (Eq.mpr (span_meet_go_S3 l m k k' nl full nl' full' i gm xs.length xs j0 jr0 g0 _) ⟨fun h => ?_, fun h => ?_⟩)
    · simp only [decide_eq_true_eq, List.length_map] at h; omega
    · rw [List.drop_eq_nil_of_le (by omega), List.flatMap_nil, List.append_nil]
      exact ⟨frzs_msl rfl (by simp) rfl, hj, rfl⟩
  | succ n ih =>
    intro i xs gm j0 jr0 g0 hi hxl hj
    have hil : i < l.length := by omega
    have hi0 : (0 : Int) ≤ (i : Int) ∧ nl = false ∧ k = 11 := ⟨by omega, sl_at hsl hil⟩
    have hgi := getI hil
    have hmul : (i + 1) * m.length ≤ l.length * m.length := Nat.mul_le_mul_right _ (by omega)
    rw [Nat.add_mul, Nat.one_mul] at hmul
    have hst : (l.drop i).flatMap (fun x => m.map fun y => meet1S x y) = (m.map fun y => meet1S (l.getD i default) y) ++ (l.drop (i + 1)).flatMap fun x => m.map fun y => meet1S x y := by
      rw [drop_get hil, List.flatMap_cons]
    rw [hst, ← List.append_assoc] at hj ⊢
    refine loop_go 2000 _ (Eq.mpr (span_meet_go_S3 l m k k' nl full nl' full' i gm xs.length xs j0 jr0 g0 _) ⟨fun h => ⟨hi0, hgi, rfl, fun j jr g => ?_⟩, fun h => ?_⟩)
    · refine smeet_S2 l m k k' nl full nl' full' hll hlm hsl hsm hgl hgm i hil m.length 0 xs _ gm j jr g (by omega) (by omega) fun gm j jr g => ?_
      have hlen : (xs ++ m.map fun y => meet1S (l.getD i default) y).length = xs.length + m.length := by simp
      have := ih (i + 1) (xs ++ m.map fun y => meet1S (l.getD i default) y) gm j jr g (by omega) (by rw [hlen, hxl, Nat.add_mul, Nat.one_mul]) hj
      rw [hlen] at this
      exact this
    · simp only [decide_eq_false_iff_not, List.length_map] at h; omega
theorem smeet_S0 (hll : l.length < 1000000) (hlm : m.length < 1000000) (hb : l.length * m.length < 1000000) (hsl : slOk 11 k nl l.length) (hsm : slOk 11 k' nl' m.length) (hgl : ∀ x ∈ l, x.ok) (hgm : ∀ x ∈ m, x.ok) : ∀ (n i : Nat) j jr g, i + n = l.length → (m.length = 0 ∨ i = 0) →
    (l ≠ [] → m ≠ [] → Den E1 54 [listP 11 false false ((l.drop i).flatMap fun x => m.map fun y => meet1S x y)] (resL (joinS ((l.drop i).flatMap fun x => m.map fun y => meet1S x y)))) →
    LoopAt E1 Tryz.f62 (resL (joinS ((l.drop i).flatMap fun x => m.map fun y => meet1S x y))) 0 (span_meet_S0 l m k k' nl full nl' full' i j jr g) := by
  have hdj : Den E1 54 [.sl 0 true true []] (.sl 0 true true []) := den_join20 [] 0 true true ⟨fun _ => rfl, fun h => by cases h⟩ (by simp) (by simp [delN]) (fun x hx => by simp at hx)
  intro n
  induction n with
  | zero =>
    intro i j0 jr0 g0 hi h0 hj
    refine loop_go 2000 _ (Eq.mpr (span_meet_go_S0 l m k k' nl full nl' full' i j0 jr0 g0 _) ⟨fun h => ?_, fun h => ?_⟩)
    · simp only [decide_eq_true_eq, List.length_map] at h; omega
    · rw [List.drop_eq_nil_of_le (by omega)]
      exact ⟨hdj, rfl⟩
  | succ n ih =>
    intro i j0 jr0 g0 hi h0 hj
    have hil : i < l.length := by omega
    have hi0 : (0 : Int) ≤ (i : Int) ∧ nl = false ∧ k = 11 := ⟨by omega, sl_at hsl hil⟩
    have hgi := getI hil
    have hw1 : IntKind.wrap IntKind.i64 ((i : Int) + 1) = ((i + 1 : Nat) : Int) := wrap_i64 _ (by omega) (by omega)
    have hst : (l.drop i).flatMap (fun x => m.map fun y => meet1S x y) = (m.map fun y => meet1S (l.getD i default) y) ++ (l.drop (i + 1)).flatMap fun x => m.map fun y => meet1S x y := by
      rw [drop_get hil, List.flatMap_cons]
    rw [hst] at hj ⊢
    refine loop_go 2000 _ (Eq.mpr (span_meet_go_S0 l m k k' nl full nl' full' i j0 jr0 g0 _) ⟨fun h => ⟨hi0, hgi, rfl, fun j jr g => ?_⟩, fun h => ?_⟩)
    · rcases Nat.eq_zero_or_pos m.length with hm | hm
      · have hm' : m = [] := List.length_eq_zero_iff.1 hm
        refine loop_go 2000 _ (Eq.mpr (span_meet_go_S1 l m k k' nl full nl' full' i 0 _ j jr g _) ⟨fun h => ?_, fun h j jr g => ?_⟩)
        · simp only [decide_eq_true_eq, List.length_map, hm] at h; omega
        · rw [hw1, hm']
          rw [hm'] at ih
          exact ih (i + 1) j jr g (by omega) (.inl rfl) fun _ h => absurd rfl h
      · have hi0 : i = 0 := by omega
        subst hi0
        have hj' := hj (by rintro rfl; simp at hil) (by rintro rfl; simp at hm)
        refine smeet_S1 l m k k' nl full nl' full' hll hlm hsl hsm hgl hgm 0 hil _ j jr g hm fun gm j jr g => ?_
        have hlen : (m.map fun y => meet1S (l.getD 0 default) y).length = m.length := by simp
        have := smeet_S3 l m k k' nl full nl' full' hll hlm hb hsl hsm hgl hgm hm n 1 (m.map fun y => meet1S (l.getD 0 default) y) gm j jr g (by omega) (by rw [hlen, Nat.one_mul]) hj'
        rw [hlen] at this
        exact this
    · simp only [decide_eq_false_iff_not, List.length_map] at h; omega
theorem den_span_meet (hll : l.length < 1000000) (hlm : m.length < 1000000) (hb : l.length * m.length < 1000000) (hsl : slOk 11 k nl l.length) (hsm : slOk 11 k' nl' m.length) (hgl : ∀ x ∈ l, x.ok) (hgm : ∀ x ∈ m, x.ok)
    (hj : l ≠ [] → m ≠ [] → Den E1 54 [listP 11 false false (l.flatMap fun x => m.map fun y => meet1S x y)] (resL (joinS (l.flatMap fun x => m.map fun y => meet1S x y)))) :
    Den E1 62 [listP k nl full l, listP k' nl' full' m] (resL (meetS l m)) :=
  den1 2000 _ rfl (by kernel_rfl) rfl rfl rfl (Eq.mpr (span_meet_go l m k k' nl full nl' full' _) fun j jr g => smeet_S0 l m k k' nl full nl' full' hll hlm hb hsl hsm hgl hgm l.length 0 j jr g (by omega) (.inr rfl) hj)
theorem meets_ok (hgl : ∀ x ∈ l, x.ok) (hgm : ∀ x ∈ m, x.ok) : ∀ x ∈ (l.flatMap fun x => m.map fun y => meet1S x y), x.ok := by
  intro z hz
  obtain ⟨x, hx, hz⟩ := List.mem_flatMap.1 hz
  obtain ⟨y, hy, rfl⟩ := List.mem_map.1 hz
  exact meet1S_ok (hgl x hx) (hgm y hy)
theorem meets_len : (l.flatMap fun x => m.map fun y => meet1S x y).length = l.length * m.length := by
  induction l with
  | nil => simp
  | cons x l ih => rw [List.flatMap_cons, List.length_append, ih, List.length_map, List.length_cons, Nat.add_mul, Nat.one_mul, Nat.add_comm]
theorem den_span_meet20 (hb : l.length * m.length < 20) (hll : l.length < 1000000) (hlm : m.length < 1000000) (hsl : slOk 11 k nl l.length) (hsm : slOk 11 k' nl' m.length) (hgl : ∀ x ∈ l, x.ok) (hgm : ∀ x ∈ m, x.ok) :
    Den E1 62 [listP k nl full l, listP k' nl' full' m] (resL (meetS l m)) := by
  refine den_span_meet l m k k' nl full nl' full' hll hlm (by omega) hsl hsm hgl hgm fun h1 h2 => ?_
  have hlen := meets_len l m
  have h1' := List.length_pos_iff.2 h1
  have h2' := List.length_pos_iff.2 h2
  have hpos := Nat.mul_pos h1' h2'
  exact den_join20 _ 11 false false ⟨fun h => by simp at h, fun _ => rfl⟩ (by rw [hlen]; omega) (Nat.lt_of_le_of_lt (delN_le _) (by rw [hlen]; omega)) (meets_ok l m hgl hgm)
end
end Go.Proofs.YtlhfgonjcpapnaaGreatDoor.Abs

namespace Go.Proofs.YtlhfgonjcpapnaaGreatDoor.Abs
open Go Go.Proofs
theorem span_compared_go (s : List UInt8) (r : PV) : FnGo E1 Tryz.f91 [strP s] r 2000 (.res (strP (trimL s)) (.res (.tup [V.p (rdV true (trimL s)), intP (errV (rdOk (trimL s)))]) (.fork (.hole 0) (.fork (.br true (.res (.sl 11 false true [I.p ⟨(rdV true (trimL s)), false, zV, false, true⟩]) (.res (resL (joinS [downI (rdV true (trimL s)) false])) (.res (resL (meetS [⟨rdV true (trimL s), false, zV, false, true⟩] (joinS [downI (rdV true (trimL s)) false]))) (.hole 0))))) (.fork (.res (.sl 11 false true [I.p ⟨(rdV true (trimL s)), false, zV, false, true⟩]) (.res (resL (joinS [downI (rdV true (trimL s)) false])) (.res (resL (meetS [⟨rdV true (trimL s), false, zV, false, true⟩] (joinS [downI (rdV true (trimL s)) false]))) (.hole 0)))) (.fork (.res (resL (joinS [downI (rdV true (trimL s)) true])) (.hole 0)) (.fork (.res (resL (joinS [downI (rdV true (trimL s)) false])) (.hole 0)) (.fork (.res (.sl 11 false true [I.p ⟨(rdV true (trimL s)), true, zV, false, true⟩]) (.hole 0)) (.fork (.res (.sl 11 false true [I.p ⟨(rdV true (trimL s)), false, zV, false, true⟩]) (.hole 0)) (.fork (.fork (.res (.tup [V.p (nextV (rdV true (trimL s)) (0 : Int)), intP (nextE (rdV true (trimL s)) (0 : Int))]) (.fork (.res (.sl 11 false true [I.p ⟨(rdV true (trimL s)), false, zV, false, true⟩]) (.hole 0)) (.res (.tup [verP (V.a (nextV (rdV true (trimL s)) (0 : Int))) (V.b (nextV (rdV true (trimL s)) (0 : Int))) (V.c (nextV (rdV true (trimL s)) (0 : Int))) (.sl 1 false true [strP [48]]), intP 0]) (.res (.sl 11 false true [I.p ⟨(rdV true (trimL s)), false, zV, false, true⟩]) (.res (resL (joinS [downI ⟨V.a (nextV (rdV true (trimL s)) (0 : Int)), V.b (nextV (rdV true (trimL s)) (0 : Int)), V.c (nextV (rdV true (trimL s)) (0 : Int)), 1, false, true, [[48]]⟩ true])) (.res (resL (meetS [⟨rdV true (trimL s), false, zV, false, true⟩] (joinS [downI ⟨V.a (nextV (rdV true (trimL s)) (0 : Int)), V.b (nextV (rdV true (trimL s)) (0 : Int)), V.c (nextV (rdV true (trimL s)) (0 : Int)), 1, false, true, [[48]]⟩ true]))) (.hole 0))))))) (.fork (.res (.tup [V.p (nextV (rdV true (trimL s)) (1 : Int)), intP (nextE (rdV true (trimL s)) (1 : Int))]) (.fork (.res (.sl 11 false true [I.p ⟨(rdV true (trimL s)), false, zV, false, true⟩]) (.hole 0)) (.res (.tup [verP (V.a (nextV (rdV true (trimL s)) (1 : Int))) (V.b (nextV (rdV true (trimL s)) (1 : Int))) (V.c (nextV (rdV true (trimL s)) (1 : Int))) (.sl 1 false true [strP [48]]), intP 0]) (.res (.sl 11 false true [I.p ⟨(rdV true (trimL s)), false, zV, false, true⟩]) (.res (resL (joinS [downI ⟨V.a (nextV (rdV true (trimL s)) (1 : Int)), V.b (nextV (rdV true (trimL s)) (1 : Int)), V.c (nextV (rdV true (trimL s)) (1 : Int)), 1, false, true, [[48]]⟩ true])) (.res (resL (meetS [⟨rdV true (trimL s), false, zV, false, true⟩] (joinS [downI ⟨V.a (nextV (rdV true (trimL s)) (1 : Int)), V.b (nextV (rdV true (trimL s)) (1 : Int)), V.c (nextV (rdV true (trimL s)) (1 : Int)), 1, false, true, [[48]]⟩ true]))) (.hole 0))))))) (.res (.tup [V.p (nextV (rdV true (trimL s)) (2 : Int)), intP (nextE (rdV true (trimL s)) (2 : Int))]) (.fork (.res (.sl 11 false true [I.p ⟨(rdV true (trimL s)), false, zV, false, true⟩]) (.hole 0)) (.res (.tup [verP (V.a (nextV (rdV true (trimL s)) (2 : Int))) (V.b (nextV (rdV true (trimL s)) (2 : Int))) (V.c (nextV (rdV true (trimL s)) (2 : Int))) (.sl 1 false true [strP [48]]), intP 0]) (.res (.sl 11 false true [I.p ⟨(rdV true (trimL s)), false, zV, false, true⟩]) (.res (resL (joinS [downI ⟨V.a (nextV (rdV true (trimL s)) (2 : Int)), V.b (nextV (rdV true (trimL s)) (2 : Int)), V.c (nextV (rdV true (trimL s)) (2 : Int)), 1, false, true, [[48]]⟩ true])) (.res (resL (meetS [⟨rdV true (trimL s), false, zV, false, true⟩] (joinS [downI ⟨V.a (nextV (rdV true (trimL s)) (2 : Int)), V.b (nextV (rdV true (trimL s)) (2 : Int)), V.c (nextV (rdV true (trimL s)) (2 : Int)), 1, false, true, [[48]]⟩ true]))) (.hole 0))))))))) (.fork (.res (.tup [V.p (nextV (rdV true (trimL s)) (1 : Int)), intP (nextE (rdV true (trimL s)) (1 : Int))]) (.fork (.res (.sl 11 false true [I.p ⟨(rdV true (trimL s)), false, zV, false, true⟩]) (.hole 0)) (.res (.tup [verP (V.a (nextV (rdV true (trimL s)) (1 : Int))) (V.b (nextV (rdV true (trimL s)) (1 : Int))) (V.c (nextV (rdV true (trimL s)) (1 : Int))) (.sl 1 false true [strP [48]]), intP 0]) (.res (.sl 11 false true [I.p ⟨(rdV true (trimL s)), false, zV, false, true⟩]) (.res (resL (joinS [downI ⟨V.a (nextV (rdV true (trimL s)) (1 : Int)), V.b (nextV (rdV true (trimL s)) (1 : Int)), V.c (nextV (rdV true (trimL s)) (1 : Int)), 1, false, true, [[48]]⟩ true])) (.res (resL (meetS [⟨rdV true (trimL s), false, zV, false, true⟩] (joinS [downI ⟨V.a (nextV (rdV true (trimL s)) (1 : Int)), V.b (nextV (rdV true (trimL s)) (1 : Int)), V.c (nextV (rdV true (trimL s)) (1 : Int)), 1, false, true, [[48]]⟩ true]))) (.hole 0))))))) (.hole 0)))))))))))) =
  ((Den E1 127 [strP s, strP [60, 62, 61, 126, 94]] (strP (trimL s))) ∧
 (Den E1 34 [strP (trimL s)] (.tup [V.p (rdV true (trimL s)), intP (errV (rdOk (trimL s)))])) ∧
 ((10 : Nat) = 10) ∧
 ((errV (rdOk (trimL s)) != (0 : Int)) = true →
 ((.tup [.sl 0 true true [], bolP false]) : PV) = r) ∧
 ((errV (rdOk (trimL s)) != (0 : Int)) = false →
 (((0 : Int) ≤ IntKind.i64.wrap ((↑(ByteArray.size (bs s)) : Int) - (↑(ByteArray.size (bs (trimL s))) : Int))) ∧ (IntKind.i64.wrap ((↑(ByteArray.size (bs s)) : Int) - (↑(ByteArray.size (bs (trimL s))) : Int)) ≤ (↑(ByteArray.size (bs s)) : Int))) ∧
 ((ByteArray.toList (ByteArray.extract (bs s) (0 : Nat) (Int.toNat (IntKind.i64.wrap ((↑(ByteArray.size (bs s)) : Int) - (↑(ByteArray.size (bs (trimL s))) : Int))))) == ByteArray.toList (bs [])) = true →
 ((ByteArray.toList (ByteArray.extract (bs s) (0 : Nat) (Int.toNat (IntKind.i64.wrap ((↑(ByteArray.size (bs s)) : Int) - (↑(ByteArray.size (bs (trimL s))) : Int))))) == ByteArray.toList (bs [])) = true) ∧
 ((10 : Nat) = 10) ∧
 (Den E1 128 [V.p (rdV true (trimL s)), bolP false] (.sl 11 false true [I.p ⟨(rdV true (trimL s)), false, zV, false, true⟩])) ∧
 ((10 : Nat) = 10) ∧
 (Den E1 129 [V.p (rdV true (trimL s)), bolP false] (resL (joinS [downI (rdV true (trimL s)) false]))) ∧
 (Den E1 62 [.sl 11 false true [I.p ⟨(rdV true (trimL s)), false, zV, false, true⟩], resL (joinS [downI (rdV true (trimL s)) false])] (resL (meetS [⟨rdV true (trimL s), false, zV, false, true⟩] (joinS [downI (rdV true (trimL s)) false])))) ∧
 ((.tup [resL (meetS [⟨rdV true (trimL s), false, zV, false, true⟩] (joinS [downI (rdV true (trimL s)) false])), bolP true]) : PV) = r) ∧
 ((ByteArray.toList (ByteArray.extract (bs s) (0 : Nat) (Int.toNat (IntKind.i64.wrap ((↑(ByteArray.size (bs s)) : Int) - (↑(ByteArray.size (bs (trimL s))) : Int))))) == ByteArray.toList (bs [])) = false →
 ((ByteArray.toList (ByteArray.extract (bs s) (0 : Nat) (Int.toNat (IntKind.i64.wrap ((↑(ByteArray.size (bs s)) : Int) - (↑(ByteArray.size (bs (trimL s))) : Int))))) == ByteArray.toList (bs [61])) = true →
 ((10 : Nat) = 10) ∧
 (Den E1 128 [V.p (rdV true (trimL s)), bolP false] (.sl 11 false true [I.p ⟨(rdV true (trimL s)), false, zV, false, true⟩])) ∧
 ((10 : Nat) = 10) ∧
 (Den E1 129 [V.p (rdV true (trimL s)), bolP false] (resL (joinS [downI (rdV true (trimL s)) false]))) ∧
 (Den E1 62 [.sl 11 false true [I.p ⟨(rdV true (trimL s)), false, zV, false, true⟩], resL (joinS [downI (rdV true (trimL s)) false])] (resL (meetS [⟨rdV true (trimL s), false, zV, false, true⟩] (joinS [downI (rdV true (trimL s)) false])))) ∧
 ((.tup [resL (meetS [⟨rdV true (trimL s), false, zV, false, true⟩] (joinS [downI (rdV true (trimL s)) false])), bolP true]) : PV) = r) ∧
 ((ByteArray.toList (ByteArray.extract (bs s) (0 : Nat) (Int.toNat (IntKind.i64.wrap ((↑(ByteArray.size (bs s)) : Int) - (↑(ByteArray.size (bs (trimL s))) : Int))))) == ByteArray.toList (bs [61])) = false →
 ((ByteArray.toList (ByteArray.extract (bs s) (0 : Nat) (Int.toNat (IntKind.i64.wrap ((↑(ByteArray.size (bs s)) : Int) - (↑(ByteArray.size (bs (trimL s))) : Int))))) == ByteArray.toList (bs [60])) = true →
 ((10 : Nat) = 10) ∧
 (Den E1 129 [V.p (rdV true (trimL s)), bolP true] (resL (joinS [downI (rdV true (trimL s)) true]))) ∧
 ((.tup [resL (joinS [downI (rdV true (trimL s)) true]), bolP true]) : PV) = r) ∧
 ((ByteArray.toList (ByteArray.extract (bs s) (0 : Nat) (Int.toNat (IntKind.i64.wrap ((↑(ByteArray.size (bs s)) : Int) - (↑(ByteArray.size (bs (trimL s))) : Int))))) == ByteArray.toList (bs [60])) = false →
 ((ByteArray.toList (ByteArray.extract (bs s) (0 : Nat) (Int.toNat (IntKind.i64.wrap ((↑(ByteArray.size (bs s)) : Int) - (↑(ByteArray.size (bs (trimL s))) : Int))))) == ByteArray.toList (bs [60, 61])) = true →
 ((10 : Nat) = 10) ∧
 (Den E1 129 [V.p (rdV true (trimL s)), bolP false] (resL (joinS [downI (rdV true (trimL s)) false]))) ∧
 ((.tup [resL (joinS [downI (rdV true (trimL s)) false]), bolP true]) : PV) = r) ∧
 ((ByteArray.toList (ByteArray.extract (bs s) (0 : Nat) (Int.toNat (IntKind.i64.wrap ((↑(ByteArray.size (bs s)) : Int) - (↑(ByteArray.size (bs (trimL s))) : Int))))) == ByteArray.toList (bs [60, 61])) = false →
 ((ByteArray.toList (ByteArray.extract (bs s) (0 : Nat) (Int.toNat (IntKind.i64.wrap ((↑(ByteArray.size (bs s)) : Int) - (↑(ByteArray.size (bs (trimL s))) : Int))))) == ByteArray.toList (bs [62])) = true →
 ((10 : Nat) = 10) ∧
 (Den E1 128 [V.p (rdV true (trimL s)), bolP true] (.sl 11 false true [I.p ⟨(rdV true (trimL s)), true, zV, false, true⟩])) ∧
 ((.tup [.sl 11 false true [I.p ⟨(rdV true (trimL s)), true, zV, false, true⟩], bolP true]) : PV) = r) ∧
 ((ByteArray.toList (ByteArray.extract (bs s) (0 : Nat) (Int.toNat (IntKind.i64.wrap ((↑(ByteArray.size (bs s)) : Int) - (↑(ByteArray.size (bs (trimL s))) : Int))))) == ByteArray.toList (bs [62])) = false →
 ((ByteArray.toList (ByteArray.extract (bs s) (0 : Nat) (Int.toNat (IntKind.i64.wrap ((↑(ByteArray.size (bs s)) : Int) - (↑(ByteArray.size (bs (trimL s))) : Int))))) == ByteArray.toList (bs [62, 61])) = true →
 ((10 : Nat) = 10) ∧
 (Den E1 128 [V.p (rdV true (trimL s)), bolP false] (.sl 11 false true [I.p ⟨(rdV true (trimL s)), false, zV, false, true⟩])) ∧
 ((.tup [.sl 11 false true [I.p ⟨(rdV true (trimL s)), false, zV, false, true⟩], bolP true]) : PV) = r) ∧
 ((ByteArray.toList (ByteArray.extract (bs s) (0 : Nat) (Int.toNat (IntKind.i64.wrap ((↑(ByteArray.size (bs s)) : Int) - (↑(ByteArray.size (bs (trimL s))) : Int))))) == ByteArray.toList (bs [62, 61])) = false →
 ((ByteArray.toList (ByteArray.extract (bs s) (0 : Nat) (Int.toNat (IntKind.i64.wrap ((↑(ByteArray.size (bs s)) : Int) - (↑(ByteArray.size (bs (trimL s))) : Int))))) == ByteArray.toList (bs [94])) = true →
 ((10 : Nat) = 10) ∧
 ((decide (V.a (rdV true (trimL s)) > (0 : Int))) = true →
 ((10 : Nat) = 10) ∧
 (Den E1 130 [V.p (rdV true (trimL s)), intP 0] (.tup [V.p (nextV (rdV true (trimL s)) (0 : Int)), intP (nextE (rdV true (trimL s)) (0 : Int))])) ∧
 ((48 : Nat) = 48) ∧
 ((nextE (rdV true (trimL s)) (0 : Int) != (0 : Int)) = true →
 ((10 : Nat) = 10) ∧
 (Den E1 128 [V.p (rdV true (trimL s)), bolP false] (.sl 11 false true [I.p ⟨(rdV true (trimL s)), false, zV, false, true⟩])) ∧
 ((.tup [.sl 11 false true [I.p ⟨(rdV true (trimL s)), false, zV, false, true⟩], bolP true]) : PV) = r) ∧
 ((nextE (rdV true (trimL s)) (0 : Int) != (0 : Int)) = false →
 ((48 : Nat) = 48) ∧
 (Den E1 131 [V.p (nextV (rdV true (trimL s)) (0 : Int))] (.tup [verP (V.a (nextV (rdV true (trimL s)) (0 : Int))) (V.b (nextV (rdV true (trimL s)) (0 : Int))) (V.c (nextV (rdV true (trimL s)) (0 : Int))) (.sl 1 false true [strP [48]]), intP 0])) ∧
 ((48 : Nat) = 48) ∧
 ((10 : Nat) = 10) ∧
 (Den E1 128 [V.p (rdV true (trimL s)), bolP false] (.sl 11 false true [I.p ⟨(rdV true (trimL s)), false, zV, false, true⟩])) ∧
 ((48 : Nat) = 48) ∧
 (Den E1 129 [verP (V.a (nextV (rdV true (trimL s)) (0 : Int))) (V.b (nextV (rdV true (trimL s)) (0 : Int))) (V.c (nextV (rdV true (trimL s)) (0 : Int))) (.sl 1 false true [strP [48]]), bolP true] (resL (joinS [downI ⟨V.a (nextV (rdV true (trimL s)) (0 : Int)), V.b (nextV (rdV true (trimL s)) (0 : Int)), V.c (nextV (rdV true (trimL s)) (0 : Int)), 1, false, true, [[48]]⟩ true]))) ∧
 (Den E1 62 [.sl 11 false true [I.p ⟨(rdV true (trimL s)), false, zV, false, true⟩], resL (joinS [downI ⟨V.a (nextV (rdV true (trimL s)) (0 : Int)), V.b (nextV (rdV true (trimL s)) (0 : Int)), V.c (nextV (rdV true (trimL s)) (0 : Int)), 1, false, true, [[48]]⟩ true])] (resL (meetS [⟨rdV true (trimL s), false, zV, false, true⟩] (joinS [downI ⟨V.a (nextV (rdV true (trimL s)) (0 : Int)), V.b (nextV (rdV true (trimL s)) (0 : Int)), V.c (nextV (rdV true (trimL s)) (0 : Int)), 1, false, true, [[48]]⟩ true])))) ∧
 ((.tup [resL (meetS [⟨rdV true (trimL s), false, zV, false, true⟩] (joinS [downI ⟨V.a (nextV (rdV true (trimL s)) (0 : Int)), V.b (nextV (rdV true (trimL s)) (0 : Int)), V.c (nextV (rdV true (trimL s)) (0 : Int)), 1, false, true, [[48]]⟩ true])), bolP true]) : PV) = r)) ∧
 ((decide (V.a (rdV true (trimL s)) > (0 : Int))) = false →
 ((10 : Nat) = 10) ∧
 ((decide (V.b (rdV true (trimL s)) > (0 : Int))) = true →
 ((10 : Nat) = 10) ∧
 (Den E1 130 [V.p (rdV true (trimL s)), intP 1] (.tup [V.p (nextV (rdV true (trimL s)) (1 : Int)), intP (nextE (rdV true (trimL s)) (1 : Int))])) ∧
 ((51 : Nat) = 51) ∧
 ((nextE (rdV true (trimL s)) (1 : Int) != (0 : Int)) = true →
 ((10 : Nat) = 10) ∧
 (Den E1 128 [V.p (rdV true (trimL s)), bolP false] (.sl 11 false true [I.p ⟨(rdV true (trimL s)), false, zV, false, true⟩])) ∧
 ((.tup [.sl 11 false true [I.p ⟨(rdV true (trimL s)), false, zV, false, true⟩], bolP true]) : PV) = r) ∧
 ((nextE (rdV true (trimL s)) (1 : Int) != (0 : Int)) = false →
 ((51 : Nat) = 51) ∧
 (Den E1 131 [V.p (nextV (rdV true (trimL s)) (1 : Int))] (.tup [verP (V.a (nextV (rdV true (trimL s)) (1 : Int))) (V.b (nextV (rdV true (trimL s)) (1 : Int))) (V.c (nextV (rdV true (trimL s)) (1 : Int))) (.sl 1 false true [strP [48]]), intP 0])) ∧
 ((51 : Nat) = 51) ∧
 ((10 : Nat) = 10) ∧
 (Den E1 128 [V.p (rdV true (trimL s)), bolP false] (.sl 11 false true [I.p ⟨(rdV true (trimL s)), false, zV, false, true⟩])) ∧
 ((51 : Nat) = 51) ∧
 (Den E1 129 [verP (V.a (nextV (rdV true (trimL s)) (1 : Int))) (V.b (nextV (rdV true (trimL s)) (1 : Int))) (V.c (nextV (rdV true (trimL s)) (1 : Int))) (.sl 1 false true [strP [48]]), bolP true] (resL (joinS [downI ⟨V.a (nextV (rdV true (trimL s)) (1 : Int)), V.b (nextV (rdV true (trimL s)) (1 : Int)), V.c (nextV (rdV true (trimL s)) (1 : Int)), 1, false, true, [[48]]⟩ true]))) ∧
 (Den E1 62 [.sl 11 false true [I.p ⟨(rdV true (trimL s)), false, zV, false, true⟩], resL (joinS [downI ⟨V.a (nextV (rdV true (trimL s)) (1 : Int)), V.b (nextV (rdV true (trimL s)) (1 : Int)), V.c (nextV (rdV true (trimL s)) (1 : Int)), 1, false, true, [[48]]⟩ true])] (resL (meetS [⟨rdV true (trimL s), false, zV, false, true⟩] (joinS [downI ⟨V.a (nextV (rdV true (trimL s)) (1 : Int)), V.b (nextV (rdV true (trimL s)) (1 : Int)), V.c (nextV (rdV true (trimL s)) (1 : Int)), 1, false, true, [[48]]⟩ true])))) ∧
 ((.tup [resL (meetS [⟨rdV true (trimL s), false, zV, false, true⟩] (joinS [downI ⟨V.a (nextV (rdV true (trimL s)) (1 : Int)), V.b (nextV (rdV true (trimL s)) (1 : Int)), V.c (nextV (rdV true (trimL s)) (1 : Int)), 1, false, true, [[48]]⟩ true])), bolP true]) : PV) = r)) ∧
 ((decide (V.b (rdV true (trimL s)) > (0 : Int))) = false →
 ((10 : Nat) = 10) ∧
 (Den E1 130 [V.p (rdV true (trimL s)), intP 2] (.tup [V.p (nextV (rdV true (trimL s)) (2 : Int)), intP (nextE (rdV true (trimL s)) (2 : Int))])) ∧
 ((50 : Nat) = 50) ∧
 ((nextE (rdV true (trimL s)) (2 : Int) != (0 : Int)) = true →
 ((10 : Nat) = 10) ∧
 (Den E1 128 [V.p (rdV true (trimL s)), bolP false] (.sl 11 false true [I.p ⟨(rdV true (trimL s)), false, zV, false, true⟩])) ∧
 ((.tup [.sl 11 false true [I.p ⟨(rdV true (trimL s)), false, zV, false, true⟩], bolP true]) : PV) = r) ∧
 ((nextE (rdV true (trimL s)) (2 : Int) != (0 : Int)) = false →
 ((50 : Nat) = 50) ∧
 (Den E1 131 [V.p (nextV (rdV true (trimL s)) (2 : Int))] (.tup [verP (V.a (nextV (rdV true (trimL s)) (2 : Int))) (V.b (nextV (rdV true (trimL s)) (2 : Int))) (V.c (nextV (rdV true (trimL s)) (2 : Int))) (.sl 1 false true [strP [48]]), intP 0])) ∧
 ((50 : Nat) = 50) ∧
 ((10 : Nat) = 10) ∧
 (Den E1 128 [V.p (rdV true (trimL s)), bolP false] (.sl 11 false true [I.p ⟨(rdV true (trimL s)), false, zV, false, true⟩])) ∧
 ((50 : Nat) = 50) ∧
 (Den E1 129 [verP (V.a (nextV (rdV true (trimL s)) (2 : Int))) (V.b (nextV (rdV true (trimL s)) (2 : Int))) (V.c (nextV (rdV true (trimL s)) (2 : Int))) (.sl 1 false true [strP [48]]), bolP true] (resL (joinS [downI ⟨V.a (nextV (rdV true (trimL s)) (2 : Int)), V.b (nextV (rdV true (trimL s)) (2 : Int)), V.c (nextV (rdV true (trimL s)) (2 : Int)), 1, false, true, [[48]]⟩ true]))) ∧
 (Den E1 62 [.sl 11 false true [I.p ⟨(rdV true (trimL s)), false, zV, false, true⟩], resL (joinS [downI ⟨V.a (nextV (rdV true (trimL s)) (2 : Int)), V.b (nextV (rdV true (trimL s)) (2 : Int)), V.c (nextV (rdV true (trimL s)) (2 : Int)), 1, false, true, [[48]]⟩ true])] (resL (meetS [⟨rdV true (trimL s), false, zV, false, true⟩] (joinS [downI ⟨V.a (nextV (rdV true (trimL s)) (2 : Int)), V.b (nextV (rdV true (trimL s)) (2 : Int)), V.c (nextV (rdV true (trimL s)) (2 : Int)), 1, false, true, [[48]]⟩ true])))) ∧
 ((.tup [resL (meetS [⟨rdV true (trimL s), false, zV, false, true⟩] (joinS [downI ⟨V.a (nextV (rdV true (trimL s)) (2 : Int)), V.b (nextV (rdV true (trimL s)) (2 : Int)), V.c (nextV (rdV true (trimL s)) (2 : Int)), 1, false, true, [[48]]⟩ true])), bolP true]) : PV) = r)))) ∧
 ((ByteArray.toList (ByteArray.extract (bs s) (0 : Nat) (Int.toNat (IntKind.i64.wrap ((↑(ByteArray.size (bs s)) : Int) - (↑(ByteArray.size (bs (trimL s))) : Int))))) == ByteArray.toList (bs [94])) = false →
 ((ByteArray.toList (ByteArray.extract (bs s) (0 : Nat) (Int.toNat (IntKind.i64.wrap ((↑(ByteArray.size (bs s)) : Int) - (↑(ByteArray.size (bs (trimL s))) : Int))))) == ByteArray.toList (bs [126])) = true →
 ((10 : Nat) = 10) ∧
 (Den E1 130 [V.p (rdV true (trimL s)), intP 1] (.tup [V.p (nextV (rdV true (trimL s)) (1 : Int)), intP (nextE (rdV true (trimL s)) (1 : Int))])) ∧
 ((45 : Nat) = 45) ∧
 ((nextE (rdV true (trimL s)) (1 : Int) != (0 : Int)) = true →
 ((10 : Nat) = 10) ∧
 (Den E1 128 [V.p (rdV true (trimL s)), bolP false] (.sl 11 false true [I.p ⟨(rdV true (trimL s)), false, zV, false, true⟩])) ∧
 ((.tup [.sl 11 false true [I.p ⟨(rdV true (trimL s)), false, zV, false, true⟩], bolP true]) : PV) = r) ∧
 ((nextE (rdV true (trimL s)) (1 : Int) != (0 : Int)) = false →
 ((45 : Nat) = 45) ∧
 (Den E1 131 [V.p (nextV (rdV true (trimL s)) (1 : Int))] (.tup [verP (V.a (nextV (rdV true (trimL s)) (1 : Int))) (V.b (nextV (rdV true (trimL s)) (1 : Int))) (V.c (nextV (rdV true (trimL s)) (1 : Int))) (.sl 1 false true [strP [48]]), intP 0])) ∧
 ((45 : Nat) = 45) ∧
 ((10 : Nat) = 10) ∧
 (Den E1 128 [V.p (rdV true (trimL s)), bolP false] (.sl 11 false true [I.p ⟨(rdV true (trimL s)), false, zV, false, true⟩])) ∧
 ((45 : Nat) = 45) ∧
 (Den E1 129 [verP (V.a (nextV (rdV true (trimL s)) (1 : Int))) (V.b (nextV (rdV true (trimL s)) (1 : Int))) (V.c (nextV (rdV true (trimL s)) (1 : Int))) (.sl 1 false true [strP [48]]), bolP true] (resL (joinS [downI ⟨V.a (nextV (rdV true (trimL s)) (1 : Int)), V.b (nextV (rdV true (trimL s)) (1 : Int)), V.c (nextV (rdV true (trimL s)) (1 : Int)), 1, false, true, [[48]]⟩ true]))) ∧
 (Den E1 62 [.sl 11 false true [I.p ⟨(rdV true (trimL s)), false, zV, false, true⟩], resL (joinS [downI ⟨V.a (nextV (rdV true (trimL s)) (1 : Int)), V.b (nextV (rdV true (trimL s)) (1 : Int)), V.c (nextV (rdV true (trimL s)) (1 : Int)), 1, false, true, [[48]]⟩ true])] (resL (meetS [⟨rdV true (trimL s), false, zV, false, true⟩] (joinS [downI ⟨V.a (nextV (rdV true (trimL s)) (1 : Int)), V.b (nextV (rdV true (trimL s)) (1 : Int)), V.c (nextV (rdV true (trimL s)) (1 : Int)), 1, false, true, [[48]]⟩ true])))) ∧
 ((.tup [resL (meetS [⟨rdV true (trimL s), false, zV, false, true⟩] (joinS [downI ⟨V.a (nextV (rdV true (trimL s)) (1 : Int)), V.b (nextV (rdV true (trimL s)) (1 : Int)), V.c (nextV (rdV true (trimL s)) (1 : Int)), 1, false, true, [[48]]⟩ true])), bolP true]) : PV) = r)) ∧
 ((ByteArray.toList (ByteArray.extract (bs s) (0 : Nat) (Int.toNat (IntKind.i64.wrap ((↑(ByteArray.size (bs s)) : Int) - (↑(ByteArray.size (bs (trimL s))) : Int))))) == ByteArray.toList (bs [126])) = false →
 ((.tup [.sl 0 true true [], bolP false]) : PV) = r)))))))))) := by kernel_rfl
end Go.Proofs.YtlhfgonjcpapnaaGreatDoor.Abs

set_option maxRecDepth 20000
set_option maxHeartbeats 1000000
namespace Go.Proofs.YtlhfgonjcpapnaaGreatDoor.Abs
open Go Go.Proofs
theorem stepS_len (out : List I) (x : I) : (stepS out x).length ≤ out.length + 1 := by
  unfold stepS
  split
  · simp
  · split
    · split
      · rw [List.length_set]; omega
      · omega
    · simp
theorem foldS_len : ∀ (l out : List I), (l.foldl stepS out).length ≤ out.length + l.length
  | [], out => by simp
  | x :: l, out => by
    have h1 := foldS_len l (stepS out x)
    have h2 := stepS_len out x
    simp only [List.foldl_cons, List.length_cons]
    omega
theorem joinS_len (l : List I) : (joinS l).length ≤ l.length := by
  have h := foldS_len (sortS (l.filter fun x => !deadI x)) []
  rw [sortS_len] at h
  have h2 := List.length_filter_le (fun x => !deadI x) l
  simp only [List.length_nil, Nat.zero_add] at h
  unfold joinS
  omega
theorem mem_insS {s : List I} {x y : I} (h : y ∈ insS s x) : y ∈ s ∨ y = x := by
  unfold insS at h
  rcases List.mem_append.1 h with h | h
  · exact .inl (List.mem_of_mem_take h)
  · rcases List.mem_cons.1 h with h | h
    · exact .inr h
    · exact .inl (List.mem_of_mem_drop h)
theorem mem_sortS {l : List I} {y : I} : y ∈ sortS l → y ∈ l := by
  have : ∀ (l s : List I), y ∈ l.foldl insS s → y ∈ s ∨ y ∈ l := by
    intro l
    induction l with
    | nil => intro s h; exact .inl h
    | cons x l ih =>
      intro s h
      rcases ih _ h with h | h
      · rcases mem_insS h with h | h
        · exact .inl h
        · exact .inr (List.mem_cons.2 (.inl h))
      · exact .inr (List.mem_cons.2 (.inr h))
  intro h
  rcases this l [] h with h | h
  · simp at h
  · exact h
theorem stepS_all {P : I → Prop} (hb : ∀ x y, P x → P y → P (betE x.low y.high)) {out : List I} {x : I} (ho : ∀ y ∈ out, P y) (hx : P x) : ∀ y ∈ stepS out x, P y := by
  unfold stepS
  split
  · intro y hy; rw [List.mem_singleton.1 hy]; exact hx
  · rename_i hne
    have hlt : out.length - 1 < out.length := by
      have : out ≠ [] := by rintro rfl; simp at hne
      have := List.length_pos_iff.2 this
      omega
    split
    · split
      · intro y hy
        rcases List.mem_or_eq_of_mem_set hy with hy | rfl
        · exact ho y hy
        · exact hb _ _ (ho _ (getD_mem hlt default)) hx
      · exact ho
    · intro y hy
      rcases List.mem_append.1 hy with hy | hy
      · exact ho y hy
      · rw [List.mem_singleton.1 hy]; exact hx
theorem joinS_all {P : I → Prop} (hb : ∀ x y, P x → P y → P (betE x.low y.high)) {l : List I} (hl : ∀ x ∈ l, P x) : ∀ y ∈ joinS l, P y := by
  have : ∀ (l out : List I), (∀ x ∈ l, P x) → (∀ y ∈ out, P y) → ∀ y ∈ l.foldl stepS out, P y := by
    intro l
    induction l with
    | nil => intro out _ h; exact h
    | cons x l ih => intro out h1 h2; exact ih _ (fun y hy => h1 y (List.mem_cons_of_mem _ hy)) (stepS_all hb h2 (h1 x (List.mem_cons_self ..)))
  unfold joinS
  exact this _ [] (fun x hx => hl x (List.mem_filter.1 (mem_sortS hx)).1) (by simp)
theorem joinS_ok {l : List I} (hl : ∀ x ∈ l, x.ok) : ∀ y ∈ joinS l, y.ok := joinS_all (P := I.ok) (fun x y hx hy => bet_ok hx.lo hy.hi) hl
theorem meetS_ok {l m : List I} (hl : ∀ x ∈ l, x.ok) (hm : ∀ x ∈ m, x.ok) : ∀ y ∈ meetS l m, y.ok := joinS_ok (meets_ok l m hl hm)
theorem meetS_len (l m : List I) : (meetS l m).length ≤ l.length * m.length := by
  have := joinS_len (l.flatMap fun x => m.map fun y => meet1S x y)
  rw [meets_len] at this
  exact this
theorem one_ok {x : I} (h : x.ok) : ∀ y ∈ [x], y.ok := fun y hy => by rw [List.mem_singleton.1 hy]; exact h
theorem down_ok {v : V} (hv : v.ok) (o : Bool) : (downI v o).ok := ⟨bottom_ok, hv⟩
theorem from_ok {v : V} (hv : v.ok) (o : Bool) : (fromI v o).ok := ⟨hv, zV_ok⟩
theorem tw_sl (l : List I) : slOk 11 (twK l) (twN l) l.length := by
  unfold twK twN
  refine ⟨fun h => by simpa using h, fun h => ?_⟩
  have : ¬ l.length = 0 := by simpa using h
  rw [if_neg this]
theorem den_meet_fd (v w : V) (o p : Bool) (hv : v.ok) (hw : w.ok) : Den E1 62 [.sl 11 false true [itvP v.a v.b v.c (preP v.k v.nl v.full v.pre) o 0 0 0 (.sl 0 true true []) false true], resL (joinS [downI w p])] (resL (meetS [⟨v, o, zV, false, true⟩] (joinS [downI w p]))) := by
  have hl := joinS_len [downI w p]
  simp only [List.length_singleton] at hl
  exact den_span_meet20 [fromI v o] (joinS [downI w p]) 11 _ false true _ _ (by simp only [List.length_singleton, Nat.one_mul]; omega) (by simp) (by omega) ⟨(by simp), fun _ => rfl⟩ (tw_sl _) (one_ok (from_ok hv o)) (joinS_ok (one_ok (down_ok hw p)))
theorem res_fd {c : LF × Bool} {v w : V} {o p : Bool} (h : c = (lfR (meetS [fromI v o] (joinS [downI w p])), true)) : (.tup [resL (meetS [⟨v, o, zV, false, true⟩] (joinS [downI w p])), bolP true] : PV) = .tup [c.1.p, bolP c.2] := by rw [h]; try rfl
theorem res_d {c : LF × Bool} {w : V} {p : Bool} (h : c = (lfR (joinS [downI w p]), true)) : (.tup [resL (joinS [downI w p]), bolP true] : PV) = .tup [c.1.p, bolP c.2] := by rw [h]; try rfl
theorem res_f {c : LF × Bool} {v : V} {o : Bool} (h : c = (lf1 (fromI v o), true)) : (.tup [.sl 11 false true [itvP v.a v.b v.c (preP v.k v.nl v.full v.pre) o 0 0 0 (.sl 0 true true []) false true], bolP true] : PV) = .tup [c.1.p, bolP c.2] := by rw [h]; try rfl
theorem res_no {c : LF × Bool} (h : c = (lf0, false)) : (.tup [.sl 0 true true [], bolP false] : PV) = .tup [c.1.p, bolP c.2] := by rw [h]; try rfl
theorem wrap_u32_of {n : Int} (h0 : 0 ≤ n) (h : n < 4294967296) : IntKind.wrap IntKind.u32 n = n := by
  simp only [IntKind.wrap, IntKind.bits, IntKind.signed, Bool.false_and, Bool.false_eq_true, if_false]
  omega
theorem next_num {x : Int} (hx : u32 x) (h1 : x ≤ 2147483647) (h2 : ¬ x = 2147483647) : IntKind.wrap IntKind.u32 (x + 1) = x + 1 := wrap_u32_of (by have := hx.1; omega) (by omega)
theorem mayV_iff (v : V) : mayV v = true ↔ v.a ≤ 2147483647 ∧ v.b ≤ 2147483647 ∧ v.c ≤ 2147483647 ∧ v.pre.length ≤ 8 ∧ v.pre.all identL = true := by
  simp only [mayV, Bool.and_eq_true, decide_eq_true_eq, and_assoc]
theorem next_is (v : V) (hv : v.ok) (n : Int) (h0 : 0 ≤ n) (h2 : n ≤ 2) : (nextV v n).ok ∧ mayV (nextV v n) = true := by
  cases hn : nextOk v n with
  | false =>
    have : nextV v n = zV := by simp [nextV, hn]
    rw [this]; exact ⟨zV_ok, zV_may⟩
  | true =>
    have hn' := hn
    simp only [nextOk, Bool.and_eq_true, Bool.not_eq_true', Bool.and_eq_false_iff, beq_eq_false_iff_ne, ne_eq] at hn'
    obtain ⟨⟨⟨hm, ha⟩, hb⟩, hc⟩ := hn'
    obtain ⟨ma, mb, mc, _, _⟩ := (mayV_iff v).1 hm
    have hz : u32 0 := ⟨by omega, by omega⟩
    have hs : slOk 1 0 true 0 := ⟨fun _ => rfl, fun h => by cases h⟩
    rcases (show n = 0 ∨ n = 1 ∨ n = 2 by omega) with rfl | rfl | rfl
    · have h := next_num hv.a ma (by simpa using ha)
      have ha' : ¬ v.a = 2147483647 := by simpa using ha
      have e : nextV v 0 = ⟨v.a + 1, 0, 0, 0, true, true, []⟩ := by simp [nextV, hn, h]
      rw [e]
      exact ⟨⟨⟨by have := hv.a.1; show 0 ≤ v.a + 1; omega, by show v.a + 1 < _; omega⟩, hz, hz, hs, by unfold small; simp, fun s hs => by simp at hs⟩, (mayV_iff _).2 ⟨by show v.a + 1 ≤ _; omega, by simp, by simp, by simp, by simp⟩⟩
    · have hb' : ¬ v.b = 2147483647 := by simpa using hb
      have h := next_num hv.b mb hb'
      have e : nextV v 1 = ⟨v.a, v.b + 1, 0, 0, true, true, []⟩ := by simp [nextV, hn, h]
      rw [e]
      exact ⟨⟨hv.a, ⟨by have := hv.b.1; show 0 ≤ v.b + 1; omega, by show v.b + 1 < _; omega⟩, hz, hs, by unfold small; simp, fun s hs => by simp at hs⟩, (mayV_iff _).2 ⟨ma, by show v.b + 1 ≤ _; omega, by simp, by simp, by simp⟩⟩
    · have hc' : ¬ v.c = 2147483647 := by simpa using hc
      have h := next_num hv.c mc hc'
      have e : nextV v 2 = ⟨v.a, v.b, v.c + 1, 0, true, true, []⟩ := by simp [nextV, hn, h]
      rw [e]
      exact ⟨⟨hv.a, hv.b, ⟨by have := hv.c.1; show 0 ≤ v.c + 1; omega, by show v.c + 1 < _; omega⟩, hs, by unfold small; simp, fun s hs => by simp at hs⟩, (mayV_iff _).2 ⟨ma, mb, by show v.c + 1 ≤ _; omega, by simp, by simp⟩⟩
theorem least_is {v : V} (hv : v.ok) (hm : mayV v = true) : (leastV v).ok ∧ mayV (leastV v) = true := by
  obtain ⟨ma, mb, mc, _, _⟩ := (mayV_iff v).1 hm
  refine ⟨⟨hv.a, hv.b, hv.c, ⟨fun h => by simp [leastV] at h, fun _ => rfl⟩, by simp [leastV, small], fun s hs => by simp [leastV] at hs; simp [hs, small]⟩, (mayV_iff _).2 ⟨ma, mb, mc, by simp [leastV], ?_⟩⟩
  show [[(48 : UInt8)]].all identL = true
  decide
theorem nextE_ne {v : V} {n : Int} : (nextE v n != 0) = !nextOk v n := by
  unfold nextE
  cases h : nextOk v n with
  | true =>
    have : mayV v = true := by simp only [nextOk, Bool.and_eq_true] at h; exact h.1.1.1
    simp [this]
  | false => cases mayV v <;> simp
theorem trim_le : ∀ s : List UInt8, (trimL s).length ≤ s.length
  | [] => by simp [trimL]
  | c :: s => by
    have := trim_le s
    unfold trimL at this ⊢
    rw [List.dropWhile_cons]
    split
    · simp only [List.length_cons]; omega
    · simp
theorem sign_sl (s : List UInt8) (hs : small s.length) : ByteArray.extract (bs s) 0 (Int.toNat (IntKind.wrap IntKind.i64 ((↑(ByteArray.size (bs s)) : Int) - (↑(ByteArray.size (bs (trimL s))) : Int)))) = bs (signL s) := by
  have := trim_le s
  unfold small at hs
  rw [extract_bs, size_bs, size_bs, wrap_i64 _ (by omega) (by omega)]
  unfold signL
  rw [List.drop_zero, Nat.sub_zero]
  congr 3
  omega
theorem upto_yes {v : V} {n : Int} (h : nextOk v n = true) : uptoS v n = lfR (meetS [fromI v false] (joinS [downI (leastV (nextV v n)) true])) := by simp [uptoS, h]
theorem upto_no {v : V} {n : Int} (h : nextOk v n = false) : uptoS v n = lf1 (fromI v false) := by simp [uptoS, h]
theorem den_span_compared (s : List UInt8) (hs : small s.length) : Den E1 91 [strP s] (.tup [(cmprS s).1.p, bolP (cmprS s).2]) := by
  have hle := trim_le s
  have ht : small (trimL s).length := by unfold small at hs ⊢; omega
  have hv : (rdV true (trimL s)).ok := rd_ok true
  have hm : mayV (rdV true (trimL s)) = true := rd_may true
  have h0 := span_compared_go s (.tup [(cmprS s).1.p, bolP (cmprS s).2])
  simp only [sign_sl s hs, toList_bs, errV_ne, nextE_ne] at h0
  refine den1 2000 _ rfl (by kernel_rfl) rfl rfl rfl (Eq.mpr h0 ?_)
  generalize hV : rdV true (trimL s) = v at hv hm ⊢
  have b1 := fun o => den_span_below v o hv
  have hup : ∀ n : Int, 0 ≤ n → n ≤ 2 → nextOk v n = true → (leastV (nextV v n)).ok := fun n h0 h2 hk => (least_is (next_is v hv n h0 h2).1 (next_is v hv n h0 h2).2).1
  have sg : ∀ {a : List UInt8}, (signL s == a) = true → signL s = a := fun h => eq_of_beq h
  have ns : ∀ {a : List UInt8}, (signL s == a) = false → ¬ signL s = a := fun h e => by rw [e] at h; simp at h
  refine ⟨den_TrimLeft s, ?_, trivial, fun h => ?_, fun h => ⟨?_, fun h1 => ?_, fun h1 => ⟨fun h2 => ?_, fun h2 => ⟨fun h3 => ?_, fun h3 => ⟨fun h4 => ?_, fun h4 => ⟨fun h5 => ?_, fun h5 => ⟨fun h6 => ?_, fun h6 => ⟨fun h7 => ?_, fun h7 => ⟨fun h8 => ?_, fun h8 => ?_⟩⟩⟩⟩⟩⟩⟩⟩⟩
  · have := den_version_Read (trimL s) ht
    rw [hV] at this
    exact this
  · exact res_no (by have h' : rdOk (trimL s) = false := not_eq.1 h; simp [cmprS, h'])
  · unfold small at hs
    simp only [size_bs]
    rw [wrap_i64 _ (by omega) (by omega)]
    omega
  · have h' : rdOk (trimL s) = true := not_eq.2 h
    exact ⟨h1, trivial, den_from v false, trivial, b1 false, den_meet_fd v v false false hv hv, res_fd (v := v) (w := v) (by simp [cmprS, h', hV, sg h1])⟩
  · have h' : rdOk (trimL s) = true := not_eq.2 h
    exact ⟨trivial, den_from v false, trivial, b1 false, den_meet_fd v v false false hv hv, res_fd (v := v) (w := v) (by simp [cmprS, h', hV, sg h2])⟩
  · have h' : rdOk (trimL s) = true := not_eq.2 h
    exact ⟨trivial, b1 true, res_d (by simp [cmprS, h', hV, sg h3])⟩
  · have h' : rdOk (trimL s) = true := not_eq.2 h
    exact ⟨trivial, b1 false, res_d (by simp [cmprS, h', hV, sg h4])⟩
  · have h' : rdOk (trimL s) = true := not_eq.2 h
    exact ⟨trivial, den_from v true, res_f (by simp [cmprS, h', hV, sg h5])⟩
  · have h' : rdOk (trimL s) = true := not_eq.2 h
    exact ⟨trivial, den_from v false, res_f (by simp [cmprS, h', hV, sg h6])⟩
  · have h' : rdOk (trimL s) = true := not_eq.2 h
    have hc : cmprS s = (uptoS v (kindV v), true) := by simp [cmprS, h', hV, sg h7]
    have no : ∀ n : Int, kindV v = n → nextOk v n = false → cmprS s = (lf1 (fromI v false), true) := fun n hk hn => by rw [hc, hk, upto_no hn]
    have yes : ∀ n : Int, kindV v = n → nextOk v n = true → cmprS s = (lfR (meetS [fromI v false] (joinS [downI (leastV (nextV v n)) true])), true) := fun n hk hn => by rw [hc, hk, upto_yes hn]
    refine ⟨trivial, fun h8 => ⟨trivial, den_Next v hv 0 (by omega) (by omega), trivial, fun h9 => ⟨trivial, den_from v false, res_f (no 0 ?_ (not_eq.1 h9))⟩, fun h9 => ⟨trivial, den_Least _ (next_is v hv 0 (by omega) (by omega)).1 (next_is v hv 0 (by omega) (by omega)).2, trivial, trivial, den_from v false, trivial, den_span_below _ true (hup 0 (by omega) (by omega) (not_eq.2 h9)), den_meet_fd v (leastV (nextV v 0)) false true hv (hup 0 (by omega) (by omega) (not_eq.2 h9)), res_fd (yes 0 ?_ (not_eq.2 h9))⟩⟩,
      fun h8 => ⟨trivial, fun h10 => ⟨trivial, den_Next v hv 1 (by omega) (by omega), trivial, fun h9 => ⟨trivial, den_from v false, res_f (no 1 ?_ (not_eq.1 h9))⟩, fun h9 => ⟨trivial, den_Least _ (next_is v hv 1 (by omega) (by omega)).1 (next_is v hv 1 (by omega) (by omega)).2, trivial, trivial, den_from v false, trivial, den_span_below _ true (hup 1 (by omega) (by omega) (not_eq.2 h9)), den_meet_fd v (leastV (nextV v 1)) false true hv (hup 1 (by omega) (by omega) (not_eq.2 h9)), res_fd (yes 1 ?_ (not_eq.2 h9))⟩⟩,
        fun h10 => ⟨trivial, den_Next v hv 2 (by omega) (by omega), trivial, fun h9 => ⟨trivial, den_from v false, res_f (no 2 ?_ (not_eq.1 h9))⟩, fun h9 => ⟨trivial, den_Least _ (next_is v hv 2 (by omega) (by omega)).1 (next_is v hv 2 (by omega) (by omega)).2, trivial, trivial, den_from v false, trivial, den_span_below _ true (hup 2 (by omega) (by omega) (not_eq.2 h9)), den_meet_fd v (leastV (nextV v 2)) false true hv (hup 2 (by omega) (by omega) (not_eq.2 h9)), res_fd (yes 2 ?_ (not_eq.2 h9))⟩⟩⟩⟩
    all_goals simp only [decide_eq_true_eq, decide_eq_false_iff_not] at h8
    all_goals try simp only [decide_eq_true_eq, decide_eq_false_iff_not] at h10
    all_goals unfold kindV
    · rw [if_pos h8]
    · rw [if_pos h8]
    · rw [if_neg h8, if_pos h10]
    · rw [if_neg h8, if_pos h10]
    · rw [if_neg h8, if_neg h10]
    · rw [if_neg h8, if_neg h10]
  · have h' : rdOk (trimL s) = true := not_eq.2 h
    have hc : cmprS s = (uptoS v 1, true) := by simp [cmprS, h', hV, sg h8]
    exact ⟨trivial, den_Next v hv 1 (by omega) (by omega), trivial, fun h9 => ⟨trivial, den_from v false, res_f (v := v) (o := false) (hc.trans (by rw [upto_no (not_eq.1 h9)]))⟩, fun h9 => ⟨trivial, den_Least _ (next_is v hv 1 (by omega) (by omega)).1 (next_is v hv 1 (by omega) (by omega)).2, trivial, trivial, den_from v false, trivial, den_span_below _ true (hup 1 (by omega) (by omega) (not_eq.2 h9)), den_meet_fd v (leastV (nextV v 1)) false true hv (hup 1 (by omega) (by omega) (not_eq.2 h9)), res_fd (v := v) (w := leastV (nextV v 1)) (o := false) (p := true) (hc.trans (by rw [upto_yes (not_eq.2 h9)]))⟩⟩
  · have h' : rdOk (trimL s) = true := not_eq.2 h
    exact res_no (by simp [cmprS, h', ns h1, ns h2, ns h3, ns h4, ns h5, ns h6, ns h7, ns h8])
end Go.Proofs.YtlhfgonjcpapnaaGreatDoor.Abs

namespace Go.Proofs.YtlhfgonjcpapnaaGreatDoor.Abs
open Go Go.Proofs
def span_alternative_R0 (s : List UInt8) : St :=
  { t := [strA (bs s), undefA, .mptr 0 2 0 0 0, .mptr 0 3 1 0 0, .mptr 0 4 6 0 0, .mptr 0 5 13 0 0, undefA, undefA, undefA, .pv (edgP 0 0 0 (.sl 1 false true [strP [48]]) false false), .pv (edgP 0 0 0 (.sl 0 true true []) false true), .pv (itvP 0 0 0 (.sl 1 false true [strP [48]]) false 0 0 0 (.sl 0 true true []) false true), .msl 0 12 5 0 1 true, strA (bs s), bolA (ByteArray.toList (bs s) == ByteArray.toList (bs [42])), bolA (ByteArray.toList (bs s) == ByteArray.toList (bs [42])), undefA, bolA (ByteArray.toList (bs s) == ByteArray.toList (bs [33])), bolA (ByteArray.toList (bs s) == ByteArray.toList (bs [33])), strA (bs s), .clo (.func 88) [] [.mptr 1 2 17 0 0, .mptr 1 3 18 0 0], undefA, undefA, undefA, undefA, undefA, undefA, undefA, undefA, undefA, undefA, undefA, undefA, undefA, undefA, undefA, undefA, undefA, undefA], h := [[row0, row0, ⟨0, .box (.pv (.sl 0 true true [])) false⟩, ⟨1, .box (bolA false) false⟩, ⟨6, .box (.msl 0 12 5 0 1 true) false⟩, ⟨13, .box (intA 0) false⟩, row0, row0, row0, row0, row0, row0, ⟨5, .row 11 63 [itvP 0 0 0 (.sl 1 false true [strP [48]]) false 0 0 0 (.sl 0 true true []) false true] false⟩] ++ List.replicate 26 row0, [row0, row0, ⟨17, .box (strA (bs s)) false⟩, ⟨18, .box (strA (bs [32])) false⟩, row0, row0]], g := 22 }
theorem span_alternative_go (s : List UInt8) (r : PV) : FnGo E1 Tryz.f52 [strP s] r 2000 (.res (edgP 0 0 0 (.sl 1 false true [strP [48]]) false false) (.res (edgP 0 0 0 (.sl 0 true true []) false true) (.res (itvP 0 0 0 (.sl 1 false true [strP [48]]) false 0 0 0 (.sl 0 true true []) false true) (.fork (.hole 0) (.fork (.hole 0) (.resI (fun g => spV g) (fun g => spF s [32] g) 5 (.hole 0))))))) =
  ((Den E1 76 [] (edgP 0 0 0 (.sl 1 false true [strP [48]]) false false)) ∧
 (Den E1 90 [] (edgP 0 0 0 (.sl 0 true true []) false true)) ∧
 (Den E1 89 [edgP 0 0 0 (.sl 1 false true [strP [48]]) false false, edgP 0 0 0 (.sl 0 true true []) false true] (itvP 0 0 0 (.sl 1 false true [strP [48]]) false 0 0 0 (.sl 0 true true []) false true)) ∧
 ((6 : Nat) = 6) ∧
 ((ByteArray.toList (bs s) == ByteArray.toList (bs [42])) = true →
 ((6 : Nat) = 6) ∧
 ((0 : Nat) = 0) ∧
 ((1 : Nat) = 1) ∧
 ∃ hp, frz frzDepth (.tup [.msl 0 12 5 0 1 true, bolA true]) [[row0, row0, ⟨0, .box (.msl 0 12 5 0 1 true) false⟩, ⟨1, .box (bolA true) false⟩, ⟨6, .box (.msl 0 12 5 0 1 true) false⟩, row0, row0, row0, row0, row0, row0, row0, ⟨5, .row 11 63 [itvP 0 0 0 (.sl 1 false true [strP [48]]) false 0 0 0 (.sl 0 true true []) false true] false⟩] ++ List.replicate 26 row0] = some (r, hp)) ∧
 ((ByteArray.toList (bs s) == ByteArray.toList (bs [42])) = false →
 ((ByteArray.toList (bs s) == ByteArray.toList (bs [33])) = true →
 ((0 : Nat) = 0) ∧
 ((1 : Nat) = 1) ∧
 ((.tup [.sl 0 true true [], bolP true]) : PV) = r) ∧
 ((ByteArray.toList (bs s) == ByteArray.toList (bs [33])) = false →
 ((13 : Nat) = 13) ∧
 (DenI E1 51 [strP s, strP [32]] (fun g => spV g) (fun g => spF s [32] g) 5) ∧
 RangeAtF E1 Tryz.f52 r 0 { t := [strA (bs s), undefA, .mptr 0 2 0 0 0, .mptr 0 3 1 0 0, .mptr 0 4 6 0 0, .mptr 0 5 13 0 0, undefA, undefA, undefA, .pv (edgP 0 0 0 (.sl 1 false true [strP [48]]) false false), .pv (edgP 0 0 0 (.sl 0 true true []) false true), .pv (itvP 0 0 0 (.sl 1 false true [strP [48]]) false 0 0 0 (.sl 0 true true []) false true), .msl 0 12 5 0 1 true, strA (bs s), bolA (ByteArray.toList (bs s) == ByteArray.toList (bs [42])), bolA (ByteArray.toList (bs s) == ByteArray.toList (bs [42])), undefA, bolA (ByteArray.toList (bs s) == ByteArray.toList (bs [33])), bolA (ByteArray.toList (bs s) == ByteArray.toList (bs [33])), strA (bs s), .clo (.func 88) [] [.mptr 1 2 17 0 0, .mptr 1 3 18 0 0], undefA, undefA, undefA, undefA, undefA, undefA, undefA, undefA, undefA, undefA, undefA, undefA, undefA, undefA, undefA, undefA, undefA, undefA], h := [[row0, row0, ⟨0, .box (.pv (.sl 0 true true [])) false⟩, ⟨1, .box (bolA false) false⟩, ⟨6, .box (.msl 0 12 5 0 1 true) false⟩, ⟨13, .box (intA 0) false⟩, row0, row0, row0, row0, row0, row0, ⟨5, .row 11 63 [itvP 0 0 0 (.sl 1 false true [strP [48]]) false 0 0 0 (.sl 0 true true []) false true] false⟩] ++ List.replicate 26 row0, [row0, row0, ⟨17, .box (strA (bs s)) false⟩, ⟨18, .box (strA (bs [32])) false⟩, row0, row0]], g := 22 }))) := by kernel_rfl
theorem span_alternative_as0 (s : List UInt8) (p : List UInt8) (n : Int) (l : AV) (z : Row) (F1 : List Row) (FR : List Row) (gy : Nat) (g : Nat) (R : AExit → St → Prop) : AssignGo E1 Tryz.f52 0 R 2000 (.hole 0) { t := [strA (bs s), undefA, .mptr 0 2 0 0 0, .mptr 0 3 1 0 0, .mptr 0 4 6 0 0, .mptr 0 5 13 0 0, undefA, undefA, undefA, .pv (edgP 0 0 0 (.sl 1 false true [strP [48]]) false false), .pv (edgP 0 0 0 (.sl 0 true true []) false true), .pv (itvP 0 0 0 (.sl 1 false true [strP [48]]) false 0 0 0 (.sl 0 true true []) false true), .msl 0 12 5 0 1 true, strA (bs s), bolA (ByteArray.toList (bs s) == ByteArray.toList (bs [42])), bolA (ByteArray.toList (bs s) == ByteArray.toList (bs [42])), undefA, bolA (ByteArray.toList (bs s) == ByteArray.toList (bs [33])), bolA (ByteArray.toList (bs s) == ByteArray.toList (bs [33])), strA (bs s), .clo (.func 88) [] [.mptr 1 2 17 0 0, .mptr 1 3 18 0 0], strA (bs p), undefA, undefA, undefA, undefA, undefA, undefA, undefA, undefA, undefA, undefA, undefA, undefA, undefA, undefA, undefA, undefA, undefA], h := [[row0, row0, ⟨0, .box (.pv (.sl 0 true true [])) false⟩, ⟨1, .box (bolA false) false⟩, ⟨6, .box l false⟩, ⟨13, .box (intA n) false⟩, row0, row0, row0, row0, row0, row0, z, row0, row0, row0, row0, row0, row0, row0, row0, ⟨gy, .lp .ready⟩] ++ List.replicate 17 row0, F1, FR], g := g } =
  (R .normal { t := [strA (bs s), undefA, .mptr 0 2 0 0 0, .mptr 0 3 1 0 0, .mptr 0 4 6 0 0, .mptr 0 5 13 0 0, strA (bs p), undefA, undefA, .pv (edgP 0 0 0 (.sl 1 false true [strP [48]]) false false), .pv (edgP 0 0 0 (.sl 0 true true []) false true), .pv (itvP 0 0 0 (.sl 1 false true [strP [48]]) false 0 0 0 (.sl 0 true true []) false true), .msl 0 12 5 0 1 true, strA (bs s), bolA (ByteArray.toList (bs s) == ByteArray.toList (bs [42])), bolA (ByteArray.toList (bs s) == ByteArray.toList (bs [42])), undefA, bolA (ByteArray.toList (bs s) == ByteArray.toList (bs [33])), bolA (ByteArray.toList (bs s) == ByteArray.toList (bs [33])), strA (bs s), .clo (.func 88) [] [.mptr 1 2 17 0 0, .mptr 1 3 18 0 0], strA (bs p), undefA, undefA, undefA, undefA, undefA, undefA, undefA, undefA, undefA, undefA, undefA, undefA, undefA, undefA, undefA, undefA, undefA], h := [[row0, row0, ⟨0, .box (.pv (.sl 0 true true [])) false⟩, ⟨1, .box (bolA false) false⟩, ⟨6, .box l false⟩, ⟨13, .box (intA n) false⟩, row0, row0, row0, row0, row0, row0, z, row0, row0, row0, row0, row0, row0, row0, row0, ⟨gy, .lp .ready⟩] ++ List.replicate 17 row0, F1, FR], g := g + 1 }) := by kernel_rfl
theorem span_alternative_a_bd0 (s : List UInt8) (p : List UInt8) (F1 : List Row) (FR : List Row) (gy : Nat) (g : Nat) (R : AExit → St → Prop) : BodyGo E1 Tryz.f52 0 R 2000 (.res (.tup [LF.p (Prod.fst (cmprS p)), bolP (Prod.snd (cmprS p))]) (.fork (.lts 4 (.hole 0)) (.lts 4 (.ev (.res (resL (meetS [⟨bottomV, false, zV, false, true⟩] (LF.l (Prod.fst (cmprS p))))) (.hole 0)))))) { t := [strA (bs s), undefA, .mptr 0 2 0 0 0, .mptr 0 3 1 0 0, .mptr 0 4 6 0 0, .mptr 0 5 13 0 0, strA (bs p), undefA, undefA, .pv (edgP 0 0 0 (.sl 1 false true [strP [48]]) false false), .pv (edgP 0 0 0 (.sl 0 true true []) false true), .pv (itvP 0 0 0 (.sl 1 false true [strP [48]]) false 0 0 0 (.sl 0 true true []) false true), .msl 0 12 5 0 1 true, strA (bs s), bolA (ByteArray.toList (bs s) == ByteArray.toList (bs [42])), bolA (ByteArray.toList (bs s) == ByteArray.toList (bs [42])), undefA, bolA (ByteArray.toList (bs s) == ByteArray.toList (bs [33])), bolA (ByteArray.toList (bs s) == ByteArray.toList (bs [33])), strA (bs s), .clo (.func 88) [] [.mptr 1 2 17 0 0, .mptr 1 3 18 0 0], strA (bs p), undefA, undefA, undefA, undefA, undefA, undefA, undefA, undefA, undefA, undefA, undefA, undefA, undefA, undefA, undefA, undefA, undefA], h := [[row0, row0, ⟨0, .box (.pv (.sl 0 true true [])) false⟩, ⟨1, .box (bolA false) false⟩, ⟨6, .box (.msl 0 12 5 0 1 true) false⟩, ⟨13, .box (intA 0) false⟩, row0, row0, row0, row0, row0, row0, ⟨5, .row 11 63 [itvP 0 0 0 (.sl 1 false true [strP [48]]) false 0 0 0 (.sl 0 true true []) false true] false⟩, row0, row0, row0, row0, row0, row0, row0, row0, ⟨gy, .lp .busy⟩] ++ List.replicate 17 row0, F1, FR], g := g } =
  ((Den E1 91 [strP p] (.tup [LF.p (Prod.fst (cmprS p)), bolP (Prod.snd (cmprS p))])) ∧
 ((13 : Nat) = 13) ∧
 ((13 : Nat) = 13) ∧
 ((!Prod.snd (cmprS p)) = true →
 ((0 : Nat) = 0) ∧
 ((1 : Nat) = 1) ∧
 R .ret { t := [strA (bs s), undefA, .mptr 0 2 0 0 0, .mptr 0 3 1 0 0, .mptr 0 4 6 0 0, .mptr 0 5 13 0 0, strA (bs p), .pv (LF.p (Prod.fst (cmprS p))), bolA (Prod.snd (cmprS p)), .pv (edgP 0 0 0 (.sl 1 false true [strP [48]]) false false), .pv (edgP 0 0 0 (.sl 0 true true []) false true), .pv (itvP 0 0 0 (.sl 1 false true [strP [48]]) false 0 0 0 (.sl 0 true true []) false true), .msl 0 12 5 0 1 true, strA (bs s), bolA (ByteArray.toList (bs s) == ByteArray.toList (bs [42])), bolA (ByteArray.toList (bs s) == ByteArray.toList (bs [42])), undefA, bolA (ByteArray.toList (bs s) == ByteArray.toList (bs [33])), bolA (ByteArray.toList (bs s) == ByteArray.toList (bs [33])), strA (bs s), .clo (.func 88) [] [.mptr 1 2 17 0 0, .mptr 1 3 18 0 0], strA (bs p), .pv (.tup [LF.p (Prod.fst (cmprS p)), bolP (Prod.snd (cmprS p))]), strA (bs p), .pv (.tup [LF.p (Prod.fst (cmprS p)), bolP (Prod.snd (cmprS p))]), .pv (LF.p (Prod.fst (cmprS p))), bolA (Prod.snd (cmprS p)), intA 0, intA 1, bolA (Prod.snd (cmprS p)), bolA (!Prod.snd (cmprS p)), bolA true, undefA, undefA, bolA true, undefA, undefA, undefA, undefA], h := [[row0, row0, ⟨0, .box (.pv (.sl 0 true true [])) false⟩, ⟨1, .box (bolA false) false⟩, ⟨6, .box (.msl 0 12 5 0 1 true) false⟩, ⟨13, .box (intA 1) false⟩, row0, row0, row0, row0, row0, row0, ⟨5, .row 11 63 [itvP 0 0 0 (.sl 1 false true [strP [48]]) false 0 0 0 (.sl 0 true true []) false true] false⟩, row0, row0, row0, row0, row0, row0, row0, row0, ⟨gy, .lp .busy⟩] ++ List.replicate 17 row0, F1, FR], g := g + 7 + 3 + 6 + 2 }) ∧
 ((!Prod.snd (cmprS p)) = false →
 ((13 : Nat) = 13) ∧
 ((6 : Nat) = 6) ∧
 (Den E1 62 [.sl 11 false true [itvP 0 0 0 (.sl 1 false true [strP [48]]) false 0 0 0 (.sl 0 true true []) false true], LF.p (Prod.fst (cmprS p))] (resL (meetS [⟨bottomV, false, zV, false, true⟩] (LF.l (Prod.fst (cmprS p)))))) ∧
 ((6 : Nat) = 6) ∧
 R .normal { t := [strA (bs s), undefA, .mptr 0 2 0 0 0, .mptr 0 3 1 0 0, .mptr 0 4 6 0 0, .mptr 0 5 13 0 0, strA (bs p), .pv (LF.p (Prod.fst (cmprS p))), bolA (Prod.snd (cmprS p)), .pv (edgP 0 0 0 (.sl 1 false true [strP [48]]) false false), .pv (edgP 0 0 0 (.sl 0 true true []) false true), .pv (itvP 0 0 0 (.sl 1 false true [strP [48]]) false 0 0 0 (.sl 0 true true []) false true), .msl 0 12 5 0 1 true, strA (bs s), bolA (ByteArray.toList (bs s) == ByteArray.toList (bs [42])), bolA (ByteArray.toList (bs s) == ByteArray.toList (bs [42])), undefA, bolA (ByteArray.toList (bs s) == ByteArray.toList (bs [33])), bolA (ByteArray.toList (bs s) == ByteArray.toList (bs [33])), strA (bs s), .clo (.func 88) [] [.mptr 1 2 17 0 0, .mptr 1 3 18 0 0], strA (bs p), .pv (.tup [LF.p (Prod.fst (cmprS p)), bolP (Prod.snd (cmprS p))]), strA (bs p), .pv (.tup [LF.p (Prod.fst (cmprS p)), bolP (Prod.snd (cmprS p))]), .pv (LF.p (Prod.fst (cmprS p))), bolA (Prod.snd (cmprS p)), intA 0, intA 1, bolA (Prod.snd (cmprS p)), bolA (!Prod.snd (cmprS p)), bolA false, intA 1, bolA false, bolA false, .msl 0 12 5 0 1 true, .pv (LF.p (Prod.fst (cmprS p))), .pv (resL (meetS [⟨bottomV, false, zV, false, true⟩] (LF.l (Prod.fst (cmprS p))))), undefA], h := [[row0, row0, ⟨0, .box (.pv (.sl 0 true true [])) false⟩, ⟨1, .box (bolA false) false⟩, ⟨6, .box (.pv (resL (meetS [⟨bottomV, false, zV, false, true⟩] (LF.l (Prod.fst (cmprS p)))))) false⟩, ⟨13, .box (intA 1) false⟩, row0, row0, row0, row0, row0, row0, ⟨5, .row 11 63 [itvP 0 0 0 (.sl 1 false true [strP [48]]) false 0 0 0 (.sl 0 true true []) false true] true⟩, row0, row0, row0, row0, row0, row0, row0, row0, ⟨gy, .lp .busy⟩] ++ List.replicate 17 row0, F1, FR], g := g + 7 + 3 + 6 + 4 })) := by kernel_rfl
theorem span_alternative_b_bd0 (s : List UInt8) (p : List UInt8) (n : Int) (l : List I) (z : Row) (F1 : List Row) (FR : List Row) (gy : Nat) (g : Nat) (R : AExit → St → Prop) : BodyGo E1 Tryz.f52 0 R 2000 (.res (.tup [LF.p (Prod.fst (cmprS p)), bolP (Prod.snd (cmprS p))]) (.fork (.lts 4 (.hole 0)) (.lts 3 (.fork (.hole 0) (.res (resL (meetS l (LF.l (Prod.fst (cmprS p))))) (.hole 0)))))) { t := [strA (bs s), undefA, .mptr 0 2 0 0 0, .mptr 0 3 1 0 0, .mptr 0 4 6 0 0, .mptr 0 5 13 0 0, strA (bs p), undefA, undefA, .pv (edgP 0 0 0 (.sl 1 false true [strP [48]]) false false), .pv (edgP 0 0 0 (.sl 0 true true []) false true), .pv (itvP 0 0 0 (.sl 1 false true [strP [48]]) false 0 0 0 (.sl 0 true true []) false true), .msl 0 12 5 0 1 true, strA (bs s), bolA (ByteArray.toList (bs s) == ByteArray.toList (bs [42])), bolA (ByteArray.toList (bs s) == ByteArray.toList (bs [42])), undefA, bolA (ByteArray.toList (bs s) == ByteArray.toList (bs [33])), bolA (ByteArray.toList (bs s) == ByteArray.toList (bs [33])), strA (bs s), .clo (.func 88) [] [.mptr 1 2 17 0 0, .mptr 1 3 18 0 0], strA (bs p), undefA, undefA, undefA, undefA, undefA, undefA, undefA, undefA, undefA, undefA, undefA, undefA, undefA, undefA, undefA, undefA, undefA], h := [[row0, row0, ⟨0, .box (.pv (.sl 0 true true [])) false⟩, ⟨1, .box (bolA false) false⟩, ⟨6, .box (.pv (resL l)) false⟩, ⟨13, .box (intA n) false⟩, row0, row0, row0, row0, row0, row0, z, row0, row0, row0, row0, row0, row0, row0, row0, ⟨gy, .lp .busy⟩] ++ List.replicate 17 row0, F1, FR], g := g } =
  ((Den E1 91 [strP p] (.tup [LF.p (Prod.fst (cmprS p)), bolP (Prod.snd (cmprS p))])) ∧
 ((13 : Nat) = 13) ∧
 ((13 : Nat) = 13) ∧
 ((!Prod.snd (cmprS p)) = true →
 ((0 : Nat) = 0) ∧
 ((1 : Nat) = 1) ∧
 R .ret { t := [strA (bs s), undefA, .mptr 0 2 0 0 0, .mptr 0 3 1 0 0, .mptr 0 4 6 0 0, .mptr 0 5 13 0 0, strA (bs p), .pv (LF.p (Prod.fst (cmprS p))), bolA (Prod.snd (cmprS p)), .pv (edgP 0 0 0 (.sl 1 false true [strP [48]]) false false), .pv (edgP 0 0 0 (.sl 0 true true []) false true), .pv (itvP 0 0 0 (.sl 1 false true [strP [48]]) false 0 0 0 (.sl 0 true true []) false true), .msl 0 12 5 0 1 true, strA (bs s), bolA (ByteArray.toList (bs s) == ByteArray.toList (bs [42])), bolA (ByteArray.toList (bs s) == ByteArray.toList (bs [42])), undefA, bolA (ByteArray.toList (bs s) == ByteArray.toList (bs [33])), bolA (ByteArray.toList (bs s) == ByteArray.toList (bs [33])), strA (bs s), .clo (.func 88) [] [.mptr 1 2 17 0 0, .mptr 1 3 18 0 0], strA (bs p), .pv (.tup [LF.p (Prod.fst (cmprS p)), bolP (Prod.snd (cmprS p))]), strA (bs p), .pv (.tup [LF.p (Prod.fst (cmprS p)), bolP (Prod.snd (cmprS p))]), .pv (LF.p (Prod.fst (cmprS p))), bolA (Prod.snd (cmprS p)), intA n, intA (IntKind.i64.wrap (n + (1 : Int))), bolA (Prod.snd (cmprS p)), bolA (!Prod.snd (cmprS p)), bolA true, undefA, undefA, bolA true, undefA, undefA, undefA, undefA], h := [[row0, row0, ⟨0, .box (.pv (.sl 0 true true [])) false⟩, ⟨1, .box (bolA false) false⟩, ⟨6, .box (.pv (resL l)) false⟩, ⟨13, .box (intA (IntKind.i64.wrap (n + (1 : Int)))) false⟩, row0, row0, row0, row0, row0, row0, z, row0, row0, row0, row0, row0, row0, row0, row0, ⟨gy, .lp .busy⟩] ++ List.replicate 17 row0, F1, FR], g := g + 7 + 3 + 6 + 2 }) ∧
 ((!Prod.snd (cmprS p)) = false →
 ((13 : Nat) = 13) ∧
 ((decide (IntKind.i64.wrap (n + (1 : Int)) > (16 : Int))) = true →
 ((0 : Nat) = 0) ∧
 ((1 : Nat) = 1) ∧
 R .ret { t := [strA (bs s), undefA, .mptr 0 2 0 0 0, .mptr 0 3 1 0 0, .mptr 0 4 6 0 0, .mptr 0 5 13 0 0, strA (bs p), .pv (LF.p (Prod.fst (cmprS p))), bolA (Prod.snd (cmprS p)), .pv (edgP 0 0 0 (.sl 1 false true [strP [48]]) false false), .pv (edgP 0 0 0 (.sl 0 true true []) false true), .pv (itvP 0 0 0 (.sl 1 false true [strP [48]]) false 0 0 0 (.sl 0 true true []) false true), .msl 0 12 5 0 1 true, strA (bs s), bolA (ByteArray.toList (bs s) == ByteArray.toList (bs [42])), bolA (ByteArray.toList (bs s) == ByteArray.toList (bs [42])), undefA, bolA (ByteArray.toList (bs s) == ByteArray.toList (bs [33])), bolA (ByteArray.toList (bs s) == ByteArray.toList (bs [33])), strA (bs s), .clo (.func 88) [] [.mptr 1 2 17 0 0, .mptr 1 3 18 0 0], strA (bs p), .pv (.tup [LF.p (Prod.fst (cmprS p)), bolP (Prod.snd (cmprS p))]), strA (bs p), .pv (.tup [LF.p (Prod.fst (cmprS p)), bolP (Prod.snd (cmprS p))]), .pv (LF.p (Prod.fst (cmprS p))), bolA (Prod.snd (cmprS p)), intA n, intA (IntKind.i64.wrap (n + (1 : Int))), bolA (Prod.snd (cmprS p)), bolA (!Prod.snd (cmprS p)), bolA false, intA (IntKind.i64.wrap (n + (1 : Int))), bolA (decide (IntKind.i64.wrap (n + (1 : Int)) > (16 : Int))), bolA (decide (IntKind.i64.wrap (n + (1 : Int)) > (16 : Int))), undefA, undefA, undefA, undefA], h := [[row0, row0, ⟨0, .box (.pv (.sl 0 true true [])) false⟩, ⟨1, .box (bolA false) false⟩, ⟨6, .box (.pv (resL l)) false⟩, ⟨13, .box (intA (IntKind.i64.wrap (n + (1 : Int)))) false⟩, row0, row0, row0, row0, row0, row0, z, row0, row0, row0, row0, row0, row0, row0, row0, ⟨gy, .lp .busy⟩] ++ List.replicate 17 row0, F1, FR], g := g + 7 + 3 + 6 + 2 }) ∧
 ((decide (IntKind.i64.wrap (n + (1 : Int)) > (16 : Int))) = false →
 ((6 : Nat) = 6) ∧
 (Den E1 62 [resL l, LF.p (Prod.fst (cmprS p))] (resL (meetS l (LF.l (Prod.fst (cmprS p)))))) ∧
 ((6 : Nat) = 6) ∧
 R .normal { t := [strA (bs s), undefA, .mptr 0 2 0 0 0, .mptr 0 3 1 0 0, .mptr 0 4 6 0 0, .mptr 0 5 13 0 0, strA (bs p), .pv (LF.p (Prod.fst (cmprS p))), bolA (Prod.snd (cmprS p)), .pv (edgP 0 0 0 (.sl 1 false true [strP [48]]) false false), .pv (edgP 0 0 0 (.sl 0 true true []) false true), .pv (itvP 0 0 0 (.sl 1 false true [strP [48]]) false 0 0 0 (.sl 0 true true []) false true), .msl 0 12 5 0 1 true, strA (bs s), bolA (ByteArray.toList (bs s) == ByteArray.toList (bs [42])), bolA (ByteArray.toList (bs s) == ByteArray.toList (bs [42])), undefA, bolA (ByteArray.toList (bs s) == ByteArray.toList (bs [33])), bolA (ByteArray.toList (bs s) == ByteArray.toList (bs [33])), strA (bs s), .clo (.func 88) [] [.mptr 1 2 17 0 0, .mptr 1 3 18 0 0], strA (bs p), .pv (.tup [LF.p (Prod.fst (cmprS p)), bolP (Prod.snd (cmprS p))]), strA (bs p), .pv (.tup [LF.p (Prod.fst (cmprS p)), bolP (Prod.snd (cmprS p))]), .pv (LF.p (Prod.fst (cmprS p))), bolA (Prod.snd (cmprS p)), intA n, intA (IntKind.i64.wrap (n + (1 : Int))), bolA (Prod.snd (cmprS p)), bolA (!Prod.snd (cmprS p)), bolA false, intA (IntKind.i64.wrap (n + (1 : Int))), bolA (decide (IntKind.i64.wrap (n + (1 : Int)) > (16 : Int))), bolA (decide (IntKind.i64.wrap (n + (1 : Int)) > (16 : Int))), .pv (resL l), .pv (LF.p (Prod.fst (cmprS p))), .pv (resL (meetS l (LF.l (Prod.fst (cmprS p))))), undefA], h := [[row0, row0, ⟨0, .box (.pv (.sl 0 true true [])) false⟩, ⟨1, .box (bolA false) false⟩, ⟨6, .box (.pv (resL (meetS l (LF.l (Prod.fst (cmprS p)))))) false⟩, ⟨13, .box (intA (IntKind.i64.wrap (n + (1 : Int)))) false⟩, row0, row0, row0, row0, row0, row0, z, row0, row0, row0, row0, row0, row0, row0, row0, ⟨gy, .lp .busy⟩] ++ List.replicate 17 row0, F1, FR], g := g + 7 + 3 + 6 + 4 }))) := by kernel_rfl
theorem span_alternative_af0 (s : List UInt8) (n : Int) (l : List I) (z : Row) (F1 : List Row) (g : Nat) (r : PV) : AfterGo E1 Tryz.f52 r 0 2000 (.hole 0) .normal { t := [strA (bs s), undefA, .mptr 0 2 0 0 0, .mptr 0 3 1 0 0, .mptr 0 4 6 0 0, .mptr 0 5 13 0 0, undefA, undefA, undefA, .pv (edgP 0 0 0 (.sl 1 false true [strP [48]]) false false), .pv (edgP 0 0 0 (.sl 0 true true []) false true), .pv (itvP 0 0 0 (.sl 1 false true [strP [48]]) false 0 0 0 (.sl 0 true true []) false true), .msl 0 12 5 0 1 true, strA (bs s), bolA (ByteArray.toList (bs s) == ByteArray.toList (bs [42])), bolA (ByteArray.toList (bs s) == ByteArray.toList (bs [42])), undefA, bolA (ByteArray.toList (bs s) == ByteArray.toList (bs [33])), bolA (ByteArray.toList (bs s) == ByteArray.toList (bs [33])), strA (bs s), .clo (.func 88) [] [.mptr 1 2 17 0 0, .mptr 1 3 18 0 0], undefA, undefA, undefA, undefA, undefA, undefA, undefA, undefA, undefA, undefA, undefA, undefA, undefA, undefA, undefA, undefA, undefA, undefA], h := [[row0, row0, ⟨0, .box (.pv (.sl 0 true true [])) false⟩, ⟨1, .box (bolA false) false⟩, ⟨6, .box (.pv (resL l)) false⟩, ⟨13, .box (intA n) false⟩, row0, row0, row0, row0, row0, row0, z] ++ List.replicate 26 row0, F1], g := g } =
  (((6 : Nat) = 6) ∧
 ((0 : Nat) = 0) ∧
 ((1 : Nat) = 1) ∧
 ((.tup [resL l, bolP true]) : PV) = r) := by kernel_rfl
theorem span_alternative_af0r (s : List UInt8) (n : Int) (l : AV) (z : Row) (F1 : List Row) (g : Nat) (r : PV) : AfterGo E1 Tryz.f52 r 0 2000 (.hole 0) .ret { t := [strA (bs s), undefA, .mptr 0 2 0 0 0, .mptr 0 3 1 0 0, .mptr 0 4 6 0 0, .mptr 0 5 13 0 0, undefA, undefA, undefA, .pv (edgP 0 0 0 (.sl 1 false true [strP [48]]) false false), .pv (edgP 0 0 0 (.sl 0 true true []) false true), .pv (itvP 0 0 0 (.sl 1 false true [strP [48]]) false 0 0 0 (.sl 0 true true []) false true), .msl 0 12 5 0 1 true, strA (bs s), bolA (ByteArray.toList (bs s) == ByteArray.toList (bs [42])), bolA (ByteArray.toList (bs s) == ByteArray.toList (bs [42])), undefA, bolA (ByteArray.toList (bs s) == ByteArray.toList (bs [33])), bolA (ByteArray.toList (bs s) == ByteArray.toList (bs [33])), strA (bs s), .clo (.func 88) [] [.mptr 1 2 17 0 0, .mptr 1 3 18 0 0], undefA, undefA, undefA, undefA, undefA, undefA, undefA, undefA, undefA, undefA, undefA, undefA, undefA, undefA, undefA, undefA, undefA, undefA], h := [[row0, row0, ⟨0, .box (.pv (.sl 0 true true [])) false⟩, ⟨1, .box (bolA false) false⟩, ⟨6, .box l false⟩, ⟨13, .box (intA n) false⟩, row0, row0, row0, row0, row0, row0, z] ++ List.replicate 26 row0, F1], g := g } =
  (((.tup [.sl 0 true true [], bolP false]) : PV) = r) := by kernel_rfl
def span_Read_R0 (s : List UInt8) : St :=
  { t := [strA (bs s), undefA, .mptr 0 2 0 0 0, .mptr 0 3 1 0 0, .mptr 0 4 5 0 0, .mptr 0 5 6 0 0, undefA, undefA, undefA, strA (bs s), intA ((↑(ByteArray.size (bs s)) : Int)), bolA (decide ((↑(ByteArray.size (bs s)) : Int) > (128 : Int))), strA (bs s), .clo (.func 88) [] [.mptr 1 2 10 0 0, .mptr 1 3 11 0 0], undefA, undefA, undefA, undefA, undefA, undefA, undefA, undefA, undefA, undefA, undefA, undefA, undefA, undefA, undefA, undefA, undefA, undefA, undefA, undefA, undefA, undefA], h := [[row0, row0, ⟨0, .box (.pv (.sl 0 true true [])) false⟩, ⟨1, .box (intA 0) false⟩, ⟨5, .box (.pv (.sl 0 true true [])) false⟩, ⟨6, .box (intA 0) false⟩] ++ List.replicate 30 row0, [row0, row0, ⟨10, .box (strA (bs s)) false⟩, ⟨11, .box (strA (bs [32, 124, 124, 32])) false⟩, row0, row0]], g := 15 }
theorem span_Read_go (s : List UInt8) (r : PV) : FnGo E1 Tryz.f19 [strP s] r 2000 (.fork (.hole 0) (.resI (fun g => spV g) (fun g => spF s [32, 124, 124, 32] g) 5 (.hole 0))) =
  (((decide ((↑(ByteArray.size (bs s)) : Int) > (128 : Int))) = true →
 ((0 : Nat) = 0) ∧
 ((1 : Nat) = 1) ∧
 ((.tup [.sl 0 true true [], intP 80]) : PV) = r) ∧
 ((decide ((↑(ByteArray.size (bs s)) : Int) > (128 : Int))) = false →
 ((6 : Nat) = 6) ∧
 (DenI E1 51 [strP s, strP [32, 124, 124, 32]] (fun g => spV g) (fun g => spF s [32, 124, 124, 32] g) 5) ∧
 RangeAtF E1 Tryz.f19 r 0 { t := [strA (bs s), undefA, .mptr 0 2 0 0 0, .mptr 0 3 1 0 0, .mptr 0 4 5 0 0, .mptr 0 5 6 0 0, undefA, undefA, undefA, strA (bs s), intA ((↑(ByteArray.size (bs s)) : Int)), bolA (decide ((↑(ByteArray.size (bs s)) : Int) > (128 : Int))), strA (bs s), .clo (.func 88) [] [.mptr 1 2 10 0 0, .mptr 1 3 11 0 0], undefA, undefA, undefA, undefA, undefA, undefA, undefA, undefA, undefA, undefA, undefA, undefA, undefA, undefA, undefA, undefA, undefA, undefA, undefA, undefA, undefA, undefA], h := [[row0, row0, ⟨0, .box (.pv (.sl 0 true true [])) false⟩, ⟨1, .box (intA 0) false⟩, ⟨5, .box (.pv (.sl 0 true true [])) false⟩, ⟨6, .box (intA 0) false⟩] ++ List.replicate 30 row0, [row0, row0, ⟨10, .box (strA (bs s)) false⟩, ⟨11, .box (strA (bs [32, 124, 124, 32])) false⟩, row0, row0]], g := 15 })) := by kernel_rfl
theorem span_Read_as0 (s : List UInt8) (p : List UInt8) (n : Int) (l : AV) (z : Row) (F1 : List Row) (FR : List Row) (gy : Nat) (g : Nat) (R : AExit → St → Prop) : AssignGo E1 Tryz.f19 0 R 2000 (.hole 0) { t := [strA (bs s), undefA, .mptr 0 2 0 0 0, .mptr 0 3 1 0 0, .mptr 0 4 5 0 0, .mptr 0 5 6 0 0, undefA, undefA, undefA, strA (bs s), intA ((↑(ByteArray.size (bs s)) : Int)), bolA (decide ((↑(ByteArray.size (bs s)) : Int) > (128 : Int))), strA (bs s), .clo (.func 88) [] [.mptr 1 2 10 0 0, .mptr 1 3 11 0 0], strA (bs p), undefA, undefA, undefA, undefA, undefA, undefA, undefA, undefA, undefA, undefA, undefA, undefA, undefA, undefA, undefA, undefA, undefA, undefA, undefA, undefA, undefA], h := [[row0, row0, ⟨0, .box (.pv (.sl 0 true true [])) false⟩, ⟨1, .box (intA 0) false⟩, ⟨5, .box l false⟩, ⟨6, .box (intA n) false⟩, row0, row0, row0, row0, row0, row0, row0, row0, ⟨gy, .lp .ready⟩, row0, row0, row0, row0, row0, row0, row0, row0, row0, row0, row0, row0, row0, row0, row0, z] ++ List.replicate 5 row0, F1, FR], g := g } =
  (R .normal { t := [strA (bs s), undefA, .mptr 0 2 0 0 0, .mptr 0 3 1 0 0, .mptr 0 4 5 0 0, .mptr 0 5 6 0 0, strA (bs p), undefA, undefA, strA (bs s), intA ((↑(ByteArray.size (bs s)) : Int)), bolA (decide ((↑(ByteArray.size (bs s)) : Int) > (128 : Int))), strA (bs s), .clo (.func 88) [] [.mptr 1 2 10 0 0, .mptr 1 3 11 0 0], strA (bs p), undefA, undefA, undefA, undefA, undefA, undefA, undefA, undefA, undefA, undefA, undefA, undefA, undefA, undefA, undefA, undefA, undefA, undefA, undefA, undefA, undefA], h := [[row0, row0, ⟨0, .box (.pv (.sl 0 true true [])) false⟩, ⟨1, .box (intA 0) false⟩, ⟨5, .box l false⟩, ⟨6, .box (intA n) false⟩, row0, row0, row0, row0, row0, row0, row0, row0, ⟨gy, .lp .ready⟩, row0, row0, row0, row0, row0, row0, row0, row0, row0, row0, row0, row0, row0, row0, row0, z] ++ List.replicate 5 row0, F1, FR], g := g + 1 }) := by kernel_rfl
theorem span_Read_a_bd0 (s : List UInt8) (p : List UInt8) (n : Int) (z : Row) (F1 : List Row) (FR : List Row) (gy : Nat) (g : Nat) (R : AExit → St → Prop) : BodyGo E1 Tryz.f19 0 R 2000 (.res (.tup [LF.p (Prod.fst (altS p)), bolP (Prod.snd (altS p))]) (.fork (.lts 4 (.hole 0)) (.lts 3 (.fork (.hole 0) (.fork (.hole 0) (.lit (.hole 0))))))) { t := [strA (bs s), undefA, .mptr 0 2 0 0 0, .mptr 0 3 1 0 0, .mptr 0 4 5 0 0, .mptr 0 5 6 0 0, strA (bs p), undefA, undefA, strA (bs s), intA ((↑(ByteArray.size (bs s)) : Int)), bolA (decide ((↑(ByteArray.size (bs s)) : Int) > (128 : Int))), strA (bs s), .clo (.func 88) [] [.mptr 1 2 10 0 0, .mptr 1 3 11 0 0], strA (bs p), undefA, undefA, undefA, undefA, undefA, undefA, undefA, undefA, undefA, undefA, undefA, undefA, undefA, undefA, undefA, undefA, undefA, undefA, undefA, undefA, undefA], h := [[row0, row0, ⟨0, .box (.pv (.sl 0 true true [])) false⟩, ⟨1, .box (intA 0) false⟩, ⟨5, .box (.pv (.sl 0 true true [])) false⟩, ⟨6, .box (intA n) false⟩, row0, row0, row0, row0, row0, row0, row0, row0, ⟨gy, .lp .busy⟩, row0, row0, row0, row0, row0, row0, row0, row0, row0, row0, row0, row0, row0, row0, row0, z] ++ List.replicate 5 row0, F1, FR], g := g } =
  ((Den E1 52 [strP p] (.tup [LF.p (Prod.fst (altS p)), bolP (Prod.snd (altS p))])) ∧
 ((6 : Nat) = 6) ∧
 ((6 : Nat) = 6) ∧
 ((!Prod.snd (altS p)) = true →
 ((0 : Nat) = 0) ∧
 ((1 : Nat) = 1) ∧
 R .ret { t := [strA (bs s), undefA, .mptr 0 2 0 0 0, .mptr 0 3 1 0 0, .mptr 0 4 5 0 0, .mptr 0 5 6 0 0, strA (bs p), .pv (LF.p (Prod.fst (altS p))), bolA (Prod.snd (altS p)), strA (bs s), intA ((↑(ByteArray.size (bs s)) : Int)), bolA (decide ((↑(ByteArray.size (bs s)) : Int) > (128 : Int))), strA (bs s), .clo (.func 88) [] [.mptr 1 2 10 0 0, .mptr 1 3 11 0 0], strA (bs p), .pv (.tup [LF.p (Prod.fst (altS p)), bolP (Prod.snd (altS p))]), strA (bs p), .pv (.tup [LF.p (Prod.fst (altS p)), bolP (Prod.snd (altS p))]), .pv (LF.p (Prod.fst (altS p))), bolA (Prod.snd (altS p)), intA n, intA (IntKind.i64.wrap (n + (1 : Int))), bolA (Prod.snd (altS p)), bolA (!Prod.snd (altS p)), bolA true, undefA, undefA, bolA true, undefA, undefA, undefA, undefA, undefA, undefA, undefA, undefA], h := [[row0, row0, ⟨0, .box (.pv (.sl 0 true true [])) false⟩, ⟨1, .box (intA 80) false⟩, ⟨5, .box (.pv (.sl 0 true true [])) false⟩, ⟨6, .box (intA (IntKind.i64.wrap (n + (1 : Int)))) false⟩, row0, row0, row0, row0, row0, row0, row0, row0, ⟨gy, .lp .busy⟩, row0, row0, row0, row0, row0, row0, row0, row0, row0, row0, row0, row0, row0, row0, row0, z] ++ List.replicate 5 row0, F1, FR], g := g + 7 + 3 + 6 + 2 }) ∧
 ((!Prod.snd (altS p)) = false →
 ((6 : Nat) = 6) ∧
 ((decide (IntKind.i64.wrap (n + (1 : Int)) > (16 : Int))) = true →
 ((0 : Nat) = 0) ∧
 ((1 : Nat) = 1) ∧
 R .ret { t := [strA (bs s), undefA, .mptr 0 2 0 0 0, .mptr 0 3 1 0 0, .mptr 0 4 5 0 0, .mptr 0 5 6 0 0, strA (bs p), .pv (LF.p (Prod.fst (altS p))), bolA (Prod.snd (altS p)), strA (bs s), intA ((↑(ByteArray.size (bs s)) : Int)), bolA (decide ((↑(ByteArray.size (bs s)) : Int) > (128 : Int))), strA (bs s), .clo (.func 88) [] [.mptr 1 2 10 0 0, .mptr 1 3 11 0 0], strA (bs p), .pv (.tup [LF.p (Prod.fst (altS p)), bolP (Prod.snd (altS p))]), strA (bs p), .pv (.tup [LF.p (Prod.fst (altS p)), bolP (Prod.snd (altS p))]), .pv (LF.p (Prod.fst (altS p))), bolA (Prod.snd (altS p)), intA n, intA (IntKind.i64.wrap (n + (1 : Int))), bolA (Prod.snd (altS p)), bolA (!Prod.snd (altS p)), bolA false, intA (IntKind.i64.wrap (n + (1 : Int))), bolA (decide (IntKind.i64.wrap (n + (1 : Int)) > (16 : Int))), bolA (decide (IntKind.i64.wrap (n + (1 : Int)) > (16 : Int))), undefA, undefA, undefA, undefA, undefA, undefA, undefA, undefA], h := [[row0, row0, ⟨0, .box (.pv (.sl 0 true true [])) false⟩, ⟨1, .box (intA 80) false⟩, ⟨5, .box (.pv (.sl 0 true true [])) false⟩, ⟨6, .box (intA (IntKind.i64.wrap (n + (1 : Int)))) false⟩, row0, row0, row0, row0, row0, row0, row0, row0, ⟨gy, .lp .busy⟩, row0, row0, row0, row0, row0, row0, row0, row0, row0, row0, row0, row0, row0, row0, row0, z] ++ List.replicate 5 row0, F1, FR], g := g + 7 + 3 + 6 + 2 }) ∧
 ((decide (IntKind.i64.wrap (n + (1 : Int)) > (16 : Int))) = false →
 ((5 : Nat) = 5) ∧
 ((((LF.nl (Prod.fst (altS p))) = true → (List.map I.p (LF.l (Prod.fst (altS p)))) = [])) ∧ (((LF.nl (Prod.fst (altS p))) = false → (LF.k (Prod.fst (altS p))) = 11))) ∧
 ((List.isEmpty (List.map I.p (LF.l (Prod.fst (altS p))))) = true →
 ((5 : Nat) = 5) ∧
 R .normal { t := [strA (bs s), undefA, .mptr 0 2 0 0 0, .mptr 0 3 1 0 0, .mptr 0 4 5 0 0, .mptr 0 5 6 0 0, strA (bs p), .pv (LF.p (Prod.fst (altS p))), bolA (Prod.snd (altS p)), strA (bs s), intA ((↑(ByteArray.size (bs s)) : Int)), bolA (decide ((↑(ByteArray.size (bs s)) : Int) > (128 : Int))), strA (bs s), .clo (.func 88) [] [.mptr 1 2 10 0 0, .mptr 1 3 11 0 0], strA (bs p), .pv (.tup [LF.p (Prod.fst (altS p)), bolP (Prod.snd (altS p))]), strA (bs p), .pv (.tup [LF.p (Prod.fst (altS p)), bolP (Prod.snd (altS p))]), .pv (LF.p (Prod.fst (altS p))), bolA (Prod.snd (altS p)), intA n, intA (IntKind.i64.wrap (n + (1 : Int))), bolA (Prod.snd (altS p)), bolA (!Prod.snd (altS p)), bolA false, intA (IntKind.i64.wrap (n + (1 : Int))), bolA (decide (IntKind.i64.wrap (n + (1 : Int)) > (16 : Int))), bolA (decide (IntKind.i64.wrap (n + (1 : Int)) > (16 : Int))), .pv (.sl 0 true true []), .pv (LF.p (Prod.fst (altS p))), .pv (.sl 0 true true []), undefA, undefA, undefA, undefA, undefA], h := [[row0, row0, ⟨0, .box (.pv (.sl 0 true true [])) false⟩, ⟨1, .box (intA 0) false⟩, ⟨5, .box (.pv (.sl 0 true true [])) false⟩, ⟨6, .box (intA (IntKind.i64.wrap (n + (1 : Int)))) false⟩, row0, row0, row0, row0, row0, row0, row0, row0, ⟨gy, .lp .busy⟩, row0, row0, row0, row0, row0, row0, row0, row0, row0, row0, row0, row0, row0, row0, row0, z] ++ List.replicate 5 row0, F1, FR], g := g + 7 + 3 + 6 + 4 }) ∧
 ((List.isEmpty (List.map I.p (LF.l (Prod.fst (altS p))))) = false →
 (((0 : Nat) = 0) ∧ ((fitsRow (List.length (List.map I.p (LF.l (Prod.fst (altS p))))) (104 : Nat)) = true)) ∧
 ((5 : Nat) = 5) ∧
 R .normal { t := [strA (bs s), undefA, .mptr 0 2 0 0 0, .mptr 0 3 1 0 0, .mptr 0 4 5 0 0, .mptr 0 5 6 0 0, strA (bs p), .pv (LF.p (Prod.fst (altS p))), bolA (Prod.snd (altS p)), strA (bs s), intA ((↑(ByteArray.size (bs s)) : Int)), bolA (decide ((↑(ByteArray.size (bs s)) : Int) > (128 : Int))), strA (bs s), .clo (.func 88) [] [.mptr 1 2 10 0 0, .mptr 1 3 11 0 0], strA (bs p), .pv (.tup [LF.p (Prod.fst (altS p)), bolP (Prod.snd (altS p))]), strA (bs p), .pv (.tup [LF.p (Prod.fst (altS p)), bolP (Prod.snd (altS p))]), .pv (LF.p (Prod.fst (altS p))), bolA (Prod.snd (altS p)), intA n, intA (IntKind.i64.wrap (n + (1 : Int))), bolA (Prod.snd (altS p)), bolA (!Prod.snd (altS p)), bolA false, intA (IntKind.i64.wrap (n + (1 : Int))), bolA (decide (IntKind.i64.wrap (n + (1 : Int)) > (16 : Int))), bolA (decide (IntKind.i64.wrap (n + (1 : Int)) > (16 : Int))), .pv (.sl 0 true true []), .pv (LF.p (Prod.fst (altS p))), .msl 0 30 (g + 7 + 3 + 6 + 2) 0 (List.length (List.map I.p (LF.l (Prod.fst (altS p))))) false, undefA, undefA, undefA, undefA, undefA], h := [[row0, row0, ⟨0, .box (.pv (.sl 0 true true [])) false⟩, ⟨1, .box (intA 0) false⟩, ⟨5, .box (.msl 0 30 (g + 7 + 3 + 6 + 2) 0 (List.length (List.map I.p (LF.l (Prod.fst (altS p))))) false) false⟩, ⟨6, .box (intA (IntKind.i64.wrap (n + (1 : Int)))) false⟩, row0, row0, row0, row0, row0, row0, row0, row0, ⟨gy, .lp .busy⟩, row0, row0, row0, row0, row0, row0, row0, row0, row0, row0, row0, row0, row0, row0, row0, ⟨g + 7 + 3 + 6 + 2, .row 11 63 (List.map I.p (LF.l (Prod.fst (altS p)))) false⟩] ++ List.replicate 5 row0, F1, FR], g := g + 7 + 3 + 6 + 4 })))) := by kernel_rfl
theorem span_Read_a_af0 (s : List UInt8) (n : Int) (z : Row) (F1 : List Row) (g : Nat) (r : PV) : AfterGo E1 Tryz.f19 r 0 2000 (.res (.sl 0 true true []) (.res (.tup [.sl 0 true true [], intP 0]) (.hole 0))) .normal { t := [strA (bs s), undefA, .mptr 0 2 0 0 0, .mptr 0 3 1 0 0, .mptr 0 4 5 0 0, .mptr 0 5 6 0 0, undefA, undefA, undefA, strA (bs s), intA ((↑(ByteArray.size (bs s)) : Int)), bolA (decide ((↑(ByteArray.size (bs s)) : Int) > (128 : Int))), strA (bs s), .clo (.func 88) [] [.mptr 1 2 10 0 0, .mptr 1 3 11 0 0], undefA, undefA, undefA, undefA, undefA, undefA, undefA, undefA, undefA, undefA, undefA, undefA, undefA, undefA, undefA, undefA, undefA, undefA, undefA, undefA, undefA, undefA], h := [[row0, row0, ⟨0, .box (.pv (.sl 0 true true [])) false⟩, ⟨1, .box (intA 0) false⟩, ⟨5, .box (.pv (.sl 0 true true [])) false⟩, ⟨6, .box (intA n) false⟩, row0, row0, row0, row0, row0, row0, row0, row0, row0, row0, row0, row0, row0, row0, row0, row0, row0, row0, row0, row0, row0, row0, row0, row0, z] ++ List.replicate 5 row0, F1], g := g } =
  (((5 : Nat) = 5) ∧
 (Den E1 54 [.sl 0 true true []] (.sl 0 true true [])) ∧
 (Den E1 53 [.sl 0 true true []] (.tup [.sl 0 true true [], intP 0])) ∧
 ((0 : Nat) = 0) ∧
 ((1 : Nat) = 1) ∧
 ((.tup [.sl 0 true true [], intP 0]) : PV) = r) := by kernel_rfl
theorem span_Read_b_bd0 (s : List UInt8) (p : List UInt8) (n : Int) (l : List I) (gm : Nat) (F1 : List Row) (FR : List Row) (gy : Nat) (g : Nat) (R : AExit → St → Prop) : BodyGo E1 Tryz.f19 0 R 2000 (.res (.tup [LF.p (Prod.fst (altS p)), bolP (Prod.snd (altS p))]) (.fork (.lts 4 (.hole 0)) (.lts 3 (.fork (.hole 0) (.lit (.hole 0)))))) { t := [strA (bs s), undefA, .mptr 0 2 0 0 0, .mptr 0 3 1 0 0, .mptr 0 4 5 0 0, .mptr 0 5 6 0 0, strA (bs p), undefA, undefA, strA (bs s), intA ((↑(ByteArray.size (bs s)) : Int)), bolA (decide ((↑(ByteArray.size (bs s)) : Int) > (128 : Int))), strA (bs s), .clo (.func 88) [] [.mptr 1 2 10 0 0, .mptr 1 3 11 0 0], strA (bs p), undefA, undefA, undefA, undefA, undefA, undefA, undefA, undefA, undefA, undefA, undefA, undefA, undefA, undefA, undefA, undefA, undefA, undefA, undefA, undefA, undefA], h := [[row0, row0, ⟨0, .box (.pv (.sl 0 true true [])) false⟩, ⟨1, .box (intA 0) false⟩, ⟨5, .box (.msl 0 30 gm 0 (List.length l) false) false⟩, ⟨6, .box (intA n) false⟩, row0, row0, row0, row0, row0, row0, row0, row0, ⟨gy, .lp .busy⟩, row0, row0, row0, row0, row0, row0, row0, row0, row0, row0, row0, row0, row0, row0, row0, ⟨gm, .row 11 63 (List.map I.p l) false⟩] ++ List.replicate 5 row0, F1, FR], g := g } =
  ((Den E1 52 [strP p] (.tup [LF.p (Prod.fst (altS p)), bolP (Prod.snd (altS p))])) ∧
 ((6 : Nat) = 6) ∧
 ((6 : Nat) = 6) ∧
 ((!Prod.snd (altS p)) = true →
 ((0 : Nat) = 0) ∧
 ((1 : Nat) = 1) ∧
 R .ret { t := [strA (bs s), undefA, .mptr 0 2 0 0 0, .mptr 0 3 1 0 0, .mptr 0 4 5 0 0, .mptr 0 5 6 0 0, strA (bs p), .pv (LF.p (Prod.fst (altS p))), bolA (Prod.snd (altS p)), strA (bs s), intA ((↑(ByteArray.size (bs s)) : Int)), bolA (decide ((↑(ByteArray.size (bs s)) : Int) > (128 : Int))), strA (bs s), .clo (.func 88) [] [.mptr 1 2 10 0 0, .mptr 1 3 11 0 0], strA (bs p), .pv (.tup [LF.p (Prod.fst (altS p)), bolP (Prod.snd (altS p))]), strA (bs p), .pv (.tup [LF.p (Prod.fst (altS p)), bolP (Prod.snd (altS p))]), .pv (LF.p (Prod.fst (altS p))), bolA (Prod.snd (altS p)), intA n, intA (IntKind.i64.wrap (n + (1 : Int))), bolA (Prod.snd (altS p)), bolA (!Prod.snd (altS p)), bolA true, undefA, undefA, bolA true, undefA, undefA, undefA, undefA, undefA, undefA, undefA, undefA], h := [[row0, row0, ⟨0, .box (.pv (.sl 0 true true [])) false⟩, ⟨1, .box (intA 80) false⟩, ⟨5, .box (.msl 0 30 gm 0 (List.length l) false) false⟩, ⟨6, .box (intA (IntKind.i64.wrap (n + (1 : Int)))) false⟩, row0, row0, row0, row0, row0, row0, row0, row0, ⟨gy, .lp .busy⟩, row0, row0, row0, row0, row0, row0, row0, row0, row0, row0, row0, row0, row0, row0, row0, ⟨gm, .row 11 63 (List.map I.p l) false⟩] ++ List.replicate 5 row0, F1, FR], g := g + 7 + 3 + 6 + 2 }) ∧
 ((!Prod.snd (altS p)) = false →
 ((6 : Nat) = 6) ∧
 ((decide (IntKind.i64.wrap (n + (1 : Int)) > (16 : Int))) = true →
 ((0 : Nat) = 0) ∧
 ((1 : Nat) = 1) ∧
 R .ret { t := [strA (bs s), undefA, .mptr 0 2 0 0 0, .mptr 0 3 1 0 0, .mptr 0 4 5 0 0, .mptr 0 5 6 0 0, strA (bs p), .pv (LF.p (Prod.fst (altS p))), bolA (Prod.snd (altS p)), strA (bs s), intA ((↑(ByteArray.size (bs s)) : Int)), bolA (decide ((↑(ByteArray.size (bs s)) : Int) > (128 : Int))), strA (bs s), .clo (.func 88) [] [.mptr 1 2 10 0 0, .mptr 1 3 11 0 0], strA (bs p), .pv (.tup [LF.p (Prod.fst (altS p)), bolP (Prod.snd (altS p))]), strA (bs p), .pv (.tup [LF.p (Prod.fst (altS p)), bolP (Prod.snd (altS p))]), .pv (LF.p (Prod.fst (altS p))), bolA (Prod.snd (altS p)), intA n, intA (IntKind.i64.wrap (n + (1 : Int))), bolA (Prod.snd (altS p)), bolA (!Prod.snd (altS p)), bolA false, intA (IntKind.i64.wrap (n + (1 : Int))), bolA (decide (IntKind.i64.wrap (n + (1 : Int)) > (16 : Int))), bolA (decide (IntKind.i64.wrap (n + (1 : Int)) > (16 : Int))), undefA, undefA, undefA, undefA, undefA, undefA, undefA, undefA], h := [[row0, row0, ⟨0, .box (.pv (.sl 0 true true [])) false⟩, ⟨1, .box (intA 80) false⟩, ⟨5, .box (.msl 0 30 gm 0 (List.length l) false) false⟩, ⟨6, .box (intA (IntKind.i64.wrap (n + (1 : Int)))) false⟩, row0, row0, row0, row0, row0, row0, row0, row0, ⟨gy, .lp .busy⟩, row0, row0, row0, row0, row0, row0, row0, row0, row0, row0, row0, row0, row0, row0, row0, ⟨gm, .row 11 63 (List.map I.p l) false⟩] ++ List.replicate 5 row0, F1, FR], g := g + 7 + 3 + 6 + 2 }) ∧
 ((decide (IntKind.i64.wrap (n + (1 : Int)) > (16 : Int))) = false →
 ((5 : Nat) = 5) ∧
 ((((LF.nl (Prod.fst (altS p))) = true → (List.map I.p (LF.l (Prod.fst (altS p)))) = [])) ∧ (((LF.nl (Prod.fst (altS p))) = false → (LF.k (Prod.fst (altS p))) = 11))) ∧
 (gm = gm) ∧
 ((false = false) ∧ (((11 : Nat) = 11) ∧ (((63 : Nat) = 63) ∧ ((((0 : Nat) + List.length l) = List.length (List.map I.p l)) ∧ ((fitsRow (List.length l + List.length (List.map I.p (LF.l (Prod.fst (altS p))))) (104 : Nat)) = true))))) ∧
 ((5 : Nat) = 5) ∧
 R .normal { t := [strA (bs s), undefA, .mptr 0 2 0 0 0, .mptr 0 3 1 0 0, .mptr 0 4 5 0 0, .mptr 0 5 6 0 0, strA (bs p), .pv (LF.p (Prod.fst (altS p))), bolA (Prod.snd (altS p)), strA (bs s), intA ((↑(ByteArray.size (bs s)) : Int)), bolA (decide ((↑(ByteArray.size (bs s)) : Int) > (128 : Int))), strA (bs s), .clo (.func 88) [] [.mptr 1 2 10 0 0, .mptr 1 3 11 0 0], strA (bs p), .pv (.tup [LF.p (Prod.fst (altS p)), bolP (Prod.snd (altS p))]), strA (bs p), .pv (.tup [LF.p (Prod.fst (altS p)), bolP (Prod.snd (altS p))]), .pv (LF.p (Prod.fst (altS p))), bolA (Prod.snd (altS p)), intA n, intA (IntKind.i64.wrap (n + (1 : Int))), bolA (Prod.snd (altS p)), bolA (!Prod.snd (altS p)), bolA false, intA (IntKind.i64.wrap (n + (1 : Int))), bolA (decide (IntKind.i64.wrap (n + (1 : Int)) > (16 : Int))), bolA (decide (IntKind.i64.wrap (n + (1 : Int)) > (16 : Int))), .msl 0 30 gm 0 (List.length l) false, .pv (LF.p (Prod.fst (altS p))), .msl 0 30 (g + 7 + 3 + 6 + 2) 0 (List.length l + List.length (List.map I.p (LF.l (Prod.fst (altS p))))) false, undefA, undefA, undefA, undefA, undefA], h := [[row0, row0, ⟨0, .box (.pv (.sl 0 true true [])) false⟩, ⟨1, .box (intA 0) false⟩, ⟨5, .box (.msl 0 30 (g + 7 + 3 + 6 + 2) 0 (List.length l + List.length (List.map I.p (LF.l (Prod.fst (altS p))))) false) false⟩, ⟨6, .box (intA (IntKind.i64.wrap (n + (1 : Int)))) false⟩, row0, row0, row0, row0, row0, row0, row0, row0, ⟨gy, .lp .busy⟩, row0, row0, row0, row0, row0, row0, row0, row0, row0, row0, row0, row0, row0, row0, row0, ⟨g + 7 + 3 + 6 + 2, .row 11 63 (List.drop (0 : Nat) (List.map I.p l) ++ List.map I.p (LF.l (Prod.fst (altS p)))) false⟩] ++ List.replicate 5 row0, F1, FR], g := g + 7 + 3 + 6 + 4 }))) := by kernel_rfl
theorem span_Read_b_af0 (s : List UInt8) (n : Int) (l : List I) (gm : Nat) (F1 : List Row) (g : Nat) (r : PV) : AfterGo E1 Tryz.f19 r 0 2000 (.frz [.sl 11 false false (List.map I.p l)] [[row0, row0, ⟨0, .box (.pv (.sl 0 true true [])) false⟩, ⟨1, .box (intA 0) false⟩, ⟨5, .box (.msl 0 30 gm 0 (List.length l) false) false⟩, ⟨6, .box (intA n) false⟩, row0, row0, row0, row0, row0, row0, row0, row0, row0, row0, row0, row0, row0, row0, row0, row0, row0, row0, row0, row0, row0, row0, row0, row0, ⟨gm, .row 11 63 (List.map I.p l) true⟩] ++ List.replicate 5 row0, F1] (.res (resL (joinS l)) (.res (.tup [LF.p (Prod.fst (limS (joinS l))), intP (Prod.snd (limS (joinS l)))]) (.hole 0)))) .normal { t := [strA (bs s), undefA, .mptr 0 2 0 0 0, .mptr 0 3 1 0 0, .mptr 0 4 5 0 0, .mptr 0 5 6 0 0, undefA, undefA, undefA, strA (bs s), intA ((↑(ByteArray.size (bs s)) : Int)), bolA (decide ((↑(ByteArray.size (bs s)) : Int) > (128 : Int))), strA (bs s), .clo (.func 88) [] [.mptr 1 2 10 0 0, .mptr 1 3 11 0 0], undefA, undefA, undefA, undefA, undefA, undefA, undefA, undefA, undefA, undefA, undefA, undefA, undefA, undefA, undefA, undefA, undefA, undefA, undefA, undefA, undefA, undefA], h := [[row0, row0, ⟨0, .box (.pv (.sl 0 true true [])) false⟩, ⟨1, .box (intA 0) false⟩, ⟨5, .box (.msl 0 30 gm 0 (List.length l) false) false⟩, ⟨6, .box (intA n) false⟩, row0, row0, row0, row0, row0, row0, row0, row0, row0, row0, row0, row0, row0, row0, row0, row0, row0, row0, row0, row0, row0, row0, row0, row0, ⟨gm, .row 11 63 (List.map I.p l) false⟩] ++ List.replicate 5 row0, F1], g := g } =
  (((5 : Nat) = 5) ∧
 (frzs frzDepth [.msl 0 30 gm 0 (List.length l) false] [[row0, row0, ⟨0, .box (.pv (.sl 0 true true [])) false⟩, ⟨1, .box (intA 0) false⟩, ⟨5, .box (.msl 0 30 gm 0 (List.length l) false) false⟩, ⟨6, .box (intA n) false⟩, row0, row0, row0, row0, row0, row0, row0, row0, row0, row0, row0, row0, row0, row0, row0, row0, row0, row0, row0, row0, row0, row0, row0, row0, ⟨gm, .row 11 63 (List.map I.p l) false⟩] ++ List.replicate 5 row0, F1] = some ([.sl 11 false false (List.map I.p l)], [[row0, row0, ⟨0, .box (.pv (.sl 0 true true [])) false⟩, ⟨1, .box (intA 0) false⟩, ⟨5, .box (.msl 0 30 gm 0 (List.length l) false) false⟩, ⟨6, .box (intA n) false⟩, row0, row0, row0, row0, row0, row0, row0, row0, row0, row0, row0, row0, row0, row0, row0, row0, row0, row0, row0, row0, row0, row0, row0, row0, ⟨gm, .row 11 63 (List.map I.p l) true⟩] ++ List.replicate 5 row0, F1])) ∧
 (Den E1 54 [.sl 11 false false (List.map I.p l)] (resL (joinS l))) ∧
 (Den E1 53 [resL (joinS l)] (.tup [LF.p (Prod.fst (limS (joinS l))), intP (Prod.snd (limS (joinS l)))])) ∧
 ((0 : Nat) = 0) ∧
 ((1 : Nat) = 1) ∧
 ((.tup [LF.p (Prod.fst (limS (joinS l))), intP (Prod.snd (limS (joinS l)))]) : PV) = r) := by kernel_rfl
theorem span_Read_af0r (s : List UInt8) (n : Int) (l : AV) (z : Row) (F1 : List Row) (g : Nat) (r : PV) : AfterGo E1 Tryz.f19 r 0 2000 (.hole 0) .ret { t := [strA (bs s), undefA, .mptr 0 2 0 0 0, .mptr 0 3 1 0 0, .mptr 0 4 5 0 0, .mptr 0 5 6 0 0, undefA, undefA, undefA, strA (bs s), intA ((↑(ByteArray.size (bs s)) : Int)), bolA (decide ((↑(ByteArray.size (bs s)) : Int) > (128 : Int))), strA (bs s), .clo (.func 88) [] [.mptr 1 2 10 0 0, .mptr 1 3 11 0 0], undefA, undefA, undefA, undefA, undefA, undefA, undefA, undefA, undefA, undefA, undefA, undefA, undefA, undefA, undefA, undefA, undefA, undefA, undefA, undefA, undefA, undefA], h := [[row0, row0, ⟨0, .box (.pv (.sl 0 true true [])) false⟩, ⟨1, .box (intA 80) false⟩, ⟨5, .box l false⟩, ⟨6, .box (intA n) false⟩, row0, row0, row0, row0, row0, row0, row0, row0, row0, row0, row0, row0, row0, row0, row0, row0, row0, row0, row0, row0, row0, row0, row0, row0, z] ++ List.replicate 5 row0, F1], g := g } =
  (((.tup [.sl 0 true true [], intP 80]) : PV) = r) := by kernel_rfl
end Go.Proofs.YtlhfgonjcpapnaaGreatDoor.Abs

set_option maxRecDepth 20000
namespace Go.Proofs.YtlhfgonjcpapnaaGreatDoor.Abs
open Go Go.Proofs
theorem assign_ok {fn : Func} {k : Nat} {R : AExit → St → Prop} {n : Nat} {scr : Scr} {s : St} {f : Operand} {ps : Array Tmp} {a b : Code} {fr : List Frame} (hk : (rangesOf (bodyOf fn) [])[k]? = some (f, ps, a, b, fr)) (h : AssignGo E1 fn k R n scr s) : Wp E1 noY 0 a R s := by
  unfold AssignGo at h
  rw [hk] at h
  exact wpGo_ok n scr _ h
theorem body_ok {fn : Func} {k : Nat} {R : AExit → St → Prop} {n : Nat} {scr : Scr} {s : St} {f : Operand} {ps : Array Tmp} {a b : Code} {fr : List Frame} (hk : (rangesOf (bodyOf fn) [])[k]? = some (f, ps, a, b, fr)) (h : BodyGo E1 fn k R n scr s) : Wp E1 noY 0 b R s := by
  unfold BodyGo at h
  rw [hk] at h
  exact wpGo_ok n scr _ h
theorem after_ok {fn : Func} {r : PV} {k n : Nat} {scr : Scr} {x : AExit} {s : St} {f : Operand} {ps : Array Tmp} {a b : Code} {fr : List Frame} (hk : (rangesOf (bodyOf fn) [])[k]? = some (f, ps, a, b, fr)) (h : AfterGo E1 fn r k n scr x s) : KQ E1 noY 0 fr (finQ E1.P fn r) x s := by
  unfold AfterGo at h
  rw [hk] at h
  exact wpGo_ok n scr _ h
theorem rangeF_split {fn : Func} {r : PV} {k sl : Nat} {t : List AV} {f0 : List Row} {s sep : List UInt8} {g g1 g2 : Nat}
    (hshape : ((rangesOf (bodyOf fn) [])[k]?.map fun x => (evalA t x.1, x.2.1)) = some (.clo (.func 88) [] [.mptr 1 2 g1 0 0, .mptr 1 3 g2 0 0], #[sl])) (hsep : sep ≠ []) (hl : s.length < 4294967281)
    (Inv : List (List UInt8) → List Row → Prop) (Fin : AExit → List Row → Prop) (h0 : Inv (Lib.split s sep) (putL row0 f0 sl ⟨g, .lp .ready⟩))
    (hround : ∀ p rest f0 F1 FR g', Inv (p :: rest) f0 → live [f0, F1, FR] 0 sl g = .lp .ready ∧ ∃ n1 sc1, AssignGo E1 fn k (fun x s1 => x = .normal ∧ live s1.h 0 sl g = .lp .ready ∧
      ∃ n2 sc2, BodyGo E1 fn k (fun x s2 => live s2.h 0 sl g = .lp .busy ∧ ∃ f0', hput s2.h 0 sl ⟨g, .lp (if x = .normal then .ready else .done x)⟩ = [f0', F1, FR] ∧ (x = .normal → Inv rest f0') ∧ (x ≠ .normal → Fin x f0')) n2 sc2 { s1 with h := hput s1.h 0 sl ⟨g, .lp .busy⟩ }) n1 sc1
      { t := setTs [sl] [strA (bs p)] t, h := [f0, F1, FR], g := g' })
    (hend : ∀ f0 F1 g', Inv [] f0 → live [f0, F1] 0 sl g = .lp .ready ∧ ∃ n1 sc1, AfterGo E1 fn r k n1 sc1 .normal { t := t, h := hput [f0, F1] 0 sl row0, g := g' })
    (hfin : ∀ x f0 F1 g', Fin x f0 → x ≠ .normal ∧ live [f0, F1] 0 sl g = .lp (.done x) ∧ ∃ n1 sc1, AfterGo E1 fn r k n1 sc1 x { t := t, h := hput [f0, F1] 0 sl row0, g := g' }) :
    RangeAtF E1 fn r k { t := t, h := [f0, [row0, row0, ⟨g1, .box (strA (bs s)) false⟩, ⟨g2, .box (strA (bs sep)) false⟩, row0, row0]], g := g } := by
  unfold RangeAtF
  cases hk : (rangesOf (bodyOf fn) [])[k]? with
  | none => rw [hk] at hshape; cases hshape
  | some q =>
    obtain ⟨f, ps, a, b, fr⟩ := q
    rw [hk] at hshape
    simp only [Option.map_some, Option.some.injEq, Prod.mk.injEq] at hshape
    obtain ⟨hev, hps⟩ := hshape
    refine range_split hev hps hsep hl Inv Fin h0 (fun p rest f0 F1 FR g' hI => ?_) (fun f0 F1 g' hI => ?_) (fun x f0 F1 g' hF => ?_)
    · obtain ⟨h1, n1, sc1, h2⟩ := hround p rest f0 F1 FR g' hI
      refine ⟨h1, ?_⟩
      obtain ⟨x, s1, hr, hx, hlv, n2, sc2, h3⟩ := assign_ok hk h2
      exact ⟨x, s1, hr, hx, hlv, body_ok hk h3⟩
    · obtain ⟨h1, n1, sc1, h2⟩ := hend f0 F1 g' hI
      exact ⟨h1, after_ok hk h2⟩
    · obtain ⟨h0, h1, n1, sc1, h2⟩ := hfin x f0 F1 g' hF
      exact ⟨h0, h1, after_ok hk h2⟩
end Go.Proofs.YtlhfgonjcpapnaaGreatDoor.Abs

set_option maxRecDepth 20000
set_option maxHeartbeats 2000000
namespace Go.Proofs.YtlhfgonjcpapnaaGreatDoor.Abs
open Go Go.Proofs
structure LF.is (x : LF) (m : Nat) : Prop where
  sl : slOk 11 x.k x.nl x.l.length
  ok : ∀ y ∈ x.l, y.ok
  len : x.l.length ≤ m
theorem is_lf0 : lf0.is 0 := ⟨⟨fun _ => rfl, (by simp [lf0])⟩, (by simp [lf0]), (by simp [lf0])⟩
theorem is_lf1 {x : I} (h : x.ok) : (lf1 x).is 1 := ⟨⟨(by simp [lf1]), fun _ => rfl⟩, one_ok h, (by simp [lf1])⟩
theorem is_lfR {l : List I} {m : Nat} (h : ∀ y ∈ l, y.ok) (hl : l.length ≤ m) : (lfR l).is m := ⟨tw_sl l, h, hl⟩
theorem LF.is.mono {x : LF} {m n : Nat} (h : x.is m) (hm : m ≤ n) : x.is n := ⟨h.sl, h.ok, Nat.le_trans h.len hm⟩
theorem is_upto {v : V} (hv : v.ok) {n : Int} (h0 : 0 ≤ n) (h2 : n ≤ 2) : (uptoS v n).is 1 := by
  unfold uptoS
  split
  · have hw := next_is v hv n h0 h2
    have hd := down_ok (least_is hw.1 hw.2).1 true
    refine is_lfR (meetS_ok (one_ok (from_ok hv false)) (joinS_ok (one_ok hd))) ?_
    have h1 := meetS_len [fromI v false] (joinS [downI (leastV (nextV v n)) true])
    have h3 := joinS_len [downI (leastV (nextV v n)) true]
    simp only [List.length_singleton, Nat.one_mul] at h1 h3
    omega
  · exact is_lf1 (from_ok hv false)
theorem is_cmprS (s : List UInt8) : (cmprS s).1.is 1 := by
  have hv : (rdV true (trimL s)).ok := rd_ok true
  have hd := fun o => down_ok hv o
  have hj : ∀ o, (joinS [downI (rdV true (trimL s)) o]).length ≤ 1 := fun o => joinS_len [downI (rdV true (trimL s)) o]
  have hm : (meetS [fromI (rdV true (trimL s)) false] (joinS [downI (rdV true (trimL s)) false])).length ≤ 1 := by
    have h1 := meetS_len [fromI (rdV true (trimL s)) false] (joinS [downI (rdV true (trimL s)) false])
    have := hj false
    simp only [List.length_singleton, Nat.one_mul] at h1
    omega
  have hk : 0 ≤ kindV (rdV true (trimL s)) ∧ kindV (rdV true (trimL s)) ≤ 2 := by
    unfold kindV
    split
    · decide
    · split <;> decide
  unfold cmprS
  split
  · simp only []
    repeat' split
    · exact is_lfR (meetS_ok (one_ok (from_ok hv false)) (joinS_ok (one_ok (hd false)))) hm
    · exact is_lfR (joinS_ok (one_ok (hd true))) (hj true)
    · exact is_lfR (joinS_ok (one_ok (hd false))) (hj false)
    · exact is_lf1 (from_ok hv true)
    · exact is_lf1 (from_ok hv false)
    · exact is_upto hv hk.1 hk.2
    · exact is_upto hv (by omega) (by omega)
    · exact is_lf0.mono (by omega)
  · exact is_lf0.mono (by omega)
theorem every_ok : everyI.ok := ⟨bottom_ok, zV_ok⟩
theorem den_every_edges : Den E1 89 [bottomE.p, (⟨zV, false, true⟩ : Ed).p] everyI.p := den_between bottomE ⟨zV, false, true⟩
abbrev nilA : AV := .pv (.sl 0 true true [])
abbrev altRows (b2 b3 l n : AV) (z lp : Row) : List Row := [row0, row0, ⟨0, .box b2 false⟩, ⟨1, .box b3 false⟩, ⟨6, .box l false⟩, ⟨13, .box n false⟩, row0, row0, row0, row0, row0, row0, z, row0, row0, row0, row0, row0, row0, row0, row0, lp] ++ List.replicate 17 row0
def altInv (s : List UInt8) (ps : List (List UInt8)) (f0 : List Row) : Prop := (∀ q ∈ ps, small q.length) ∧
  ((ps = Lib.split s [32] ∧ f0 = altRows nilA (bolA false) (.msl 0 12 5 0 1 true) (intA 0) ⟨5, .row 11 63 [everyI.p] false⟩ ⟨22, .lp .ready⟩) ∨
   ∃ (l : List I) (n : Nat) (z : Row), altGoS ps (lfR l) n = altGoS (Lib.split s [32]) (lf1 everyI) 0 ∧ l.length ≤ 1 ∧ (∀ x ∈ l, x.ok) ∧ n ≤ 16 ∧ f0 = altRows nilA (bolA false) (.pv (resL l)) (intA n) z ⟨22, .lp .ready⟩)
def altFin (s : List UInt8) (x : AExit) (f0 : List Row) : Prop := x = .ret ∧ altGoS (Lib.split s [32]) (lf1 everyI) 0 = (lf0, false) ∧ ∃ (l : AV) (n : Int) (z : Row), f0 = altRows nilA (bolA false) l (intA n) z ⟨22, .lp (.done .ret)⟩
theorem altGo_no {p : List UInt8} {ps : List (List UInt8)} {c : LF} {n : Nat} (h : ¬ ((cmprS p).2 = true ∧ n + 1 ≤ 16)) : altGoS (p :: ps) c n = (lf0, false) := by
  rw [altGoS, if_neg h]
theorem altGo_yes {p : List UInt8} {ps : List (List UInt8)} {c : LF} {n : Nat} (h1 : (cmprS p).2 = true) (h2 : n + 1 ≤ 16) : altGoS (p :: ps) c n = altGoS ps (lfR (meetS c.l (cmprS p).1.l)) (n + 1) := by
  rw [altGoS, if_pos ⟨h1, h2⟩]
theorem meetS_le1 {l m : List I} (hl : l.length ≤ 1) (hm : m.length ≤ 1) : (meetS l m).length ≤ 1 := by
  have := meetS_len l m
  have h2 : l.length * m.length ≤ 1 * 1 := Nat.mul_le_mul hl hm
  omega
theorem den_meet_few (l : List I) (x : LF) (k : Nat) (nl full : Bool) (hsl : slOk 11 k nl l.length) (hl : l.length ≤ 1) (hok : ∀ y ∈ l, y.ok) (hx : x.is 1) : Den E1 62 [listP k nl full l, x.p] (resL (meetS l x.l)) := by
  have h2 : l.length * x.l.length ≤ 1 * 1 := Nat.mul_le_mul hl hx.len
  exact den_span_meet20 l x.l k x.k nl full x.nl x.full (by omega) (by omega) (by have := hx.len; omega) hsl hx.sl hok hx.ok
theorem alt_range (s : List UInt8) (hs : s.length ≤ 1000000) (h1 : ¬ s = [42]) (h2 : ¬ s = [33]) :
    RangeAtF E1 Tryz.f52 (.tup [(altS s).1.p, bolP (altS s).2]) 0 (span_alternative_R0 s) := by
  have hsp := split_le [32] (by simp) _ s (Nat.le_refl _)
  have halt : altS s = altGoS (Lib.split s [32]) (lf1 everyI) 0 := by rw [altS, if_neg h1, if_neg h2]
  refine rangeF_split (s := s) (sep := [32]) (sl := 21) (by kernel_rfl) (by simp) (by omega) (altInv s) (altFin s) ⟨fun q hq => by have := hsp.2 q hq; unfold small; omega, .inl ⟨rfl, rfl⟩⟩ ?_ ?_ ?_
  · rintro p rest f0 F1 FR g' ⟨hsm, ⟨hps, rfl⟩ | ⟨l, n, z, hgo, hll, hlo, hn, rfl⟩⟩
    · have hp := den_span_compared p (hsm p (List.mem_cons_self ..))
      have hc := is_cmprS p
      refine ⟨rfl, 2000, _, Eq.mpr (span_alternative_as0 s p 0 (.msl 0 12 5 0 1 true) ⟨5, .row 11 63 [everyI.p] false⟩ F1 FR 22 g' _) ⟨rfl, rfl, 2000, _, Eq.mpr (span_alternative_a_bd0 s p F1 FR 22 _ _) ⟨hp, rfl, rfl, fun h => ⟨rfl, rfl, rfl, _, rfl, (fun h => nomatch h), fun _ => ⟨rfl, ?_, _, _, _, rfl⟩⟩, fun h => ⟨rfl, rfl, ?_, rfl, rfl, _, rfl, fun _ => ⟨fun q hq => hsm q (List.mem_cons_of_mem _ hq), .inr ⟨_, 1, _, ?_, ?_, ?_, by omega, rfl⟩⟩, fun h => absurd rfl h⟩⟩⟩⟩
      · rw [← hps]
        exact altGo_no fun h2 => by rw [h2.1] at h; simp at h
      · exact den_meet_few [everyI] (cmprS p).1 11 false true ⟨(by simp), fun _ => rfl⟩ (by simp) (one_ok every_ok) hc
      · rw [← hps]
        exact (altGo_yes (c := lf1 everyI) (n := 0) (not_eq.2 h) (by omega)).symm
      · exact meetS_le1 (l := [everyI]) (by simp) hc.len
      · exact meetS_ok (one_ok every_ok) hc.ok
    · have hp := den_span_compared p (hsm p (List.mem_cons_self ..))
      have hc := is_cmprS p
      have hw : IntKind.wrap IntKind.i64 ((n : Int) + 1) = ((n + 1 : Nat) : Int) := wrap_i64 _ (by omega) (by omega)
      refine ⟨rfl, 2000, _, Eq.mpr (span_alternative_as0 s p n (.pv (resL l)) z F1 FR 22 g' _) ⟨rfl, rfl, 2000, _, Eq.mpr (span_alternative_b_bd0 s p n l z F1 FR 22 _ _) ⟨hp, rfl, rfl, fun h => ⟨rfl, rfl, rfl, _, rfl, (fun h => nomatch h), fun _ => ⟨rfl, ?_, _, _, _, rfl⟩⟩, fun h => ⟨rfl, fun h3 => ⟨rfl, rfl, rfl, _, rfl, (fun h => nomatch h), fun _ => ⟨rfl, ?_, _, _, _, rfl⟩⟩, fun h3 => ⟨rfl, ?_, rfl, rfl, _, rfl, fun _ => ⟨fun q hq => hsm q (List.mem_cons_of_mem _ hq), .inr ⟨_, n + 1, _, ?_, ?_, ?_, ?_, by rw [hw]; rfl⟩⟩, fun h => absurd rfl h⟩⟩⟩⟩⟩
      · rw [← hgo]
        exact altGo_no fun h2 => by rw [h2.1] at h; simp at h
      · rw [hw, decide_eq_true_eq] at h3
        rw [← hgo]
        exact altGo_no fun h2 => by omega
      · exact den_meet_few l (cmprS p).1 _ _ _ (tw_sl l) hll hlo hc
      · rw [hw, decide_eq_false_iff_not] at h3
        rw [← hgo]
        exact (altGo_yes (c := lfR l) (n := n) (not_eq.2 h) (by omega)).symm
      · exact meetS_le1 hll hc.len
      · exact meetS_ok hlo hc.ok
      · rw [hw, decide_eq_false_iff_not] at h3
        omega
  · rintro f0 F1 g' ⟨hsm, ⟨hps, rfl⟩ | ⟨l, n, z, hgo, hll, hlo, hn, rfl⟩⟩
    · exact absurd hps.symm (split_ne s [32] (by simp))
    · refine ⟨rfl, 2000, _, Eq.mpr (span_alternative_af0 s n l z F1 g' _) ⟨rfl, rfl, rfl, ?_⟩⟩
      rw [halt, ← hgo]
      try rfl
  · rintro x f0 F1 g' ⟨rfl, hgo, l, n, z, rfl⟩
    refine ⟨(fun h => nomatch h), rfl, 2000, _, Eq.mpr (span_alternative_af0r s n l z F1 g' _) ?_⟩
    rw [halt, hgo]
    try rfl
theorem den_span_alternative (s : List UInt8) (hs : s.length ≤ 1000000) : Den E1 52 [strP s] (.tup [(altS s).1.p, bolP (altS s).2]) := by
  refine den1 2000 _ rfl (by kernel_rfl) rfl rfl rfl (Eq.mpr (span_alternative_go s _) ⟨den_bottom, den_top, den_every_edges, rfl, fun h => ⟨rfl, rfl, rfl, ?_⟩, fun h => ⟨fun h2 => ⟨rfl, rfl, ?_⟩, fun h2 => ⟨rfl, den_split s [32], ?_⟩⟩⟩)
  · rw [toList_bs, toList_bs] at h
    have e : s = [42] := eq_of_beq h
    have : altS s = (⟨11, false, true, [everyI]⟩, true) := by rw [altS, if_pos e]
    rw [this]
    exact ex_frz (by kernel_rfl)
  · rw [toList_bs, toList_bs] at h2
    have e : s = [33] := eq_of_beq h2
    have : altS s = (lf0, true) := by rw [altS, e]; try rfl
    rw [this]
    try rfl
  · rw [toList_bs, toList_bs] at h h2
    exact alt_range s hs (fun e => by rw [e] at h; simp at h) (fun e => by rw [e] at h2; simp at h2)
end Go.Proofs.YtlhfgonjcpapnaaGreatDoor.Abs

set_option maxRecDepth 20000
set_option maxHeartbeats 2000000
namespace Go.Proofs.YtlhfgonjcpapnaaGreatDoor.Abs
open Go Go.Proofs
structure V.np (v : V) : Prop where
  ne : v.nl = false → v.pre ≠ []
  few : v.pre.length < 1000000
structure I.np (x : I) : Prop where
  lo : x.lo.np
  hi : x.hi.np
theorem den_CloneS (k : Nat) (nl full : Bool) (x : List (List UInt8)) (hs : slOk 1 k nl x.length) (hne : nl = false → x ≠ []) (hl : x.length < 1000000) : Den E1 92 [preP k nl full x] (preP (cond nl 0 1) nl nl x) := by
  cases nl with
  | true =>
    have : x = [] := List.length_eq_zero_iff.1 (hs.1 rfl)
    subst this
    exact den1 2000 _ rfl (by kernel_rfl) rfl rfl rfl (Eq.mpr (slices_Clone_string_string_N_go k full _) rfl)
  | false =>
    have hk := hs.2 rfl
    have hx := hne rfl
    have he : (List.isEmpty (List.map strP x)) = false := by cases x with
      | nil => exact absurd rfl hx
      | cons a l => rfl
    refine den1 2000 _ rfl (by kernel_rfl) rfl rfl rfl (Eq.mpr (slices_Clone_string_string_go k full x _) ⟨⟨(fun h => nomatch h), fun _ => hk⟩, fun h => ?_, fun h => ⟨⟨rfl, rfl, ?_⟩, ?_⟩⟩)
    · rw [he] at h; cases h
    · rw [Nat.zero_add, List.length_map]; exact fits_small (by omega)
    · refine frz_msl rfl (by simp) ?_
      try rfl
theorem den_ClipI (k : Nat) (nl full : Bool) (l : List I) (hs : slOk 11 k nl l.length) : Den E1 93 [listP k nl full l] (listP k nl true l) := by
  refine den1 2000 _ rfl (by kernel_rfl) rfl rfl rfl (Eq.mpr (slices_Clip_api_Interval_api_Interval_go k nl full l _) ?_)
  have hk : nl = true ∨ k = 11 := by cases nl with
    | true => exact .inl rfl
    | false => exact .inr (hs.2 rfl)
  simp only [List.length_map, Int.toNat_natCast, gI_nat, gI_zero, Nat.sub_zero, List.drop_zero, beq_self_eq_true]
  refine ⟨⟨by omega, by omega⟩, ⟨by omega, by omega⟩, hk, ?_⟩
  rw [List.take_of_length_le (by simp)]
section
variable (k : Nat) (nl full : Bool) (l : List I)
theorem limited_S1 (hsl : slOk 11 k nl l.length) (hll : l.length ≤ 16) (hok : ∀ x ∈ l, x.ok) (hnp : ∀ x ∈ l, x.np) : ∀ (n i : Nat) (xs : List I) (gm : Nat) j jr g, i + n = l.length → xs = (l.take i).map clI →
    LoopAt E1 Tryz.f53 (.tup [listP 11 false true (l.map clI), intP 0]) 0 (span_limited_S1 k nl full l i gm xs.length (List.map I.p xs) j jr g) := by
  intro n
  induction n with
  | zero =>
    intro i xs gm j jr g hi hx
    refine loop_go 2000 _ (Eq.mpr (span_limited_go_S1 k nl full l i gm xs.length xs j jr g _) ⟨fun h => ?_, fun h => ⟨frzs_msl rfl (by simp) rfl, den_ClipI 11 false false xs ⟨(by simp), fun _ => rfl⟩, ?_⟩⟩)
    · simp only [decide_eq_true_eq, List.length_map] at h; omega
    · rw [hx, List.take_of_length_le (by omega)]
  | succ n ih =>
    intro i xs gm j jr g hi hx
    have hil : i < l.length := by omega
    have hw1 : IntKind.wrap IntKind.i64 ((i : Int) + 1) = ((i + 1 : Nat) : Int) := wrap_i64 _ (by omega) (by omega)
    have hi0 : (0 : Int) ≤ (i : Int) ∧ nl = false ∧ k = 11 := ⟨by omega, sl_at hsl hil⟩
    have hgi := getI hil
    have hxo := ok_get hok hil
    have hxn : (l.getD i default).np := hnp _ (getD_mem hil default)
    have hxl : xs.length = i := by rw [hx]; simp; omega
    have hf : xs.length = (List.map I.p xs).length ∧ fitsRow (xs.length + 1) 104 = true := ⟨by simp, fits_104 (by omega)⟩
    refine loop_go 2000 _ (Eq.mpr (span_limited_go_S1 k nl full l i gm xs.length xs j jr g _) ⟨fun h => ?_, fun h => ?_⟩)
    · simp only [hw1, Int.toNat_natCast, gI_nat, gI_zero, Nat.zero_add, eq_self, true_and, and_true, Nat.le_refl]
      refine ⟨hi0, hgi, den_CloneS _ _ _ _ hxo.lo.sl hxn.lo.ne hxn.lo.few, ?_, den_CloneS _ _ _ _ hxo.hi.sl hxn.hi.ne hxn.hi.few, ?_, hf, fun j jr g => ?_⟩
      · exact den_Clip _ _ _ _ ⟨fun h => hxo.lo.sl.1 h, fun h => by rw [h]; rfl⟩
      · exact den_Clip _ _ _ _ ⟨fun h => hxo.hi.sl.1 h, fun h => by rw [h]; rfl⟩
      · have := fun gm => ih (i + 1) (xs ++ [clI (l.getD i default)]) gm j jr g (by omega) (by rw [hx, List.take_succ_eq_append_getElem hil, List.map_append, getD_lt hil]; rfl)
        rw [List.length_append, List.map_append] at this
        exact this _
    · simp only [decide_eq_false_iff_not, List.length_map] at h; omega
theorem limited_S0 (hsl : slOk 11 k nl l.length) (hll : l.length ≤ 16) (hok : ∀ x ∈ l, x.ok) (hnp : ∀ x ∈ l, x.np) : ∀ (j : Nat → AV) jr g,
    LoopAt E1 Tryz.f53 (.tup [(limS l).1.p, intP (limS l).2]) 0 (span_limited_S0 k nl full l 0 j jr g) := by
  intro j jr g
  have hlim : limS l = (⟨twK l, twN l, true, l.map clI⟩, 0) := by unfold limS; rw [if_neg (by omega)]
  rw [hlim]
  rcases Nat.eq_zero_or_pos l.length with h0 | h0
  · have : l = [] := List.length_eq_zero_iff.1 h0
    subst this
    refine loop_go 2000 _ (Eq.mpr (span_limited_go_S0 k nl full [] 0 j jr g _) ⟨fun h => ?_, fun h => ⟨den_ClipI 0 true true [] ⟨fun _ => rfl, (by simp)⟩, rfl⟩⟩)
    simp at h
  · have hi0 : (0 : Int) ≤ (0 : Int) ∧ nl = false ∧ k = 11 := ⟨by omega, sl_at hsl h0⟩
    have hgi := getI h0
    have hxo := ok_get hok h0
    have hxn : (l.getD 0 default).np := hnp _ (getD_mem h0 default)
    have hz : Int.toNat 0 = 0 := rfl
    have hw1 : IntKind.wrap IntKind.i64 ((0 : Int) + 1) = ((1 : Nat) : Int) := rfl
    have ht : twK l = 11 ∧ twN l = false := by
      unfold twK twN
      exact ⟨if_neg (by omega), by simp only [decide_eq_false_iff_not]; omega⟩
    rw [ht.1, ht.2]
    refine loop_go 2000 _ (Eq.mpr (span_limited_go_S0 k nl full l 0 j jr g _) ⟨fun h => ?_, fun h => ?_⟩)
    · simp only [hw1, hz, Int.toNat_natCast, gI_nat, gI_zero, Nat.zero_add, eq_self, true_and, and_true, Nat.le_refl]
      refine ⟨hi0, hgi, den_CloneS _ _ _ _ hxo.lo.sl hxn.lo.ne hxn.lo.few, ?_, den_CloneS _ _ _ _ hxo.hi.sl hxn.hi.ne hxn.hi.few, ?_, fun j jr g => ?_⟩
      · exact den_Clip _ _ _ _ ⟨fun h => hxo.lo.sl.1 h, fun h => by rw [h]; rfl⟩
      · exact den_Clip _ _ _ _ ⟨fun h => hxo.hi.sl.1 h, fun h => by rw [h]; rfl⟩
      · have e : l = l.getD 0 default :: l.drop 1 := by rw [← drop_get h0]; try rfl
        exact limited_S1 k nl full l hsl hll hok hnp (l.length - 1) 1 [clI (l.getD 0 default)] _ j jr g (by omega) (by
          conv => rhs; rw [e]
          rfl)
    · simp only [decide_eq_false_iff_not, List.length_map] at h; omega
theorem den_limited (hsl : slOk 11 k nl l.length) (hl : l.length < 1000000) (hok : ∀ x ∈ l, x.ok) (hnp : ∀ x ∈ l, x.np) : Den E1 53 [listP k nl full l] (.tup [(limS l).1.p, intP (limS l).2]) := by
  refine den1 2000 _ rfl (by kernel_rfl) rfl rfl rfl (Eq.mpr (span_limited_go k nl full l _) ⟨fun h => ?_, fun h j jr g => ?_⟩)
  · simp only [decide_eq_true_eq, List.length_map] at h
    have : limS l = (lf0, 80) := by unfold limS; rw [if_pos (by omega)]
    rw [this]
    try rfl
  · simp only [decide_eq_false_iff_not, List.length_map] at h
    exact limited_S0 k nl full l hsl (by omega) hok hnp j jr g
end
end Go.Proofs.YtlhfgonjcpapnaaGreatDoor.Abs

set_option maxRecDepth 20000
set_option maxHeartbeats 2000000
namespace Go.Proofs.YtlhfgonjcpapnaaGreatDoor.Abs
open Go Go.Proofs
structure V.gd (v : V) : Prop where
  ok : v.ok
  may : mayV v = true
  np : v.np
theorem bottom_gd : bottomV.gd := ⟨bottom_ok, bottom_may, ⟨(by simp [bottomV]), (by simp [bottomV])⟩⟩
theorem zV_gd : zV.gd := ⟨zV_ok, zV_may, ⟨(by simp [zV]), (by simp [zV])⟩⟩
theorem may_few {v : V} (h : mayV v = true) : v.pre.length < 1000000 := by have := ((mayV_iff v).1 h).2.2.2.1; omega
theorem rd_gd (fl : Bool) (s : List UInt8) : (rdV fl s).gd := by
  refine ⟨rd_ok fl, rd_may fl, ?_, may_few (rd_may fl)⟩
  rw [rdV_eq, rdV0]
  split
  · show (!(Lib.cut s [45]).2.2) = false → preV s ≠ []
    unfold preV
    intro h
    have h' : (Lib.cut s [45]).2.2 = true := not_eq.2 h
    rw [h', if_pos rfl]
    exact split_ne _ _ (by simp)
  · intro h; simp [zV] at h
theorem least_gd {v : V} (h : v.gd) {n : Int} (h0 : 0 ≤ n) (h2 : n ≤ 2) : (leastV (nextV v n)).gd := by
  have hw := next_is v h.ok n h0 h2
  have hl := least_is hw.1 hw.2
  exact ⟨hl.1, hl.2, ⟨by simp [leastV], by simp [leastV]⟩⟩
theorem kind_is (v : V) : 0 ≤ kindV v ∧ kindV v ≤ 2 := by
  unfold kindV
  split
  · decide
  · split <;> decide
section
variable {P : I → Prop} (hb : ∀ x y, P x → P y → P (betE x.low y.high)) (hf : ∀ v o, v.gd → P (fromI v o)) (hd : ∀ v o, v.gd → P (downI v o))
include hb
theorem all_meet1S {x y : I} (hx : P x) (hy : P y) : P (meet1S x y) := by
  unfold meet1S
  split <;> split
  · exact hb _ _ hy hy
  · exact hb _ _ hy hx
  · exact hb _ _ hx hy
  · exact hb _ _ hx hx
theorem all_meetS {l m : List I} (hl : ∀ x ∈ l, P x) (hm : ∀ x ∈ m, P x) : ∀ x ∈ meetS l m, P x := by
  refine joinS_all hb fun z hz => ?_
  obtain ⟨x, hx, hz⟩ := List.mem_flatMap.1 hz
  obtain ⟨y, hy, rfl⟩ := List.mem_map.1 hz
  exact all_meet1S hb (hl x hx) (hm y hy)
omit hb
theorem all_one {x : I} (h : P x) : ∀ y ∈ [x], P y := fun y hy => by rw [List.mem_singleton.1 hy]; exact h
include hb hf hd
theorem all_uptoS {v : V} (hv : v.gd) {n : Int} (h0 : 0 ≤ n) (h2 : n ≤ 2) : ∀ y ∈ (uptoS v n).l, P y := by
  unfold uptoS
  split
  · exact all_meetS hb (all_one (hf v false hv)) (joinS_all hb (all_one (hd _ true (least_gd hv h0 h2))))
  · exact all_one (hf v false hv)
theorem all_cmprS (s : List UInt8) : ∀ y ∈ (cmprS s).1.l, P y := by
  have hv := rd_gd true (trimL s)
  have hk := kind_is (rdV true (trimL s))
  unfold cmprS
  split
  · simp only []
    repeat' split
    · exact all_meetS hb (all_one (hf _ false hv)) (joinS_all hb (all_one (hd _ false hv)))
    · exact joinS_all hb (all_one (hd _ true hv))
    · exact joinS_all hb (all_one (hd _ false hv))
    · exact all_one (hf _ true hv)
    · exact all_one (hf _ false hv)
    · exact all_uptoS hb hf hd hv hk.1 hk.2
    · exact all_uptoS hb hf hd hv (by omega) (by omega)
    · intro y hy; simp [lf0] at hy
  · intro y hy; simp [lf0] at hy
theorem all_altGoS : ∀ (ps : List (List UInt8)) (c : LF) (n : Nat), (∀ y ∈ c.l, P y) → ∀ y ∈ (altGoS ps c n).1.l, P y
  | [], c, n, h => by rw [altGoS]; exact h
  | p :: ps, c, n, h => by
    rw [altGoS]
    split
    · exact all_altGoS ps _ _ (all_meetS hb h (all_cmprS hb hf hd p))
    · intro y hy; simp [lf0] at hy
theorem all_altS (s : List UInt8) : ∀ y ∈ (altS s).1.l, P y := by
  have he : P everyI := hf bottomV false bottom_gd
  unfold altS
  split
  · exact all_one he
  · split
    · intro y hy; simp [lf0] at hy
    · exact all_altGoS hb hf hd _ _ _ (all_one he)
end
theorem altGoS_is : ∀ (ps : List (List UInt8)) (c : LF) (n : Nat), c.is 1 → (altGoS ps c n).1.is 1
  | [], c, n, h => by rw [altGoS]; exact h
  | p :: ps, c, n, h => by
    rw [altGoS]
    split
    · exact altGoS_is ps _ _ (is_lfR (meetS_ok h.ok (is_cmprS p).ok) (meetS_le1 h.len (is_cmprS p).len))
    · exact is_lf0.mono (by omega)
theorem altS_is (s : List UInt8) : (altS s).1.is 1 := by
  unfold altS
  split
  · exact ⟨⟨(by simp), fun _ => rfl⟩, one_ok every_ok, (by simp)⟩
  · split
    · exact is_lf0.mono (by omega)
    · exact altGoS_is _ _ _ (is_lf1 every_ok)
theorem bet_np (x y : I) (hx : x.np) (hy : y.np) : (betE x.low y.high).np := by
  refine ⟨hx.lo, ?_⟩
  show (if y.high.less then zV else y.high.v).np
  split
  · exact zV_gd.np
  · exact hy.hi
theorem altS_np (s : List UInt8) : ∀ y ∈ (altS s).1.l, y.np := all_altS (P := I.np) bet_np (fun v o h => ⟨h.np, zV_gd.np⟩) (fun v o h => ⟨bottom_gd.np, h.np⟩) s
abbrev rdRows (b2 b3 l n : AV) (lp z : Row) : List Row := [row0, row0, ⟨0, .box b2 false⟩, ⟨1, .box b3 false⟩, ⟨5, .box l false⟩, ⟨6, .box n false⟩, row0, row0, row0, row0, row0, row0, row0, row0, lp, row0, row0, row0, row0, row0, row0, row0, row0, row0, row0, row0, row0, row0, row0, row0, z] ++ List.replicate 5 row0
def rdAt (acc : List I) (l : AV) (z : Row) : Prop := (acc = [] ∧ l = nilA) ∨ (acc ≠ [] ∧ ∃ gm, l = .msl 0 30 gm 0 acc.length false ∧ z = ⟨gm, .row 11 63 (List.map I.p acc) false⟩)
theorem rdAt_some {acc : List I} {gm n : Nat} {xs : List PV} (hne : acc ≠ []) (hn : n = acc.length) (hx : xs = List.map I.p acc) : rdAt acc (.msl 0 30 gm 0 n false) ⟨gm, .row 11 63 xs false⟩ := by
  subst hn; subst hx
  exact .inr ⟨hne, gm, rfl, rfl⟩
def rdInv (s : List UInt8) (ps : List (List UInt8)) (f0 : List Row) : Prop := (∀ q ∈ ps, q.length ≤ 1000000) ∧
   ∃ (acc : List I) (n : Nat) (l : AV) (z : Row), readGoS ps acc n = readGoS (Lib.split s orB) [] 0 ∧ acc.length ≤ n ∧ n ≤ 16 ∧ (∀ x ∈ acc, x.ok) ∧ (∀ x ∈ acc, x.np) ∧ rdAt acc l z ∧ f0 = rdRows nilA (intA 0) l (intA n) ⟨15, .lp .ready⟩ z
def rdFin (s : List UInt8) (x : AExit) (f0 : List Row) : Prop := x = .ret ∧ readGoS (Lib.split s orB) [] 0 = none ∧ ∃ (l : AV) (n : Int) (z : Row), f0 = rdRows nilA (intA 80) l (intA n) ⟨15, .lp (.done .ret)⟩ z
theorem readGo_no {p : List UInt8} {ps : List (List UInt8)} {c : List I} {n : Nat} (h : ¬ ((altS p).2 = true ∧ n + 1 ≤ 16)) : readGoS (p :: ps) c n = none := by
  rw [readGoS, if_neg h]
theorem readGo_yes {p : List UInt8} {ps : List (List UInt8)} {c : List I} {n : Nat} (h1 : (altS p).2 = true) (h2 : n + 1 ≤ 16) : readGoS (p :: ps) c n = readGoS ps (c ++ (altS p).1.l) (n + 1) := by
  rw [readGoS, if_pos ⟨h1, h2⟩]
theorem read_range (s : List UInt8) (hs : ¬ s.length > 128) :
    RangeAtF E1 Tryz.f19 (.tup [(readS s).1.p, intP (readS s).2]) 0 (span_Read_R0 s) := by
  have hsp := split_le orB (by simp [orB]) _ s (Nat.le_refl _)
  refine rangeF_split (s := s) (sep := orB) (sl := 14) (by kernel_rfl) (by simp [orB]) (by omega) (rdInv s) (rdFin s) ⟨fun q hq => by have := hsp.2 q hq; omega, [], 0, nilA, row0, rfl, (by simp), (by omega), (by simp), (by simp), .inl ⟨rfl, rfl⟩, rfl⟩ ?_ ?_ ?_
  · rintro p rest f0 F1 FR g' ⟨hsm, acc, n, l, z, hgo, hln, hn, hok, hnp, hat, rfl⟩
    have hp := den_span_alternative p (hsm p (List.mem_cons_self ..))
    have hc := altS_is p
    have hcn := altS_np p
    have hsl : (((altS p).1.nl = true → (List.map I.p (altS p).1.l) = []) ∧ ((altS p).1.nl = false → (altS p).1.k = 11)) := ⟨fun h => by have := hc.sl.1 h; rw [List.length_eq_zero_iff.1 this]; rfl, hc.sl.2⟩
    have hw : IntKind.wrap IntKind.i64 ((n : Int) + 1) = ((n + 1 : Nat) : Int) := wrap_i64 _ (by omega) (by omega)
    have hcl := hc.len
    have hok2 : ∀ x ∈ acc ++ (altS p).1.l, x.ok := fun x hx => (List.mem_append.1 hx).elim (hok x) (hc.ok x)
    have hnp2 : ∀ x ∈ acc ++ (altS p).1.l, x.np := fun x hx => (List.mem_append.1 hx).elim (hnp x) (hcn x)
    have no1 : (!(altS p).2) = true → readGoS (Lib.split s orB) [] 0 = none := fun h => by
      rw [← hgo]
      exact readGo_no fun h2 => by rw [h2.1] at h; simp at h
    have no2 : decide (IntKind.wrap IntKind.i64 ((n : Int) + 1) > 16) = true → readGoS (Lib.split s orB) [] 0 = none := fun h => by
      rw [hw, decide_eq_true_eq] at h
      rw [← hgo]
      exact readGo_no fun h2 => by omega
    have yes : (!(altS p).2) = false → decide (IntKind.wrap IntKind.i64 ((n : Int) + 1) > 16) = false → readGoS rest (acc ++ (altS p).1.l) (n + 1) = readGoS (Lib.split s orB) [] 0 ∧ (acc ++ (altS p).1.l).length ≤ n + 1 ∧ n + 1 ≤ 16 := fun h h3 => by
      rw [hw, decide_eq_false_iff_not] at h3
      refine ⟨?_, by rw [List.length_append]; omega, by omega⟩
      rw [← hgo]
      exact (readGo_yes (not_eq.2 h) (by omega)).symm
    rcases hat with ⟨rfl, rfl⟩ | ⟨hne, gm, rfl, rfl⟩
    · refine ⟨rfl, 2000, _, Eq.mpr (span_Read_as0 s p n nilA z F1 FR 15 g' _) ⟨rfl, rfl, 2000, _, Eq.mpr (span_Read_a_bd0 s p n z F1 FR 15 _ _) ⟨hp, rfl, rfl, fun h => ⟨rfl, rfl, rfl, _, rfl, (fun h => nomatch h), fun _ => ⟨rfl, no1 h, _, _, _, rfl⟩⟩, fun h => ⟨rfl, fun h3 => ⟨rfl, rfl, rfl, _, rfl, (fun h => nomatch h), fun _ => ⟨rfl, no2 h3, _, _, _, rfl⟩⟩, fun h3 => ⟨rfl, hsl, fun h4 => ⟨rfl, rfl, _, rfl, fun _ => ⟨fun q hq => hsm q (List.mem_cons_of_mem _ hq), [] ++ (altS p).1.l, n + 1, _, _, (yes h h3).1, (yes h h3).2.1, (yes h h3).2.2, hok2, hnp2, ?_, by rw [hw]; rfl⟩, fun h => absurd rfl h⟩, fun h4 => ⟨⟨rfl, ?_⟩, rfl, rfl, _, rfl, fun _ => ⟨fun q hq => hsm q (List.mem_cons_of_mem _ hq), [] ++ (altS p).1.l, n + 1, _, _, (yes h h3).1, (yes h h3).2.1, (yes h h3).2.2, hok2, hnp2, ?_, by rw [hw]; rfl⟩, fun h => absurd rfl h⟩⟩⟩⟩⟩⟩
      · have : (altS p).1.l = [] := by simpa using h4
        rw [this]
        exact .inl ⟨rfl, rfl⟩
      · rw [List.length_map]; exact fits_104 (by omega)
      · refine .inr ⟨?_, _, ?_, rfl⟩
        · intro e
          have e' : (altS p).1.l = [] := e
          rw [e'] at h4; simp at h4
        · simp only [List.length_map, List.nil_append]
    · refine ⟨rfl, 2000, _, Eq.mpr (span_Read_as0 s p n (.msl 0 30 gm 0 acc.length false) ⟨gm, .row 11 63 (List.map I.p acc) false⟩ F1 FR 15 g' _) ⟨rfl, rfl, 2000, _, Eq.mpr (span_Read_b_bd0 s p n acc gm F1 FR 15 _ _) ⟨hp, rfl, rfl, fun h => ⟨rfl, rfl, rfl, _, rfl, (fun h => nomatch h), fun _ => ⟨rfl, no1 h, _, _, _, rfl⟩⟩, fun h => ⟨rfl, fun h3 => ⟨rfl, rfl, rfl, _, rfl, (fun h => nomatch h), fun _ => ⟨rfl, no2 h3, _, _, _, rfl⟩⟩, fun h3 => ⟨rfl, hsl, rfl, ⟨rfl, rfl, rfl, ?_, ?_⟩, rfl, rfl, _, rfl, fun _ => ⟨fun q hq => hsm q (List.mem_cons_of_mem _ hq), acc ++ (altS p).1.l, n + 1, _, _, (yes h h3).1, (yes h h3).2.1, (yes h h3).2.2, hok2, hnp2, ?_, by rw [hw]; rfl⟩, fun h => absurd rfl h⟩⟩⟩⟩⟩
      · rw [List.length_map, Nat.zero_add]
      · rw [List.length_map]; exact fits_104 (by omega)
      · refine rdAt_some (fun e => hne (List.append_eq_nil_iff.1 e).1) ?_ ?_
        · simp only [List.length_map, List.length_append]
        · rw [List.map_append]
          first | rfl | (rw [List.drop_zero, List.drop_zero, List.take_of_length_le (by simp)])
  · rintro f0 F1 g' ⟨hsm, acc, n, l, z, hgo, hln, hn, hok, hnp, hat, rfl⟩
    have hr : readS s = limS (joinS acc) := by
      rw [readS, if_neg hs, ← hgo]
      try rfl
    rw [hr]
    rcases hat with ⟨rfl, rfl⟩ | ⟨hne, gm, rfl, rfl⟩
    · refine ⟨rfl, 2000, _, Eq.mpr (span_Read_a_af0 s n z F1 g' _) ⟨rfl, ?_, ?_, rfl, rfl, rfl⟩⟩
      · exact den_join20 [] 0 true true ⟨fun _ => rfl, (by simp)⟩ (by simp) (by simp [delN]) (by simp)
      · exact den_limited 0 true true [] ⟨fun _ => rfl, (by simp)⟩ (by simp) (by simp) (by simp)
    · have hl := joinS_len acc
      refine ⟨rfl, 2000, _, Eq.mpr (span_Read_b_af0 s n acc gm F1 g' _) ⟨rfl, frzs_msl rfl (by simp) rfl, ?_, ?_, rfl, rfl, rfl⟩⟩
      · exact den_join20 acc 11 false false ⟨(by simp), fun _ => rfl⟩ (by omega) (Nat.lt_of_le_of_lt (delN_le _) (by omega)) hok
      · exact den_limited _ _ _ (joinS acc) (tw_sl _) (by omega) (joinS_ok hok) (joinS_all bet_np hnp)
  · rintro x f0 F1 g' ⟨rfl, hgo, l, n, z, rfl⟩
    refine ⟨(fun h => nomatch h), rfl, 2000, _, Eq.mpr (span_Read_af0r s n l z F1 g' _) ?_⟩
    have hr : readS s = (lf0, 80) := by
      rw [readS, if_neg hs, hgo]
    rw [hr]
    try rfl
theorem den_span_Read (s : List UInt8) : Den E1 19 [strP s] (.tup [(readS s).1.p, intP (readS s).2]) := by
  refine den1 2000 _ rfl (by kernel_rfl) rfl rfl rfl (Eq.mpr (span_Read_go s _) ⟨fun h => ⟨rfl, rfl, ?_⟩, fun h => ⟨rfl, den_split s orB, ?_⟩⟩)
  · simp only [decide_eq_true_eq, size_bs] at h
    have hr : readS s = (lf0, 80) := by
      rw [readS, if_pos (by omega)]
    rw [hr]
    try rfl
  · simp only [decide_eq_false_iff_not, size_bs] at h
    exact read_range s (by omega)
end Go.Proofs.YtlhfgonjcpapnaaGreatDoor.Abs

set_option maxRecDepth 20000
set_option maxHeartbeats 2000000
namespace Go.Proofs.YtlhfgonjcpapnaaGreatDoor.Abs
open Go Go.Proofs
section
variable {P : I → Prop} (hu : ∀ x y, P x → P y → P (upR x y)) (hf : ∀ v o, v.gd → P (fromI v o)) (hd : ∀ v o, v.gd → P (downI v o))
theorem mem_insR {s : List I} {x y : I} (h : y ∈ insR s x) : y ∈ s ∨ y = x := by
  unfold insR at h
  rcases List.mem_append.1 h with h | h
  · exact .inl (List.mem_of_mem_take h)
  · rcases List.mem_cons.1 h with h | h
    · exact .inr h
    · exact .inl (List.mem_of_mem_drop h)
theorem mem_sortR {y : I} : ∀ (l s : List I), y ∈ sortR l s → y ∈ s ∨ y ∈ l
  | [], s, h => .inl h
  | x :: l, s, h => by
    have h1 : sortR (x :: l) s = sortR l (if emptyI x then s else insR s x) := rfl
    rw [h1] at h
    rcases mem_sortR l _ h with h | h
    · split at h
      · exact .inl h
      · rcases mem_insR h with h | h
        · exact .inl h
        · exact .inr (List.mem_cons.2 (.inl h))
    · exact .inr (List.mem_cons.2 (.inr h))
include hu
theorem stepR_all {out : List I} {x : I} (ho : ∀ y ∈ out, P y) (hx : P x) : ∀ y ∈ stepR out x, P y := by
  unfold stepR
  split
  · intro y hy; rw [List.mem_singleton.1 hy]; exact hx
  · rename_i hne
    have hlt : out.length - 1 < out.length := by
      have : out ≠ [] := by rintro rfl; simp at hne
      have := List.length_pos_iff.2 this
      omega
    split
    · split
      · intro y hy
        rcases List.mem_or_eq_of_mem_set hy with hy | rfl
        · exact ho y hy
        · exact hu _ _ (ho _ (getD_mem hlt default)) hx
      · exact ho
    · intro y hy
      rcases List.mem_append.1 hy with hy | hy
      · exact ho y hy
      · rw [List.mem_singleton.1 hy]; exact hx
theorem joinR_all {l : List I} (hl : ∀ x ∈ l, P x) : ∀ y ∈ joinR l, P y := by
  have : ∀ (l out : List I), (∀ x ∈ l, P x) → (∀ y ∈ out, P y) → ∀ y ∈ l.foldl stepR out, P y := by
    intro l
    induction l with
    | nil => intro out _ h; exact h
    | cons x l ih => intro out h1 h2; exact ih _ (fun y hy => h1 y (List.mem_cons_of_mem _ hy)) (stepR_all hu h2 (h1 x (List.mem_cons_self ..)))
  unfold joinR
  refine this _ [] (fun x hx => ?_) (by simp)
  rcases mem_sortR l [] hx with h | h
  · simp at h
  · exact hl x h
theorem all_meet1 {x y : I} (hx : P x) (hy : P y) : P (meet1 x y) := by
  cases h1 : decide (lowB x.lb y.lb < 0) with
  | true =>
    cases h2 : decide (highI y (mixL x y) < 0) with
    | true => rw [meet1_a h1 h2]; exact hy
    | false => rw [meet1_b h1 h2]; exact hu _ _ hy hx
  | false =>
    cases h2 : decide (highI y x < 0) with
    | true => rw [meet1_c h1 h2]; exact hu _ _ hx hy
    | false => rw [meet1_d h1 h2]; exact hx
theorem all_meetR {l m : List I} (hl : ∀ x ∈ l, P x) (hm : ∀ x ∈ m, P x) : ∀ x ∈ meetR l m, P x := by
  refine joinR_all hu fun z hz => ?_
  obtain ⟨x, hx, hz⟩ := List.mem_flatMap.1 hz
  obtain ⟨y, hy, rfl⟩ := List.mem_map.1 hz
  exact all_meet1 hu (hl x hx) (hm y hy)
include hf hd
end
end Go.Proofs.YtlhfgonjcpapnaaGreatDoor.Abs

namespace Go.Proofs.YtlhfgonjcpapnaaGreatDoor.Abs
open Go Go.Proofs
noncomputable def cReadS : List UInt8 → LF × Int := shut readS
theorem cReadS_eq (s : List UInt8) : cReadS s = readS s := by rw [cReadS, shut_eq]
end Go.Proofs.YtlhfgonjcpapnaaGreatDoor.Abs

namespace Go.Proofs.YtlhfgonjcpapnaaGreatDoor.Abs
open Go Go.Proofs
def nV (v : V) : V := ⟨v.a, v.b, v.c, 0, true, true, v.pre⟩
def nI (x : I) : I := ⟨nV x.lo, x.lopen, nV x.hi, x.hopen, x.less⟩
theorem n_empty (x : I) : emptyI (nI x) = emptyI x := rfl
theorem n_low (x y : I) : lowB (nI x).lb (nI y).lb = lowB x.lb y.lb := rfl
theorem n_touch (x y : I) : touchI (nI x) (nI y) = touchI x y := rfl
theorem n_high (x y : I) : highI (nI x) (nI y) = highI x y := rfl
theorem n_up (x y : I) : upR (nI x) (nI y) = nI (upR x y) := rfl
theorem n_getD {s : List I} {k : Nat} (h : k < s.length) : (s.map nI).getD k default = nI (s.getD k default) := by
  rw [getD_lt (by simpa using h), getD_lt h, List.getElem_map]
theorem n_insPos (s : List I) (x : I) : ∀ k, k ≤ s.length → insPos (s.map nI) (nI x) k = insPos s x k
  | 0, _ => rfl
  | k + 1, h => by
    unfold insPos
    rw [n_getD (by omega), n_low, n_insPos s x k (by omega)]
theorem n_insR (s : List I) (x : I) : insR (s.map nI) (nI x) = (insR s x).map nI := by
  unfold insR
  rw [List.length_map, n_insPos s x _ (Nat.le_refl _), List.map_append, List.map_cons, List.map_take, List.map_drop]
theorem n_sortR : ∀ (l s : List I), sortR (l.map nI) (s.map nI) = (sortR l s).map nI
  | [], s => rfl
  | x :: l, s => by
    have h1 : sortR ((x :: l).map nI) (s.map nI) = sortR (l.map nI) (if emptyI (nI x) then s.map nI else insR (s.map nI) (nI x)) := rfl
    have h2 : sortR (x :: l) s = sortR l (if emptyI x then s else insR s x) := rfl
    rw [h1, h2, n_empty, n_insR]
    split
    · exact n_sortR l s
    · exact n_sortR l (insR s x)
theorem n_stepR (out : List I) (x : I) : stepR (out.map nI) (nI x) = (stepR out x).map nI := by
  cases out with
  | nil => rfl
  | cons a out =>
    have hg := n_getD (s := a :: out) (k := (a :: out).length - 1) (by simp)
    unfold stepR
    rw [List.length_map, hg, n_touch, n_high, n_up]
    simp only [List.isEmpty_cons, List.map_cons, Bool.false_eq_true, if_false]
    split
    · split
      · rw [← List.map_cons, List.map_set]
      · rfl
    · rw [← List.map_cons, List.map_append]; rfl
theorem n_foldR : ∀ (l out : List I), (l.map nI).foldl stepR (out.map nI) = (l.foldl stepR out).map nI
  | [], out => rfl
  | x :: l, out => by
    rw [List.map_cons, List.foldl_cons, List.foldl_cons, n_stepR]
    exact n_foldR l _
theorem n_joinR (l : List I) : joinR (l.map nI) = (joinR l).map nI := by
  unfold joinR
  have := n_sortR l []
  rw [List.map_nil] at this
  rw [this]
  exact n_foldR _ []
structure rt (x : I) : Prop where
  lo : mayV x.lo = true
  hi : mayV x.hi = true
  ho : x.less = true → x.hopen = false
  hz : x.less = true → nV x.hi = nV zV
theorem ordV_of {v w : V} (h1 : mayV v = true) (h2 : mayV w = true) : ordV v w = cmpV v w := by unfold ordV; rw [h1, h2]; rfl
theorem rt_dead {x : I} (h : rt x) : deadI x = emptyI x := by
  unfold deadI emptyI befE I.low I.high
  rw [ordV_of h.lo h.hi]
  cases hl : x.less with
  | true => simp
  | false =>
    simp only [Bool.and_false, Bool.false_eq_true, if_false, Bool.not_false, Bool.true_and]
    by_cases h0 : cmpV x.lo x.hi = 0
    · cases h1 : x.lopen <;> cases h2 : x.hopen <;> simp [h0]
    · have : (cmpV x.lo x.hi != 0) = true := by simpa using h0
      rw [if_pos this]
      have h3 : (cmpV x.lo x.hi == 0) = false := by simpa using h0
      rw [h3, Bool.false_and, Bool.or_false]
      rw [Bool.eq_iff_iff, decide_eq_true_eq, decide_eq_true_eq]; omega
theorem rt_low {x y : I} (hx : rt x) (hy : rt y) : (befE x.low y.low < 0 ↔ lowB y.lb x.lb > 0) := by
  unfold befE lowB I.low I.lb
  have ha := an_cmpV y.lo x.lo
  rw [ordV_of hx.lo hy.lo, ha]
  simp only [Bool.and_false, Bool.false_eq_true, if_false]
  by_cases h0 : cmpV y.lo x.lo = 0
  · cases h1 : x.lopen <;> cases h2 : y.lopen <;> simp [h0]
  · have h3 : (-cmpV y.lo x.lo != 0) = true := by simp; exact h0
    have h4 : (cmpV y.lo x.lo != 0) = true := by simpa using h0
    rw [if_pos h3, h4, Bool.true_or, if_pos rfl]
    omega
theorem rt_low' {x y : I} (hx : rt x) (hy : rt y) : (befE x.low y.low < 0 ↔ lowB x.lb y.lb < 0) := by
  unfold befE lowB I.low I.lb
  rw [ordV_of hx.lo hy.lo]
  simp only [Bool.and_false, Bool.false_eq_true, if_false]
  by_cases h0 : cmpV x.lo y.lo = 0
  · cases h1 : x.lopen <;> cases h2 : y.lopen <;> simp [h0]
  · have h4 : (cmpV x.lo y.lo != 0) = true := by simpa using h0
    rw [if_pos h4, h4, Bool.true_or, if_pos rfl]
theorem rt_touch {x y : I} (hx : rt x) (hy : rt y) : (befE x.high y.low ≥ 0 ↔ touchI x y = true) := by
  unfold befE touchI I.low I.high
  rw [ordV_of hx.hi hy.lo]
  cases hl : x.less with
  | true => simp
  | false =>
    simp only [Bool.and_false, Bool.false_and, Bool.false_eq_true, if_false, Bool.false_or]
    by_cases h0 : cmpV x.hi y.lo = 0
    · cases h1 : x.hopen <;> cases h2 : y.lopen <;> simp [h0]
    · have h4 : (cmpV x.hi y.lo != 0) = true := by simpa using h0
      have h3 : (cmpV x.hi y.lo == 0) = false := by simpa using h0
      rw [if_pos h4, h3, Bool.false_and, Bool.or_false, decide_eq_true_eq]
      omega
theorem rt_high {x y : I} (hx : rt x) (hy : rt y) : (befE x.high y.high < 0 ↔ highI x y < 0) := by
  unfold befE highI I.high
  rw [ordV_of hx.hi hy.hi]
  cases hl : x.less <;> cases hm : y.less <;> simp only [Bool.and_false, Bool.and_true, Bool.false_and, Bool.false_eq_true, if_false, if_true]
  · by_cases h0 : cmpV x.hi y.hi = 0
    · cases h1 : x.hopen <;> cases h2 : y.hopen <;> simp [h0]
    · have h4 : (cmpV x.hi y.hi != 0) = true := by simpa using h0
      rw [if_pos h4, if_pos h4]
theorem rt_bet {x y : I} (hx : rt x) (hy : rt y) : nI (betE x.low y.high) = nI (upR x y) ∧ rt (betE x.low y.high) := by
  cases hl : y.less with
  | true =>
    have hz := hy.hz hl
    have ho := hy.ho hl
    refine ⟨?_, ⟨hx.lo, ?_, ?_, ?_⟩⟩
    · show I.mk (nV x.lo) x.lopen (nV (if y.less then zV else y.hi)) (if y.less then false else !!y.hopen) y.less = I.mk (nV x.lo) x.lopen (nV y.hi) y.hopen y.less
      rw [hl, hz, ho]
      rfl
    · show mayV (if y.less then zV else y.hi) = true
      rw [hl]; exact zV_may
    · intro _
      show (if y.less then false else !!y.hopen) = false
      rw [hl]; rfl
    · intro _
      show nV (if y.less then zV else y.hi) = nV zV
      rw [hl]; rfl
  | false =>
    refine ⟨?_, ⟨hx.lo, ?_, ?_, ?_⟩⟩
    · show I.mk (nV x.lo) x.lopen (nV (if y.less then zV else y.hi)) (if y.less then false else !!y.hopen) y.less = I.mk (nV x.lo) x.lopen (nV y.hi) y.hopen y.less
      rw [hl, Bool.not_not]
      rfl
    · show mayV (if y.less then zV else y.hi) = true
      rw [hl]; exact hy.hi
    · intro h
      have h : y.less = true := h
      rw [hl] at h; cases h
    · intro h
      have h : y.less = true := h
      rw [hl] at h; cases h
theorem rt_up {x y : I} (hx : rt x) (hy : rt y) : rt (upR x y) := ⟨hx.lo, hy.hi, hy.ho, hy.hz⟩
theorem rt_insPos {s : List I} {x : I} (hs : ∀ y ∈ s, rt y) (hx : rt x) : ∀ k, k ≤ s.length → insPosS s x k = insPos s x k
  | 0, _ => rfl
  | k + 1, h => by
    have hy := hs _ (getD_mem (i := k) (l := s) (by omega) default)
    unfold insPosS insPos
    rw [rt_insPos hs hx k (by omega)]
    have := rt_low hx hy
    by_cases h1 : befE x.low (s.getD k default).low < 0
    · rw [if_pos h1, if_pos (this.1 h1)]
    · rw [if_neg h1, if_neg (fun h2 => h1 (this.2 h2))]
theorem rt_ins {s : List I} {x : I} (hs : ∀ y ∈ s, rt y) (hx : rt x) : insS s x = insR s x := by
  unfold insS insR
  rw [rt_insPos hs hx _ (Nat.le_refl _)]
theorem rt_sort : ∀ (l s : List I), (∀ y ∈ l, rt y) → (∀ y ∈ s, rt y) → (l.filter fun x => !deadI x).foldl insS s = sortR l s
  | [], s, _, _ => rfl
  | x :: l, s, hl, hs => by
    have hx := hl x (List.mem_cons_self ..)
    have h2 : sortR (x :: l) s = sortR l (if emptyI x then s else insR s x) := rfl
    rw [h2, List.filter_cons, rt_dead hx]
    cases he : emptyI x with
    | true => exact rt_sort l s (fun y hy => hl y (List.mem_cons_of_mem _ hy)) hs
    | false =>
      simp only [Bool.not_false, if_true, List.foldl_cons, Bool.false_eq_true, if_false]
      rw [rt_ins hs hx]
      exact rt_sort l _ (fun y hy => hl y (List.mem_cons_of_mem _ hy)) fun y hy => (mem_insR hy).elim (hs y) fun e => e ▸ hx
theorem rt_step {out : List I} {x : I} (ho : ∀ y ∈ out, rt y) (hx : rt x) : (stepS out x).map nI = (stepR out x).map nI ∧ ∀ y ∈ stepS out x, rt y := by
  refine ⟨?_, stepS_all (P := rt) (fun x y hx hy => (rt_bet hx hy).2) ho hx⟩
  cases out with
  | nil => rfl
  | cons a out =>
    have hla : (a :: out).length - 1 < (a :: out).length := by simp
    have hy := ho _ (getD_mem hla default)
    have h1 := rt_touch hy hx
    have h2 := rt_high hy hx
    have h3 := (rt_bet hy hx).1
    unfold stepS stepR
    simp only [List.isEmpty_cons, Bool.false_eq_true, if_false]
    generalize (a :: out).getD ((a :: out).length - 1) default = y at hy h1 h2 h3 ⊢
    by_cases ht : touchI y x = true
    · rw [if_pos (h1.2 ht), if_pos ht]
      by_cases hh : highI y x < 0
      · rw [if_pos (h2.2 hh), if_pos hh, List.map_set, List.map_set, h3]
      · rw [if_neg (fun h => hh (h2.1 h)), if_neg hh]
    · rw [if_neg (fun h => ht (h1.1 h)), if_neg ht]
theorem rt_fold : ∀ (l out : List I), (∀ y ∈ l, rt y) → (∀ y ∈ out, rt y) → (l.foldl stepS out).map nI = (l.map nI).foldl stepR (out.map nI)
  | [], out, _, _ => rfl
  | x :: l, out, hl, ho => by
    obtain ⟨h1, h2⟩ := rt_step ho (hl x (List.mem_cons_self ..))
    rw [List.foldl_cons, rt_fold l _ (fun y hy => hl y (List.mem_cons_of_mem _ hy)) h2, List.map_cons, List.foldl_cons, h1, n_stepR]
theorem rt_join {l : List I} (hl : ∀ y ∈ l, rt y) : (joinS l).map nI = joinR (l.map nI) := by
  unfold joinS joinR sortS
  have hs := rt_sort l [] hl (by simp)
  have hn := n_sortR l []
  rw [List.map_nil] at hn
  rw [hs, hn, rt_fold _ [] (fun y hy => (mem_sortR l [] hy).elim (fun h => by simp at h) (hl y)) (by simp)]
  rfl
theorem rt_meet1 {x y : I} (hx : rt x) (hy : rt y) : nI (meet1S x y) = nI (meet1 x y) ∧ rt (meet1S x y) := by
  have h1 := rt_low' hx hy
  have hmix : rt (mixL x y) := ⟨hy.lo, hx.hi, hx.ho, hx.hz⟩
  have h2 := rt_high hy hx
  have hhm : highI y (mixL x y) = highI y x := rfl
  cases c1 : decide (lowB x.lb y.lb < 0) with
  | true =>
    have d1 : befE x.low y.low < 0 := h1.2 (by simpa using c1)
    cases c2 : decide (highI y x < 0) with
    | true =>
      have d2 : befE y.high x.high < 0 := h2.2 (by simpa using c2)
      rw [meet1_a c1 (by rw [hhm]; exact c2)]
      have e : meet1S x y = betE y.low y.high := by simp only [meet1S, d1, d2, if_true]
      rw [e]
      have := rt_bet hy hy
      exact ⟨this.1, this.2⟩
    | false =>
      have d2 : ¬ befE y.high x.high < 0 := fun h => by have := h2.1 h; simp at c2; omega
      rw [meet1_b c1 (by rw [hhm]; exact c2)]
      have e : meet1S x y = betE y.low x.high := by simp only [meet1S, d1, d2, if_true, if_false]
      rw [e]
      have := rt_bet hy hx
      exact ⟨this.1, this.2⟩
  | false =>
    have d1 : ¬ befE x.low y.low < 0 := fun h => by have := h1.1 h; simp at c1; omega
    cases c2 : decide (highI y x < 0) with
    | true =>
      have d2 : befE y.high x.high < 0 := h2.2 (by simpa using c2)
      rw [meet1_c c1 c2]
      have e : meet1S x y = betE x.low y.high := by simp only [meet1S, d1, d2, if_true, if_false]
      rw [e]
      have := rt_bet hx hy
      exact ⟨this.1, this.2⟩
    | false =>
      have d2 : ¬ befE y.high x.high < 0 := fun h => by have := h2.1 h; simp at c2; omega
      rw [meet1_d c1 c2]
      have e : meet1S x y = betE x.low x.high := by simp only [meet1S, d1, d2, if_false]
      rw [e]
      have := rt_bet hx hx
      exact ⟨this.1, this.2⟩
end Go.Proofs.YtlhfgonjcpapnaaGreatDoor.Abs

namespace Go.Proofs.YtlhfgonjcpapnaaGreatDoor.Abs
open Go Go.Proofs
theorem rt_from {v : V} (o : Bool) (h : v.gd) : rt (fromI v o) := ⟨h.may, zV_may, fun _ => rfl, fun _ => rfl⟩
theorem rt_down {v : V} (o : Bool) (h : v.gd) : rt (downI v o) := ⟨bottom_may, h.may, (fun h => nomatch h), (fun h => nomatch h)⟩
theorem rt_bets (x y : I) (hx : rt x) (hy : rt y) : rt (betE x.low y.high) := (rt_bet hx hy).2
theorem nV_num {v w : V} (h : nV v = nV w) : v.a = w.a ∧ v.b = w.b ∧ v.c = w.c ∧ v.pre = w.pre := by
  injection h with h1 h2 h3 _ _ _ h4
  exact ⟨h1, h2, h3, h4⟩
theorem altS_rt (s : List UInt8) : ∀ y ∈ (altS s).1.l, rt y := all_altS rt_bets (fun v o h => rt_from o h) (fun v o h => rt_down o h) s
theorem n_sameV {v w : V} (h : nV v = nV w) : sameV v w = true := by
  obtain ⟨h1, h2, h3, h4⟩ := nV_num h
  simp [sameV, h1, h2, h3, h4]
theorem n_sameI {x y : I} (h : nI x = nI y) : sameI x y = true := by
  injection h with h1 h2 h3 h4 h5
  simp [sameI, n_sameV h1, n_sameV h3, h2, h4, h5]
theorem n_same : ∀ {l m : List I}, l.map nI = m.map nI → sameLs l m = true
  | [], [], _ => rfl
  | x :: l, y :: m, h => by
    rw [List.map_cons, List.map_cons] at h
    injection h with h1 h2
    simp [sameLs, n_sameI h1, n_same h2]
  | [], _ :: _, h => by simp at h
  | _ :: _, [], h => by simp at h
theorem n_pairs : ∀ l : List I, pairsS (l.map nI) = pairsS l
  | [] => rfl
  | [x] => rfl
  | x :: y :: l => by
    have h := n_pairs (y :: l)
    simp only [List.map_cons, pairsS] at h ⊢
    rw [h, n_low, n_touch]
theorem n_mayR (l : List I) : mayR (l.map nI) = mayR l := by
  simp only [mayR, List.length_map, n_pairs, List.all_map]
  rfl
end Go.Proofs.YtlhfgonjcpapnaaGreatDoor.Abs

set_option maxRecDepth 20000
namespace Go.Proofs.YtlhfgonjcpapnaaGreatDoor.Abs
open Go Go.Proofs
theorem readGoS_all {P : I → Prop} (hP : ∀ p, ∀ y ∈ (altS p).1.l, P y) : ∀ (ps : List (List UInt8)) (a x : List I) (n : Nat), (∀ y ∈ a, P y) → readGoS ps a n = some x → ∀ y ∈ x, P y
  | [], a, x, n, ha, h => by
    rw [readGoS] at h
    injection h with h
    subst h; exact ha
  | p :: ps, a, x, n, ha, h => by
    by_cases hb : (altS p).2 = true ∧ n + 1 ≤ 16
    · rw [readGo_yes hb.1 hb.2] at h
      exact readGoS_all hP ps _ x _ (fun y hy => (List.mem_append.1 hy).elim (ha y) (hP p y)) h
    · rw [readGo_no hb] at h; cases h
theorem clV_ok {v : V} (h : v.ok) : (clV v).ok := ⟨h.a, h.b, h.c, ⟨h.sl.1, fun e => by
  have e : v.nl = false := e
  show cond v.nl 0 1 = 1
  rw [e]; rfl⟩, h.len, h.str⟩
theorem clI_ok {x : I} (h : x.ok) : (clI x).ok := ⟨clV_ok h.lo, clV_ok h.hi⟩
theorem cl_ok {l : List I} (h : ∀ x ∈ l, x.ok) : ∀ x ∈ l.map clI, x.ok := by
  intro y hy
  obtain ⟨x, hx, rfl⟩ := List.mem_map.1 hy
  exact clI_ok (h x hx)
theorem limS_is {l : List I} (h : ∀ x ∈ l, x.ok) : (limS l).1.is 16 := by
  unfold limS
  by_cases hl : l.length > 16
  · rw [if_pos hl]; exact is_lf0.mono (by omega)
  · rw [if_neg hl]
    refine ⟨?_, cl_ok h, by rw [List.length_map]; omega⟩
    rw [List.length_map]
    exact tw_sl l
theorem den_cReadS (s : List UInt8) : Den E1 19 [strP s] (.tup [(cReadS s).1.p, intP (cReadS s).2]) := by rw [cReadS_eq]; exact den_span_Read s
end Go.Proofs.YtlhfgonjcpapnaaGreatDoor.Abs

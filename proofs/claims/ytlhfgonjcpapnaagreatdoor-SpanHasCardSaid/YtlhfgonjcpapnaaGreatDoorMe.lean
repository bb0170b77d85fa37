/-
  Versions: their parts, their order, which may be, as functions of values. Conditions: the values are of their types.
-/
import Derived.Test.YtlhfgonjcpapnaaGreatDoorMd

set_option linter.all false
set_option linter.unnecessarySimpa false

/- Conditions of functions and their loops, printed by a program and checked by computing. -/
set_option linter.unusedVariables false
namespace Go.Proofs.YtlhfgonjcpapnaaGreatDoor.Abs
open Go Go.Proofs

def version_digits_S0 (l : List UInt8) (i : Int) (j : Nat → AV) (jr : Nat → Row) (g : Nat) : St :=
  { t := [strA (bs l), j (1 : Nat), j (2 : Nat), j (3 : Nat), j (4 : Nat), intA ((↑(ByteArray.size (bs l)) : Int)), intA i, j (7 : Nat), j (8 : Nat), j (9 : Nat), j (10 : Nat), j (11 : Nat), j (12 : Nat), j (13 : Nat), j (14 : Nat), j (15 : Nat), j (16 : Nat), j (17 : Nat), j (18 : Nat), j (19 : Nat), undefA, undefA], h := [List.replicate 22 row0], g := g }
theorem version_digits_go (l : List UInt8) (r : PV) : FnGo E1 Tryz.f108 [.lit (.string (bs l))] r 2000 (.mask [1, 2, 3, 4, 7, 8, 9, 10, 11, 12, 13, 14, 15, 16, 17, 18, 19] []) =
  (∀ (j : Nat → AV) (jr : Nat → Row) (g : Nat), LoopAt E1 Tryz.f108 r 0 (version_digits_S0 l (0 : Int) j jr g)) := by kernel_rfl
theorem version_digits_go_S0 (l : List UInt8) (i : Int) (j : Nat → AV) (jr : Nat → Row) (g : Nat) (r : PV) : LoopGo E1 Tryz.f108 r 0 2000 (.fork (.fork (.lit (.lit (.lit (.lit (.lit (.lit (.hole 0))))))) (.lit (.lit (.lit (.lit (.lit (.fork (.hole 0) (.mask [1, 2, 3, 4, 7, 8, 9, 10, 11, 12, 13, 14, 15, 16, 17, 18, 19] [])))))))) (.hole 0)) (version_digits_S0 l i j jr g) =
  (((decide (i < (↑(ByteArray.size (bs l)) : Int))) = true →
   (((0 : Int) ≤ i) ∧ (Int.toNat i < ByteArray.size (bs l))) ∧
   ((decide ((↑(UInt8.toNat (List.getD l (Int.toNat i) (0 : UInt8))) : Int) < (48 : Int))) = true →
    (bolP false) = r) ∧
   ((decide ((↑(UInt8.toNat (List.getD l (Int.toNat i) (0 : UInt8))) : Int) < (48 : Int))) = false →
    (((0 : Int) ≤ i) ∧ (Int.toNat i < ByteArray.size (bs l))) ∧
    ((decide ((↑(UInt8.toNat (List.getD l (Int.toNat i) (0 : UInt8))) : Int) > (57 : Int))) = true →
     (bolP false) = r) ∧
    ((decide ((↑(UInt8.toNat (List.getD l (Int.toNat i) (0 : UInt8))) : Int) > (57 : Int))) = false →
     ∀ (j : Nat → AV) (jr : Nat → Row) (g : Nat), LoopAt E1 Tryz.f108 r 0 (version_digits_S0 l (IntKind.wrap IntKind.i64 (i + (1 : Int))) j jr g)))) ∧
  ((decide (i < (↑(ByteArray.size (bs l)) : Int))) = false →
   (bolP (!ByteArray.toList (bs l) == ByteArray.toList (bs []))) = r)) := by kernel_rfl

def ref07_digits_S0 (l : List UInt8) (i : Int) (j : Nat → AV) (jr : Nat → Row) (g : Nat) : St :=
  { t := [strA (bs l), j (1 : Nat), j (2 : Nat), intA i, j (4 : Nat), j (5 : Nat), j (6 : Nat), j (7 : Nat), j (8 : Nat), j (9 : Nat), j (10 : Nat), j (11 : Nat), j (12 : Nat), j (13 : Nat), j (14 : Nat), j (15 : Nat), j (16 : Nat), j (17 : Nat), j (18 : Nat), j (19 : Nat), undefA, undefA], h := [List.replicate 22 row0], g := g }
theorem ref07_digits_go (l : List UInt8) (r : PV) : FnGo E1 Tryz.f104 [.lit (.string (bs l))] r 2000 (.mask [1, 2, 4, 5, 6, 7, 8, 9, 10, 11, 12, 13, 14, 15, 16, 17, 18, 19] []) =
  (∀ (j : Nat → AV) (jr : Nat → Row) (g : Nat), LoopAt E1 Tryz.f104 r 0 (ref07_digits_S0 l (0 : Int) j jr g)) := by kernel_rfl
theorem ref07_digits_go_S0 (l : List UInt8) (i : Int) (j : Nat → AV) (jr : Nat → Row) (g : Nat) (r : PV) : LoopGo E1 Tryz.f104 r 0 2000 (.fork (.fork (.lit (.lit (.lit (.lit (.lit (.lit (.hole 0))))))) (.lit (.lit (.lit (.lit (.lit (.fork (.hole 0) (.mask [1, 2, 4, 5, 6, 7, 8, 9, 10, 11, 12, 13, 14, 15, 16, 17, 18, 19] [])))))))) (.hole 0)) (ref07_digits_S0 l i j jr g) =
  (((decide (i < (↑(ByteArray.size (bs l)) : Int))) = true →
   (((0 : Int) ≤ i) ∧ (Int.toNat i < ByteArray.size (bs l))) ∧
   ((decide ((↑(UInt8.toNat (List.getD l (Int.toNat i) (0 : UInt8))) : Int) < (48 : Int))) = true →
    (bolP false) = r) ∧
   ((decide ((↑(UInt8.toNat (List.getD l (Int.toNat i) (0 : UInt8))) : Int) < (48 : Int))) = false →
    (((0 : Int) ≤ i) ∧ (Int.toNat i < ByteArray.size (bs l))) ∧
    ((decide ((↑(UInt8.toNat (List.getD l (Int.toNat i) (0 : UInt8))) : Int) > (57 : Int))) = true →
     (bolP false) = r) ∧
    ((decide ((↑(UInt8.toNat (List.getD l (Int.toNat i) (0 : UInt8))) : Int) > (57 : Int))) = false →
     ∀ (j : Nat → AV) (jr : Nat → Row) (g : Nat), LoopAt E1 Tryz.f104 r 0 (ref07_digits_S0 l (IntKind.wrap IntKind.i64 (i + (1 : Int))) j jr g)))) ∧
  ((decide (i < (↑(ByteArray.size (bs l)) : Int))) = false →
   (bolP (!ByteArray.toList (bs l) == ByteArray.toList (bs []))) = r)) := by kernel_rfl

theorem version_plain_go (l : List UInt8) (r : PV) : FnGo E1 Tryz.f109 [.lit (.string (bs l))] r 2000 (.fork (.lit (.lit (.lit (.lit (.hole 0))))) (.lit (.lit (.lit (.lit (.hole 0)))))) =
  ((((↑(ByteArray.size (bs l)) : Int) == (1 : Int)) = true →
   (bolP true) = r) ∧
  (((↑(ByteArray.size (bs l)) : Int) == (1 : Int)) = false →
   (((0 : Int) ≤ (0 : Int)) ∧ ((0 : Nat) < ByteArray.size (bs l))) ∧
   (bolP ((↑(UInt8.toNat (List.getD l (0 : Nat) (0 : UInt8))) : Int) != (48 : Int))) = r)) := by kernel_rfl

theorem ref07_cmp_go (x : Int) (y : Int) (r : PV) : FnGo E1 Tryz.f118 [.lit (.int .u32 x), .lit (.int .u32 y)] r 2000 (.fork (.hole 0) (.fork (.hole 0) (.hole 0))) =
  (((decide (x < y)) = true →
   (intP (-1)) = r) ∧
  ((decide (x < y)) = false →
   ((decide (x > y)) = true →
    (intP 1) = r) ∧
   ((decide (x > y)) = false →
    (intP 0) = r))) := by kernel_rfl

theorem cmp_isNaN_uint32_go (x : Int) (r : PV) : FnGo E1 Tryz.f147 [.lit (.int .u32 x)] r 2000 (.hole 0) =
  ((bolP (x != x)) = r) := by kernel_rfl

theorem cmp_isNaN_int_go (x : Int) (r : PV) : FnGo E1 Tryz.f148 [intP x] r 2000 (.hole 0) =
  ((bolP (x != x)) = r) := by kernel_rfl

theorem cmp_isNaN_string_go (l : List UInt8) (r : PV) : FnGo E1 Tryz.f175 [.lit (.string (bs l))] r 2000 (.hole 0) =
  ((bolP (!ByteArray.toList (bs l) == ByteArray.toList (bs l))) = r) := by kernel_rfl

theorem cmp_Or_int_go (x : Int) (y : Int) (z : Int) (r : PV) : FnGo E1 Tryz.f122 [.sl 1 false true [intP x, intP y, intP z]] r 2000 (.go (.lit (.val (intP x) (.fork (.hole 0) (.go (.lit (.val (intP y) (.fork (.hole 0) (.go (.lit (.val (intP z) (.fork (.hole 0) (.go (.lit (.hole 0))))))))))))))) =
  ((((0 : Int) ≤ (0 : Int)) ∧ ((false = false) ∧ ((1 : Nat) = 1))) ∧
  ((some (intP x)) = some (intP x)) ∧
  ((x != (0 : Int)) = true →
   (intP x) = r) ∧
  ((x != (0 : Int)) = false →
   (((0 : Int) ≤ (1 : Int)) ∧ ((false = false) ∧ ((1 : Nat) = 1))) ∧
   ((some (intP y)) = some (intP y)) ∧
   ((y != (0 : Int)) = true →
    (intP y) = r) ∧
   ((y != (0 : Int)) = false →
    (((0 : Int) ≤ (2 : Int)) ∧ ((false = false) ∧ ((1 : Nat) = 1))) ∧
    ((some (intP z)) = some (intP z)) ∧
    ((z != (0 : Int)) = true →
     (intP z) = r) ∧
    ((z != (0 : Int)) = false →
     (intP 0) = r)))) := by kernel_rfl

theorem span_low_go (x : I) (r : PV) : FnGo E1 Tryz.f37 [I.p x] r 2000 (.hole 0) =
  (((0 : Nat) = 0) ∧
  ((0 : Nat) = 0) ∧
  ((1 : Nat) = 1) ∧
  (edgP (V.a (I.lo x)) (V.b (I.lo x)) (V.c (I.lo x)) (.sl (V.k (I.lo x)) (V.nl (I.lo x)) (V.full (I.lo x)) (List.map strP (V.pre (I.lo x)))) (I.lopen x) false) = r) := by kernel_rfl

theorem span_high_go (x : I) (r : PV) : FnGo E1 Tryz.f38 [I.p x] r 2000 (.hole 0) =
  (((0 : Nat) = 0) ∧
  ((0 : Nat) = 0) ∧
  ((0 : Nat) = 0) ∧
  ((1 : Nat) = 1) ∧
  (edgP (V.a (I.hi x)) (V.b (I.hi x)) (V.c (I.hi x)) (.sl (V.k (I.hi x)) (V.nl (I.hi x)) (V.full (I.hi x)) (List.map strP (V.pre (I.hi x)))) (!I.hopen x) (I.less x)) = r) := by kernel_rfl

theorem span_bottom_go (r : PV) : FnGo E1 Tryz.f76 [] r 2000 (.hole 0) =
  (((0 : Nat) = 0) ∧
  ∃ hp, frz frzDepth (.agg [.pv (.lit (.int .u32 0)), .pv (.lit (.int .u32 0)), .pv (.lit (.int .u32 0)), .msl 0 1 1 0 1 true, bolA false, bolA false]) [[⟨0, .box (.agg [.pv (.lit (.int .u32 0)), .pv (.lit (.int .u32 0)), .pv (.lit (.int .u32 0)), .msl 0 1 1 0 1 true, bolA false, bolA false]) false⟩, ⟨1, .row 1 9 [.lit (.string (bs [(48 : UInt8)]))] false⟩, row0, row0]] = some (r, hp)) := by kernel_rfl

theorem ref08_Bottom_go (r : PV) : FnGo E1 Tryz.f81 [] r 2000 (.hole 0) =
  (((0 : Nat) = 0) ∧
  ∃ hp, frz frzDepth (.agg [.pv (.lit (.int .u32 0)), .pv (.lit (.int .u32 0)), .pv (.lit (.int .u32 0)), .msl 0 1 1 0 1 true]) [[⟨0, .box (.agg [.pv (.lit (.int .u32 0)), .pv (.lit (.int .u32 0)), .pv (.lit (.int .u32 0)), .msl 0 1 1 0 1 true]) false⟩, ⟨1, .row 1 9 [.lit (.string (bs [(48 : UInt8)]))] false⟩, row0]] = some (r, hp)) := by kernel_rfl

def ref07_Number_S0 (x : Int) (y : Int) (s : ByteArray) (j : Nat → AV) (jr : Nat → Row) (g : Nat) : St :=
  { t := [.pv (.lit (.int .u64 y)), j (1 : Nat), strA (bs []), strA s, j (4 : Nat), j (5 : Nat), j (6 : Nat), j (7 : Nat), j (8 : Nat), j (9 : Nat), j (10 : Nat), j (11 : Nat), j (12 : Nat), j (13 : Nat), j (14 : Nat), j (15 : Nat), undefA, undefA, undefA, undefA, undefA, undefA], h := [List.replicate 22 row0], g := g }
theorem ref07_Number_go (x : Int) (r : PV) : FnGo E1 Tryz.f120 [.lit (.int .u64 x)] r 2000 (.mask [1, 4, 5, 6, 7, 8, 9, 10, 11, 12, 13, 14, 15] []) =
  (∀ (j : Nat → AV) (jr : Nat → Row) (g : Nat), LoopAt E1 Tryz.f120 r 0 (ref07_Number_S0 x x (bs []) j jr g)) := by kernel_rfl
theorem ref07_Number_go_S0 (x : Int) (y : Int) (s : ByteArray) (j : Nat → AV) (jr : Nat → Row) (g : Nat) (r : PV) : LoopGo E1 Tryz.f120 r 0 2000 (.fork (.mask [1, 4, 5, 6, 7, 8, 9, 10, 11, 12, 13, 14, 15] []) (.hole 0)) (ref07_Number_S0 x y s j jr g) =
  (((decide (y > (9 : Int))) = true →
   (((0 : Int) ≤ IntKind.wrap IntKind.u64 (Int.tmod y (10 : Int) + (1 : Int))) ∧ (IntKind.wrap IntKind.u64 (Int.tmod y (10 : Int) + (1 : Int)) ≤ (10 : Int))) ∧
   (((0 : Int) ≤ Int.tmod y (10 : Int)) ∧ (Int.tmod y (10 : Int) ≤ (↑(Int.toNat (IntKind.wrap IntKind.u64 (Int.tmod y (10 : Int) + (1 : Int)))) : Int))) ∧
   (ByteArray.size (ByteArray.extract (bs [(48 : UInt8), (49 : UInt8), (50 : UInt8), (51 : UInt8), (52 : UInt8), (53 : UInt8), (54 : UInt8), (55 : UInt8), (56 : UInt8), (57 : UInt8)]) (Int.toNat (Int.tmod y (10 : Int))) (Int.toNat (IntKind.wrap IntKind.u64 (Int.tmod y (10 : Int) + (1 : Int))))) + ByteArray.size s ≤ (9223372036854775807 : Nat)) ∧
   (∀ (j : Nat → AV) (jr : Nat → Row) (g : Nat), LoopAt E1 Tryz.f120 r 0 (ref07_Number_S0 x (IntKind.wrap IntKind.u64 (Int.tdiv y (10 : Int))) (ByteArray.extract (bs [(48 : UInt8), (49 : UInt8), (50 : UInt8), (51 : UInt8), (52 : UInt8), (53 : UInt8), (54 : UInt8), (55 : UInt8), (56 : UInt8), (57 : UInt8)]) (Int.toNat (Int.tmod y (10 : Int))) (Int.toNat (IntKind.wrap IntKind.u64 (Int.tmod y (10 : Int) + (1 : Int)))) ++ s) j jr g))) ∧
  ((decide (y > (9 : Int))) = false →
   (((0 : Int) ≤ IntKind.wrap IntKind.u64 (y + (1 : Int))) ∧ (IntKind.wrap IntKind.u64 (y + (1 : Int)) ≤ (10 : Int))) ∧
   (((0 : Int) ≤ y) ∧ (y ≤ (↑(Int.toNat (IntKind.wrap IntKind.u64 (y + (1 : Int)))) : Int))) ∧
   (ByteArray.size (ByteArray.extract (bs [(48 : UInt8), (49 : UInt8), (50 : UInt8), (51 : UInt8), (52 : UInt8), (53 : UInt8), (54 : UInt8), (55 : UInt8), (56 : UInt8), (57 : UInt8)]) (Int.toNat y) (Int.toNat (IntKind.wrap IntKind.u64 (y + (1 : Int))))) + ByteArray.size s ≤ (9223372036854775807 : Nat)) ∧
   ((.lit (.string (ByteArray.extract (bs [(48 : UInt8), (49 : UInt8), (50 : UInt8), (51 : UInt8), (52 : UInt8), (53 : UInt8), (54 : UInt8), (55 : UInt8), (56 : UInt8), (57 : UInt8)]) (Int.toNat y) (Int.toNat (IntKind.wrap IntKind.u64 (y + (1 : Int)))) ++ s))) : PV) = r)) := by kernel_rfl

def ref07_Same_S0 (v : V) (w : V) (i : Int) (j : Nat → AV) (jr : Nat → Row) (g : Nat) : St :=
  { t := [j (0 : Nat), j (1 : Nat), .mptr 0 2 0 0 0, .mptr 0 3 1 0 0, j (4 : Nat), intA i, j (6 : Nat), j (7 : Nat), j (8 : Nat), j (9 : Nat), j (10 : Nat), j (11 : Nat), j (12 : Nat), j (13 : Nat), j (14 : Nat), j (15 : Nat), j (16 : Nat), j (17 : Nat), j (18 : Nat), j (19 : Nat), j (20 : Nat), j (21 : Nat), j (22 : Nat), j (23 : Nat), j (24 : Nat), j (25 : Nat), j (26 : Nat), j (27 : Nat), j (28 : Nat), j (29 : Nat), j (30 : Nat), j (31 : Nat), j (32 : Nat), j (33 : Nat), j (34 : Nat), j (35 : Nat), j (36 : Nat), j (37 : Nat), j (38 : Nat), j (39 : Nat), j (40 : Nat), j (41 : Nat), j (42 : Nat), j (43 : Nat), j (44 : Nat), j (45 : Nat), j (46 : Nat), j (47 : Nat), j (48 : Nat), j (49 : Nat), j (50 : Nat), j (51 : Nat)], h := [[row0, row0, ⟨0, .box (.pv (V.p v)) false⟩, ⟨1, .box (.pv (V.p w)) false⟩] ++ List.replicate 48 row0], g := g }
theorem ref07_Same_go (v : V) (w : V) (r : PV) : FnGo E1 Tryz.f46 [V.p v, V.p w] r 2000 (.fork (.lit (.lit (.lit (.lit (.lit (.lit (.lit (.lit (.lit (.lit (.lit (.lit (.lit (.lit (.lit (.lit (.lit (.lit (.lit (.lit (.lit (.lit (.lit (.hole 0)))))))))))))))))))))))) (.lit (.lit (.lit (.lit (.lit (.lit (.fork (.lit (.lit (.lit (.lit (.lit (.lit (.lit (.lit (.lit (.lit (.lit (.lit (.lit (.lit (.lit (.lit (.hole 0))))))))))))))))) (.lit (.lit (.lit (.lit (.lit (.lit (.fork (.lit (.lit (.lit (.lit (.lit (.lit (.lit (.lit (.lit (.hole 0)))))))))) (.lit (.lit (.lit (.lit (.lit (.lit (.lit (.lit (.fork (.hole 0) (.mask [0, 1, 4, 6, 7, 8, 9, 10, 11, 12, 13, 14, 15, 16, 17, 18, 19, 20, 21, 22, 23, 24, 25, 26, 27, 28, 29, 30, 31, 32, 33, 34, 35, 36, 37, 38, 39, 40, 41, 42, 43, 44, 45, 46, 47, 48, 49, 50, 51] []))))))))))))))))))))))))) =
  (((0 : Nat) = 0) ∧
  ((1 : Nat) = 1) ∧
  ((V.a v != V.a w) = true →
   (bolP false) = r) ∧
  ((V.a v != V.a w) = false →
   ((0 : Nat) = 0) ∧
   ((1 : Nat) = 1) ∧
   ((V.b v != V.b w) = true →
    (bolP false) = r) ∧
   ((V.b v != V.b w) = false →
    ((0 : Nat) = 0) ∧
    ((1 : Nat) = 1) ∧
    ((V.c v != V.c w) = true →
     (bolP false) = r) ∧
    ((V.c v != V.c w) = false →
     ((0 : Nat) = 0) ∧
     ((1 : Nat) = 1) ∧
     (((↑(List.length (List.map strP (V.pre v))) : Int) != (↑(List.length (List.map strP (V.pre w))) : Int)) = true →
      (bolP false) = r) ∧
     (((↑(List.length (List.map strP (V.pre v))) : Int) != (↑(List.length (List.map strP (V.pre w))) : Int)) = false →
      ∀ (j : Nat → AV) (jr : Nat → Row) (g : Nat), LoopAt E1 Tryz.f46 r 0 (ref07_Same_S0 v w (0 : Int) j jr g)))))) := by kernel_rfl
theorem ref07_Same_go_S0 (v : V) (w : V) (i : Int) (j : Nat → AV) (jr : Nat → Row) (g : Nat) (r : PV) : LoopGo E1 Tryz.f46 r 0 2000 (.fork (.val (.lit (.string (bs (List.getD (V.pre v) (Int.toNat i) default)))) (.val (.lit (.string (bs (List.getD (V.pre w) (Int.toNat i) default)))) (.fork (.hole 0) (.mask [0, 1, 4, 6, 7, 8, 9, 10, 11, 12, 13, 14, 15, 16, 17, 18, 19, 20, 21, 22, 23, 24, 25, 26, 27, 28, 29, 30, 31, 32, 33, 34, 35, 36, 37, 38, 39, 40, 41, 42, 43, 44, 45, 46, 47, 48, 49, 50, 51] [])))) (.hole 0)) (ref07_Same_S0 v w i j jr g) =
  (((0 : Nat) = 0) ∧
  ((decide (i < (↑(List.length (List.map strP (V.pre v))) : Int))) = true →
   ((0 : Nat) = 0) ∧
   (((0 : Int) ≤ i) ∧ (((V.nl v) = false) ∧ ((V.k v) = 1))) ∧
   (((List.map strP (V.pre v))[Int.toNat i]?) = some (.lit (.string (bs (List.getD (V.pre v) (Int.toNat i) default))))) ∧
   ((1 : Nat) = 1) ∧
   (((0 : Int) ≤ i) ∧ (((V.nl w) = false) ∧ ((V.k w) = 1))) ∧
   (((List.map strP (V.pre w))[Int.toNat i]?) = some (.lit (.string (bs (List.getD (V.pre w) (Int.toNat i) default))))) ∧
   ((!ByteArray.toList (bs (List.getD (V.pre v) (Int.toNat i) default)) == ByteArray.toList (bs (List.getD (V.pre w) (Int.toNat i) default))) = true →
    (bolP false) = r) ∧
   ((!ByteArray.toList (bs (List.getD (V.pre v) (Int.toNat i) default)) == ByteArray.toList (bs (List.getD (V.pre w) (Int.toNat i) default))) = false →
    ∀ (j : Nat → AV) (jr : Nat → Row) (g : Nat), LoopAt E1 Tryz.f46 r 0 (ref07_Same_S0 v w (IntKind.wrap IntKind.i64 (i + (1 : Int))) j jr g))) ∧
  ((decide (i < (↑(List.length (List.map strP (V.pre v))) : Int))) = false →
   (bolP true) = r)) := by kernel_rfl
end Go.Proofs.YtlhfgonjcpapnaaGreatDoor.Abs

/- What the small functions give: digits, comparisons, edges. -/
set_option linter.unusedVariables false
set_option linter.unusedSimpArgs false
namespace Go.Proofs.YtlhfgonjcpapnaaGreatDoor.Abs
open Go Go.Proofs

/-- a function at values: its conditions -/
theorem den1 {f : FuncId} {fn : Func} {ps : List PV} {r : PV} (n : Nat) (scr : Scr) (hi : E1.intr f = none) (hf : E1.P.funcs[f]? = some fn) (hb : fn.body.isSome = true) (hinl : E1.inl f = false) (hown : E1.own f = false) (h : FnGo E1 fn ps r n scr) (hok : E1.ok f = true := by rfl) : Den E1 f ps r :=
  den_go n scr hi hf hb hok hinl hown h

def isDig (b : UInt8) : Bool := decide (48 ≤ b.toNat) && decide (b.toNat ≤ 57)
def digitsL (l : List UInt8) : Bool := l.all isDig && !l.isEmpty

theorem drop_all {l : List UInt8} {i : Nat} (h : i < l.length) (p : UInt8 → Bool) : (l.drop i).all p = (p l[i] && (l.drop (i + 1)).all p) := by
  rw [List.drop_eq_getElem_cons h, List.all_cons]
theorem getD_lt {α : Type} {l : List α} {i : Nat} (h : i < l.length) (d : α) : l.getD i d = l[i] := by
  simp [List.getD_eq_getElem?_getD, h]

theorem den_version_digits (l : List UInt8) (hl : small l.length) : Den E1 108 [strP l] (bolP (digitsL l)) := by
  refine den1 2000 _ rfl (by kernel_rfl) rfl rfl rfl (Eq.mpr (version_digits_go l _) fun j jr g => ?_)
  have H : ∀ (n i : Nat) j jr g, i + n = l.length → digitsL l = ((l.drop i).all isDig && !l.isEmpty) → LoopAt E1 Tryz.f108 (bolP (digitsL l)) 0 (version_digits_S0 l i j jr g) := by
    intro n
    induction n with
    | zero =>
      intro i j jr g hi hd
      refine loop_go 2000 _ (Eq.mpr (version_digits_go_S0 l i j jr g _) ⟨fun h => ?_, fun h => ?_⟩)
      · simp [size_bs] at h; omega
      · rw [hd, List.drop_eq_nil_of_le (by omega)]
        simp [toList_bs]
    | succ n ih =>
      intro i j jr g hi hd
      have hlt : i < l.length := by omega
      rw [drop_all hlt] at hd
      refine loop_go 2000 _ (Eq.mpr (version_digits_go_S0 l i j jr g _) ⟨fun h => ?_, fun h => ?_⟩)
      · simp only [Int.toNat_natCast, getD_lt hlt, size_bs]
        refine ⟨⟨by omega, hlt⟩, fun h1 => ?_, fun h1 => ⟨⟨by omega, hlt⟩, fun h2 => ?_, fun h2 j jr g => ?_⟩⟩
        · rw [hd]; simp only [decide_eq_true_eq] at h1; simp [isDig]; omega
        · rw [hd]; simp only [decide_eq_true_eq] at h2; simp [isDig]; omega
        · simp only [decide_eq_false_iff_not] at h1 h2
          have : isDig l[i] = true := by simp [isDig]; omega
          rw [this, Bool.true_and] at hd
          rw [wrap_i64 _ (by omega) (by unfold small at hl; omega)]
          exact ih (i + 1) j jr g (by omega) hd
      · simp [size_bs] at h; omega
  exact H l.length 0 j jr g (by omega) (by simp [digitsL])
theorem den_ref07_digits (l : List UInt8) (hl : small l.length) : Den E1 104 [strP l] (bolP (digitsL l)) := by
  refine den1 2000 _ rfl (by kernel_rfl) rfl rfl rfl (Eq.mpr (ref07_digits_go l _) fun j jr g => ?_)
  have H : ∀ (n i : Nat) j jr g, i + n = l.length → digitsL l = ((l.drop i).all isDig && !l.isEmpty) → LoopAt E1 Tryz.f104 (bolP (digitsL l)) 0 (ref07_digits_S0 l i j jr g) := by
    intro n
    induction n with
    | zero =>
      intro i j jr g hi hd
      refine loop_go 2000 _ (Eq.mpr (ref07_digits_go_S0 l i j jr g _) ⟨fun h => ?_, fun h => ?_⟩)
      · simp [size_bs] at h; omega
      · rw [hd, List.drop_eq_nil_of_le (by omega)]
        simp [toList_bs]
    | succ n ih =>
      intro i j jr g hi hd
      have hlt : i < l.length := by omega
      rw [drop_all hlt] at hd
      refine loop_go 2000 _ (Eq.mpr (ref07_digits_go_S0 l i j jr g _) ⟨fun h => ?_, fun h => ?_⟩)
      · simp only [Int.toNat_natCast, getD_lt hlt, size_bs]
        refine ⟨⟨by omega, hlt⟩, fun h1 => ?_, fun h1 => ⟨⟨by omega, hlt⟩, fun h2 => ?_, fun h2 j jr g => ?_⟩⟩
        · rw [hd]; simp only [decide_eq_true_eq] at h1; simp [isDig]; omega
        · rw [hd]; simp only [decide_eq_true_eq] at h2; simp [isDig]; omega
        · simp only [decide_eq_false_iff_not] at h1 h2
          have : isDig l[i] = true := by simp [isDig]; omega
          rw [this, Bool.true_and] at hd
          rw [wrap_i64 _ (by omega) (by unfold small at hl; omega)]
          exact ih (i + 1) j jr g (by omega) hd
      · simp [size_bs] at h; omega
  exact H l.length 0 j jr g (by omega) (by simp [digitsL])

def plainL (l : List UInt8) : Bool := l.length == 1 || (l.getD 0 0).toNat != 48
theorem den_version_plain (l : List UInt8) (h0 : l ≠ []) : Den E1 109 [strP l] (bolP (plainL l)) := by
  refine den1 2000 _ rfl (by kernel_rfl) rfl rfl rfl (Eq.mpr (version_plain_go l _) ⟨fun h => ?_, fun h => ?_⟩)
  · simp only [size_bs, beq_iff_eq] at h
    have : l.length = 1 := by omega
    simp [plainL, this]
  · have : 0 < l.length := List.length_pos_iff.2 h0
    refine ⟨⟨by omega, this⟩, ?_⟩
    simp only [size_bs, beq_eq_false_iff_ne, ne_eq] at h
    have h1 : (l.length == 1) = false := by simp; omega
    have h2 : (((l.getD 0 0).toNat : Int) != 48) = ((l.getD 0 0).toNat != 48) := by rw [Bool.eq_iff_iff]; simp; omega
    simp only [plainL, h1, Bool.false_or, ← h2]
def cmpI (x y : Int) : Int := if x < y then -1 else if x > y then 1 else 0
theorem den_ref07_cmp (x y : Int) : Den E1 118 [.lit (.int .u32 x), .lit (.int .u32 y)] (intP (cmpI x y)) := by
  refine den1 2000 _ rfl (by kernel_rfl) rfl rfl rfl (Eq.mpr (ref07_cmp_go x y _) ⟨fun h => ?_, fun h => ⟨fun h2 => ?_, fun h2 => ?_⟩⟩)
  · simp at h; simp [cmpI, h]
  · simp at h h2; simp [cmpI, h2, show ¬ x < y by omega]
  · simp at h h2; simp [cmpI, show ¬ x < y by omega, show ¬ y < x by omega]
theorem den_isNaN_uint32 (x : Int) : Den E1 147 [.lit (.int .u32 x)] (bolP false) :=
  den1 2000 _ rfl (by kernel_rfl) rfl rfl rfl (Eq.mpr (cmp_isNaN_uint32_go x _) (by simp))
theorem den_isNaN_int (x : Int) : Den E1 148 [intP x] (bolP false) :=
  den1 2000 _ rfl (by kernel_rfl) rfl rfl rfl (Eq.mpr (cmp_isNaN_int_go x _) (by simp))
theorem den_isNaN_string (l : List UInt8) : Den E1 175 [strP l] (bolP false) :=
  den1 2000 _ rfl (by kernel_rfl) rfl rfl rfl (Eq.mpr (cmp_isNaN_string_go l _) (by simp))
def or3 (x y z : Int) : Int := if x ≠ 0 then x else if y ≠ 0 then y else z
theorem den_Or (x y z : Int) : Den E1 122 [.sl 1 false true [intP x, intP y, intP z]] (intP (or3 x y z)) := by
  refine den1 2000 _ rfl (by kernel_rfl) rfl rfl rfl (Eq.mpr (cmp_Or_int_go x y z _) ?_)
  by_cases hx : x = 0
  · by_cases hy : y = 0
    · by_cases hz : z = 0 <;> simp [or3, hx, hy, hz]
    · simp [or3, hx, hy]
  · simp [or3, hx]
def I.low (x : I) : Ed := ⟨x.lo, x.lopen, false⟩
def I.high (x : I) : Ed := ⟨x.hi, !x.hopen, x.less⟩
theorem den_low (x : I) : Den E1 37 [x.p] (x.low.p) :=
  den1 2000 _ rfl (by kernel_rfl) rfl rfl rfl (Eq.mpr (span_low_go x _) ⟨rfl, rfl, rfl, rfl⟩)
theorem den_high (x : I) : Den E1 38 [x.p] (x.high.p) :=
  den1 2000 _ rfl (by kernel_rfl) rfl rfl rfl (Eq.mpr (span_high_go x _) ⟨rfl, rfl, rfl, rfl, rfl⟩)
theorem ex_frz {v : AV} {h : Heap} {r : PV} (h1 : (frz frzDepth v h).map (·.1) = some r) : ∃ hp, frz frzDepth v h = some (r, hp) := by
  simp only [Option.map_eq_some_iff] at h1
  obtain ⟨⟨p, hp⟩, h1, rfl⟩ := h1
  exact ⟨hp, h1⟩
def bottomV : V := ⟨0, 0, 0, 1, false, true, [[48]]⟩
def bottomE : Ed := ⟨bottomV, false, false⟩
theorem den_bottom : Den E1 76 [] bottomE.p := by
  have h := span_bottom_go bottomE.p
  refine den1 (fn := Tryz.f76) 2000 (.hole 0) rfl (by kernel_rfl) rfl rfl rfl ?_
  rw [h]
  exact ⟨rfl, ex_frz (by kernel_rfl)⟩
theorem den_ref08_Bottom : Den E1 81 [] bottomV.p := by
  have h := ref08_Bottom_go bottomV.p
  refine den1 (fn := Tryz.f81) 2000 (.hole 0) rfl (by kernel_rfl) rfl rfl rfl ?_
  rw [h]
  exact ⟨rfl, ex_frz (by kernel_rfl)⟩

/-- decimal digits -/
def numL (n : Nat) : List UInt8 := if h : n < 10 then [UInt8.ofNat (48 + n)] else numL (n / 10) ++ [UInt8.ofNat (48 + n % 10)]
theorem digit_extract (d : Nat) (h : d < 10) : ByteArray.extract (bs [48, 49, 50, 51, 52, 53, 54, 55, 56, 57]) d (d + 1) = bs [UInt8.ofNat (48 + d)] := by
  have : d = 0 ∨ d = 1 ∨ d = 2 ∨ d = 3 ∨ d = 4 ∨ d = 5 ∨ d = 6 ∨ d = 7 ∨ d = 8 ∨ d = 9 := by omega
  rcases this with rfl | rfl | rfl | rfl | rfl | rfl | rfl | rfl | rfl | rfl <;> rfl
theorem bs_append (a b : List UInt8) : bs a ++ bs b = bs (a ++ b) := by
  apply ByteArray.ext
  simp [ByteArray.data_append]
theorem numL_length (n k : Nat) (h : n < 10 ^ (k + 1)) : (numL n).length ≤ k + 1 := by
  induction k generalizing n with
  | zero => rw [numL]; simp at h; simp [h]
  | succ k ih =>
    rw [numL]
    split
    · simp
    · have := ih (n / 10) (by rw [Nat.div_lt_iff_lt_mul (by omega)]; rw [Nat.pow_succ] at h; exact h)
      simp; omega
theorem den_ref07_Number (x : Nat) (hx : x < 18446744073709551616) : Den E1 120 [.lit (.int .u64 x)] (strP (numL x)) := by
  refine den1 2000 _ rfl (by kernel_rfl) rfl rfl rfl (Eq.mpr (ref07_Number_go x _) fun j jr g => ?_)
  have H : ∀ (k n : Nat) (s : List UInt8) j jr g, n < 10 ^ (k + 1) → n < 18446744073709551616 → k + s.length ≤ 30 → numL n ++ s = numL x → LoopAt E1 Tryz.f120 (strP (numL x)) 0 (ref07_Number_S0 x n (bs s) j jr g) := by
    intro k
    induction k with
    | zero =>
      intro n s j jr g hk hn hs hd
      refine loop_go 2000 _ (Eq.mpr (ref07_Number_go_S0 x n (bs s) j jr g _) ⟨fun h => ?_, fun h => ?_⟩)
      · simp at h hk; omega
      · simp at h
        have h1 : IntKind.wrap IntKind.u64 ((n : Int) + 1) = ((n + 1 : Nat) : Int) := wrap_u64 _ (by omega) (by omega)
        rw [h1]
        simp only [Int.toNat_natCast]
        rw [digit_extract n (by omega), bs_append]
        refine ⟨⟨by omega, by omega⟩, ⟨by omega, by omega⟩, by simp only [size_bs, List.length_cons, List.length_nil]; omega, ?_⟩
        rw [← hd, numL, dif_pos (by omega)]
        rfl
    | succ k ih =>
      intro n s j jr g hk hn hs hd
      refine loop_go 2000 _ (Eq.mpr (ref07_Number_go_S0 x n (bs s) j jr g _) ⟨fun h => ?_, fun h => ?_⟩)
      · simp at h
        have hm : Int.tmod (n : Int) 10 = ((n % 10 : Nat) : Int) := rfl
        have hq : Int.tdiv (n : Int) 10 = ((n / 10 : Nat) : Int) := rfl
        rw [hm, hq]
        have h1 : IntKind.wrap IntKind.u64 (((n % 10 : Nat) : Int) + 1) = ((n % 10 + 1 : Nat) : Int) := wrap_u64 _ (by omega) (by omega)
        have h2 : IntKind.wrap IntKind.u64 ((n / 10 : Nat) : Int) = ((n / 10 : Nat) : Int) := wrap_u64 _ (by omega) (by omega)
        rw [h1, h2]
        simp only [Int.toNat_natCast]
        rw [digit_extract (n % 10) (by omega), bs_append]
        refine ⟨⟨by omega, by omega⟩, ⟨by omega, by omega⟩, by simp only [size_bs, List.length_cons, List.length_nil]; omega, fun j jr g => ?_⟩
        refine ih (n / 10) _ j jr g (by rw [Nat.div_lt_iff_lt_mul (by omega)]; rw [Nat.pow_succ] at hk; exact hk) (by omega) (by simp; omega) ?_
        have hn2 : numL n = numL (n / 10) ++ [UInt8.ofNat (48 + n % 10)] := by rw [numL, dif_neg (by omega)]
        rw [← hd, hn2]
        simp
      · simp at h
        have h1 : IntKind.wrap IntKind.u64 ((n : Int) + 1) = ((n + 1 : Nat) : Int) := wrap_u64 _ (by omega) (by omega)
        rw [h1]
        simp only [Int.toNat_natCast]
        rw [digit_extract n (by omega), bs_append]
        refine ⟨⟨by omega, by omega⟩, ⟨by omega, by omega⟩, by simp only [size_bs, List.length_cons, List.length_nil]; omega, ?_⟩
        rw [← hd, numL, dif_pos (by omega)]
        rfl
  exact H 19 x [] j jr g (by omega) hx (by simp) (by simp)

def sameV (v w : V) : Bool := v.a == w.a && v.b == w.b && v.c == w.c && v.pre == w.pre
theorem cons_beq (a b : List UInt8) (x y : List (List UInt8)) : (a :: x == b :: y) = (a == b && x == y) := rfl
theorem map_get {l : List (List UInt8)} {i : Nat} (h : i < l.length) : (List.map strP l)[i]? = some (.lit (.string (bs (l.getD i default)))) := by
  simp [h, strP]
theorem den_Same (v w : V) (hv : v.ok) (hw : w.ok) : Den E1 46 [v.p, w.p] (bolP (sameV v w)) := by
  refine den1 2000 _ rfl (by kernel_rfl) rfl rfl rfl (Eq.mpr (ref07_Same_go v w _) ?_)
  refine ⟨rfl, rfl, fun h => by simp at h; simp [sameV, h], fun ha => ⟨rfl, rfl, fun h => by simp at h; simp [sameV, h], fun hb => ⟨rfl, rfl, fun h => by simp at h; simp [sameV, h], fun hc => ⟨rfl, rfl, fun h => ?_, fun hlen j jr g => ?_⟩⟩⟩⟩
  · simp at h
    have : (v.pre == w.pre) = false := by simp; intro e; exact h (by rw [e])
    simp [sameV, this]
  simp only [bne_eq_false_iff_eq] at ha hb hc
  simp only [List.length_map, bne_eq_false_iff_eq] at hlen
  have hlen : v.pre.length = w.pre.length := by omega
  have H : ∀ (n i : Nat) j jr g, i + n = v.pre.length → sameV v w = (v.pre.drop i == w.pre.drop i) → LoopAt E1 Tryz.f46 (bolP (sameV v w)) 0 (ref07_Same_S0 v w i j jr g) := by
    intro n
    induction n with
    | zero =>
      intro i j jr g hi hd
      refine loop_go 2000 _ (Eq.mpr (ref07_Same_go_S0 v w i j jr g _) ⟨rfl, fun h => ?_, fun h => ?_⟩)
      · simp at h; omega
      · rw [hd, List.drop_eq_nil_of_le (by omega), List.drop_eq_nil_of_le (by omega)]; rfl
    | succ n ih =>
      intro i j jr g hi hd
      have h1 : i < v.pre.length := by omega
      have h2 : i < w.pre.length := by omega
      rw [List.drop_eq_getElem_cons h1, List.drop_eq_getElem_cons h2, cons_beq] at hd
      refine loop_go 2000 _ (Eq.mpr (ref07_Same_go_S0 v w i j jr g _) ⟨rfl, fun h => ?_, fun h => ?_⟩)
      · simp only [Int.toNat_natCast, getD_lt h1, getD_lt h2, toList_bs]
        refine ⟨trivial, ⟨by omega, sl_at hv.sl h1⟩, by simp [h1, strP], trivial, ⟨by omega, sl_at hw.sl h2⟩, by simp [h2, strP], fun h3 => ?_, fun h3 j jr g => ?_⟩
        · rw [hd]; simp at h3; simp [h3]
        · simp at h3
          rw [wrap_i64 _ (by omega) (by have := hv.len; unfold small at this; omega)]
          exact ih (i + 1) j jr g (by omega) (by rw [hd, h3]; simp)
      · simp at h; omega
  exact H v.pre.length 0 j jr g (by omega) (by simp [sameV, ha, hb, hc])
end Go.Proofs.YtlhfgonjcpapnaaGreatDoor.Abs

/- The order of versions; which may be: what the functions compute. -/
set_option linter.unusedVariables false
set_option linter.unusedSimpArgs false
namespace Go.Proofs.YtlhfgonjcpapnaaGreatDoor.Abs
open Go Go.Proofs

def cmpS (a b : List UInt8) : Int := if Op.bytesLess a b then -1 else if a == b then 0 else 1
def ordL (a b : List UInt8) : Int :=
  if digitsL a && !digitsL b then -1
  else if !digitsL a && digitsL b then 1
  else if digitsL a && digitsL b && cmpI a.length b.length != 0 then cmpI a.length b.length
  else cmpS a b
def cmpP : List (List UInt8) → List (List UInt8) → Int
  | [], [] => 0
  | [], _ :: _ => -1
  | _ :: _, [] => 1
  | a :: x, b :: y => if ordL a b ≠ 0 then ordL a b else cmpP x y
def cmpN (v w : V) : Int := or3 (cmpI v.a w.a) (cmpI v.b w.b) (cmpI v.c w.c)
def cmpV (v w : V) : Int :=
  if cmpN v w ≠ 0 then cmpN v w
  else if v.pre.length = 0 ∨ w.pre.length = 0 then cmpI w.pre.length v.pre.length
  else cmpP v.pre w.pre

def identC (b : UInt8) : Bool := isDig b || (decide (97 ≤ b.toNat) && decide (b.toNat ≤ 122)) || b.toNat == 45
def identL (s : List UInt8) : Bool := !s.isEmpty && decide (s.length ≤ 16) && s.all identC && (!digitsL s || plainL s)
def mayV (v : V) : Bool := decide (v.a ≤ 2147483647) && decide (v.b ≤ 2147483647) && decide (v.c ≤ 2147483647) && decide (v.pre.length ≤ 8) && v.pre.all identL
def firstI (p : List UInt8 → Bool) (l : List (List UInt8)) : Int := if l.findIdx p < l.length then (l.findIdx p : Int) else -1
def errV (b : Bool) : Int := if b then 0 else 70
end Go.Proofs.YtlhfgonjcpapnaaGreatDoor.Abs

/- Conditions of functions and their loops, printed by a program and checked by computing. -/
set_option linter.unusedVariables false
namespace Go.Proofs.YtlhfgonjcpapnaaGreatDoor.Abs
open Go Go.Proofs

theorem cmp_Compare_uint32_go (x : Int) (y : Int) (r : PV) : FnGo E1 Tryz.f123 [.lit (.int .u32 x), .lit (.int .u32 y)] r 2000 (.res (bolP false) (.res (bolP false) (.lit (.lit (.fork (.hole 0) (.fork (.hole 0) (.hole 0))))))) =
  ((Den E1 147 [.lit (.int .u32 x)] (bolP false)) ∧
  (Den E1 147 [.lit (.int .u32 y)] (bolP false)) ∧
  ((decide (x < y)) = true →
   (intP (-1)) = r) ∧
  ((decide (x < y)) = false →
   ((decide (x > y)) = true →
    (intP 1) = r) ∧
   ((decide (x > y)) = false →
    (intP 0) = r))) := by kernel_rfl

theorem cmp_Compare_int_go (x : Int) (y : Int) (r : PV) : FnGo E1 Tryz.f124 [intP x, intP y] r 2000 (.res (bolP false) (.res (bolP false) (.lit (.lit (.fork (.hole 0) (.fork (.hole 0) (.hole 0))))))) =
  ((Den E1 148 [intP x] (bolP false)) ∧
  (Den E1 148 [intP y] (bolP false)) ∧
  ((decide (x < y)) = true →
   (intP (-1)) = r) ∧
  ((decide (x < y)) = false →
   ((decide (x > y)) = true →
    (intP 1) = r) ∧
   ((decide (x > y)) = false →
    (intP 0) = r))) := by kernel_rfl

theorem cmp_Compare_string_go (a : List UInt8) (b : List UInt8) (r : PV) : FnGo E1 Tryz.f149 [.lit (.string (bs a)), .lit (.string (bs b))] r 2000 (.res (bolP false) (.res (bolP false) (.lit (.lit (.fork (.hole 0) (.fork (.hole 0) (.hole 0))))))) =
  ((Den E1 175 [.lit (.string (bs a))] (bolP false)) ∧
  (Den E1 175 [.lit (.string (bs b))] (bolP false)) ∧
  ((Op.bytesLess (ByteArray.toList (bs a)) (ByteArray.toList (bs b))) = true →
   (intP (-1)) = r) ∧
  ((Op.bytesLess (ByteArray.toList (bs a)) (ByteArray.toList (bs b))) = false →
   ((!(Op.bytesLess (ByteArray.toList (bs a)) (ByteArray.toList (bs b)) || ByteArray.toList (bs a) == ByteArray.toList (bs b))) = true →
    (intP 1) = r) ∧
   ((!(Op.bytesLess (ByteArray.toList (bs a)) (ByteArray.toList (bs b)) || ByteArray.toList (bs a) == ByteArray.toList (bs b))) = false →
    (intP 0) = r))) := by kernel_rfl

theorem version_order_go (a : List UInt8) (b : List UInt8) (r : PV) : FnGo E1 Tryz.f126 [.lit (.string (bs a)), .lit (.string (bs b))] r 2000 (.resB (digitsL a) (.resB (digitsL b) (.lit (.lit (.lit (.res (intP (cmpI (↑(ByteArray.size (bs a)) : Int) (↑(ByteArray.size (bs b)) : Int))) (.fork (.hole 0) (.res (intP (cmpS a b)) (.hole 0))))))) (.lit (.hole 0))) (.resB (digitsL b) (.lit (.lit (.hole 0))) (.lit (.lit (.lit (.res (intP (cmpS a b)) (.hole 0))))))) =
  ((Den E1 108 [.lit (.string (bs a))] (bolP (digitsL a))) ∧
  ((digitsL a) = true →
   (Den E1 108 [.lit (.string (bs b))] (bolP (digitsL b))) ∧
   ((digitsL b) = true →
    ((6 : Nat) = 6) ∧
    ((6 : Nat) = 6) ∧
    ((6 : Nat) = 6) ∧
    ((6 : Nat) = 6) ∧
    (Den E1 124 [intP ((↑(ByteArray.size (bs a)) : Int)), intP ((↑(ByteArray.size (bs b)) : Int))] (intP (cmpI (↑(ByteArray.size (bs a)) : Int) (↑(ByteArray.size (bs b)) : Int)))) ∧
    ((cmpI (↑(ByteArray.size (bs a)) : Int) (↑(ByteArray.size (bs b)) : Int) != (0 : Int)) = true →
     (intP (cmpI (↑(ByteArray.size (bs a)) : Int) (↑(ByteArray.size (bs b)) : Int))) = r) ∧
    ((cmpI (↑(ByteArray.size (bs a)) : Int) (↑(ByteArray.size (bs b)) : Int) != (0 : Int)) = false →
     (Den E1 149 [.lit (.string (bs a)), .lit (.string (bs b))] (intP (cmpS a b))) ∧
     (intP (cmpS a b)) = r)) ∧
   ((digitsL b) = false →
    ((6 : Nat) = 6) ∧
    ((6 : Nat) = 6) ∧
    (intP (-1)) = r)) ∧
  ((digitsL a) = false →
   (Den E1 108 [.lit (.string (bs b))] (bolP (digitsL b))) ∧
   ((digitsL b) = true →
    ((6 : Nat) = 6) ∧
    ((6 : Nat) = 6) ∧
    ((6 : Nat) = 6) ∧
    (intP 1) = r) ∧
   ((digitsL b) = false →
    ((6 : Nat) = 6) ∧
    ((6 : Nat) = 6) ∧
    ((6 : Nat) = 6) ∧
    ((6 : Nat) = 6) ∧
    (Den E1 149 [.lit (.string (bs a)), .lit (.string (bs b))] (intP (cmpS a b))) ∧
    (intP (cmpS a b)) = r))) := by kernel_rfl

theorem ref07_order_go (a : List UInt8) (b : List UInt8) (r : PV) : FnGo E1 Tryz.f119 [.lit (.string (bs a)), .lit (.string (bs b))] r 2000 (.fork (.hole 0) (.resB (digitsL a) (.resB (digitsL b) (.lit (.lit (.lit (.lit (.lit (.lit (.lit (.lit (.fork (.fork (.hole 0) (.hole 0)) (.fork (.hole 0) (.hole 0))))))))))) (.lit (.lit (.hole 0)))) (.resB (digitsL b) (.lit (.lit (.hole 0))) (.lit (.lit (.lit (.lit (.lit (.lit (.lit (.lit (.lit (.fork (.hole 0) (.hole 0)))))))))))))) =
  (((ByteArray.toList (bs a) == ByteArray.toList (bs b)) = true →
   (intP 0) = r) ∧
  ((ByteArray.toList (bs a) == ByteArray.toList (bs b)) = false →
   (Den E1 104 [.lit (.string (bs a))] (bolP (digitsL a))) ∧
   ((digitsL a) = true →
    (Den E1 104 [.lit (.string (bs b))] (bolP (digitsL b))) ∧
    ((digitsL b) = true →
     (((↑(ByteArray.size (bs a)) : Int) != (↑(ByteArray.size (bs b)) : Int)) = true →
      ((decide ((↑(ByteArray.size (bs a)) : Int) < (↑(ByteArray.size (bs b)) : Int))) = true →
       (intP (-1)) = r) ∧
      ((decide ((↑(ByteArray.size (bs a)) : Int) < (↑(ByteArray.size (bs b)) : Int))) = false →
       (intP 1) = r)) ∧
     (((↑(ByteArray.size (bs a)) : Int) != (↑(ByteArray.size (bs b)) : Int)) = false →
      ((Op.bytesLess (ByteArray.toList (bs a)) (ByteArray.toList (bs b))) = true →
       (intP (-1)) = r) ∧
      ((Op.bytesLess (ByteArray.toList (bs a)) (ByteArray.toList (bs b))) = false →
       (intP 1) = r))) ∧
    ((digitsL b) = false →
     (intP (-1)) = r)) ∧
   ((digitsL a) = false →
    (Den E1 104 [.lit (.string (bs b))] (bolP (digitsL b))) ∧
    ((digitsL b) = true →
     (intP 1) = r) ∧
    ((digitsL b) = false →
     ((Op.bytesLess (ByteArray.toList (bs a)) (ByteArray.toList (bs b))) = true →
      (intP (-1)) = r) ∧
     ((Op.bytesLess (ByteArray.toList (bs a)) (ByteArray.toList (bs b))) = false →
      (intP 1) = r))))) := by kernel_rfl

def slices_CompareFunc_string_string_string_string_S0 (x : List (List UInt8)) (y : List (List UInt8)) (k : Nat) (k' : Nat) (nl : Bool) (full : Bool) (nl' : Bool) (full' : Bool) (i : Int) (j : Nat → AV) (jr : Nat → Row) (g : Nat) : St :=
  { t := [.pv (.sl k nl full (List.map strP x)), .pv (.sl k' nl' full' (List.map strP y)), .pv (.clo (.func 126) [] []), j (3 : Nat), j (4 : Nat), j (5 : Nat), j (6 : Nat), j (7 : Nat), j (8 : Nat), j (9 : Nat), j (10 : Nat), .pv (.sl k nl full (List.map strP x)), intA ((↑(List.length (List.map strP x)) : Int)), intA i, j (14 : Nat), j (15 : Nat), j (16 : Nat), j (17 : Nat), j (18 : Nat), j (19 : Nat), j (20 : Nat), j (21 : Nat), j (22 : Nat), j (23 : Nat), j (24 : Nat), j (25 : Nat), j (26 : Nat), j (27 : Nat), j (28 : Nat), j (29 : Nat), j (30 : Nat), j (31 : Nat), j (32 : Nat), j (33 : Nat), undefA, undefA, undefA, undefA, undefA], h := [List.replicate 39 row0], g := g }
theorem slices_CompareFunc_string_string_string_string_go (x : List (List UInt8)) (y : List (List UInt8)) (k : Nat) (k' : Nat) (nl : Bool) (full : Bool) (nl' : Bool) (full' : Bool) (r : PV) : FnGo E1 Tryz.f125 [.sl k nl full (List.map strP x), .sl k' nl' full' (List.map strP y), .clo (.func 126) [] []] r 2000 (.mask [3, 4, 5, 6, 7, 8, 9, 10, 14, 15, 16, 17, 18, 19, 20, 21, 22, 23, 24, 25, 26, 27, 28, 29, 30, 31, 32, 33] []) =
  (∀ (j : Nat → AV) (jr : Nat → Row) (g : Nat), LoopAt E1 Tryz.f125 r 0 (slices_CompareFunc_string_string_string_string_S0 x y k k' nl full nl' full' (0 : Int) j jr g)) := by kernel_rfl
theorem slices_CompareFunc_string_string_string_string_go_S0 (x : List (List UInt8)) (y : List (List UInt8)) (k : Nat) (k' : Nat) (nl : Bool) (full : Bool) (nl' : Bool) (full' : Bool) (i : Int) (j : Nat → AV) (jr : Nat → Row) (g : Nat) (r : PV) : LoopGo E1 Tryz.f125 r 0 2000 (.fork (.val (.lit (.string (bs (List.getD x (Int.toNat i) default)))) (.fork (.hole 0) (.val (.lit (.string (bs (List.getD y (Int.toNat i) default)))) (.res (intP (ordL (List.getD x (Int.toNat i) default) (List.getD y (Int.toNat i) default))) (.fork (.hole 0) (.mask [3, 4, 5, 6, 7, 8, 9, 10, 14, 15, 16, 17, 18, 19, 20, 21, 22, 23, 24, 25, 26, 27, 28, 29, 30, 31, 32, 33] [])))))) (.fork (.hole 0) (.hole 0))) (slices_CompareFunc_string_string_string_string_S0 x y k k' nl full nl' full' i j jr g) =
  (((decide (i < (↑(List.length (List.map strP x)) : Int))) = true →
   (((0 : Int) ≤ i) ∧ ((nl = false) ∧ (k = 1))) ∧
   (((List.map strP x)[Int.toNat i]?) = some (.lit (.string (bs (List.getD x (Int.toNat i) default))))) ∧
   ((decide (i ≥ (↑(List.length (List.map strP y)) : Int))) = true →
    (intP 1) = r) ∧
   ((decide (i ≥ (↑(List.length (List.map strP y)) : Int))) = false →
    (((0 : Int) ≤ i) ∧ ((nl' = false) ∧ (k' = 1))) ∧
    (((List.map strP y)[Int.toNat i]?) = some (.lit (.string (bs (List.getD y (Int.toNat i) default))))) ∧
    (Den E1 126 [.lit (.string (bs (List.getD x (Int.toNat i) default))), .lit (.string (bs (List.getD y (Int.toNat i) default)))] (intP (ordL (List.getD x (Int.toNat i) default) (List.getD y (Int.toNat i) default)))) ∧
    ((ordL (List.getD x (Int.toNat i) default) (List.getD y (Int.toNat i) default) != (0 : Int)) = true →
     (intP (ordL (List.getD x (Int.toNat i) default) (List.getD y (Int.toNat i) default))) = r) ∧
    ((ordL (List.getD x (Int.toNat i) default) (List.getD y (Int.toNat i) default) != (0 : Int)) = false →
     ∀ (j : Nat → AV) (jr : Nat → Row) (g : Nat), LoopAt E1 Tryz.f125 r 0 (slices_CompareFunc_string_string_string_string_S0 x y k k' nl full nl' full' (IntKind.wrap IntKind.i64 (i + (1 : Int))) j jr g)))) ∧
  ((decide (i < (↑(List.length (List.map strP x)) : Int))) = false →
   ((decide ((↑(List.length (List.map strP x)) : Int) < (↑(List.length (List.map strP y)) : Int))) = true →
    (intP (-1)) = r) ∧
   ((decide ((↑(List.length (List.map strP x)) : Int) < (↑(List.length (List.map strP y)) : Int))) = false →
    (intP 0) = r))) := by kernel_rfl

theorem version_compare_go (v : V) (w : V) (r : PV) : FnGo E1 Tryz.f85 [V.p v, V.p w] r 2000 (.res (intP (cmpI (V.a v) (V.a w))) (.res (intP (cmpI (V.b v) (V.b w))) (.res (intP (cmpI (V.c v) (V.c w))) (.ev (.res (intP (or3 (cmpI (V.a v) (V.a w)) (cmpI (V.b v) (V.b w)) (cmpI (V.c v) (V.c w)))) (.fork (.hole 0) (.fork (.lit (.lit (.lit (.lit (.lit (.lit (.res (intP (cmpI (↑(List.length (List.map strP (V.pre w))) : Int) (↑(List.length (List.map strP (V.pre v))) : Int))) (.hole 0)))))))) (.lit (.lit (.lit (.lit (.lit (.fork (.res (intP (cmpI (↑(List.length (List.map strP (V.pre w))) : Int) (↑(List.length (List.map strP (V.pre v))) : Int))) (.hole 0)) (.res (intP (cmpP (V.pre v) (V.pre w))) (.hole 0))))))))))))))) =
  (((0 : Nat) = 0) ∧
  ((1 : Nat) = 1) ∧
  (Den E1 123 [.lit (.int .u32 (V.a v)), .lit (.int .u32 (V.a w))] (intP (cmpI (V.a v) (V.a w)))) ∧
  ((0 : Nat) = 0) ∧
  ((1 : Nat) = 1) ∧
  (Den E1 123 [.lit (.int .u32 (V.b v)), .lit (.int .u32 (V.b w))] (intP (cmpI (V.b v) (V.b w)))) ∧
  ((0 : Nat) = 0) ∧
  ((1 : Nat) = 1) ∧
  (Den E1 123 [.lit (.int .u32 (V.c v)), .lit (.int .u32 (V.c w))] (intP (cmpI (V.c v) (V.c w)))) ∧
  (Den E1 122 [.sl 1 false true [intP (cmpI (V.a v) (V.a w)), intP (cmpI (V.b v) (V.b w)), intP (cmpI (V.c v) (V.c w))]] (intP (or3 (cmpI (V.a v) (V.a w)) (cmpI (V.b v) (V.b w)) (cmpI (V.c v) (V.c w))))) ∧
  ((or3 (cmpI (V.a v) (V.a w)) (cmpI (V.b v) (V.b w)) (cmpI (V.c v) (V.c w)) != (0 : Int)) = true →
   (intP (or3 (cmpI (V.a v) (V.a w)) (cmpI (V.b v) (V.b w)) (cmpI (V.c v) (V.c w)))) = r) ∧
  ((or3 (cmpI (V.a v) (V.a w)) (cmpI (V.b v) (V.b w)) (cmpI (V.c v) (V.c w)) != (0 : Int)) = false →
   ((0 : Nat) = 0) ∧
   (((↑(List.length (List.map strP (V.pre v))) : Int) == (0 : Int)) = true →
    ((1 : Nat) = 1) ∧
    ((0 : Nat) = 0) ∧
    (Den E1 124 [intP ((↑(List.length (List.map strP (V.pre w))) : Int)), intP ((↑(List.length (List.map strP (V.pre v))) : Int))] (intP (cmpI (↑(List.length (List.map strP (V.pre w))) : Int) (↑(List.length (List.map strP (V.pre v))) : Int)))) ∧
    (intP (cmpI (↑(List.length (List.map strP (V.pre w))) : Int) (↑(List.length (List.map strP (V.pre v))) : Int))) = r) ∧
   (((↑(List.length (List.map strP (V.pre v))) : Int) == (0 : Int)) = false →
    ((1 : Nat) = 1) ∧
    (((↑(List.length (List.map strP (V.pre w))) : Int) == (0 : Int)) = true →
     ((1 : Nat) = 1) ∧
     ((0 : Nat) = 0) ∧
     (Den E1 124 [intP ((↑(List.length (List.map strP (V.pre w))) : Int)), intP ((↑(List.length (List.map strP (V.pre v))) : Int))] (intP (cmpI (↑(List.length (List.map strP (V.pre w))) : Int) (↑(List.length (List.map strP (V.pre v))) : Int)))) ∧
     (intP (cmpI (↑(List.length (List.map strP (V.pre w))) : Int) (↑(List.length (List.map strP (V.pre v))) : Int))) = r) ∧
    (((↑(List.length (List.map strP (V.pre w))) : Int) == (0 : Int)) = false →
     ((0 : Nat) = 0) ∧
     ((1 : Nat) = 1) ∧
     (Den E1 125 [.sl (V.k v) (V.nl v) (V.full v) (List.map strP (V.pre v)), .sl (V.k w) (V.nl w) (V.full w) (List.map strP (V.pre w)), .clo (.func 126) [] []] (intP (cmpP (V.pre v) (V.pre w)))) ∧
     (intP (cmpP (V.pre v) (V.pre w))) = r)))) := by kernel_rfl

def ref07_Cmp_S0 (v : V) (w : V) (i : Int) (j : Nat → AV) (jr : Nat → Row) (g : Nat) : St :=
  { t := [j (0 : Nat), j (1 : Nat), .mptr 0 2 0 0 0, .mptr 0 3 1 0 0, j (4 : Nat), j (5 : Nat), intA i, j (7 : Nat), j (8 : Nat), j (9 : Nat), j (10 : Nat), j (11 : Nat), j (12 : Nat), j (13 : Nat), j (14 : Nat), j (15 : Nat), j (16 : Nat), j (17 : Nat), j (18 : Nat), j (19 : Nat), j (20 : Nat), j (21 : Nat), j (22 : Nat), j (23 : Nat), j (24 : Nat), j (25 : Nat), j (26 : Nat), j (27 : Nat), j (28 : Nat), j (29 : Nat), j (30 : Nat), j (31 : Nat), j (32 : Nat), j (33 : Nat), j (34 : Nat), j (35 : Nat), j (36 : Nat), j (37 : Nat), j (38 : Nat), j (39 : Nat), j (40 : Nat), j (41 : Nat), j (42 : Nat), j (43 : Nat), j (44 : Nat), j (45 : Nat), j (46 : Nat), j (47 : Nat), j (48 : Nat), j (49 : Nat), j (50 : Nat), j (51 : Nat), j (52 : Nat), j (53 : Nat), j (54 : Nat), j (55 : Nat), j (56 : Nat), j (57 : Nat), j (58 : Nat), j (59 : Nat), j (60 : Nat), j (61 : Nat), j (62 : Nat), j (63 : Nat), j (64 : Nat), j (65 : Nat), j (66 : Nat), j (67 : Nat), j (68 : Nat), j (69 : Nat), j (70 : Nat), j (71 : Nat), j (72 : Nat), j (73 : Nat), j (74 : Nat), j (75 : Nat), j (76 : Nat), j (77 : Nat), j (78 : Nat), undefA, undefA, undefA, undefA, undefA, undefA, undefA, undefA, undefA], h := [[row0, row0, ⟨0, .box (.pv (V.p v)) false⟩, ⟨1, .box (.pv (V.p w)) false⟩] ++ List.replicate 84 row0], g := g }
theorem ref07_Cmp_go (v : V) (w : V) (r : PV) : FnGo E1 Tryz.f80 [V.p v, V.p w] r 2000 (.res (intP (cmpI (V.a v) (V.a w))) (.fork (.res (intP (cmpI (V.b v) (V.b w))) (.fork (.res (intP (cmpI (V.c v) (V.c w))) (.fork (.hole 0) (.fork (.lit (.lit (.lit (.lit (.lit (.lit (.fork (.hole 0) (.fork (.hole 0) (.hole 0))))))))) (.lit (.lit (.lit (.lit (.lit (.fork (.fork (.hole 0) (.fork (.hole 0) (.hole 0))) (.mask [0, 1, 4, 5, 7, 8, 9, 10, 11, 12, 13, 14, 15, 16, 17, 18, 19, 20, 21, 22, 23, 24, 25, 26, 27, 28, 29, 30, 31, 32, 33, 34, 35, 36, 37, 38, 39, 40, 41, 42, 43, 44, 45, 46, 47, 48, 49, 50, 51, 52, 53, 54, 55, 56, 57, 58, 59, 60, 61, 62, 63, 64, 65, 66, 67, 68, 69, 70, 71, 72, 73, 74, 75, 76, 77, 78] [])))))))))) (.br true (.hole 0)))) (.br false (.br true (.hole 0))))) =
  (((0 : Nat) = 0) ∧
  ((1 : Nat) = 1) ∧
  (Den E1 118 [.lit (.int .u32 (V.a v)), .lit (.int .u32 (V.a w))] (intP (cmpI (V.a v) (V.a w)))) ∧
  ((cmpI (V.a v) (V.a w) == (0 : Int)) = true →
   ((0 : Nat) = 0) ∧
   ((1 : Nat) = 1) ∧
   (Den E1 118 [.lit (.int .u32 (V.b v)), .lit (.int .u32 (V.b w))] (intP (cmpI (V.b v) (V.b w)))) ∧
   ((cmpI (V.b v) (V.b w) == (0 : Int)) = true →
    ((0 : Nat) = 0) ∧
    ((1 : Nat) = 1) ∧
    (Den E1 118 [.lit (.int .u32 (V.c v)), .lit (.int .u32 (V.c w))] (intP (cmpI (V.c v) (V.c w)))) ∧
    ((cmpI (V.c v) (V.c w) != (0 : Int)) = true →
     (intP (cmpI (V.c v) (V.c w))) = r) ∧
    ((cmpI (V.c v) (V.c w) != (0 : Int)) = false →
     ((0 : Nat) = 0) ∧
     (((↑(List.length (List.map strP (V.pre v))) : Int) == (0 : Int)) = true →
      ((0 : Nat) = 0) ∧
      ((1 : Nat) = 1) ∧
      (((↑(List.length (List.map strP (V.pre v))) : Int) == (↑(List.length (List.map strP (V.pre w))) : Int)) = true →
       (intP 0) = r) ∧
      (((↑(List.length (List.map strP (V.pre v))) : Int) == (↑(List.length (List.map strP (V.pre w))) : Int)) = false →
       ((0 : Nat) = 0) ∧
       ((decide ((↑(List.length (List.map strP (V.pre v))) : Int) > (0 : Int))) = true →
        (intP (-1)) = r) ∧
       ((decide ((↑(List.length (List.map strP (V.pre v))) : Int) > (0 : Int))) = false →
        (intP 1) = r))) ∧
     (((↑(List.length (List.map strP (V.pre v))) : Int) == (0 : Int)) = false →
      ((1 : Nat) = 1) ∧
      (((↑(List.length (List.map strP (V.pre w))) : Int) == (0 : Int)) = true →
       ((0 : Nat) = 0) ∧
       ((1 : Nat) = 1) ∧
       (((↑(List.length (List.map strP (V.pre v))) : Int) == (↑(List.length (List.map strP (V.pre w))) : Int)) = true →
        (intP 0) = r) ∧
       (((↑(List.length (List.map strP (V.pre v))) : Int) == (↑(List.length (List.map strP (V.pre w))) : Int)) = false →
        ((0 : Nat) = 0) ∧
        ((decide ((↑(List.length (List.map strP (V.pre v))) : Int) > (0 : Int))) = true →
         (intP (-1)) = r) ∧
        ((decide ((↑(List.length (List.map strP (V.pre v))) : Int) > (0 : Int))) = false →
         (intP 1) = r))) ∧
      (((↑(List.length (List.map strP (V.pre w))) : Int) == (0 : Int)) = false →
       ∀ (j : Nat → AV) (jr : Nat → Row) (g : Nat), LoopAt E1 Tryz.f80 r 0 (ref07_Cmp_S0 v w (0 : Int) j jr g))))) ∧
   ((cmpI (V.b v) (V.b w) == (0 : Int)) = false →
    ((cmpI (V.b v) (V.b w) != (0 : Int)) = true) ∧
    (intP (cmpI (V.b v) (V.b w))) = r)) ∧
  ((cmpI (V.a v) (V.a w) == (0 : Int)) = false →
   ((cmpI (V.a v) (V.a w) == (0 : Int)) = false) ∧
   ((cmpI (V.a v) (V.a w) != (0 : Int)) = true) ∧
   (intP (cmpI (V.a v) (V.a w))) = r)) := by kernel_rfl
theorem ref07_Cmp_go_S0 (v : V) (w : V) (i : Int) (j : Nat → AV) (jr : Nat → Row) (g : Nat) (r : PV) : LoopGo E1 Tryz.f80 r 0 2000 (.fork (.lit (.lit (.lit (.lit (.lit (.lit (.fork (.val (.lit (.string (bs (List.getD (V.pre v) (Int.toNat i) default)))) (.val (.lit (.string (bs (List.getD (V.pre w) (Int.toNat i) default)))) (.res (intP (ordL (List.getD (V.pre v) (Int.toNat i) default) (List.getD (V.pre w) (Int.toNat i) default))) (.fork (.hole 0) (.mask [0, 1, 4, 5, 7, 8, 9, 10, 11, 12, 13, 14, 15, 16, 17, 18, 19, 20, 21, 22, 23, 24, 25, 26, 27, 28, 29, 30, 31, 32, 33, 34, 35, 36, 37, 38, 39, 40, 41, 42, 43, 44, 45, 46, 47, 48, 49, 50, 51, 52, 53, 54, 55, 56, 57, 58, 59, 60, 61, 62, 63, 64, 65, 66, 67, 68, 69, 70, 71, 72, 73, 74, 75, 76, 77, 78] []))))) (.res (intP (cmpI (↑(List.length (List.map strP (V.pre v)) % (4294967296 : Nat)) : Int) (↑(List.length (List.map strP (V.pre w)) % (4294967296 : Nat)) : Int))) (.hole 0))))))))) (.lit (.lit (.lit (.lit (.lit (.lit (.lit (.res (intP (cmpI (↑(List.length (List.map strP (V.pre v)) % (4294967296 : Nat)) : Int) (↑(List.length (List.map strP (V.pre w)) % (4294967296 : Nat)) : Int))) (.hole 0)))))))))) (ref07_Cmp_S0 v w i j jr g) =
  (((0 : Nat) = 0) ∧
  ((decide (i < (↑(List.length (List.map strP (V.pre v))) : Int))) = true →
   ((1 : Nat) = 1) ∧
   ((decide (i < (↑(List.length (List.map strP (V.pre w))) : Int))) = true →
    ((0 : Nat) = 0) ∧
    (((0 : Int) ≤ i) ∧ (((V.nl v) = false) ∧ ((V.k v) = 1))) ∧
    (((List.map strP (V.pre v))[Int.toNat i]?) = some (.lit (.string (bs (List.getD (V.pre v) (Int.toNat i) default))))) ∧
    ((1 : Nat) = 1) ∧
    (((0 : Int) ≤ i) ∧ (((V.nl w) = false) ∧ ((V.k w) = 1))) ∧
    (((List.map strP (V.pre w))[Int.toNat i]?) = some (.lit (.string (bs (List.getD (V.pre w) (Int.toNat i) default))))) ∧
    (Den E1 119 [.lit (.string (bs (List.getD (V.pre v) (Int.toNat i) default))), .lit (.string (bs (List.getD (V.pre w) (Int.toNat i) default)))] (intP (ordL (List.getD (V.pre v) (Int.toNat i) default) (List.getD (V.pre w) (Int.toNat i) default)))) ∧
    ((ordL (List.getD (V.pre v) (Int.toNat i) default) (List.getD (V.pre w) (Int.toNat i) default) != (0 : Int)) = true →
     (intP (ordL (List.getD (V.pre v) (Int.toNat i) default) (List.getD (V.pre w) (Int.toNat i) default))) = r) ∧
    ((ordL (List.getD (V.pre v) (Int.toNat i) default) (List.getD (V.pre w) (Int.toNat i) default) != (0 : Int)) = false →
     ∀ (j : Nat → AV) (jr : Nat → Row) (g : Nat), LoopAt E1 Tryz.f80 r 0 (ref07_Cmp_S0 v w (IntKind.wrap IntKind.i64 (i + (1 : Int))) j jr g))) ∧
   ((decide (i < (↑(List.length (List.map strP (V.pre w))) : Int))) = false →
    ((0 : Nat) = 0) ∧
    ((1 : Nat) = 1) ∧
    (Den E1 118 [.lit (.int .u32 ((↑(List.length (List.map strP (V.pre v)) % (4294967296 : Nat)) : Int))), .lit (.int .u32 ((↑(List.length (List.map strP (V.pre w)) % (4294967296 : Nat)) : Int)))] (intP (cmpI (↑(List.length (List.map strP (V.pre v)) % (4294967296 : Nat)) : Int) (↑(List.length (List.map strP (V.pre w)) % (4294967296 : Nat)) : Int)))) ∧
    (intP (cmpI (↑(List.length (List.map strP (V.pre v)) % (4294967296 : Nat)) : Int) (↑(List.length (List.map strP (V.pre w)) % (4294967296 : Nat)) : Int))) = r)) ∧
  ((decide (i < (↑(List.length (List.map strP (V.pre v))) : Int))) = false →
   ((0 : Nat) = 0) ∧
   ((1 : Nat) = 1) ∧
   (Den E1 118 [.lit (.int .u32 ((↑(List.length (List.map strP (V.pre v)) % (4294967296 : Nat)) : Int))), .lit (.int .u32 ((↑(List.length (List.map strP (V.pre w)) % (4294967296 : Nat)) : Int)))] (intP (cmpI (↑(List.length (List.map strP (V.pre v)) % (4294967296 : Nat)) : Int) (↑(List.length (List.map strP (V.pre w)) % (4294967296 : Nat)) : Int)))) ∧
   (intP (cmpI (↑(List.length (List.map strP (V.pre v)) % (4294967296 : Nat)) : Int) (↑(List.length (List.map strP (V.pre w)) % (4294967296 : Nat)) : Int))) = r)) := by kernel_rfl

def version_ident_S0 (l : List UInt8) (i : Int) (j : Nat → AV) (jr : Nat → Row) (g : Nat) : St :=
  { t := [strA (bs l), j (1 : Nat), j (2 : Nat), j (3 : Nat), j (4 : Nat), j (5 : Nat), j (6 : Nat), j (7 : Nat), j (8 : Nat), j (9 : Nat), j (10 : Nat), j (11 : Nat), j (12 : Nat), intA ((↑(ByteArray.size (bs l)) : Int)), intA i, j (15 : Nat), j (16 : Nat), j (17 : Nat), j (18 : Nat), j (19 : Nat), j (20 : Nat), j (21 : Nat), j (22 : Nat), j (23 : Nat), j (24 : Nat), j (25 : Nat), j (26 : Nat), j (27 : Nat), j (28 : Nat), j (29 : Nat), j (30 : Nat), j (31 : Nat), j (32 : Nat), j (33 : Nat), j (34 : Nat), j (35 : Nat), undefA, undefA, undefA, undefA, undefA, undefA, undefA], h := [List.replicate 43 row0], g := g }
theorem version_ident_go (l : List UInt8) (r : PV) : FnGo E1 Tryz.f103 [.lit (.string (bs l))] r 2000 (.fork (.lit (.lit (.lit (.lit (.lit (.hole 0)))))) (.lit (.lit (.lit (.lit (.fork (.hole 0) (.mask [1, 2, 3, 4, 5, 6, 7, 8, 9, 10, 11, 12, 15, 16, 17, 18, 19, 20, 21, 22, 23, 24, 25, 26, 27, 28, 29, 30, 31, 32, 33, 34, 35] []))))))) =
  (((ByteArray.toList (bs l) == ByteArray.toList (bs [])) = true →
   (bolP false) = r) ∧
  ((ByteArray.toList (bs l) == ByteArray.toList (bs [])) = false →
   ((decide ((↑(ByteArray.size (bs l)) : Int) > (16 : Int))) = true →
    (bolP false) = r) ∧
   ((decide ((↑(ByteArray.size (bs l)) : Int) > (16 : Int))) = false →
    ∀ (j : Nat → AV) (jr : Nat → Row) (g : Nat), LoopAt E1 Tryz.f103 r 0 (version_ident_S0 l (0 : Int) j jr g)))) := by kernel_rfl
theorem version_ident_go_S0 (l : List UInt8) (i : Int) (j : Nat → AV) (jr : Nat → Row) (g : Nat) (r : PV) : LoopGo E1 Tryz.f103 r 0 2000 (.fork (.fork (.lit (.lit (.lit (.fork (.br true (.mask [1, 2, 3, 4, 5, 6, 7, 8, 9, 10, 11, 12, 15, 16, 17, 18, 19, 20, 21, 22, 23, 24, 25, 26, 27, 28, 29, 30, 31, 32, 33, 34, 35] [])) (.fork (.lit (.lit (.lit (.fork (.br true (.mask [1, 2, 3, 4, 5, 6, 7, 8, 9, 10, 11, 12, 15, 16, 17, 18, 19, 20, 21, 22, 23, 24, 25, 26, 27, 28, 29, 30, 31, 32, 33, 34, 35] [])) (.fork (.mask [1, 2, 3, 4, 5, 6, 7, 8, 9, 10, 11, 12, 15, 16, 17, 18, 19, 20, 21, 22, 23, 24, 25, 26, 27, 28, 29, 30, 31, 32, 33, 34, 35] []) (.hole 0)))))) (.lit (.lit (.lit (.lit (.fork (.mask [1, 2, 3, 4, 5, 6, 7, 8, 9, 10, 11, 12, 15, 16, 17, 18, 19, 20, 21, 22, 23, 24, 25, 26, 27, 28, 29, 30, 31, 32, 33, 34, 35] []) (.hole 0))))))))))) (.lit (.lit (.lit (.lit (.fork (.lit (.lit (.lit (.fork (.br true (.mask [1, 2, 3, 4, 5, 6, 7, 8, 9, 10, 11, 12, 15, 16, 17, 18, 19, 20, 21, 22, 23, 24, 25, 26, 27, 28, 29, 30, 31, 32, 33, 34, 35] [])) (.fork (.mask [1, 2, 3, 4, 5, 6, 7, 8, 9, 10, 11, 12, 15, 16, 17, 18, 19, 20, 21, 22, 23, 24, 25, 26, 27, 28, 29, 30, 31, 32, 33, 34, 35] []) (.hole 0)))))) (.lit (.lit (.lit (.lit (.fork (.mask [1, 2, 3, 4, 5, 6, 7, 8, 9, 10, 11, 12, 15, 16, 17, 18, 19, 20, 21, 22, 23, 24, 25, 26, 27, 28, 29, 30, 31, 32, 33, 34, 35] []) (.hole 0)))))))))))) (.resB (digitsL l) (.lit (.lit (.lit (.res (bolP (plainL l)) (.lit (.hole 0)))))) (.lit (.lit (.lit (.lit (.hole 0))))))) (version_ident_S0 l i j jr g) =
  (((decide (i < (↑(ByteArray.size (bs l)) : Int))) = true →
   (((0 : Int) ≤ i) ∧ (Int.toNat i < ByteArray.size (bs l))) ∧
   ((decide ((↑(UInt8.toNat (List.getD l (Int.toNat i) (0 : UInt8))) : Int) ≥ (48 : Int))) = true →
    ((decide ((↑(UInt8.toNat (List.getD l (Int.toNat i) (0 : UInt8))) : Int) ≤ (57 : Int))) = true →
     ((decide ((↑(UInt8.toNat (List.getD l (Int.toNat i) (0 : UInt8))) : Int) ≤ (57 : Int))) = true) ∧
     (∀ (j : Nat → AV) (jr : Nat → Row) (g : Nat), LoopAt E1 Tryz.f103 r 0 (version_ident_S0 l (IntKind.wrap IntKind.i64 (i + (1 : Int))) j jr g))) ∧
    ((decide ((↑(UInt8.toNat (List.getD l (Int.toNat i) (0 : UInt8))) : Int) ≤ (57 : Int))) = false →
     ((decide ((↑(UInt8.toNat (List.getD l (Int.toNat i) (0 : UInt8))) : Int) ≥ (97 : Int))) = true →
      ((decide ((↑(UInt8.toNat (List.getD l (Int.toNat i) (0 : UInt8))) : Int) ≤ (122 : Int))) = true →
       ((decide ((↑(UInt8.toNat (List.getD l (Int.toNat i) (0 : UInt8))) : Int) ≤ (122 : Int))) = true) ∧
       (∀ (j : Nat → AV) (jr : Nat → Row) (g : Nat), LoopAt E1 Tryz.f103 r 0 (version_ident_S0 l (IntKind.wrap IntKind.i64 (i + (1 : Int))) j jr g))) ∧
      ((decide ((↑(UInt8.toNat (List.getD l (Int.toNat i) (0 : UInt8))) : Int) ≤ (122 : Int))) = false →
       (((↑(UInt8.toNat (List.getD l (Int.toNat i) (0 : UInt8))) : Int) == (45 : Int)) = true →
        ∀ (j : Nat → AV) (jr : Nat → Row) (g : Nat), LoopAt E1 Tryz.f103 r 0 (version_ident_S0 l (IntKind.wrap IntKind.i64 (i + (1 : Int))) j jr g)) ∧
       (((↑(UInt8.toNat (List.getD l (Int.toNat i) (0 : UInt8))) : Int) == (45 : Int)) = false →
        (bolP false) = r))) ∧
     ((decide ((↑(UInt8.toNat (List.getD l (Int.toNat i) (0 : UInt8))) : Int) ≥ (97 : Int))) = false →
      (((↑(UInt8.toNat (List.getD l (Int.toNat i) (0 : UInt8))) : Int) == (45 : Int)) = true →
       ∀ (j : Nat → AV) (jr : Nat → Row) (g : Nat), LoopAt E1 Tryz.f103 r 0 (version_ident_S0 l (IntKind.wrap IntKind.i64 (i + (1 : Int))) j jr g)) ∧
      (((↑(UInt8.toNat (List.getD l (Int.toNat i) (0 : UInt8))) : Int) == (45 : Int)) = false →
       (bolP false) = r)))) ∧
   ((decide ((↑(UInt8.toNat (List.getD l (Int.toNat i) (0 : UInt8))) : Int) ≥ (48 : Int))) = false →
    ((decide ((↑(UInt8.toNat (List.getD l (Int.toNat i) (0 : UInt8))) : Int) ≥ (97 : Int))) = true →
     ((decide ((↑(UInt8.toNat (List.getD l (Int.toNat i) (0 : UInt8))) : Int) ≤ (122 : Int))) = true →
      ((decide ((↑(UInt8.toNat (List.getD l (Int.toNat i) (0 : UInt8))) : Int) ≤ (122 : Int))) = true) ∧
      (∀ (j : Nat → AV) (jr : Nat → Row) (g : Nat), LoopAt E1 Tryz.f103 r 0 (version_ident_S0 l (IntKind.wrap IntKind.i64 (i + (1 : Int))) j jr g))) ∧
     ((decide ((↑(UInt8.toNat (List.getD l (Int.toNat i) (0 : UInt8))) : Int) ≤ (122 : Int))) = false →
      (((↑(UInt8.toNat (List.getD l (Int.toNat i) (0 : UInt8))) : Int) == (45 : Int)) = true →
       ∀ (j : Nat → AV) (jr : Nat → Row) (g : Nat), LoopAt E1 Tryz.f103 r 0 (version_ident_S0 l (IntKind.wrap IntKind.i64 (i + (1 : Int))) j jr g)) ∧
      (((↑(UInt8.toNat (List.getD l (Int.toNat i) (0 : UInt8))) : Int) == (45 : Int)) = false →
       (bolP false) = r))) ∧
    ((decide ((↑(UInt8.toNat (List.getD l (Int.toNat i) (0 : UInt8))) : Int) ≥ (97 : Int))) = false →
     (((↑(UInt8.toNat (List.getD l (Int.toNat i) (0 : UInt8))) : Int) == (45 : Int)) = true →
      ∀ (j : Nat → AV) (jr : Nat → Row) (g : Nat), LoopAt E1 Tryz.f103 r 0 (version_ident_S0 l (IntKind.wrap IntKind.i64 (i + (1 : Int))) j jr g)) ∧
     (((↑(UInt8.toNat (List.getD l (Int.toNat i) (0 : UInt8))) : Int) == (45 : Int)) = false →
      (bolP false) = r)))) ∧
  ((decide (i < (↑(ByteArray.size (bs l)) : Int))) = false →
   (Den E1 108 [.lit (.string (bs l))] (bolP (digitsL l))) ∧
   ((digitsL l) = true →
    (Den E1 109 [.lit (.string (bs l))] (bolP (plainL l))) ∧
    (bolP (plainL l)) = r) ∧
   ((digitsL l) = false →
    (bolP true) = r))) := by kernel_rfl

def ref07_ident_S0 (l : List UInt8) (i : Int) (j : Nat → AV) (jr : Nat → Row) (g : Nat) : St :=
  { t := [strA (bs l), j (1 : Nat), j (2 : Nat), intA i, j (4 : Nat), j (5 : Nat), j (6 : Nat), j (7 : Nat), j (8 : Nat), j (9 : Nat), j (10 : Nat), j (11 : Nat), j (12 : Nat), j (13 : Nat), j (14 : Nat), j (15 : Nat), j (16 : Nat), j (17 : Nat), j (18 : Nat), j (19 : Nat), j (20 : Nat), j (21 : Nat), j (22 : Nat), j (23 : Nat), j (24 : Nat), j (25 : Nat), j (26 : Nat), j (27 : Nat), j (28 : Nat), j (29 : Nat), j (30 : Nat), j (31 : Nat), j (32 : Nat), j (33 : Nat), j (34 : Nat), j (35 : Nat), j (36 : Nat), j (37 : Nat), j (38 : Nat), j (39 : Nat), undefA, undefA, undefA, undefA, undefA, undefA, undefA, undefA, undefA, undefA, undefA, undefA], h := [List.replicate 52 row0], g := g }
theorem ref07_ident_go (l : List UInt8) (r : PV) : FnGo E1 Tryz.f60 [.lit (.string (bs l))] r 2000 (.fork (.lit (.lit (.lit (.lit (.lit (.hole 0)))))) (.lit (.lit (.lit (.lit (.fork (.hole 0) (.mask [1, 2, 4, 5, 6, 7, 8, 9, 10, 11, 12, 13, 14, 15, 16, 17, 18, 19, 20, 21, 22, 23, 24, 25, 26, 27, 28, 29, 30, 31, 32, 33, 34, 35, 36, 37, 38, 39] []))))))) =
  (((decide ((↑(ByteArray.size (bs l)) : Int) < (1 : Int))) = true →
   (bolP false) = r) ∧
  ((decide ((↑(ByteArray.size (bs l)) : Int) < (1 : Int))) = false →
   ((decide ((↑(ByteArray.size (bs l)) : Int) > (16 : Int))) = true →
    (bolP false) = r) ∧
   ((decide ((↑(ByteArray.size (bs l)) : Int) > (16 : Int))) = false →
    ∀ (j : Nat → AV) (jr : Nat → Row) (g : Nat), LoopAt E1 Tryz.f60 r 0 (ref07_ident_S0 l (0 : Int) j jr g)))) := by kernel_rfl
theorem ref07_ident_go_S0 (l : List UInt8) (i : Int) (j : Nat → AV) (jr : Nat → Row) (g : Nat) (r : PV) : LoopGo E1 Tryz.f60 r 0 2000 (.fork (.fork (.lit (.lit (.lit (.lit (.lit (.lit (.lit (.fork (.lit (.lit (.lit (.lit (.lit (.lit (.lit (.lit (.lit (.fork (.hole 0) (.mask [1, 2, 4, 5, 6, 7, 8, 9, 10, 11, 12, 13, 14, 15, 16, 17, 18, 19, 20, 21, 22, 23, 24, 25, 26, 27, 28, 29, 30, 31, 32, 33, 34, 35, 36, 37, 38, 39] []))))))))))) (.lit (.lit (.lit (.lit (.lit (.fork (.lit (.lit (.lit (.fork (.hole 0) (.mask [1, 2, 4, 5, 6, 7, 8, 9, 10, 11, 12, 13, 14, 15, 16, 17, 18, 19, 20, 21, 22, 23, 24, 25, 26, 27, 28, 29, 30, 31, 32, 33, 34, 35, 36, 37, 38, 39] []))))) (.lit (.lit (.lit (.lit (.mask [1, 2, 4, 5, 6, 7, 8, 9, 10, 11, 12, 13, 14, 15, 16, 17, 18, 19, 20, 21, 22, 23, 24, 25, 26, 27, 28, 29, 30, 31, 32, 33, 34, 35, 36, 37, 38, 39] []))))))))))))))))))) (.lit (.lit (.lit (.fork (.lit (.lit (.lit (.fork (.lit (.lit (.lit (.lit (.lit (.lit (.lit (.lit (.lit (.fork (.hole 0) (.mask [1, 2, 4, 5, 6, 7, 8, 9, 10, 11, 12, 13, 14, 15, 16, 17, 18, 19, 20, 21, 22, 23, 24, 25, 26, 27, 28, 29, 30, 31, 32, 33, 34, 35, 36, 37, 38, 39] []))))))))))) (.lit (.lit (.lit (.lit (.lit (.fork (.lit (.lit (.lit (.fork (.hole 0) (.mask [1, 2, 4, 5, 6, 7, 8, 9, 10, 11, 12, 13, 14, 15, 16, 17, 18, 19, 20, 21, 22, 23, 24, 25, 26, 27, 28, 29, 30, 31, 32, 33, 34, 35, 36, 37, 38, 39] []))))) (.lit (.lit (.lit (.lit (.mask [1, 2, 4, 5, 6, 7, 8, 9, 10, 11, 12, 13, 14, 15, 16, 17, 18, 19, 20, 21, 22, 23, 24, 25, 26, 27, 28, 29, 30, 31, 32, 33, 34, 35, 36, 37, 38, 39] []))))))))))))))) (.lit (.lit (.lit (.lit (.lit (.lit (.lit (.lit (.lit (.lit (.mask [1, 2, 4, 5, 6, 7, 8, 9, 10, 11, 12, 13, 14, 15, 16, 17, 18, 19, 20, 21, 22, 23, 24, 25, 26, 27, 28, 29, 30, 31, 32, 33, 34, 35, 36, 37, 38, 39] [])))))))))))))))) (.resB (digitsL l) (.lit (.lit (.lit (.lit (.fork (.lit (.lit (.lit (.lit (.hole 0))))) (.lit (.lit (.lit (.lit (.hole 0)))))))))) (.lit (.lit (.lit (.lit (.lit (.lit (.lit (.lit (.lit (.hole 0)))))))))))) (ref07_ident_S0 l i j jr g) =
  (((decide (i < (↑(ByteArray.size (bs l)) : Int))) = true →
   (((0 : Int) ≤ i) ∧ (Int.toNat i < ByteArray.size (bs l))) ∧
   ((decide ((↑(UInt8.toNat (List.getD l (Int.toNat i) (0 : UInt8))) : Int) < (48 : Int))) = true →
    ((decide ((↑(UInt8.toNat (List.getD l (Int.toNat i) (0 : UInt8))) : Int) < (97 : Int))) = true →
     (((↑(UInt8.toNat (List.getD l (Int.toNat i) (0 : UInt8))) : Int) != (45 : Int)) = true →
      (bolP false) = r) ∧
     (((↑(UInt8.toNat (List.getD l (Int.toNat i) (0 : UInt8))) : Int) != (45 : Int)) = false →
      ∀ (j : Nat → AV) (jr : Nat → Row) (g : Nat), LoopAt E1 Tryz.f60 r 0 (ref07_ident_S0 l (IntKind.wrap IntKind.i64 (i + (1 : Int))) j jr g))) ∧
    ((decide ((↑(UInt8.toNat (List.getD l (Int.toNat i) (0 : UInt8))) : Int) < (97 : Int))) = false →
     ((decide ((↑(UInt8.toNat (List.getD l (Int.toNat i) (0 : UInt8))) : Int) > (122 : Int))) = true →
      (((↑(UInt8.toNat (List.getD l (Int.toNat i) (0 : UInt8))) : Int) != (45 : Int)) = true →
       (bolP false) = r) ∧
      (((↑(UInt8.toNat (List.getD l (Int.toNat i) (0 : UInt8))) : Int) != (45 : Int)) = false →
       ∀ (j : Nat → AV) (jr : Nat → Row) (g : Nat), LoopAt E1 Tryz.f60 r 0 (ref07_ident_S0 l (IntKind.wrap IntKind.i64 (i + (1 : Int))) j jr g))) ∧
     ((decide ((↑(UInt8.toNat (List.getD l (Int.toNat i) (0 : UInt8))) : Int) > (122 : Int))) = false →
      ∀ (j : Nat → AV) (jr : Nat → Row) (g : Nat), LoopAt E1 Tryz.f60 r 0 (ref07_ident_S0 l (IntKind.wrap IntKind.i64 (i + (1 : Int))) j jr g)))) ∧
   ((decide ((↑(UInt8.toNat (List.getD l (Int.toNat i) (0 : UInt8))) : Int) < (48 : Int))) = false →
    ((decide ((↑(UInt8.toNat (List.getD l (Int.toNat i) (0 : UInt8))) : Int) > (57 : Int))) = true →
     ((decide ((↑(UInt8.toNat (List.getD l (Int.toNat i) (0 : UInt8))) : Int) < (97 : Int))) = true →
      (((↑(UInt8.toNat (List.getD l (Int.toNat i) (0 : UInt8))) : Int) != (45 : Int)) = true →
       (bolP false) = r) ∧
      (((↑(UInt8.toNat (List.getD l (Int.toNat i) (0 : UInt8))) : Int) != (45 : Int)) = false →
       ∀ (j : Nat → AV) (jr : Nat → Row) (g : Nat), LoopAt E1 Tryz.f60 r 0 (ref07_ident_S0 l (IntKind.wrap IntKind.i64 (i + (1 : Int))) j jr g))) ∧
     ((decide ((↑(UInt8.toNat (List.getD l (Int.toNat i) (0 : UInt8))) : Int) < (97 : Int))) = false →
      ((decide ((↑(UInt8.toNat (List.getD l (Int.toNat i) (0 : UInt8))) : Int) > (122 : Int))) = true →
       (((↑(UInt8.toNat (List.getD l (Int.toNat i) (0 : UInt8))) : Int) != (45 : Int)) = true →
        (bolP false) = r) ∧
       (((↑(UInt8.toNat (List.getD l (Int.toNat i) (0 : UInt8))) : Int) != (45 : Int)) = false →
        ∀ (j : Nat → AV) (jr : Nat → Row) (g : Nat), LoopAt E1 Tryz.f60 r 0 (ref07_ident_S0 l (IntKind.wrap IntKind.i64 (i + (1 : Int))) j jr g))) ∧
      ((decide ((↑(UInt8.toNat (List.getD l (Int.toNat i) (0 : UInt8))) : Int) > (122 : Int))) = false →
       ∀ (j : Nat → AV) (jr : Nat → Row) (g : Nat), LoopAt E1 Tryz.f60 r 0 (ref07_ident_S0 l (IntKind.wrap IntKind.i64 (i + (1 : Int))) j jr g)))) ∧
    ((decide ((↑(UInt8.toNat (List.getD l (Int.toNat i) (0 : UInt8))) : Int) > (57 : Int))) = false →
     ∀ (j : Nat → AV) (jr : Nat → Row) (g : Nat), LoopAt E1 Tryz.f60 r 0 (ref07_ident_S0 l (IntKind.wrap IntKind.i64 (i + (1 : Int))) j jr g)))) ∧
  ((decide (i < (↑(ByteArray.size (bs l)) : Int))) = false →
   (Den E1 104 [.lit (.string (bs l))] (bolP (digitsL l))) ∧
   ((digitsL l) = true →
    ((ByteArray.toList (bs l) == ByteArray.toList (bs [(48 : UInt8)])) = true →
     (bolP true) = r) ∧
    ((ByteArray.toList (bs l) == ByteArray.toList (bs [(48 : UInt8)])) = false →
     (((0 : Int) ≤ (0 : Int)) ∧ ((0 : Nat) < ByteArray.size (bs l))) ∧
     (bolP ((↑(UInt8.toNat (List.getD l (0 : Nat) (0 : UInt8))) : Int) != (48 : Int))) = r)) ∧
   ((digitsL l) = false →
    (bolP true) = r))) := by kernel_rfl
end Go.Proofs.YtlhfgonjcpapnaaGreatDoor.Abs

/- Conditions of functions and their loops, printed by a program and checked by computing. -/
set_option linter.unusedVariables false
namespace Go.Proofs.YtlhfgonjcpapnaaGreatDoor.Abs
open Go Go.Proofs

theorem version_May_1_go (l : List UInt8) (r : PV) : FnGo E1 Tryz.f102 [.lit (.string (bs l))] r 2000 (.res (bolP (identL l)) (.hole 0)) =
  ((Den E1 103 [.lit (.string (bs l))] (bolP (identL l))) ∧
  (bolP (!identL l)) = r) := by kernel_rfl

def slices_IndexFunc_string_string_S0 (x : List (List UInt8)) (k : Nat) (nl : Bool) (full : Bool) (i : Int) (j : Nat → AV) (jr : Nat → Row) (g : Nat) : St :=
  { t := [.pv (.sl k nl full (List.map strP x)), .pv (.clo (.func 102) [] []), j (2 : Nat), j (3 : Nat), j (4 : Nat), j (5 : Nat), j (6 : Nat), intA ((↑(List.length (List.map strP x)) : Int)), intA i, j (9 : Nat), j (10 : Nat), j (11 : Nat), j (12 : Nat), j (13 : Nat), j (14 : Nat), j (15 : Nat), j (16 : Nat), j (17 : Nat), j (18 : Nat)], h := [List.replicate 19 row0], g := g }
theorem slices_IndexFunc_string_string_go (x : List (List UInt8)) (k : Nat) (nl : Bool) (full : Bool) (r : PV) : FnGo E1 Tryz.f134 [.sl k nl full (List.map strP x), .clo (.func 102) [] []] r 2000 (.mask [2, 3, 4, 5, 6, 9, 10, 11, 12, 13, 14, 15, 16, 17, 18] []) =
  (∀ (j : Nat → AV) (jr : Nat → Row) (g : Nat), LoopAt E1 Tryz.f134 r 0 (slices_IndexFunc_string_string_S0 x k nl full (0 : Int) j jr g)) := by kernel_rfl
theorem slices_IndexFunc_string_string_go_S0 (x : List (List UInt8)) (k : Nat) (nl : Bool) (full : Bool) (i : Int) (j : Nat → AV) (jr : Nat → Row) (g : Nat) (r : PV) : LoopGo E1 Tryz.f134 r 0 2000 (.fork (.val (.lit (.string (bs (List.getD x (Int.toNat i) default)))) (.res (bolP (!identL (List.getD x (Int.toNat i) default))) (.fork (.hole 0) (.mask [2, 3, 4, 5, 6, 9, 10, 11, 12, 13, 14, 15, 16, 17, 18] [])))) (.hole 0)) (slices_IndexFunc_string_string_S0 x k nl full i j jr g) =
  (((decide (i < (↑(List.length (List.map strP x)) : Int))) = true →
   (((0 : Int) ≤ i) ∧ ((nl = false) ∧ (k = 1))) ∧
   (((List.map strP x)[Int.toNat i]?) = some (.lit (.string (bs (List.getD x (Int.toNat i) default))))) ∧
   (Den E1 102 [.lit (.string (bs (List.getD x (Int.toNat i) default)))] (bolP (!identL (List.getD x (Int.toNat i) default)))) ∧
   ((!identL (List.getD x (Int.toNat i) default)) = true →
    (intP i) = r) ∧
   ((!identL (List.getD x (Int.toNat i) default)) = false →
    ∀ (j : Nat → AV) (jr : Nat → Row) (g : Nat), LoopAt E1 Tryz.f134 r 0 (slices_IndexFunc_string_string_S0 x k nl full (IntKind.wrap IntKind.i64 (i + (1 : Int))) j jr g))) ∧
  ((decide (i < (↑(List.length (List.map strP x)) : Int))) = false →
   (intP (-1)) = r)) := by kernel_rfl

theorem slices_ContainsFunc_string_string_go (x : List (List UInt8)) (k : Nat) (nl : Bool) (full : Bool) (r : PV) : FnGo E1 Tryz.f101 [.sl k nl full (List.map strP x), .clo (.func 102) [] []] r 2000 (.res (intP (firstI (fun s => !identL s) x)) (.hole 0)) =
  ((Den E1 134 [.sl k nl full (List.map strP x), .clo (.func 102) [] []] (intP (firstI (fun s => !identL s) x))) ∧
  (bolP (decide (firstI (fun s => !identL s) x ≥ (0 : Int)))) = r) := by kernel_rfl

theorem version_May_go (v : V) (r : PV) : FnGo E1 Tryz.f59 [V.p v] r 2000 (.fork (.lit (.lit (.lit (.lit (.lit (.lit (.lit (.lit (.lit (.lit (.lit (.hole 0)))))))))))) (.lit (.lit (.lit (.lit (.lit (.fork (.lit (.lit (.lit (.lit (.lit (.hole 0)))))) (.lit (.lit (.lit (.res (bolP (!List.all (V.pre v) identL)) (.lit (.fork (.hole 0) (.hole 0)))))))))))))) =
  (((0 : Nat) = 0) ∧
  ((0 : Nat) = 0) ∧
  ((0 : Nat) = 0) ∧
  ((decide ((if V.c v > if V.b v > V.a v then V.b v else V.a v then V.c v else if V.b v > V.a v then V.b v else V.a v) > (2147483647 : Int))) = true →
   (intP 70) = r) ∧
  ((decide ((if V.c v > if V.b v > V.a v then V.b v else V.a v then V.c v else if V.b v > V.a v then V.b v else V.a v) > (2147483647 : Int))) = false →
   ((0 : Nat) = 0) ∧
   ((decide ((↑(List.length (List.map strP (V.pre v))) : Int) > (8 : Int))) = true →
    (intP 70) = r) ∧
   ((decide ((↑(List.length (List.map strP (V.pre v))) : Int) > (8 : Int))) = false →
    ((0 : Nat) = 0) ∧
    (Den E1 101 [.sl (V.k v) (V.nl v) (V.full v) (List.map strP (V.pre v)), .clo (.func 102) [] []] (bolP (!List.all (V.pre v) identL))) ∧
    ((!List.all (V.pre v) identL) = true →
     (intP 70) = r) ∧
    ((!List.all (V.pre v) identL) = false →
     (intP 0) = r)))) := by kernel_rfl

def ref07_May_S0 (v : V) (i : Int) (j : Nat → AV) (jr : Nat → Row) (g : Nat) : St :=
  { t := [j (0 : Nat), .mptr 0 1 0 0 0, j (2 : Nat), intA i, j (4 : Nat), j (5 : Nat), j (6 : Nat), j (7 : Nat), j (8 : Nat), j (9 : Nat), j (10 : Nat), j (11 : Nat), j (12 : Nat), j (13 : Nat), j (14 : Nat), j (15 : Nat), j (16 : Nat), j (17 : Nat), j (18 : Nat), j (19 : Nat), j (20 : Nat), j (21 : Nat), j (22 : Nat), j (23 : Nat), j (24 : Nat), j (25 : Nat), j (26 : Nat), j (27 : Nat), j (28 : Nat), j (29 : Nat), j (30 : Nat), j (31 : Nat), j (32 : Nat), j (33 : Nat), j (34 : Nat), j (35 : Nat), j (36 : Nat)], h := [[row0, ⟨0, .box (.pv (V.p v)) false⟩] ++ List.replicate 35 row0], g := g }
theorem ref07_May_go (v : V) (r : PV) : FnGo E1 Tryz.f26 [V.p v] r 2000 (.fork (.lit (.lit (.lit (.lit (.lit (.lit (.lit (.lit (.lit (.lit (.lit (.lit (.lit (.lit (.lit (.lit (.hole 0))))))))))))))))) (.lit (.lit (.lit (.lit (.fork (.lit (.lit (.lit (.lit (.lit (.lit (.lit (.lit (.lit (.lit (.lit (.hole 0)))))))))))) (.lit (.lit (.lit (.lit (.fork (.lit (.lit (.lit (.lit (.lit (.lit (.hole 0))))))) (.lit (.lit (.lit (.lit (.lit (.fork (.hole 0) (.mask [0, 2, 4, 5, 6, 7, 8, 9, 10, 11, 12, 13, 14, 15, 16, 17, 18, 19, 20, 21, 22, 23, 24, 25, 26, 27, 28, 29, 30, 31, 32, 33, 34, 35, 36] [])))))))))))))))))) =
  (((0 : Nat) = 0) ∧
  ((decide (V.a v > (2147483647 : Int))) = true →
   (bolP false) = r) ∧
  ((decide (V.a v > (2147483647 : Int))) = false →
   ((0 : Nat) = 0) ∧
   ((decide (V.b v > (2147483647 : Int))) = true →
    (bolP false) = r) ∧
   ((decide (V.b v > (2147483647 : Int))) = false →
    ((0 : Nat) = 0) ∧
    ((decide (V.c v > (2147483647 : Int))) = true →
     (bolP false) = r) ∧
    ((decide (V.c v > (2147483647 : Int))) = false →
     ((0 : Nat) = 0) ∧
     ((decide ((↑(List.length (List.map strP (V.pre v))) : Int) > (8 : Int))) = true →
      (bolP false) = r) ∧
     ((decide ((↑(List.length (List.map strP (V.pre v))) : Int) > (8 : Int))) = false →
      ∀ (j : Nat → AV) (jr : Nat → Row) (g : Nat), LoopAt E1 Tryz.f26 r 0 (ref07_May_S0 v (0 : Int) j jr g)))))) := by kernel_rfl
theorem ref07_May_go_S0 (v : V) (i : Int) (j : Nat → AV) (jr : Nat → Row) (g : Nat) (r : PV) : LoopGo E1 Tryz.f26 r 0 2000 (.fork (.val (.lit (.string (bs (List.getD (V.pre v) (Int.toNat i) default)))) (.res (bolP (identL (List.getD (V.pre v) (Int.toNat i) default))) (.fork (.hole 0) (.mask [0, 2, 4, 5, 6, 7, 8, 9, 10, 11, 12, 13, 14, 15, 16, 17, 18, 19, 20, 21, 22, 23, 24, 25, 26, 27, 28, 29, 30, 31, 32, 33, 34, 35, 36] [])))) (.hole 0)) (ref07_May_S0 v i j jr g) =
  (((0 : Nat) = 0) ∧
  ((decide (i < (↑(List.length (List.map strP (V.pre v))) : Int))) = true →
   ((0 : Nat) = 0) ∧
   (((0 : Int) ≤ i) ∧ (((V.nl v) = false) ∧ ((V.k v) = 1))) ∧
   (((List.map strP (V.pre v))[Int.toNat i]?) = some (.lit (.string (bs (List.getD (V.pre v) (Int.toNat i) default))))) ∧
   (Den E1 60 [.lit (.string (bs (List.getD (V.pre v) (Int.toNat i) default)))] (bolP (identL (List.getD (V.pre v) (Int.toNat i) default)))) ∧
   ((!identL (List.getD (V.pre v) (Int.toNat i) default)) = true →
    (bolP false) = r) ∧
   ((!identL (List.getD (V.pre v) (Int.toNat i) default)) = false →
    ∀ (j : Nat → AV) (jr : Nat → Row) (g : Nat), LoopAt E1 Tryz.f26 r 0 (ref07_May_S0 v (IntKind.wrap IntKind.i64 (i + (1 : Int))) j jr g))) ∧
  ((decide (i < (↑(List.length (List.map strP (V.pre v))) : Int))) = false →
   (bolP true) = r)) := by kernel_rfl
end Go.Proofs.YtlhfgonjcpapnaaGreatDoor.Abs

/- The order of versions and which may be: the functions compute them. -/
set_option linter.unusedVariables false
set_option linter.unusedSimpArgs false
namespace Go.Proofs.YtlhfgonjcpapnaaGreatDoor.Abs
open Go Go.Proofs

theorem den_Compare_uint32 (x y : Int) : Den E1 123 [.lit (.int .u32 x), .lit (.int .u32 y)] (intP (cmpI x y)) := by
  refine den1 2000 _ rfl (by kernel_rfl) rfl rfl rfl (Eq.mpr (cmp_Compare_uint32_go x y _) ⟨den_isNaN_uint32 x, den_isNaN_uint32 y, fun h => ?_, fun h => ⟨fun h2 => ?_, fun h2 => ?_⟩⟩)
  · simp at h; simp [cmpI, h]
  · simp at h h2; simp [cmpI, h2, show ¬ x < y by omega]
  · simp at h h2; simp [cmpI, show ¬ x < y by omega, show ¬ y < x by omega]
theorem den_Compare_int (x y : Int) : Den E1 124 [intP x, intP y] (intP (cmpI x y)) := by
  refine den1 2000 _ rfl (by kernel_rfl) rfl rfl rfl (Eq.mpr (cmp_Compare_int_go x y _) ⟨den_isNaN_int x, den_isNaN_int y, fun h => ?_, fun h => ⟨fun h2 => ?_, fun h2 => ?_⟩⟩)
  · simp at h; simp [cmpI, h]
  · simp at h h2; simp [cmpI, h2, show ¬ x < y by omega]
  · simp at h h2; simp [cmpI, show ¬ x < y by omega, show ¬ y < x by omega]
theorem bytesLess_irrefl (a : List UInt8) : Op.bytesLess a a = false := by
  induction a with
  | nil => rfl
  | cons x a ih => simp [Op.bytesLess, ih]
theorem den_Compare_string (a b : List UInt8) : Den E1 149 [strP a, strP b] (intP (cmpS a b)) := by
  refine den1 2000 _ rfl (by kernel_rfl) rfl rfl rfl (Eq.mpr (cmp_Compare_string_go a b _) ⟨den_isNaN_string a, den_isNaN_string b, fun h => ?_, fun h => ⟨fun h2 => ?_, fun h2 => ?_⟩⟩)
  · rw [toList_bs, toList_bs] at h; simp [cmpS, h]
  · rw [toList_bs, toList_bs] at h h2; simp [h] at h2; simp [cmpS, h, h2]
  · rw [toList_bs, toList_bs] at h h2; simp [h] at h2; simp [cmpS, h2, bytesLess_irrefl]

theorem cmpI_self (x : Int) : cmpI x x = 0 := by simp [cmpI]
theorem cmpI_eq (x y : Int) : cmpI x y = 0 ↔ x = y := by
  unfold cmpI; split <;> (try split) <;> omega
theorem cmpS_self (a : List UInt8) : cmpS a a = 0 := by simp [cmpS, bytesLess_irrefl]
theorem ordL_self (a : List UInt8) : ordL a a = 0 := by
  simp [ordL, cmpI_self, cmpS_self]

theorem den_version_order (a b : List UInt8) (ha : small a.length) (hb : small b.length) : Den E1 126 [strP a, strP b] (intP (ordL a b)) := by
  refine den1 2000 _ rfl (by kernel_rfl) rfl rfl rfl (Eq.mpr (version_order_go a b _) ?_)
  refine ⟨den_version_digits a ha, fun h => ⟨den_version_digits b hb, fun h2 => ⟨rfl, rfl, rfl, rfl, den_Compare_int _ _, fun h3 => ?_, fun h3 => ⟨den_Compare_string _ _, ?_⟩⟩, fun h2 => ⟨rfl, rfl, ?_⟩⟩, fun h => ⟨den_version_digits b hb, fun h2 => ⟨rfl, rfl, rfl, ?_⟩, fun h2 => ⟨rfl, rfl, rfl, rfl, den_Compare_string _ _, ?_⟩⟩⟩
  · simp only [size_bs] at h3 ⊢; simp only [ordL, h, h2, h3]; rfl
  · simp only [size_bs] at h3; simp only [ordL, h, h2, h3]; rfl
  · simp only [ordL, h, h2]; rfl
  · simp only [ordL, h, h2]; rfl
  · simp only [ordL, h, h2]; rfl
theorem den_ref07_order (a b : List UInt8) (ha : small a.length) (hb : small b.length) : Den E1 119 [strP a, strP b] (intP (ordL a b)) := by
  refine den1 2000 _ rfl (by kernel_rfl) rfl rfl rfl (Eq.mpr (ref07_order_go a b _) ?_)
  simp only [toList_bs, size_bs]
  refine ⟨fun h => ?_, fun h => ⟨den_ref07_digits a ha, fun h1 => ⟨den_ref07_digits b hb, fun h2 => ⟨fun h3 => ⟨fun h4 => ?_, fun h4 => ?_⟩, fun h3 => ⟨fun h4 => ?_, fun h4 => ?_⟩⟩, fun h2 => ?_⟩, fun h1 => ⟨den_ref07_digits b hb, fun h2 => ?_, fun h2 => ⟨fun h4 => ?_, fun h4 => ?_⟩⟩⟩⟩
  · simp only [beq_iff_eq] at h; rw [h, ordL_self]
  · simp only [bne_iff_ne, decide_eq_true_eq] at h3 h4; simp [ordL, h1, h2, cmpI, h4]
  · simp only [bne_iff_ne, decide_eq_false_iff_not] at h3 h4
    have h5 : (b.length : Int) < a.length := by omega
    simp [ordL, h1, h2, cmpI, h4, h5]
  · simp only [bne_eq_false_iff_eq] at h3
    have h5 : a.length = b.length := by omega
    simp [ordL, h1, h2, h5, cmpI_self, cmpS, h4]
  · simp only [bne_eq_false_iff_eq] at h3
    have h5 : a.length = b.length := by omega
    simp [ordL, h1, h2, h5, cmpI_self, cmpS, h4, h]
  · simp only [ordL, h1, h2]; rfl
  · simp only [ordL, h1, h2]; rfl
  · simp [ordL, h1, h2, cmpS, h4]
  · simp [ordL, h1, h2, cmpS, h4, h]

theorem drop_nil {α : Type} {l : List α} {i : Nat} (h : l.length ≤ i) : l.drop i = [] := List.drop_eq_nil_of_le h
theorem den_CompareFunc (x y : List (List UInt8)) (k k' : Nat) (nl full nl' full' : Bool) (hx : slOk 1 k nl x.length) (hy : slOk 1 k' nl' y.length) (hlx : small x.length) (hly : small y.length) (hsx : ∀ s ∈ x, small s.length) (hsy : ∀ s ∈ y, small s.length) :
    Den E1 125 [preP k nl full x, preP k' nl' full' y, .clo (.func 126) [] []] (intP (cmpP x y)) := by
  refine den1 2000 _ rfl (by kernel_rfl) rfl rfl rfl (Eq.mpr (slices_CompareFunc_string_string_string_string_go x y k k' nl full nl' full' _) fun j jr g => ?_)
  have H : ∀ (n i : Nat) j jr g, i + n = x.length → cmpP x y = cmpP (x.drop i) (y.drop i) → i ≤ y.length → LoopAt E1 Tryz.f125 (intP (cmpP x y)) 0 (slices_CompareFunc_string_string_string_string_S0 x y k k' nl full nl' full' i j jr g) := by
    intro n
    induction n with
    | zero =>
      intro i j jr g hi hd hy'
      refine loop_go 2000 _ (Eq.mpr (slices_CompareFunc_string_string_string_string_go_S0 x y k k' nl full nl' full' i j jr g _) ⟨fun h => ?_, fun h => ⟨fun h2 => ?_, fun h2 => ?_⟩⟩)
      · simp at h; omega
      · simp at h2
        rw [hd, List.drop_eq_nil_of_le (by omega), List.drop_eq_getElem_cons (by omega)]; rfl
      · simp at h2
        rw [hd, List.drop_eq_nil_of_le (by omega), List.drop_eq_nil_of_le (by omega)]; rfl
    | succ n ih =>
      intro i j jr g hi hd hy'
      have h1 : i < x.length := by omega
      rw [List.drop_eq_getElem_cons h1] at hd
      refine loop_go 2000 _ (Eq.mpr (slices_CompareFunc_string_string_string_string_go_S0 x y k k' nl full nl' full' i j jr g _) ⟨fun h => ?_, fun h => ?_⟩)
      · simp only [Int.toNat_natCast, getD_lt h1]
        refine ⟨⟨by omega, sl_at hx h1⟩, by simp [h1, strP], fun h2 => ?_, fun h2 => ?_⟩
        · simp at h2
          rw [hd, drop_nil (l := y) (by omega)]; rfl
        · simp at h2
          have h3 : i < y.length := by omega
          rw [List.drop_eq_getElem_cons h3] at hd
          simp only [getD_lt h3]
          refine ⟨⟨by omega, sl_at hy h3⟩, by simp [h3, strP], den_version_order _ _ (hsx _ (by simp)) (hsy _ (by simp)), fun h4 => ?_, fun h4 j jr g => ?_⟩
          · rw [hd]; simp only [bne_iff_ne] at h4; simp only [cmpP, ne_eq, h4, not_false_eq_true, if_true]
          · simp only [bne_eq_false_iff_eq] at h4
            rw [wrap_i64 _ (by omega) (by unfold small at hlx; omega)]
            refine ih (i + 1) j jr g (by omega) ?_ (by omega)
            rw [hd]; simp only [cmpP, h4]; rfl
      · simp at h; omega
  exact H x.length 0 j jr g (by omega) rfl (by omega)
theorem den_compare (v w : V) (hv : v.ok) (hw : w.ok) : Den E1 85 [v.p, w.p] (intP (cmpV v w)) := by
  refine den1 2000 _ rfl (by kernel_rfl) rfl rfl rfl (Eq.mpr (version_compare_go v w _) ?_)
  refine ⟨rfl, rfl, den_Compare_uint32 _ _, rfl, rfl, den_Compare_uint32 _ _, rfl, rfl, den_Compare_uint32 _ _, den_Or _ _ _, fun h => ?_, fun h => ⟨rfl, fun h1 => ⟨rfl, rfl, den_Compare_int _ _, ?_⟩, fun h1 => ⟨rfl, fun h2 => ⟨rfl, rfl, den_Compare_int _ _, ?_⟩, fun h2 => ⟨rfl, rfl, den_CompareFunc _ _ _ _ _ _ _ _ hv.sl hw.sl hv.len hw.len hv.str hw.str, ?_⟩⟩⟩⟩
  · simp only [bne_iff_ne] at h; simp [cmpV, cmpN, h]
  · simp only [bne_eq_false_iff_eq, beq_iff_eq, List.length_map] at h h1 ⊢
    have h5 : v.pre.length = 0 := by omega
    simp only [cmpV, cmpN, h, h5, ne_eq, not_true, if_false, true_or, if_true]
  · simp only [bne_eq_false_iff_eq, beq_iff_eq, List.length_map] at h h2 ⊢
    have h5 : w.pre.length = 0 := by omega
    simp only [cmpV, cmpN, h, h5, ne_eq, not_true, if_false, or_true, if_true]
  · simp only [bne_eq_false_iff_eq, beq_eq_false_iff_ne, ne_eq, List.length_map] at h h1 h2
    have h5 : ¬ (v.pre.length = 0 ∨ w.pre.length = 0) := by omega
    simp only [cmpV, cmpN, h, h5, ne_eq, not_true, if_false]

theorem or3_of (a b c : Int) : or3 a b c = if a ≠ 0 then a else if b ≠ 0 then b else c := rfl
theorem cmpI_nat (a b : Nat) : cmpI (a : Int) (b : Int) = if a < b then -1 else if b < a then 1 else 0 := by
  unfold cmpI
  by_cases h : a < b
  · simp [h]
  · by_cases h2 : b < a
    · simp [h, h2]
    · simp [h, h2]
theorem den_ref07_Cmp (v w : V) (hv : v.ok) (hw : w.ok) (hlv : v.pre.length < 4294967296) (hlw : w.pre.length < 4294967296) : Den E1 80 [v.p, w.p] (intP (cmpV v w)) := by
  refine den1 2000 _ rfl (by kernel_rfl) rfl rfl rfl (Eq.mpr (ref07_Cmp_go v w _) ?_)
  have hmv : v.pre.length % 4294967296 = v.pre.length := Nat.mod_eq_of_lt hlv
  have hmw : w.pre.length % 4294967296 = w.pre.length := Nat.mod_eq_of_lt hlw
  have H : ∀ (n i : Nat) j jr g, i + n = v.pre.length → cmpV v w = cmpP (v.pre.drop i) (w.pre.drop i) → i ≤ w.pre.length → LoopAt E1 Tryz.f80 (intP (cmpV v w)) 0 (ref07_Cmp_S0 v w i j jr g) := by
    intro n
    induction n with
    | zero =>
      intro i j jr g hi hd hy'
      refine loop_go 2000 _ (Eq.mpr (ref07_Cmp_go_S0 v w i j jr g _) ⟨rfl, fun h => ?_, fun h => ⟨rfl, rfl, den_ref07_cmp _ _, ?_⟩⟩)
      · simp at h; omega
      · simp only [List.length_map, hmv, hmw, cmpI_nat]
        rw [hd, drop_nil (l := v.pre) (by omega)]
        by_cases h5 : i < w.pre.length
        · rw [List.drop_eq_getElem_cons h5, if_pos (by omega)]; rfl
        · rw [drop_nil (l := w.pre) (by omega), if_neg (by omega), if_neg (by omega)]; rfl
    | succ n ih =>
      intro i j jr g hi hd hy'
      have h1 : i < v.pre.length := by omega
      rw [List.drop_eq_getElem_cons h1] at hd
      refine loop_go 2000 _ (Eq.mpr (ref07_Cmp_go_S0 v w i j jr g _) ⟨rfl, fun h => ⟨rfl, fun h2 => ?_, fun h2 => ⟨rfl, rfl, den_ref07_cmp _ _, ?_⟩⟩, fun h => ?_⟩)
      · simp at h2
        have h3 : i < w.pre.length := by omega
        rw [List.drop_eq_getElem_cons h3] at hd
        simp only [Int.toNat_natCast, getD_lt h1, getD_lt h3]
        refine ⟨trivial, ⟨by omega, sl_at hv.sl h1⟩, by simp [h1, strP], trivial, ⟨by omega, sl_at hw.sl h3⟩, by simp [h3, strP], den_ref07_order _ _ (hv.str _ (by simp)) (hw.str _ (by simp)), fun h4 => ?_, fun h4 j jr g => ?_⟩
        · rw [hd]; simp only [bne_iff_ne] at h4; simp only [cmpP, ne_eq, h4, not_false_eq_true, if_true]
        · simp only [bne_eq_false_iff_eq] at h4
          rw [wrap_i64 _ (by omega) (by omega)]
          refine ih (i + 1) j jr g (by omega) ?_ (by omega)
          rw [hd]; simp only [cmpP, h4]; rfl
      · simp at h2
        simp only [List.length_map, hmv, hmw, cmpI_nat]
        rw [hd, drop_nil (l := w.pre) (by omega), if_neg (by omega), if_pos (by omega)]; rfl
      · simp at h; omega
  have hz : ∀ (h0 : v.pre.length = 0 ∨ w.pre.length = 0), cmpN v w = 0 → cmpV v w = if v.pre.length = w.pre.length then 0 else if v.pre.length > 0 then -1 else 1 := by
    intro h0 hn
    simp only [cmpV, hn, h0, ne_eq, not_true, if_false, if_true, cmpI_nat]
    by_cases h1 : v.pre.length = w.pre.length
    · rw [if_neg (by omega), if_neg (by omega), if_pos h1]
    · by_cases h2 : v.pre.length > 0
      · rw [if_pos (by omega), if_neg h1, if_pos h2]
      · rw [if_neg (by omega), if_pos (by omega), if_neg h1, if_neg h2]
  refine ⟨rfl, rfl, den_ref07_cmp _ _, fun ha => ⟨rfl, rfl, den_ref07_cmp _ _, fun hb => ⟨rfl, rfl, den_ref07_cmp _ _, fun hc => ?_, fun hc => ?_⟩, fun hb => ⟨?_, ?_⟩⟩, fun ha => ⟨ha, ?_, ?_⟩⟩
  · simp at ha hb hc; simp [cmpV, cmpN, or3, ha, hb, hc]
  · simp only [beq_iff_eq, bne_eq_false_iff_eq] at ha hb hc
    have hn : cmpN v w = 0 := by simp [cmpN, or3, ha, hb, hc]
    refine ⟨rfl, fun h1 => ⟨rfl, rfl, fun h2 => ?_, fun h2 => ⟨rfl, fun h3 => ?_, fun h3 => ?_⟩⟩, fun h1 => ⟨rfl, fun h2 => ⟨rfl, rfl, fun h3 => ?_, fun h3 => ⟨rfl, fun h4 => ?_, fun h4 => ?_⟩⟩, fun h2 j jr g => ?_⟩⟩
    · simp at h1 h2; rw [hz (by simp [h1]) hn]; rw [if_pos (by omega)]
    · simp at h1 h3; simp [h1] at h3
    · simp only [List.length_map, beq_iff_eq, beq_eq_false_iff_ne, ne_eq, decide_eq_false_iff_not] at h1 h2 h3
      rw [hz (.inl (by omega)) hn, if_neg (by omega), if_neg (by omega)]
    · simp at h1 h2 h3; rw [hz (by simp [h2]) hn]; rw [if_pos (by omega)]
    · simp at h1 h2 h3 h4; rw [hz (by simp [h2]) hn]; rw [if_neg (by omega), if_pos (by omega)]
    · simp at h1 h2 h3 h4; rw [hz (by simp [h2]) hn]; exact absurd h4 h1
    · simp at h1 h2
      refine H v.pre.length 0 j jr g (by omega) ?_ (by omega)
      simp [cmpV, hn, h1, h2]
  · simp at ha hb; simp [hb]
  · simp at ha hb; simp [cmpV, cmpN, or3, ha, hb]
  · simp at ha; simp [ha]
  · simp at ha; simp [cmpV, cmpN, or3, ha]
end Go.Proofs.YtlhfgonjcpapnaaGreatDoor.Abs

/- Which versions may be. -/
set_option linter.unusedVariables false
set_option linter.unusedSimpArgs false
namespace Go.Proofs.YtlhfgonjcpapnaaGreatDoor.Abs
open Go Go.Proofs

theorem identC_iff (b : UInt8) : identC b = true ↔ (48 ≤ (b.toNat : Int) ∧ (b.toNat : Int) ≤ 57) ∨ (97 ≤ (b.toNat : Int) ∧ (b.toNat : Int) ≤ 122) ∨ (b.toNat : Int) = 45 := by
  simp [identC, isDig]
  omega
theorem drop_all' {l : List UInt8} {i : Nat} (h : i < l.length) (p : UInt8 → Bool) : (l.drop i).all p = (p l[i] && (l.drop (i + 1)).all p) := drop_all h p
theorem beq_nil (l : List UInt8) : (l == []) = l.isEmpty := by cases l <;> rfl

theorem den_version_ident (l : List UInt8) : Den E1 103 [strP l] (bolP (identL l)) := by
  refine den1 2000 _ rfl (by kernel_rfl) rfl rfl rfl (Eq.mpr (version_ident_go l _) ?_)
  simp only [toList_bs, size_bs, beq_nil]
  refine ⟨fun h => by simp [identL, h], fun h0 => ⟨fun h => ?_, fun h1 j jr g => ?_⟩⟩
  · simp at h
    have : ¬ l.length ≤ 16 := by omega
    simp [identL, this]
  simp at h1
  have hne : l ≠ [] := by intro e; subst e; simp at h0
  have hsm : small l.length := by unfold small; omega
  have H : ∀ (n i : Nat) j jr g, i + n = l.length → identL l = ((l.drop i).all identC && (!digitsL l || plainL l)) → LoopAt E1 Tryz.f103 (bolP (identL l)) 0 (version_ident_S0 l i j jr g) := by
    intro n
    induction n with
    | zero =>
      intro i j jr g hi hd
      refine loop_go 2000 _ (Eq.mpr (version_ident_go_S0 l i j jr g _) ⟨fun h => ?_, fun h => ⟨den_version_digits l hsm, fun h2 => ⟨den_version_plain l hne, ?_⟩, fun h2 => ?_⟩⟩)
      · simp [size_bs] at h; omega
      · rw [hd, drop_nil (by omega)]; simp [h2]
      · rw [hd, drop_nil (by omega)]; simp [h2]
    | succ n ih =>
      intro i j jr g hi hd
      have hlt : i < l.length := by omega
      rw [drop_all hlt] at hd
      have hw : IntKind.wrap IntKind.i64 ((i : Int) + 1) = ((i + 1 : Nat) : Int) := wrap_i64 _ (by omega) (by omega)
      refine loop_go 2000 _ (Eq.mpr (version_ident_go_S0 l i j jr g _) ⟨fun h => ?_, fun h => ?_⟩)
      · simp only [Int.toNat_natCast, getD_lt hlt, size_bs, hw, decide_eq_true_eq, decide_eq_false_iff_not, beq_iff_eq, beq_eq_false_iff_ne, ne_eq]
        have hc := identC_iff l[i]
        cases hb : identC l[i] with
        | true =>
          rw [hb] at hc hd
          have hc := hc.1 rfl
          have hL := fun j jr g => ih (i + 1) j jr g (by omega) (by rw [hd]; simp)
          generalize (l[i].toNat : Int) = c at hc ⊢
          refine ⟨⟨by omega, hlt⟩, ?_⟩
          repeat' (first | exact hL | omega | refine ⟨?_, ?_⟩ | intro _)
        | false =>
          rw [hb] at hc hd
          have hc : ¬ _ := fun h => absurd (hc.2 h) (by simp)
          have hL : identL l = false := by rw [hd]; simp
          rw [hL]
          generalize (l[i].toNat : Int) = c at hc ⊢
          refine ⟨⟨by omega, hlt⟩, ?_⟩
          repeat' (first | rfl | (exfalso; apply hc; omega) | omega | refine ⟨?_, ?_⟩ | intro _)
      · simp [size_bs] at h; omega
  have h16 : l.length ≤ 16 := by omega
  exact H l.length 0 j jr g (by omega) (by simp [identL, h0, h16])
theorem den_ref07_ident (l : List UInt8) : Den E1 60 [strP l] (bolP (identL l)) := by
  refine den1 2000 _ rfl (by kernel_rfl) rfl rfl rfl (Eq.mpr (ref07_ident_go l _) ?_)
  simp only [size_bs]
  refine ⟨fun h => by simp at h; have : l = [] := List.length_eq_zero_iff.1 (by omega); simp [identL, this], fun h0 => ⟨fun h => ?_, fun h1 j jr g => ?_⟩⟩
  · simp at h
    have : ¬ l.length ≤ 16 := by omega
    simp [identL, this]
  simp at h1
  have hne : l ≠ [] := by intro e; subst e; simp at h0
  have h0 : l.isEmpty = false := by simpa using hne
  have hsm : small l.length := by unfold small; omega
  have H : ∀ (n i : Nat) j jr g, i + n = l.length → identL l = ((l.drop i).all identC && (!digitsL l || plainL l)) → LoopAt E1 Tryz.f60 (bolP (identL l)) 0 (ref07_ident_S0 l i j jr g) := by
    intro n
    induction n with
    | zero =>
      intro i j jr g hi hd
      refine loop_go 2000 _ (Eq.mpr (ref07_ident_go_S0 l i j jr g _) ⟨fun h => ?_, fun h => ⟨den_ref07_digits l hsm, fun h2 => ⟨fun h3 => ?_, fun h3 => ⟨⟨by omega, by have := List.length_pos_iff.2 hne; exact this⟩, ?_⟩⟩, fun h2 => ?_⟩⟩)
      · simp [size_bs] at h; omega
      · rw [toList_bs, toList_bs, beq_iff_eq] at h3; rw [hd, drop_nil (by omega), h3]; rfl
      · rw [toList_bs, toList_bs, beq_eq_false_iff_ne] at h3
        rw [hd, drop_nil (by omega)]
        have h4 : (((l.getD 0 0).toNat : Int) != 48) = ((l.getD 0 0).toNat != 48) := by rw [Bool.eq_iff_iff]; simp; omega
        have h5 : ((l.getD 0 0).toNat != 48) = plainL l := by
          unfold plainL
          by_cases h6 : l.length = 1
          · obtain ⟨a, rfl⟩ := List.length_eq_one_iff.1 h6
            have : ¬ a.toNat = 48 := fun e => h3 (by rw [show a = 48 from UInt8.toNat_inj.1 e])
            simp [this]
          · have : (l.length == 1) = false := by simpa using h6
            rw [this, Bool.false_or]
        rw [h4, h5]
        simp [h2]
      · rw [hd, drop_nil (by omega)]; simp [h2]
    | succ n ih =>
      intro i j jr g hi hd
      have hlt : i < l.length := by omega
      rw [drop_all hlt] at hd
      have hw : IntKind.wrap IntKind.i64 ((i : Int) + 1) = ((i + 1 : Nat) : Int) := wrap_i64 _ (by omega) (by omega)
      refine loop_go 2000 _ (Eq.mpr (ref07_ident_go_S0 l i j jr g _) ⟨fun h => ?_, fun h => ?_⟩)
      · simp only [Int.toNat_natCast, getD_lt hlt, size_bs, hw, decide_eq_true_eq, decide_eq_false_iff_not, bne_iff_ne, bne_eq_false_iff_eq, ne_eq]
        have hc := identC_iff l[i]
        cases hb : identC l[i] with
        | true =>
          rw [hb] at hc hd
          have hc := hc.1 rfl
          have hL := fun j jr g => ih (i + 1) j jr g (by omega) (by rw [hd]; simp)
          generalize (l[i].toNat : Int) = c at hc ⊢
          refine ⟨⟨by omega, hlt⟩, ?_⟩
          repeat' (first | exact hL | omega | refine ⟨?_, ?_⟩ | intro _)
        | false =>
          rw [hb] at hc hd
          have hc : ¬ _ := fun h => absurd (hc.2 h) (by simp)
          have hL : identL l = false := by rw [hd]; simp
          rw [hL]
          generalize (l[i].toNat : Int) = c at hc ⊢
          refine ⟨⟨by omega, hlt⟩, ?_⟩
          repeat' (first | rfl | (exfalso; apply hc; omega) | omega | refine ⟨?_, ?_⟩ | intro _)
      · simp [size_bs] at h; omega
  have h16 : l.length ≤ 16 := by omega
  exact H l.length 0 j jr g (by omega) (by simp [identL, h0, h16])

theorem den_May_1 (l : List UInt8) : Den E1 102 [strP l] (bolP (!identL l)) :=
  den1 2000 _ rfl (by kernel_rfl) rfl rfl rfl (Eq.mpr (version_May_1_go l _) ⟨den_version_ident l, rfl⟩)
theorem den_IndexFunc (x : List (List UInt8)) (k : Nat) (nl full : Bool) (hx : slOk 1 k nl x.length) (hl : small x.length) : Den E1 134 [preP k nl full x, .clo (.func 102) [] []] (intP (firstI (fun s => !identL s) x)) := by
  refine den1 2000 _ rfl (by kernel_rfl) rfl rfl rfl (Eq.mpr (slices_IndexFunc_string_string_go x k nl full _) fun j jr g => ?_)
  have H : ∀ (n i : Nat) j jr g, i + n = x.length → x.findIdx (fun s => !identL s) = i + (x.drop i).findIdx (fun s => !identL s) → LoopAt E1 Tryz.f134 (intP (firstI (fun s => !identL s) x)) 0 (slices_IndexFunc_string_string_S0 x k nl full i j jr g) := by
    intro n
    induction n with
    | zero =>
      intro i j jr g hi hd
      refine loop_go 2000 _ (Eq.mpr (slices_IndexFunc_string_string_go_S0 x k nl full i j jr g _) ⟨fun h => ?_, fun h => ?_⟩)
      · simp at h; omega
      · rw [drop_nil (by omega)] at hd
        simp only [List.findIdx_nil] at hd
        simp only [firstI]
        rw [hd, if_neg (by omega)]
    | succ n ih =>
      intro i j jr g hi hd
      have h1 : i < x.length := by omega
      rw [List.drop_eq_getElem_cons h1, List.findIdx_cons] at hd
      refine loop_go 2000 _ (Eq.mpr (slices_IndexFunc_string_string_go_S0 x k nl full i j jr g _) ⟨fun h => ?_, fun h => ?_⟩)
      · simp only [Int.toNat_natCast, getD_lt h1]
        refine ⟨⟨by omega, sl_at hx h1⟩, by simp [h1, strP], den_May_1 _, fun h2 => ?_, fun h2 j jr g => ?_⟩
        · rw [h2] at hd
          simp only [cond_true] at hd
          simp only [firstI]
          rw [hd, if_pos (by omega)]
          rfl
        · rw [h2] at hd
          simp only [cond_false] at hd
          rw [wrap_i64 _ (by omega) (by unfold small at hl; omega)]
          exact ih (i + 1) j jr g (by omega) (by rw [hd]; omega)
      · simp at h; omega
  exact H x.length 0 j jr g (by omega) (by simp)
theorem firstI_ge (x : List (List UInt8)) : decide (firstI (fun s => !identL s) x ≥ 0) = !x.all identL := by
  unfold firstI
  by_cases h : x.findIdx (fun s => !identL s) < x.length
  · rw [if_pos h]
    have h1 := List.findIdx_getElem (w := h)
    have h2 : x.all identL = false := by
      rw [List.all_eq_false]
      exact ⟨_, List.getElem_mem h, by simpa using h1⟩
    rw [h2]; simp
  · rw [if_neg h]
    have h2 : x.all identL = true := by
      rw [List.all_eq_true]
      intro s hs
      have h3 := List.findIdx_lt_length (p := fun s => !identL s) (xs := x)
      cases hc : identL s with
      | true => rfl
      | false => exact absurd (h3.2 ⟨s, hs, by simp [hc]⟩) h
    rw [h2]; rfl
theorem den_ContainsFunc (x : List (List UInt8)) (k : Nat) (nl full : Bool) (hx : slOk 1 k nl x.length) (hl : small x.length) : Den E1 101 [preP k nl full x, .clo (.func 102) [] []] (bolP (!x.all identL)) :=
  den1 2000 _ rfl (by kernel_rfl) rfl rfl rfl (Eq.mpr (slices_ContainsFunc_string_string_go x k nl full _) ⟨den_IndexFunc x k nl full hx hl, by rw [firstI_ge]⟩)
theorem max3 (a b c m : Int) : (if c > (if b > a then b else a) then c else (if b > a then b else a)) > m ↔ ¬ (a ≤ m ∧ b ≤ m ∧ c ≤ m) := by
  split <;> split <;> omega
theorem mayV_num (v : V) (h : ¬ (v.a ≤ 2147483647 ∧ v.b ≤ 2147483647 ∧ v.c ≤ 2147483647)) : mayV v = false := by
  simp [mayV]; omega
theorem den_version_May (v : V) (hv : v.ok) : Den E1 59 [v.p] (intP (errV (mayV v))) := by
  refine den1 2000 _ rfl (by kernel_rfl) rfl rfl rfl (Eq.mpr (version_May_go v _) ?_)
  simp only [decide_eq_true_eq, decide_eq_false_iff_not, max3, List.length_map]
  refine ⟨trivial, trivial, trivial, fun h => ?_, fun h => ⟨trivial, fun h1 => ?_, fun h1 => ⟨trivial, den_ContainsFunc _ _ _ _ hv.sl hv.len, fun h2 => ?_, fun h2 => ?_⟩⟩⟩
  · rw [mayV_num v h]; rfl
  · have : mayV v = false := by
      have h5 : ¬ v.pre.length ≤ 8 := by omega
      simp [mayV, h5]
    rw [this]; rfl
  · have : mayV v = false := by
      simp only [Bool.not_eq_true'] at h2
      simp [mayV, h2]
    rw [this]; rfl
  · have : mayV v = true := by
      simp only [Bool.not_eq_false'] at h2
      have h5 : v.pre.length ≤ 8 := by omega
      simp [mayV, h2, h5]; omega
    rw [this]; rfl
theorem den_ref07_May (v : V) (hv : v.ok) : Den E1 26 [v.p] (bolP (mayV v)) := by
  refine den1 2000 _ rfl (by kernel_rfl) rfl rfl rfl (Eq.mpr (ref07_May_go v _) ?_)
  refine ⟨rfl, fun h => ?_, fun h => ⟨rfl, fun h1 => ?_, fun h1 => ⟨rfl, fun h2 => ?_, fun h2 => ⟨rfl, fun h3 => ?_, fun h3 j jr g => ?_⟩⟩⟩⟩
  · simp only [decide_eq_true_eq] at h; rw [mayV_num v (by omega)]
  · simp only [decide_eq_true_eq] at h1; rw [mayV_num v (by omega)]
  · simp only [decide_eq_true_eq] at h2; rw [mayV_num v (by omega)]
  · simp only [decide_eq_true_eq, List.length_map] at h3
    have h5 : ¬ v.pre.length ≤ 8 := by omega
    simp [mayV, h5]
  simp only [decide_eq_false_iff_not, List.length_map] at h h1 h2 h3
  have H : ∀ (n i : Nat) j jr g, i + n = v.pre.length → mayV v = (v.pre.drop i).all identL → LoopAt E1 Tryz.f26 (bolP (mayV v)) 0 (ref07_May_S0 v i j jr g) := by
    intro n
    induction n with
    | zero =>
      intro i j jr g hi hd
      refine loop_go 2000 _ (Eq.mpr (ref07_May_go_S0 v i j jr g _) ⟨rfl, fun h => ?_, fun h => ?_⟩)
      · simp at h; omega
      · rw [hd, drop_nil (by omega)]; rfl
    | succ n ih =>
      intro i j jr g hi hd
      have h1 : i < v.pre.length := by omega
      rw [List.drop_eq_getElem_cons h1, List.all_cons] at hd
      refine loop_go 2000 _ (Eq.mpr (ref07_May_go_S0 v i j jr g _) ⟨rfl, fun h => ?_, fun h => ?_⟩)
      · simp only [Int.toNat_natCast, getD_lt h1]
        refine ⟨trivial, ⟨by omega, sl_at hv.sl h1⟩, by simp [h1, strP], den_ref07_ident _, fun h4 => ?_, fun h4 j jr g => ?_⟩
        · simp only [Bool.not_eq_true'] at h4; rw [hd, h4]; rfl
        · simp only [Bool.not_eq_false'] at h4
          rw [wrap_i64 _ (by omega) (by omega)]
          exact ih (i + 1) j jr g (by omega) (by rw [hd, h4]; rfl)
      · simp at h; omega
  have h5 : v.pre.length ≤ 8 := by omega
  exact H v.pre.length 0 j jr g (by omega) (by simp [mayV, h5]; omega)
end Go.Proofs.YtlhfgonjcpapnaaGreatDoor.Abs

/- Edges and spans: what the functions compute. -/
set_option linter.unusedVariables false
set_option linter.unusedSimpArgs false
namespace Go.Proofs.YtlhfgonjcpapnaaGreatDoor.Abs
open Go Go.Proofs

def ordV (v w : V) : Int := if mayV v && mayV w then cmpV v w else 0
def befE (a b : Ed) : Int :=
  if a.less && b.less then 0 else if a.less then 1 else if b.less then -1
  else if ordV a.v b.v != 0 then ordV a.v b.v
  else if a.behind == b.behind then 0 else if b.behind then -1 else 1
def zeroB (v : V) : Bool := v.a == 0 && v.b == 0 && v.c == 0 && decide (v.pre.length = 0)
def rightI (x : I) : Bool := mayV x.lo && mayV x.hi && (!x.less || (!x.hopen && zeroB x.hi))
def emptyI (x : I) : Bool := !x.less && (decide (cmpV x.lo x.hi > 0) || (cmpV x.lo x.hi == 0 && (x.lopen || x.hopen)))
def lowB (x y : Bd) : Int := if cmpV x.v y.v != 0 || x.op == y.op then cmpV x.v y.v else if y.op then -1 else 1
def touchI (x y : I) : Bool := x.less || (decide (cmpV x.hi y.lo > 0) || (cmpV x.hi y.lo == 0 && !(x.hopen && y.lopen)))
def I.lb (x : I) : Bd := ⟨x.lo, x.lopen⟩
end Go.Proofs.YtlhfgonjcpapnaaGreatDoor.Abs

/- Conditions of functions and their loops, printed by a program and checked by computing. -/
set_option linter.unusedVariables false
namespace Go.Proofs.YtlhfgonjcpapnaaGreatDoor.Abs
open Go Go.Proofs

theorem version_Cmp_go (v : V) (w : V) (r : PV) : FnGo E1 Tryz.f111 [V.p v, V.p w] r 2000 (.res (intP (errV (mayV v))) (.fork (.lit (.lit (.lit (.lit (.lit (.hole 0)))))) (.lit (.lit (.res (intP (errV (mayV w))) (.lit (.lit (.fork (.hole 0) (.res (intP (cmpV v w)) (.hole 0)))))))))) =
  (((0 : Nat) = 0) ∧
  (Den E1 59 [V.p v] (intP (errV (mayV v)))) ∧
  ((errV (mayV v) != (0 : Int)) = true →
   ((.tup [intP 0, intP 70]) : PV) = r) ∧
  ((errV (mayV v) != (0 : Int)) = false →
   ((1 : Nat) = 1) ∧
   (Den E1 59 [V.p w] (intP (errV (mayV w)))) ∧
   ((errV (mayV w) != (0 : Int)) = true →
    ((.tup [intP 0, intP 70]) : PV) = r) ∧
   ((errV (mayV w) != (0 : Int)) = false →
    ((0 : Nat) = 0) ∧
    ((1 : Nat) = 1) ∧
    (Den E1 85 [V.p v, V.p w] (intP (cmpV v w))) ∧
    ((.tup [intP (cmpV v w), intP 0]) : PV) = r))) := by kernel_rfl

theorem span_order_go (v : V) (w : V) (r : PV) : FnGo E1 Tryz.f72 [V.p v, V.p w] r 2000 (.res (.tup [intP (ordV v w), intP (errV (mayV v && mayV w))]) (.hole 0)) =
  (((0 : Nat) = 0) ∧
  ((1 : Nat) = 1) ∧
  (Den E1 111 [V.p v, V.p w] (.tup [intP (ordV v w), intP (errV (mayV v && mayV w))])) ∧
  (intP (ordV v w)) = r) := by kernel_rfl

theorem span_before_go (x : Ed) (y : Ed) (r : PV) : FnGo E1 Tryz.f36 [edgP (V.a (Ed.v x)) (V.b (Ed.v x)) (V.c (Ed.v x)) (.sl (V.k (Ed.v x)) (V.nl (Ed.v x)) (V.full (Ed.v x)) (List.map strP (V.pre (Ed.v x)))) (Ed.behind x) (Ed.less x), edgP (V.a (Ed.v y)) (V.b (Ed.v y)) (V.c (Ed.v y)) (.sl (V.k (Ed.v y)) (V.nl (Ed.v y)) (V.full (Ed.v y)) (List.map strP (V.pre (Ed.v y)))) (Ed.behind y) (Ed.less y)] r 2000 (.fork (.lit (.lit (.lit (.fork (.hole 0) (.br true (.hole 0)))))) (.lit (.lit (.lit (.lit (.br false (.fork (.hole 0) (.res (intP (ordV (Ed.v x) (Ed.v y))) (.fork (.hole 0) (.fork (.hole 0) (.fork (.hole 0) (.hole 0)))))))))))) =
  (((0 : Nat) = 0) ∧
  ((Ed.less x) = true →
   ((1 : Nat) = 1) ∧
   ((Ed.less y) = true →
    (intP 0) = r) ∧
   ((Ed.less y) = false →
    ((0 : Nat) = 0) ∧
    ((Ed.less x) = true) ∧
    (intP 1) = r)) ∧
  ((Ed.less x) = false →
   ((0 : Nat) = 0) ∧
   ((Ed.less x) = false) ∧
   ((1 : Nat) = 1) ∧
   ((Ed.less y) = true →
    (intP (-1)) = r) ∧
   ((Ed.less y) = false →
    ((0 : Nat) = 0) ∧
    ((1 : Nat) = 1) ∧
    (Den E1 72 [V.p (Ed.v x), V.p (Ed.v y)] (intP (ordV (Ed.v x) (Ed.v y)))) ∧
    ((ordV (Ed.v x) (Ed.v y) != (0 : Int)) = true →
     (intP (ordV (Ed.v x) (Ed.v y))) = r) ∧
    ((ordV (Ed.v x) (Ed.v y) != (0 : Int)) = false →
     ((0 : Nat) = 0) ∧
     ((1 : Nat) = 1) ∧
     ((Ed.behind x == Ed.behind y) = true →
      (intP 0) = r) ∧
     ((Ed.behind x == Ed.behind y) = false →
      ((1 : Nat) = 1) ∧
      ((Ed.behind y) = true →
       (intP (-1)) = r) ∧
      ((Ed.behind y) = false →
       (intP 1) = r)))))) := by kernel_rfl

theorem span_right_go (x : I) (r : PV) : FnGo E1 Tryz.f35 [I.p x] r 2000 (.res (intP (errV (mayV (I.lo x)))) (.fork (.lit (.lit (.lit (.lit (.lit (.lit (.lit (.hole 0)))))))) (.lit (.lit (.lit (.lit (.res (intP (errV (mayV (I.hi x)))) (.lit (.lit (.fork (.hole 0) (.fork (.lit (.lit (.lit (.lit (.lit (.lit (.lit (.lit (.lit (.lit (.lit (.lit (.hole 0))))))))))))) (.lit (.lit (.lit (.lit (.fork (.lit (.lit (.lit (.lit (.lit (.lit (.lit (.fork (.lit (.lit (.lit (.lit (.lit (.lit (.lit (.fork (.lit (.lit (.lit (.lit (.lit (.lit (.lit (.fork (.lit (.lit (.lit (.lit (.lit (.lit (.lit (.lit (.hole 0))))))))) (.lit (.lit (.lit (.lit (.lit (.lit (.lit (.lit (.hole 0))))))))))))))))) (.lit (.lit (.lit (.lit (.lit (.lit (.lit (.lit (.lit (.lit (.lit (.lit (.lit (.lit (.lit (.lit (.hole 0))))))))))))))))))))))))) (.lit (.lit (.lit (.lit (.lit (.lit (.lit (.lit (.lit (.lit (.lit (.lit (.lit (.lit (.lit (.lit (.lit (.lit (.lit (.lit (.lit (.lit (.lit (.lit (.hole 0))))))))))))))))))))))))))))))))) (.lit (.lit (.lit (.lit (.lit (.lit (.lit (.lit (.lit (.lit (.lit (.lit (.lit (.lit (.lit (.lit (.lit (.lit (.lit (.lit (.lit (.lit (.lit (.lit (.lit (.lit (.lit (.lit (.lit (.lit (.lit (.lit (.hole 0))))))))))))))))))))))))))))))))))))))))))))))))) =
  (((0 : Nat) = 0) ∧
  (Den E1 59 [V.p (I.lo x)] (intP (errV (mayV (I.lo x))))) ∧
  ((errV (mayV (I.lo x)) != (0 : Int)) = true →
   (bolP false) = r) ∧
  ((errV (mayV (I.lo x)) != (0 : Int)) = false →
   ((0 : Nat) = 0) ∧
   (Den E1 59 [V.p (I.hi x)] (intP (errV (mayV (I.hi x))))) ∧
   ((errV (mayV (I.hi x)) != (0 : Int)) = true →
    (bolP false) = r) ∧
   ((errV (mayV (I.hi x)) != (0 : Int)) = false →
    ((0 : Nat) = 0) ∧
    ((16 : Nat) = 16) ∧
    ((0 : Nat) = 0) ∧
    ((!I.less x) = true →
     (bolP true) = r) ∧
    ((!I.less x) = false →
     ((16 : Nat) = 16) ∧
     ((!I.hopen x) = true →
      ((16 : Nat) = 16) ∧
      ((V.a (I.hi x) == (0 : Int)) = true →
       ((16 : Nat) = 16) ∧
       ((V.b (I.hi x) == (0 : Int)) = true →
        ((16 : Nat) = 16) ∧
        ((V.c (I.hi x) == (0 : Int)) = true →
         ((16 : Nat) = 16) ∧
         (bolP ((↑(List.length (List.map strP (V.pre (I.hi x)))) : Int) == (0 : Int))) = r) ∧
        ((V.c (I.hi x) == (0 : Int)) = false →
         (bolP false) = r)) ∧
       ((V.b (I.hi x) == (0 : Int)) = false →
        (bolP false) = r)) ∧
      ((V.a (I.hi x) == (0 : Int)) = false →
       (bolP false) = r)) ∧
     ((!I.hopen x) = false →
      (bolP false) = r))))) := by kernel_rfl

theorem ref08_right_go (x : I) (r : PV) : FnGo E1 Tryz.f42 [I.p x] r 2000 (.res (bolP (mayV (I.lo x))) (.fork (.hole 0) (.fork (.fork (.lit (.lit (.lit (.lit (.lit (.res (bolP (sameV (I.hi x) { a := (0 : Int), b := (0 : Int), c := (0 : Int), k := (0 : Nat), nl := true, full := true, pre := [] })) (.lit (.hole 0)))))))) (.lit (.lit (.lit (.lit (.lit (.lit (.hole 0)))))))) (.res (bolP (mayV (I.hi x))) (.hole 0))))) =
  (((0 : Nat) = 0) ∧
  (Den E1 26 [V.p (I.lo x)] (bolP (mayV (I.lo x)))) ∧
  ((!mayV (I.lo x)) = true →
   (bolP false) = r) ∧
  ((!mayV (I.lo x)) = false →
   ((0 : Nat) = 0) ∧
   ((I.less x) = true →
    ((0 : Nat) = 0) ∧
    ((!I.hopen x) = true →
     ((0 : Nat) = 0) ∧
     (Den E1 46 [V.p (I.hi x), verP 0 0 0 (.sl 0 true true [])] (bolP (sameV (I.hi x) { a := (0 : Int), b := (0 : Int), c := (0 : Int), k := (0 : Nat), nl := true, full := true, pre := [] }))) ∧
     (bolP (sameV (I.hi x) { a := (0 : Int), b := (0 : Int), c := (0 : Int), k := (0 : Nat), nl := true, full := true, pre := [] })) = r) ∧
    ((!I.hopen x) = false →
     (bolP false) = r)) ∧
   ((I.less x) = false →
    ((0 : Nat) = 0) ∧
    (Den E1 26 [V.p (I.hi x)] (bolP (mayV (I.hi x)))) ∧
    (bolP (mayV (I.hi x))) = r))) := by kernel_rfl

theorem ref08_empty_go (x : I) (r : PV) : FnGo E1 Tryz.f43 [I.p x] r 2000 (.fork (.hole 0) (.res (intP (cmpV (I.lo x) (I.hi x))) (.fork (.lit (.lit (.lit (.lit (.lit (.hole 0)))))) (.lit (.lit (.lit (.fork (.lit (.lit (.lit (.lit (.fork (.lit (.lit (.lit (.lit (.lit (.lit (.lit (.lit (.hole 0))))))))) (.lit (.lit (.lit (.lit (.lit (.lit (.lit (.lit (.hole 0)))))))))))))) (.lit (.lit (.lit (.lit (.lit (.lit (.lit (.lit (.hole 0)))))))))))))))) =
  (((0 : Nat) = 0) ∧
  ((I.less x) = true →
   (bolP false) = r) ∧
  ((I.less x) = false →
   ((0 : Nat) = 0) ∧
   ((0 : Nat) = 0) ∧
   (Den E1 80 [V.p (I.lo x), V.p (I.hi x)] (intP (cmpV (I.lo x) (I.hi x)))) ∧
   ((decide (cmpV (I.lo x) (I.hi x) > (0 : Int))) = true →
    (bolP true) = r) ∧
   ((decide (cmpV (I.lo x) (I.hi x) > (0 : Int))) = false →
    ((cmpV (I.lo x) (I.hi x) == (0 : Int)) = true →
     ((0 : Nat) = 0) ∧
     ((I.lopen x) = true →
      (bolP true) = r) ∧
     ((I.lopen x) = false →
      ((0 : Nat) = 0) ∧
      (bolP (I.hopen x)) = r)) ∧
    ((cmpV (I.lo x) (I.hi x) == (0 : Int)) = false →
     (bolP false) = r)))) := by kernel_rfl

theorem ref08_low_go (x : Bd) (y : Bd) (r : PV) : FnGo E1 Tryz.f44 [bndP (V.a (Bd.v x)) (V.b (Bd.v x)) (V.c (Bd.v x)) (.sl (V.k (Bd.v x)) (V.nl (Bd.v x)) (V.full (Bd.v x)) (List.map strP (V.pre (Bd.v x)))) (Bd.op x), bndP (V.a (Bd.v y)) (V.b (Bd.v y)) (V.c (Bd.v y)) (.sl (V.k (Bd.v y)) (V.nl (Bd.v y)) (V.full (Bd.v y)) (List.map strP (V.pre (Bd.v y)))) (Bd.op y)] r 2000 (.res (intP (cmpV (Bd.v x) (Bd.v y))) (.fork (.lit (.lit (.lit (.lit (.lit (.lit (.lit (.hole 0)))))))) (.lit (.lit (.lit (.lit (.lit (.lit (.fork (.hole 0) (.fork (.hole 0) (.hole 0))))))))))) =
  (((0 : Nat) = 0) ∧
  ((1 : Nat) = 1) ∧
  (Den E1 80 [V.p (Bd.v x), V.p (Bd.v y)] (intP (cmpV (Bd.v x) (Bd.v y)))) ∧
  ((cmpV (Bd.v x) (Bd.v y) != (0 : Int)) = true →
   (intP (cmpV (Bd.v x) (Bd.v y))) = r) ∧
  ((cmpV (Bd.v x) (Bd.v y) != (0 : Int)) = false →
   ((0 : Nat) = 0) ∧
   ((1 : Nat) = 1) ∧
   ((Bd.op x == Bd.op y) = true →
    (intP (cmpV (Bd.v x) (Bd.v y))) = r) ∧
   ((Bd.op x == Bd.op y) = false →
    ((1 : Nat) = 1) ∧
    ((Bd.op y) = true →
     (intP (-1)) = r) ∧
    ((Bd.op y) = false →
     (intP 1) = r)))) := by kernel_rfl

theorem ref08_touch_go (x : I) (y : I) (r : PV) : FnGo E1 Tryz.f45 [I.p x, I.p y] r 2000 (.fork (.hole 0) (.res (intP (cmpV (I.hi x) (I.lo y))) (.fork (.lit (.lit (.lit (.lit (.lit (.hole 0)))))) (.lit (.lit (.lit (.fork (.lit (.lit (.lit (.lit (.fork (.lit (.lit (.lit (.lit (.lit (.lit (.lit (.lit (.lit (.hole 0)))))))))) (.lit (.lit (.lit (.lit (.lit (.lit (.lit (.lit (.lit (.hole 0))))))))))))))) (.lit (.lit (.lit (.lit (.lit (.lit (.lit (.lit (.lit (.hole 0))))))))))))))))) =
  (((0 : Nat) = 0) ∧
  ((I.less x) = true →
   (bolP true) = r) ∧
  ((I.less x) = false →
   ((0 : Nat) = 0) ∧
   ((1 : Nat) = 1) ∧
   (Den E1 80 [V.p (I.hi x), V.p (I.lo y)] (intP (cmpV (I.hi x) (I.lo y)))) ∧
   ((decide (cmpV (I.hi x) (I.lo y) > (0 : Int))) = true →
    (bolP true) = r) ∧
   ((decide (cmpV (I.hi x) (I.lo y) > (0 : Int))) = false →
    ((cmpV (I.hi x) (I.lo y) == (0 : Int)) = true →
     ((0 : Nat) = 0) ∧
     ((I.hopen x) = true →
      ((1 : Nat) = 1) ∧
      (bolP (!I.lopen y)) = r) ∧
     ((I.hopen x) = false →
      (bolP true) = r)) ∧
    ((cmpV (I.hi x) (I.lo y) == (0 : Int)) = false →
     (bolP false) = r)))) := by kernel_rfl
end Go.Proofs.YtlhfgonjcpapnaaGreatDoor.Abs

/- Edges and intervals: the functions compute them. -/
set_option linter.unusedVariables false
set_option linter.unusedSimpArgs false
namespace Go.Proofs.YtlhfgonjcpapnaaGreatDoor.Abs
open Go Go.Proofs

theorem errV_ne (b : Bool) : (errV b != 0) = !b := by cases b <;> rfl
theorem errV_eq (b : Bool) : (errV b == 0) = b := by cases b <;> rfl
theorem den_version_Cmp (v w : V) (hv : v.ok) (hw : w.ok) : Den E1 111 [v.p, w.p] (.tup [intP (ordV v w), intP (errV (mayV v && mayV w))]) := by
  refine den1 2000 _ rfl (by kernel_rfl) rfl rfl rfl (Eq.mpr (version_Cmp_go v w _) ?_)
  simp only [errV_ne, Bool.not_eq_true', Bool.not_eq_false']
  refine ⟨trivial, den_version_May v hv, fun h => ?_, fun h => ⟨trivial, den_version_May w hw, fun h1 => ?_, fun h1 => ⟨trivial, trivial, den_compare v w hv hw, ?_⟩⟩⟩
  · simp [ordV, h, errV]
  · simp [ordV, h, h1, errV]
  · simp [ordV, h, h1, errV]
theorem den_span_order (v w : V) (hv : v.ok) (hw : w.ok) : Den E1 72 [v.p, w.p] (intP (ordV v w)) :=
  den1 2000 _ rfl (by kernel_rfl) rfl rfl rfl (Eq.mpr (span_order_go v w _) ⟨rfl, rfl, den_version_Cmp v w hv hw, rfl⟩)
theorem den_before (a b : Ed) (ha : a.v.ok) (hb : b.v.ok) : Den E1 36 [a.p, b.p] (intP (befE a b)) := by
  refine den1 2000 _ rfl (by kernel_rfl) rfl rfl rfl (Eq.mpr (span_before_go a b _) ?_)
  refine ⟨rfl, fun h => ⟨rfl, fun h1 => ?_, fun h1 => ⟨rfl, h, ?_⟩⟩, fun h => ⟨rfl, h, rfl, fun h1 => ?_, fun h1 => ⟨rfl, rfl, den_span_order _ _ ha hb, fun h2 => ?_, fun h2 => ⟨rfl, rfl, fun h3 => ?_, fun h3 => ⟨rfl, fun h4 => ?_, fun h4 => ?_⟩⟩⟩⟩⟩
  · simp [befE, h, h1]
  · simp [befE, h, h1]
  · simp [befE, h, h1]
  · simp [befE, h, h1, h2]
  · simp only [befE, h, h1, h2, h3]; rfl
  · simp only [befE, h, h1, h2, h3]; simp [h4]
  · simp only [befE, h, h1, h2, h3]; simp [h4]
theorem beq_nat (n : Nat) : ((n : Int) == 0) = decide (n = 0) := by rw [Bool.eq_iff_iff]; simp
theorem den_span_right (x : I) (hx : x.ok) : Den E1 35 [x.p] (bolP (rightI x)) := by
  refine den1 2000 _ rfl (by kernel_rfl) rfl rfl rfl (Eq.mpr (span_right_go x _) ?_)
  simp only [errV_ne, Bool.not_eq_true', Bool.not_eq_false', List.length_map, beq_nat]
  refine ⟨trivial, den_version_May _ hx.lo, fun h => ?_, fun h => ⟨trivial, den_version_May _ hx.hi, fun h1 => ?_, fun h1 => ⟨trivial, trivial, trivial, fun h2 => ?_, fun h2 => ⟨trivial, fun h3 => ⟨trivial, fun h4 => ⟨trivial, fun h5 => ⟨trivial, fun h6 => ⟨trivial, ?_⟩, fun h6 => ?_⟩, fun h5 => ?_⟩, fun h4 => ?_⟩, fun h3 => ?_⟩⟩⟩⟩
  · simp [rightI, h]
  · simp [rightI, h, h1]
  · simp [rightI, h, h1, h2]
  · simp [rightI, h, h1, h2, h3, zeroB, h4, h5, h6]
  · simp [rightI, h, h1, h2, h3, zeroB, h4, h5, h6]
  · simp [rightI, h, h1, h2, h3, zeroB, h4, h5]
  · simp [rightI, h, h1, h2, h3, zeroB, h4]
  · simp [rightI, h, h1, h2, h3]
def zeroV : V := ⟨0, 0, 0, 0, true, true, []⟩
theorem zeroV_ok : zeroV.ok := ⟨⟨by decide, by decide⟩, ⟨by decide, by decide⟩, ⟨by decide, by decide⟩, ⟨fun _ => rfl, fun h => by cases h⟩, by unfold small zeroV; decide, fun s h => by cases h⟩
theorem sameV_zero (v : V) : sameV v zeroV = zeroB v := by
  simp only [sameV, zeroB, zeroV]
  congr 1
  cases v.pre <;> rfl
theorem mayV_zero (v : V) (h : zeroB v = true) : mayV v = true := by
  simp [zeroB] at h
  simp [mayV, h]
theorem den_ref08_right (x : I) (hx : x.ok) : Den E1 42 [x.p] (bolP (rightI x)) := by
  refine den1 2000 _ rfl (by kernel_rfl) rfl rfl rfl (Eq.mpr (ref08_right_go x _) ?_)
  simp only [Bool.not_eq_true', Bool.not_eq_false']
  refine ⟨trivial, den_ref07_May _ hx.lo, fun h => ?_, fun h => ⟨trivial, fun h1 => ⟨trivial, fun h2 => ⟨trivial, den_Same _ zeroV hx.hi zeroV_ok, ?_⟩, fun h2 => ?_⟩, fun h1 => ⟨trivial, den_ref07_May _ hx.hi, ?_⟩⟩⟩
  · simp [rightI, h]
  · have : sameV x.hi ⟨0, 0, 0, 0, true, true, []⟩ = zeroB x.hi := sameV_zero x.hi
    rw [this]
    cases hz : zeroB x.hi with
    | true => simp [rightI, h, h1, h2, hz, mayV_zero _ hz]
    | false => simp [rightI, h, h1, h2, hz]
  · simp [rightI, h, h1, h2]
  · simp [rightI, h, h1]
theorem may_len {v : V} (h : mayV v = true) : v.pre.length < 4294967296 := by
  simp [mayV] at h; omega
theorem den_empty (x : I) (hx : x.ok) (h1 : mayV x.lo = true) (h2 : mayV x.hi = true) : Den E1 43 [x.p] (bolP (emptyI x)) := by
  refine den1 2000 _ rfl (by kernel_rfl) rfl rfl rfl (Eq.mpr (ref08_empty_go x _) ?_)
  refine ⟨rfl, fun h => ?_, fun h => ⟨rfl, rfl, den_ref07_Cmp _ _ hx.lo hx.hi (may_len h1) (may_len h2), fun h3 => ?_, fun h3 => ⟨fun h4 => ⟨rfl, fun h5 => ?_, fun h5 => ⟨rfl, ?_⟩⟩, fun h4 => ?_⟩⟩⟩
  · simp [emptyI, h]
  · simp only [emptyI, h, h3]; rfl
  · simp only [emptyI, h, h3, h4, h5]; rfl
  · simp only [emptyI, h, h3, h4, h5]; rfl
  · simp only [emptyI, h, h3, h4]; rfl
theorem den_ref08_low (x y : Bd) (hx : x.v.ok) (hy : y.v.ok) (h1 : mayV x.v = true) (h2 : mayV y.v = true) : Den E1 44 [x.p, y.p] (intP (lowB x y)) := by
  refine den1 2000 _ rfl (by kernel_rfl) rfl rfl rfl (Eq.mpr (ref08_low_go x y _) ?_)
  refine ⟨rfl, rfl, den_ref07_Cmp _ _ hx hy (may_len h1) (may_len h2), fun h3 => ?_, fun h3 => ⟨rfl, rfl, fun h4 => ?_, fun h4 => ⟨rfl, fun h5 => ?_, fun h5 => ?_⟩⟩⟩
  · simp only [lowB, h3]; rfl
  · simp only [lowB, h3, h4]; rfl
  · simp only [lowB, h3, h4]; simp [h5]
  · simp only [lowB, h3, h4]; simp [h5]
theorem den_touch (x y : I) (hx : x.ok) (hy : y.ok) (h1 : mayV x.hi = true) (h2 : mayV y.lo = true) : Den E1 45 [x.p, y.p] (bolP (touchI x y)) := by
  refine den1 2000 _ rfl (by kernel_rfl) rfl rfl rfl (Eq.mpr (ref08_touch_go x y _) ?_)
  refine ⟨rfl, fun h => ?_, fun h => ⟨rfl, rfl, den_ref07_Cmp _ _ hx.hi hy.lo (may_len h1) (may_len h2), fun h3 => ?_, fun h3 => ⟨fun h4 => ⟨rfl, fun h5 => ⟨rfl, ?_⟩, fun h5 => ?_⟩, fun h4 => ?_⟩⟩⟩
  · simp only [touchI, h]; rfl
  · simp only [touchI, h, h3]; rfl
  · simp only [touchI, h, h3, h4, h5]; rfl
  · simp only [touchI, h, h3, h4, h5]; rfl
  · simp only [touchI, h, h3, h4]; rfl
end Go.Proofs.YtlhfgonjcpapnaaGreatDoor.Abs

/-
  Spans: which may be, their text, of the program and of the document's answer, and that both are the same. Conditions: the values are of their types.
-/
import Derived.Test.YtlhfgonjcpapnaaGreatDoorMe

set_option linter.all false
set_option linter.unnecessarySimpa false

/- Conditions of functions and their loops, printed by a program and checked by computing. -/
set_option linter.unusedVariables false
namespace Go.Proofs.YtlhfgonjcpapnaaGreatDoor.Abs
open Go Go.Proofs

def span_May_S0 (l : List I) (k : Nat) (nl : Bool) (full : Bool) (i : Int) (j : Nat → AV) (jr : Nat → Row) (g : Nat) : St :=
  { t := [.pv (.sl k nl full (List.map I.p l)), j (1 : Nat), j (2 : Nat), j (3 : Nat), j (4 : Nat), j (5 : Nat), j (6 : Nat), j (7 : Nat), .pv (.sl k nl full (List.map I.p l)), intA ((↑(List.length (List.map I.p l)) : Int)), intA i, j (11 : Nat), j (12 : Nat), j (13 : Nat), j (14 : Nat), j (15 : Nat), j (16 : Nat), j (17 : Nat), j (18 : Nat), j (19 : Nat), j (20 : Nat), j (21 : Nat), j (22 : Nat), j (23 : Nat), j (24 : Nat), j (25 : Nat), j (26 : Nat), j (27 : Nat), j (28 : Nat), j (29 : Nat), j (30 : Nat), j (31 : Nat), j (32 : Nat), j (33 : Nat), j (34 : Nat), j (35 : Nat), j (36 : Nat), j (37 : Nat), j (38 : Nat), j (39 : Nat), j (40 : Nat), j (41 : Nat), j (42 : Nat)], h := [List.replicate 4 row0 ++ [jr (4 : Nat)] ++ List.replicate 38 row0], g := g }
theorem span_May_go (l : List I) (k : Nat) (nl : Bool) (full : Bool) (r : PV) : FnGo E1 Tryz.f12 [.sl k nl full (List.map I.p l)] r 2000 (.fork (.hole 0) (.mask [1, 2, 3, 4, 5, 6, 7, 11, 12, 13, 14, 15, 16, 17, 18, 19, 20, 21, 22, 23, 24, 25, 26, 27, 28, 29, 30, 31, 32, 33, 34, 35, 36, 37, 38, 39, 40, 41, 42] [4])) =
  (((decide ((↑(List.length (List.map I.p l)) : Int) > (16 : Int))) = true →
   (intP 80) = r) ∧
  ((decide ((↑(List.length (List.map I.p l)) : Int) > (16 : Int))) = false →
   ∀ (j : Nat → AV) (jr : Nat → Row) (g : Nat), LoopAt E1 Tryz.f12 r 0 (span_May_S0 l k nl full (0 : Int) j jr g))) := by kernel_rfl
theorem span_May_go_S0 (l : List I) (k : Nat) (nl : Bool) (full : Bool) (i : Int) (j : Nat → AV) (jr : Nat → Row) (g : Nat) (r : PV) : LoopGo E1 Tryz.f12 r 0 2000 (.fork (.val (I.p (List.getD l (Int.toNat i) default)) (.res (bolP (rightI (List.getD l (Int.toNat i) default))) (.fork (.lit (.lit (.lit (.lit (.lit (.lit (.lit (.lit (.lit (.lit (.lit (.lit (.lit (.lit (.hole 0))))))))))))))) (.lit (.lit (.res (edgP (V.a (I.lo (List.getD l (Int.toNat i) default))) (V.b (I.lo (List.getD l (Int.toNat i) default))) (V.c (I.lo (List.getD l (Int.toNat i) default))) (.sl (V.k (I.lo (List.getD l (Int.toNat i) default))) (V.nl (I.lo (List.getD l (Int.toNat i) default))) (V.full (I.lo (List.getD l (Int.toNat i) default))) (List.map strP (V.pre (I.lo (List.getD l (Int.toNat i) default))))) (I.lopen (List.getD l (Int.toNat i) default)) false) (.lit (.lit (.res (edgP (V.a (I.hi (List.getD l (Int.toNat i) default))) (V.b (I.hi (List.getD l (Int.toNat i) default))) (V.c (I.hi (List.getD l (Int.toNat i) default))) (.sl (V.k (I.hi (List.getD l (Int.toNat i) default))) (V.nl (I.hi (List.getD l (Int.toNat i) default))) (V.full (I.hi (List.getD l (Int.toNat i) default))) (List.map strP (V.pre (I.hi (List.getD l (Int.toNat i) default))))) (!I.hopen (List.getD l (Int.toNat i) default)) (I.less (List.getD l (Int.toNat i) default))) (.lit (.res (intP (befE { v := I.lo (List.getD l (Int.toNat i) default), behind := I.lopen (List.getD l (Int.toNat i) default), less := false } { v := I.hi (List.getD l (Int.toNat i) default), behind := !I.hopen (List.getD l (Int.toNat i) default), less := I.less (List.getD l (Int.toNat i) default) })) (.lit (.lit (.fork (.lit (.lit (.lit (.lit (.lit (.lit (.hole 0))))))) (.lit (.lit (.lit (.fork (.lit (.lit (.lit (.lit (.val (I.p (List.getD l (Int.toNat (IntKind.wrap IntKind.i64 (i - (1 : Int)))) default)) (.lit (.lit (.res (edgP (V.a (I.hi (List.getD l (Int.toNat (IntKind.wrap IntKind.i64 (i - (1 : Int)))) default))) (V.b (I.hi (List.getD l (Int.toNat (IntKind.wrap IntKind.i64 (i - (1 : Int)))) default))) (V.c (I.hi (List.getD l (Int.toNat (IntKind.wrap IntKind.i64 (i - (1 : Int)))) default))) (.sl (V.k (I.hi (List.getD l (Int.toNat (IntKind.wrap IntKind.i64 (i - (1 : Int)))) default))) (V.nl (I.hi (List.getD l (Int.toNat (IntKind.wrap IntKind.i64 (i - (1 : Int)))) default))) (V.full (I.hi (List.getD l (Int.toNat (IntKind.wrap IntKind.i64 (i - (1 : Int)))) default))) (List.map strP (V.pre (I.hi (List.getD l (Int.toNat (IntKind.wrap IntKind.i64 (i - (1 : Int)))) default))))) (!I.hopen (List.getD l (Int.toNat (IntKind.wrap IntKind.i64 (i - (1 : Int)))) default)) (I.less (List.getD l (Int.toNat (IntKind.wrap IntKind.i64 (i - (1 : Int)))) default))) (.lit (.lit (.res (edgP (V.a (I.lo (List.getD l (Int.toNat i) default))) (V.b (I.lo (List.getD l (Int.toNat i) default))) (V.c (I.lo (List.getD l (Int.toNat i) default))) (.sl (V.k (I.lo (List.getD l (Int.toNat i) default))) (V.nl (I.lo (List.getD l (Int.toNat i) default))) (V.full (I.lo (List.getD l (Int.toNat i) default))) (List.map strP (V.pre (I.lo (List.getD l (Int.toNat i) default))))) (I.lopen (List.getD l (Int.toNat i) default)) false) (.lit (.res (intP (befE { v := I.hi (List.getD l (Int.toNat (IntKind.wrap IntKind.i64 (i - (1 : Int)))) default), behind := !I.hopen (List.getD l (Int.toNat (IntKind.wrap IntKind.i64 (i - (1 : Int)))) default), less := I.less (List.getD l (Int.toNat (IntKind.wrap IntKind.i64 (i - (1 : Int)))) default) } { v := I.lo (List.getD l (Int.toNat i) default), behind := I.lopen (List.getD l (Int.toNat i) default), less := false })) (.lit (.lit (.lit (.lit (.fork (.hole 0) (.mask [1, 2, 3, 4, 5, 6, 7, 11, 12, 13, 14, 15, 16, 17, 18, 19, 20, 21, 22, 23, 24, 25, 26, 27, 28, 29, 30, 31, 32, 33, 34, 35, 36, 37, 38, 39, 40, 41, 42] [4]))))))))))))))))))) (.lit (.lit (.lit (.lit (.lit (.lit (.lit (.lit (.lit (.lit (.lit (.lit (.lit (.lit (.mask [1, 2, 3, 4, 5, 6, 7, 11, 12, 13, 14, 15, 16, 17, 18, 19, 20, 21, 22, 23, 24, 25, 26, 27, 28, 29, 30, 31, 32, 33, 34, 35, 36, 37, 38, 39, 40, 41, 42] [4]))))))))))))))))))))))))))))))))) (.hole 0)) (span_May_S0 l k nl full i j jr g) =
  (((decide (i < (↑(List.length (List.map I.p l)) : Int))) = true →
   (((0 : Int) ≤ i) ∧ ((nl = false) ∧ (k = 11))) ∧
   (((List.map I.p l)[Int.toNat i]?) = some (I.p (List.getD l (Int.toNat i) default))) ∧
   ((g + (1 : Nat) + (3 : Nat)) = g + (1 : Nat) + (3 : Nat)) ∧
   ((g + (1 : Nat) + (3 : Nat)) = g + (1 : Nat) + (3 : Nat)) ∧
   (Den E1 35 [I.p (List.getD l (Int.toNat i) default)] (bolP (rightI (List.getD l (Int.toNat i) default)))) ∧
   ((!rightI (List.getD l (Int.toNat i) default)) = true →
    (intP 80) = r) ∧
   ((!rightI (List.getD l (Int.toNat i) default)) = false →
    ((g + (1 : Nat) + (3 : Nat)) = g + (1 : Nat) + (3 : Nat)) ∧
    (Den E1 37 [I.p (List.getD l (Int.toNat i) default)] (edgP (V.a (I.lo (List.getD l (Int.toNat i) default))) (V.b (I.lo (List.getD l (Int.toNat i) default))) (V.c (I.lo (List.getD l (Int.toNat i) default))) (.sl (V.k (I.lo (List.getD l (Int.toNat i) default))) (V.nl (I.lo (List.getD l (Int.toNat i) default))) (V.full (I.lo (List.getD l (Int.toNat i) default))) (List.map strP (V.pre (I.lo (List.getD l (Int.toNat i) default))))) (I.lopen (List.getD l (Int.toNat i) default)) false)) ∧
    ((g + (1 : Nat) + (3 : Nat)) = g + (1 : Nat) + (3 : Nat)) ∧
    (Den E1 38 [I.p (List.getD l (Int.toNat i) default)] (edgP (V.a (I.hi (List.getD l (Int.toNat i) default))) (V.b (I.hi (List.getD l (Int.toNat i) default))) (V.c (I.hi (List.getD l (Int.toNat i) default))) (.sl (V.k (I.hi (List.getD l (Int.toNat i) default))) (V.nl (I.hi (List.getD l (Int.toNat i) default))) (V.full (I.hi (List.getD l (Int.toNat i) default))) (List.map strP (V.pre (I.hi (List.getD l (Int.toNat i) default))))) (!I.hopen (List.getD l (Int.toNat i) default)) (I.less (List.getD l (Int.toNat i) default)))) ∧
    (Den E1 36 [edgP (V.a (I.lo (List.getD l (Int.toNat i) default))) (V.b (I.lo (List.getD l (Int.toNat i) default))) (V.c (I.lo (List.getD l (Int.toNat i) default))) (.sl (V.k (I.lo (List.getD l (Int.toNat i) default))) (V.nl (I.lo (List.getD l (Int.toNat i) default))) (V.full (I.lo (List.getD l (Int.toNat i) default))) (List.map strP (V.pre (I.lo (List.getD l (Int.toNat i) default))))) (I.lopen (List.getD l (Int.toNat i) default)) false, edgP (V.a (I.hi (List.getD l (Int.toNat i) default))) (V.b (I.hi (List.getD l (Int.toNat i) default))) (V.c (I.hi (List.getD l (Int.toNat i) default))) (.sl (V.k (I.hi (List.getD l (Int.toNat i) default))) (V.nl (I.hi (List.getD l (Int.toNat i) default))) (V.full (I.hi (List.getD l (Int.toNat i) default))) (List.map strP (V.pre (I.hi (List.getD l (Int.toNat i) default))))) (!I.hopen (List.getD l (Int.toNat i) default)) (I.less (List.getD l (Int.toNat i) default))] (intP (befE { v := I.lo (List.getD l (Int.toNat i) default), behind := I.lopen (List.getD l (Int.toNat i) default), less := false } { v := I.hi (List.getD l (Int.toNat i) default), behind := !I.hopen (List.getD l (Int.toNat i) default), less := I.less (List.getD l (Int.toNat i) default) }))) ∧
    ((decide (befE { v := I.lo (List.getD l (Int.toNat i) default), behind := I.lopen (List.getD l (Int.toNat i) default), less := false } { v := I.hi (List.getD l (Int.toNat i) default), behind := !I.hopen (List.getD l (Int.toNat i) default), less := I.less (List.getD l (Int.toNat i) default) } ≥ (0 : Int))) = true →
     (intP 80) = r) ∧
    ((decide (befE { v := I.lo (List.getD l (Int.toNat i) default), behind := I.lopen (List.getD l (Int.toNat i) default), less := false } { v := I.hi (List.getD l (Int.toNat i) default), behind := !I.hopen (List.getD l (Int.toNat i) default), less := I.less (List.getD l (Int.toNat i) default) } ≥ (0 : Int))) = false →
     ((decide (i > (0 : Int))) = true →
      (((0 : Int) ≤ IntKind.wrap IntKind.i64 (i - (1 : Int))) ∧ ((nl = false) ∧ (k = 11))) ∧
      (((List.map I.p l)[Int.toNat (IntKind.wrap IntKind.i64 (i - (1 : Int)))]?) = some (I.p (List.getD l (Int.toNat (IntKind.wrap IntKind.i64 (i - (1 : Int)))) default))) ∧
      (Den E1 38 [I.p (List.getD l (Int.toNat (IntKind.wrap IntKind.i64 (i - (1 : Int)))) default)] (edgP (V.a (I.hi (List.getD l (Int.toNat (IntKind.wrap IntKind.i64 (i - (1 : Int)))) default))) (V.b (I.hi (List.getD l (Int.toNat (IntKind.wrap IntKind.i64 (i - (1 : Int)))) default))) (V.c (I.hi (List.getD l (Int.toNat (IntKind.wrap IntKind.i64 (i - (1 : Int)))) default))) (.sl (V.k (I.hi (List.getD l (Int.toNat (IntKind.wrap IntKind.i64 (i - (1 : Int)))) default))) (V.nl (I.hi (List.getD l (Int.toNat (IntKind.wrap IntKind.i64 (i - (1 : Int)))) default))) (V.full (I.hi (List.getD l (Int.toNat (IntKind.wrap IntKind.i64 (i - (1 : Int)))) default))) (List.map strP (V.pre (I.hi (List.getD l (Int.toNat (IntKind.wrap IntKind.i64 (i - (1 : Int)))) default))))) (!I.hopen (List.getD l (Int.toNat (IntKind.wrap IntKind.i64 (i - (1 : Int)))) default)) (I.less (List.getD l (Int.toNat (IntKind.wrap IntKind.i64 (i - (1 : Int)))) default)))) ∧
      ((g + (1 : Nat) + (3 : Nat)) = g + (1 : Nat) + (3 : Nat)) ∧
      (Den E1 37 [I.p (List.getD l (Int.toNat i) default)] (edgP (V.a (I.lo (List.getD l (Int.toNat i) default))) (V.b (I.lo (List.getD l (Int.toNat i) default))) (V.c (I.lo (List.getD l (Int.toNat i) default))) (.sl (V.k (I.lo (List.getD l (Int.toNat i) default))) (V.nl (I.lo (List.getD l (Int.toNat i) default))) (V.full (I.lo (List.getD l (Int.toNat i) default))) (List.map strP (V.pre (I.lo (List.getD l (Int.toNat i) default))))) (I.lopen (List.getD l (Int.toNat i) default)) false)) ∧
      (Den E1 36 [edgP (V.a (I.hi (List.getD l (Int.toNat (IntKind.wrap IntKind.i64 (i - (1 : Int)))) default))) (V.b (I.hi (List.getD l (Int.toNat (IntKind.wrap IntKind.i64 (i - (1 : Int)))) default))) (V.c (I.hi (List.getD l (Int.toNat (IntKind.wrap IntKind.i64 (i - (1 : Int)))) default))) (.sl (V.k (I.hi (List.getD l (Int.toNat (IntKind.wrap IntKind.i64 (i - (1 : Int)))) default))) (V.nl (I.hi (List.getD l (Int.toNat (IntKind.wrap IntKind.i64 (i - (1 : Int)))) default))) (V.full (I.hi (List.getD l (Int.toNat (IntKind.wrap IntKind.i64 (i - (1 : Int)))) default))) (List.map strP (V.pre (I.hi (List.getD l (Int.toNat (IntKind.wrap IntKind.i64 (i - (1 : Int)))) default))))) (!I.hopen (List.getD l (Int.toNat (IntKind.wrap IntKind.i64 (i - (1 : Int)))) default)) (I.less (List.getD l (Int.toNat (IntKind.wrap IntKind.i64 (i - (1 : Int)))) default)), edgP (V.a (I.lo (List.getD l (Int.toNat i) default))) (V.b (I.lo (List.getD l (Int.toNat i) default))) (V.c (I.lo (List.getD l (Int.toNat i) default))) (.sl (V.k (I.lo (List.getD l (Int.toNat i) default))) (V.nl (I.lo (List.getD l (Int.toNat i) default))) (V.full (I.lo (List.getD l (Int.toNat i) default))) (List.map strP (V.pre (I.lo (List.getD l (Int.toNat i) default))))) (I.lopen (List.getD l (Int.toNat i) default)) false] (intP (befE { v := I.hi (List.getD l (Int.toNat (IntKind.wrap IntKind.i64 (i - (1 : Int)))) default), behind := !I.hopen (List.getD l (Int.toNat (IntKind.wrap IntKind.i64 (i - (1 : Int)))) default), less := I.less (List.getD l (Int.toNat (IntKind.wrap IntKind.i64 (i - (1 : Int)))) default) } { v := I.lo (List.getD l (Int.toNat i) default), behind := I.lopen (List.getD l (Int.toNat i) default), less := false }))) ∧
      ((decide (befE { v := I.hi (List.getD l (Int.toNat (IntKind.wrap IntKind.i64 (i - (1 : Int)))) default), behind := !I.hopen (List.getD l (Int.toNat (IntKind.wrap IntKind.i64 (i - (1 : Int)))) default), less := I.less (List.getD l (Int.toNat (IntKind.wrap IntKind.i64 (i - (1 : Int)))) default) } { v := I.lo (List.getD l (Int.toNat i) default), behind := I.lopen (List.getD l (Int.toNat i) default), less := false } ≥ (0 : Int))) = true →
       (intP 80) = r) ∧
      ((decide (befE { v := I.hi (List.getD l (Int.toNat (IntKind.wrap IntKind.i64 (i - (1 : Int)))) default), behind := !I.hopen (List.getD l (Int.toNat (IntKind.wrap IntKind.i64 (i - (1 : Int)))) default), less := I.less (List.getD l (Int.toNat (IntKind.wrap IntKind.i64 (i - (1 : Int)))) default) } { v := I.lo (List.getD l (Int.toNat i) default), behind := I.lopen (List.getD l (Int.toNat i) default), less := false } ≥ (0 : Int))) = false →
       ∀ (j : Nat → AV) (jr : Nat → Row) (g : Nat), LoopAt E1 Tryz.f12 r 0 (span_May_S0 l k nl full (IntKind.wrap IntKind.i64 (i + (1 : Int))) j jr g))) ∧
     ((decide (i > (0 : Int))) = false →
      ∀ (j : Nat → AV) (jr : Nat → Row) (g : Nat), LoopAt E1 Tryz.f12 r 0 (span_May_S0 l k nl full (IntKind.wrap IntKind.i64 (i + (1 : Int))) j jr g))))) ∧
  ((decide (i < (↑(List.length (List.map I.p l)) : Int))) = false →
   (intP 0) = r)) := by kernel_rfl

def ref08_May_S0 (l : List I) (k : Nat) (nl : Bool) (full : Bool) (i : Int) (j : Nat → AV) (jr : Nat → Row) (g : Nat) : St :=
  { t := [.pv (.sl k nl full (List.map I.p l)), j (1 : Nat), j (2 : Nat), intA i, undefA, j (5 : Nat), j (6 : Nat), j (7 : Nat), j (8 : Nat), j (9 : Nat), j (10 : Nat), j (11 : Nat), j (12 : Nat), j (13 : Nat), j (14 : Nat), j (15 : Nat), j (16 : Nat), j (17 : Nat), j (18 : Nat), j (19 : Nat), j (20 : Nat), j (21 : Nat), j (22 : Nat), j (23 : Nat), j (24 : Nat), j (25 : Nat), j (26 : Nat), undefA, undefA, undefA, undefA, undefA, undefA, undefA, undefA, undefA, undefA, undefA, undefA, undefA, undefA, undefA, undefA, undefA, undefA, undefA, undefA, undefA, undefA, undefA, undefA, undefA, undefA, undefA, undefA, undefA, undefA, undefA, undefA], h := [List.replicate 59 row0], g := g }
def ref08_May_S1 (l : List I) (k : Nat) (nl : Bool) (full : Bool) (i : Int) (j : Nat → AV) (jr : Nat → Row) (g : Nat) : St :=
  { t := [.pv (.sl k nl full (List.map I.p l)), j (1 : Nat), j (2 : Nat), j (3 : Nat), intA i, j (5 : Nat), j (6 : Nat), j (7 : Nat), j (8 : Nat), j (9 : Nat), j (10 : Nat), j (11 : Nat), j (12 : Nat), j (13 : Nat), j (14 : Nat), j (15 : Nat), j (16 : Nat), j (17 : Nat), j (18 : Nat), j (19 : Nat), j (20 : Nat), j (21 : Nat), j (22 : Nat), j (23 : Nat), j (24 : Nat), j (25 : Nat), j (26 : Nat), j (27 : Nat), j (28 : Nat), j (29 : Nat), j (30 : Nat), j (31 : Nat), j (32 : Nat), j (33 : Nat), j (34 : Nat), j (35 : Nat), j (36 : Nat), j (37 : Nat), j (38 : Nat), j (39 : Nat), j (40 : Nat), j (41 : Nat), j (42 : Nat), j (43 : Nat), j (44 : Nat), j (45 : Nat), j (46 : Nat), j (47 : Nat), j (48 : Nat), j (49 : Nat), j (50 : Nat), j (51 : Nat), j (52 : Nat), j (53 : Nat), j (54 : Nat), j (55 : Nat), j (56 : Nat), j (57 : Nat), j (58 : Nat)], h := [List.replicate 59 row0], g := g }
theorem ref08_May_go (l : List I) (k : Nat) (nl : Bool) (full : Bool) (r : PV) : FnGo E1 Tryz.f15 [.sl k nl full (List.map I.p l)] r 2000 (.fork (.hole 0) (.mask [1, 2, 5, 6, 7, 8, 9, 10, 11, 12, 13, 14, 15, 16, 17, 18, 19, 20, 21, 22, 23, 24, 25, 26] [])) =
  (((decide ((↑(List.length (List.map I.p l)) : Int) > (16 : Int))) = true →
   (bolP false) = r) ∧
  ((decide ((↑(List.length (List.map I.p l)) : Int) > (16 : Int))) = false →
   ∀ (j : Nat → AV) (jr : Nat → Row) (g : Nat), LoopAt E1 Tryz.f15 r 0 (ref08_May_S0 l k nl full (0 : Int) j jr g))) := by kernel_rfl
theorem ref08_May_go_S0 (l : List I) (k : Nat) (nl : Bool) (full : Bool) (i : Int) (j : Nat → AV) (jr : Nat → Row) (g : Nat) (r : PV) : LoopGo E1 Tryz.f15 r 0 2000 (.fork (.val (I.p (List.getD l (Int.toNat i) default)) (.res (bolP (rightI (List.getD l (Int.toNat i) default))) (.fork (.lit (.lit (.lit (.lit (.lit (.lit (.lit (.hole 0)))))))) (.lit (.lit (.lit (.val (I.p (List.getD l (Int.toNat i) default)) (.lit (.lit (.res (bolP (emptyI (List.getD l (Int.toNat i) default))) (.lit (.fork (.hole 0) (.mask [1, 2, 5, 6, 7, 8, 9, 10, 11, 12, 13, 14, 15, 16, 17, 18, 19, 20, 21, 22, 23, 24, 25, 26] []))))))))))))) (.mask [1, 2, 3, 5, 6, 7, 8, 9, 10, 11, 12, 13, 14, 15, 16, 17, 18, 19, 20, 21, 22, 23, 24, 25, 26, 27, 28, 29, 30, 31, 32, 33, 34, 35, 36, 37, 38, 39, 40, 41, 42, 43, 44, 45, 46, 47, 48, 49, 50, 51, 52, 53, 54, 55, 56, 57, 58] [])) (ref08_May_S0 l k nl full i j jr g) =
  (((decide (i < (↑(List.length (List.map I.p l)) : Int))) = true →
   (((0 : Int) ≤ i) ∧ ((nl = false) ∧ (k = 11))) ∧
   (((List.map I.p l)[Int.toNat i]?) = some (I.p (List.getD l (Int.toNat i) default))) ∧
   (Den E1 42 [I.p (List.getD l (Int.toNat i) default)] (bolP (rightI (List.getD l (Int.toNat i) default)))) ∧
   ((!rightI (List.getD l (Int.toNat i) default)) = true →
    (bolP false) = r) ∧
   ((!rightI (List.getD l (Int.toNat i) default)) = false →
    (((0 : Int) ≤ i) ∧ ((nl = false) ∧ (k = 11))) ∧
    (((List.map I.p l)[Int.toNat i]?) = some (I.p (List.getD l (Int.toNat i) default))) ∧
    (Den E1 43 [I.p (List.getD l (Int.toNat i) default)] (bolP (emptyI (List.getD l (Int.toNat i) default)))) ∧
    ((emptyI (List.getD l (Int.toNat i) default)) = true →
     (bolP false) = r) ∧
    ((emptyI (List.getD l (Int.toNat i) default)) = false →
     ∀ (j : Nat → AV) (jr : Nat → Row) (g : Nat), LoopAt E1 Tryz.f15 r 0 (ref08_May_S0 l k nl full (IntKind.wrap IntKind.i64 (i + (1 : Int))) j jr g)))) ∧
  ((decide (i < (↑(List.length (List.map I.p l)) : Int))) = false →
   ∀ (j : Nat → AV) (jr : Nat → Row) (g : Nat), LoopAt E1 Tryz.f15 r 1 (ref08_May_S1 l k nl full (0 : Int) j jr g))) := by kernel_rfl
theorem ref08_May_go_S1 (l : List I) (k : Nat) (nl : Bool) (full : Bool) (i : Int) (j : Nat → AV) (jr : Nat → Row) (g : Nat) (r : PV) : LoopGo E1 Tryz.f15 r 1 2000 (.fork (.val (I.p (List.getD l (Int.toNat i) default)) (.val (I.p (List.getD l (Int.toNat (IntKind.wrap IntKind.i64 (i + (1 : Int)))) default)) (.res (intP (lowB { v := I.lo (List.getD l (Int.toNat i) default), op := I.lopen (List.getD l (Int.toNat i) default) } { v := I.lo (List.getD l (Int.toNat (IntKind.wrap IntKind.i64 (i + (1 : Int)))) default), op := I.lopen (List.getD l (Int.toNat (IntKind.wrap IntKind.i64 (i + (1 : Int)))) default) })) (.fork (.lit (.lit (.lit (.lit (.lit (.lit (.lit (.lit (.lit (.lit (.lit (.lit (.hole 0))))))))))))) (.lit (.lit (.lit (.val (I.p (List.getD l (Int.toNat i) default)) (.lit (.lit (.lit (.lit (.lit (.val (I.p (List.getD l (Int.toNat (IntKind.wrap IntKind.i64 (i + (1 : Int)))) default)) (.lit (.lit (.res (bolP (touchI (List.getD l (Int.toNat i) default) (List.getD l (Int.toNat (IntKind.wrap IntKind.i64 (i + (1 : Int)))) default))) (.lit (.fork (.hole 0) (.mask [1, 2, 3, 5, 6, 7, 8, 9, 10, 11, 12, 13, 14, 15, 16, 17, 18, 19, 20, 21, 22, 23, 24, 25, 26, 27, 28, 29, 30, 31, 32, 33, 34, 35, 36, 37, 38, 39, 40, 41, 42, 43, 44, 45, 46, 47, 48, 49, 50, 51, 52, 53, 54, 55, 56, 57, 58] [])))))))))))))))))))) (.hole 0)) (ref08_May_S1 l k nl full i j jr g) =
  (((decide (IntKind.wrap IntKind.i64 (i + (1 : Int)) < (↑(List.length (List.map I.p l)) : Int))) = true →
   (((0 : Int) ≤ i) ∧ ((nl = false) ∧ (k = 11))) ∧
   (((List.map I.p l)[Int.toNat i]?) = some (I.p (List.getD l (Int.toNat i) default))) ∧
   (((0 : Int) ≤ IntKind.wrap IntKind.i64 (i + (1 : Int))) ∧ ((nl = false) ∧ (k = 11))) ∧
   (((List.map I.p l)[Int.toNat (IntKind.wrap IntKind.i64 (i + (1 : Int)))]?) = some (I.p (List.getD l (Int.toNat (IntKind.wrap IntKind.i64 (i + (1 : Int)))) default))) ∧
   (Den E1 44 [bndP (V.a (I.lo (List.getD l (Int.toNat i) default))) (V.b (I.lo (List.getD l (Int.toNat i) default))) (V.c (I.lo (List.getD l (Int.toNat i) default))) (.sl (V.k (I.lo (List.getD l (Int.toNat i) default))) (V.nl (I.lo (List.getD l (Int.toNat i) default))) (V.full (I.lo (List.getD l (Int.toNat i) default))) (List.map strP (V.pre (I.lo (List.getD l (Int.toNat i) default))))) (I.lopen (List.getD l (Int.toNat i) default)), bndP (V.a (I.lo (List.getD l (Int.toNat (IntKind.wrap IntKind.i64 (i + (1 : Int)))) default))) (V.b (I.lo (List.getD l (Int.toNat (IntKind.wrap IntKind.i64 (i + (1 : Int)))) default))) (V.c (I.lo (List.getD l (Int.toNat (IntKind.wrap IntKind.i64 (i + (1 : Int)))) default))) (.sl (V.k (I.lo (List.getD l (Int.toNat (IntKind.wrap IntKind.i64 (i + (1 : Int)))) default))) (V.nl (I.lo (List.getD l (Int.toNat (IntKind.wrap IntKind.i64 (i + (1 : Int)))) default))) (V.full (I.lo (List.getD l (Int.toNat (IntKind.wrap IntKind.i64 (i + (1 : Int)))) default))) (List.map strP (V.pre (I.lo (List.getD l (Int.toNat (IntKind.wrap IntKind.i64 (i + (1 : Int)))) default))))) (I.lopen (List.getD l (Int.toNat (IntKind.wrap IntKind.i64 (i + (1 : Int)))) default))] (intP (lowB { v := I.lo (List.getD l (Int.toNat i) default), op := I.lopen (List.getD l (Int.toNat i) default) } { v := I.lo (List.getD l (Int.toNat (IntKind.wrap IntKind.i64 (i + (1 : Int)))) default), op := I.lopen (List.getD l (Int.toNat (IntKind.wrap IntKind.i64 (i + (1 : Int)))) default) }))) ∧
   ((decide (lowB { v := I.lo (List.getD l (Int.toNat i) default), op := I.lopen (List.getD l (Int.toNat i) default) } { v := I.lo (List.getD l (Int.toNat (IntKind.wrap IntKind.i64 (i + (1 : Int)))) default), op := I.lopen (List.getD l (Int.toNat (IntKind.wrap IntKind.i64 (i + (1 : Int)))) default) } ≥ (0 : Int))) = true →
    (bolP false) = r) ∧
   ((decide (lowB { v := I.lo (List.getD l (Int.toNat i) default), op := I.lopen (List.getD l (Int.toNat i) default) } { v := I.lo (List.getD l (Int.toNat (IntKind.wrap IntKind.i64 (i + (1 : Int)))) default), op := I.lopen (List.getD l (Int.toNat (IntKind.wrap IntKind.i64 (i + (1 : Int)))) default) } ≥ (0 : Int))) = false →
    (((0 : Int) ≤ i) ∧ ((nl = false) ∧ (k = 11))) ∧
    (((List.map I.p l)[Int.toNat i]?) = some (I.p (List.getD l (Int.toNat i) default))) ∧
    (((0 : Int) ≤ IntKind.wrap IntKind.i64 (i + (1 : Int))) ∧ ((nl = false) ∧ (k = 11))) ∧
    (((List.map I.p l)[Int.toNat (IntKind.wrap IntKind.i64 (i + (1 : Int)))]?) = some (I.p (List.getD l (Int.toNat (IntKind.wrap IntKind.i64 (i + (1 : Int)))) default))) ∧
    (Den E1 45 [I.p (List.getD l (Int.toNat i) default), I.p (List.getD l (Int.toNat (IntKind.wrap IntKind.i64 (i + (1 : Int)))) default)] (bolP (touchI (List.getD l (Int.toNat i) default) (List.getD l (Int.toNat (IntKind.wrap IntKind.i64 (i + (1 : Int)))) default)))) ∧
    ((touchI (List.getD l (Int.toNat i) default) (List.getD l (Int.toNat (IntKind.wrap IntKind.i64 (i + (1 : Int)))) default)) = true →
     (bolP false) = r) ∧
    ((touchI (List.getD l (Int.toNat i) default) (List.getD l (Int.toNat (IntKind.wrap IntKind.i64 (i + (1 : Int)))) default)) = false →
     ∀ (j : Nat → AV) (jr : Nat → Row) (g : Nat), LoopAt E1 Tryz.f15 r 1 (ref08_May_S1 l k nl full (IntKind.wrap IntKind.i64 (i + (1 : Int))) j jr g)))) ∧
  ((decide (IntKind.wrap IntKind.i64 (i + (1 : Int)) < (↑(List.length (List.map I.p l)) : Int))) = false →
   (bolP true) = r)) := by kernel_rfl
end Go.Proofs.YtlhfgonjcpapnaaGreatDoor.Abs

/- Which spans may be: both functions. -/
set_option linter.unusedVariables false
set_option linter.unusedSimpArgs false
namespace Go.Proofs.YtlhfgonjcpapnaaGreatDoor.Abs
open Go Go.Proofs

def stepOk (p : Option I) (x : I) : Bool := rightI x && decide (befE x.low x.high < 0) && (match p with
  | none => true
  | some p => decide (befE p.high x.low < 0))
def chainOk : Option I → List I → Bool
  | _, [] => true
  | p, x :: l => stepOk p x && chainOk (some x) l
def mayS (l : List I) : Bool := decide (l.length ≤ 16) && chainOk none l
def errS (b : Bool) : Int := if b then 0 else 80
def prevOf (l : List I) : Nat → Option I
  | 0 => none
  | i + 1 => l[i]?
def pairsS : List I → Bool
  | x :: y :: l => decide (lowB x.lb y.lb < 0) && !touchI x y && pairsS (y :: l)
  | _ => true
def mayR (l : List I) : Bool := decide (l.length ≤ 16) && l.all (fun x => rightI x && !emptyI x) && pairsS l

theorem right_lo {x : I} (h : rightI x = true) : mayV x.lo = true := by simp [rightI] at h; exact h.1.1
theorem right_hi {x : I} (h : rightI x = true) : mayV x.hi = true := by simp [rightI] at h; exact h.1.2
theorem mapI_get {l : List I} {i : Nat} (h : i < l.length) : (List.map I.p l)[i]? = some (I.p l[i]) := by simp [h]
theorem sl_at' {k : Nat} {nl : Bool} {n i : Nat} (h : slOk 11 k nl n) (hi : i < n) : nl = false ∧ k = 11 := sl_at h hi

theorem den_span_May (l : List I) (k : Nat) (nl full : Bool) (hsl : slOk 11 k nl l.length) (hok : ∀ x ∈ l, x.ok) : Den E1 12 [listP k nl full l] (intP (errS (mayS l))) := by
  refine den1 2000 _ rfl (by kernel_rfl) rfl rfl rfl (Eq.mpr (span_May_go l k nl full _) ⟨fun h => ?_, fun h j jr g => ?_⟩)
  · simp only [decide_eq_true_eq, List.length_map] at h
    have h5 : ¬ l.length ≤ 16 := by omega
    simp [mayS, h5, errS]
  simp only [decide_eq_false_iff_not, List.length_map] at h
  have h16 : l.length ≤ 16 := by omega
  have H : ∀ (n i : Nat) j jr g, i + n = l.length → mayS l = chainOk (prevOf l i) (l.drop i) → LoopAt E1 Tryz.f12 (intP (errS (mayS l))) 0 (span_May_S0 l k nl full i j jr g) := by
    intro n
    induction n with
    | zero =>
      intro i j jr g hi hd
      refine loop_go 2000 _ (Eq.mpr (span_May_go_S0 l k nl full i j jr g _) ⟨fun h => ?_, fun h => ?_⟩)
      · simp at h; omega
      · rw [hd, drop_nil (by omega)]; rfl
    | succ n ih =>
      intro i j jr g hi hd
      have h1 : i < l.length := by omega
      rw [List.drop_eq_getElem_cons h1, chainOk] at hd
      have hx : l[i].ok := hok _ (by simp)
      have hw : IntKind.wrap IntKind.i64 ((i : Int) + 1) = ((i + 1 : Nat) : Int) := wrap_i64 _ (by omega) (by omega)
      refine loop_go 2000 _ (Eq.mpr (span_May_go_S0 l k nl full i j jr g _) ⟨fun h => ?_, fun h => ?_⟩)
      · simp only [Int.toNat_natCast, getD_lt h1, hw]
        have hm := mapI_get h1
        have hn : l[i]? = some l[i] := by simp [h1]
        generalize l[i] = x at hd hx hm hn ⊢
        refine ⟨⟨by omega, sl_at hsl h1⟩, hm, trivial, trivial, den_span_right _ hx, fun h2 => ?_, fun h2 => ⟨trivial, den_low _, trivial, den_high _, den_before x.low x.high hx.lo hx.hi, fun h3 => ?_, fun h3 => ⟨fun h4 => ?_, fun h4 j jr g => ?_⟩⟩⟩
        · simp only [Bool.not_eq_true'] at h2
          rw [hd]; simp [stepOk, h2, errS]
        · simp only [decide_eq_true_eq] at h3
          have h5 : ¬ befE x.low x.high < 0 := Int.not_lt.2 h3
          rw [hd]; simp [stepOk, h5, errS]
        · simp only [decide_eq_true_eq] at h4
          obtain ⟨i, rfl⟩ : ∃ i', i = i' + 1 := ⟨i - 1, by omega⟩
          have hw2 : IntKind.wrap IntKind.i64 (((i + 1 : Nat) : Int) - 1) = (i : Int) := by rw [wrap_i64 _ (by omega) (by omega)]; omega
          have h0 : i < l.length := by omega
          have hp : prevOf l (i + 1) = some l[i] := by simp [prevOf, h0]
          rw [hp] at hd
          simp only [hw2, Int.toNat_natCast, getD_lt h0]
          have hm0 := mapI_get h0
          have hx0 : l[i].ok := hok _ (by simp)
          generalize l[i] = y at hd hm0 hx0 ⊢
          refine ⟨⟨by omega, sl_at hsl h0⟩, hm0, den_high _, trivial, den_low _, den_before y.high x.low hx0.hi hx.lo, fun h5 => ?_, fun h5 j jr g => ?_⟩
          · simp only [decide_eq_true_eq] at h5
            have h6 : ¬ befE y.high x.low < 0 := Int.not_lt.2 h5
            rw [hd]; simp [stepOk, h6, errS]
          · simp only [decide_eq_false_iff_not] at h3 h5
            have h6 : befE y.high x.low < 0 := Int.not_le.1 h5
            have h7 : befE x.low x.high < 0 := Int.not_le.1 h3
            simp only [Bool.not_eq_false'] at h2
            refine ih (i + 1 + 1) j jr g (by omega) ?_
            rw [hd]
            simp [stepOk, h2, h6, h7, prevOf, hn]
        · simp only [decide_eq_false_iff_not] at h3 h4
          have h0 : i = 0 := by omega
          subst h0
          have h7 : befE x.low x.high < 0 := Int.not_le.1 h3
          simp only [Bool.not_eq_false'] at h2
          refine ih 1 j jr g (by omega) ?_
          rw [hd]
          simp [stepOk, h2, h7, prevOf, hn]
      · simp at h; omega
  have h0 := H l.length 0 j jr g (by omega) (by simp [mayS, h16, prevOf])
  rw [Int.natCast_zero] at h0
  exact h0
theorem pairsS_short {l : List I} (h : l.length ≤ 1) : pairsS l = true := by
  cases l with
  | nil => simp [pairsS]
  | cons x l => cases l with
    | nil => simp [pairsS]
    | cons y l => simp at h
theorem den_ref08_May (l : List I) (k : Nat) (nl full : Bool) (hsl : slOk 11 k nl l.length) (hok : ∀ x ∈ l, x.ok) : Den E1 15 [listP k nl full l] (bolP (mayR l)) := by
  refine den1 2000 _ rfl (by kernel_rfl) rfl rfl rfl (Eq.mpr (ref08_May_go l k nl full _) ⟨fun h => ?_, fun h j jr g => ?_⟩)
  · simp only [decide_eq_true_eq, List.length_map] at h
    have h5 : ¬ l.length ≤ 16 := by omega
    simp [mayR, h5]
  simp only [decide_eq_false_iff_not, List.length_map] at h
  have h16 : l.length ≤ 16 := by omega
  have H2 : (∀ x ∈ l, rightI x = true) → ∀ (n i : Nat) j jr g, i + n = l.length → mayR l = pairsS (l.drop i) → LoopAt E1 Tryz.f15 (bolP (mayR l)) 1 (ref08_May_S1 l k nl full i j jr g) := by
    intro hr n
    induction n with
    | zero =>
      intro i j jr g hi hd
      have hw : IntKind.wrap IntKind.i64 ((i : Int) + 1) = ((i + 1 : Nat) : Int) := wrap_i64 _ (by omega) (by omega)
      refine loop_go 2000 _ (Eq.mpr (ref08_May_go_S1 l k nl full i j jr g _) ⟨fun h => ?_, fun h => ?_⟩)
      · rw [hw] at h; simp only [decide_eq_true_eq, List.length_map] at h; omega
      · rw [hd, drop_nil (by omega)]; rfl
    | succ n ih =>
      intro i j jr g hi hd
      have h1 : i < l.length := by omega
      have hx : l[i].ok := hok _ (by simp)
      have hw : IntKind.wrap IntKind.i64 ((i : Int) + 1) = ((i + 1 : Nat) : Int) := wrap_i64 _ (by omega) (by omega)
      refine loop_go 2000 _ (Eq.mpr (ref08_May_go_S1 l k nl full i j jr g _) ⟨fun h => ?_, fun h => ?_⟩)
      · rw [hw] at h
        simp only [decide_eq_true_eq, List.length_map] at h
        have h2 : i + 1 < l.length := by omega
        have hy : l[i+1].ok := hok _ (by simp)
        rw [List.drop_eq_getElem_cons h1, List.drop_eq_getElem_cons h2, pairsS] at hd
        simp only [hw, Int.toNat_natCast, getD_lt h1, getD_lt h2]
        have hm1 := mapI_get h1
        have hm2 := mapI_get h2
        have hr1 := hr l[i] (by simp)
        have hr2 := hr l[i+1] (by simp)
        have hdr : l.drop (i + 1) = l[i+1] :: l.drop (i + 1 + 1) := List.drop_eq_getElem_cons h2
        generalize l[i] = x at hd hx hm1 hr1 ⊢
        generalize l[i+1] = y at hd hy hm2 hr2 hdr ⊢
        refine ⟨⟨by omega, sl_at hsl h1⟩, hm1, ⟨by omega, sl_at hsl h2⟩, hm2, den_ref08_low x.lb y.lb hx.lo hy.lo (right_lo hr1) (right_lo hr2), fun h3 => ?_, fun h3 => ⟨⟨by omega, sl_at hsl h1⟩, hm1, ⟨by omega, sl_at hsl h2⟩, hm2, den_touch _ _ hx hy (right_hi hr1) (right_lo hr2), fun h4 => ?_, fun h4 j jr g => ?_⟩⟩
        · simp only [decide_eq_true_eq] at h3
          have h6 : ¬ lowB x.lb y.lb < 0 := Int.not_lt.2 h3
          rw [hd]; simp [h6]
        · rw [hd]; simp [h4]
        · simp only [decide_eq_false_iff_not] at h3
          have h6 : lowB x.lb y.lb < 0 := Int.not_le.1 h3
          refine ih (i + 1) j jr g (by omega) ?_
          rw [hd, hdr]; simp [h4, h6]
      · rw [hw] at h
        simp only [decide_eq_false_iff_not, List.length_map] at h
        rw [hd, pairsS_short (by simp; omega)]
  have H : ∀ (n i : Nat) j jr g, i + n = l.length → mayR l = ((l.drop i).all (fun x => rightI x && !emptyI x) && pairsS l) → (∀ x ∈ l.take i, rightI x = true) → LoopAt E1 Tryz.f15 (bolP (mayR l)) 0 (ref08_May_S0 l k nl full i j jr g) := by
    intro n
    induction n with
    | zero =>
      intro i j jr g hi hd hr
      refine loop_go 2000 _ (Eq.mpr (ref08_May_go_S0 l k nl full i j jr g _) ⟨fun h => ?_, fun h j jr g => ?_⟩)
      · simp at h; omega
      · rw [List.take_of_length_le (by omega)] at hr
        have h0 := H2 hr l.length 0 j jr g (by omega) (by rw [hd, drop_nil (by omega)]; rfl)
        rw [Int.natCast_zero] at h0
        exact h0
    | succ n ih =>
      intro i j jr g hi hd hr
      have h1 : i < l.length := by omega
      rw [List.drop_eq_getElem_cons h1, List.all_cons] at hd
      have hx : l[i].ok := hok _ (by simp)
      have hw : IntKind.wrap IntKind.i64 ((i : Int) + 1) = ((i + 1 : Nat) : Int) := wrap_i64 _ (by omega) (by omega)
      refine loop_go 2000 _ (Eq.mpr (ref08_May_go_S0 l k nl full i j jr g _) ⟨fun h => ?_, fun h => ?_⟩)
      · simp only [Int.toNat_natCast, getD_lt h1, hw]
        have hm1 := mapI_get h1
        have htk := List.take_succ_eq_append_getElem h1
        generalize l[i] = x at hd hx hm1 htk ⊢
        refine ⟨⟨by omega, sl_at hsl h1⟩, hm1, den_ref08_right _ hx, fun h2 => ?_, fun h2 => ⟨⟨by omega, sl_at hsl h1⟩, hm1, den_empty _ hx (right_lo (by simpa using h2)) (right_hi (by simpa using h2)), fun h3 => ?_, fun h3 j jr g => ?_⟩⟩
        · simp only [Bool.not_eq_true'] at h2
          rw [hd]; simp [h2]
        · rw [hd]; simp [h3]
        · simp only [Bool.not_eq_false'] at h2
          refine ih (i + 1) j jr g (by omega) (by rw [hd]; simp [h2, h3]) ?_
          intro z hz
          rw [htk] at hz
          rcases List.mem_append.1 hz with hz | hz
          · exact hr z hz
          · simp at hz; rw [hz]; exact h2
      · simp at h; omega
  have h0 := H l.length 0 j jr g (by omega) (by simp [mayR, h16]) (by simp)
  rw [Int.natCast_zero] at h0
  exact h0
end Go.Proofs.YtlhfgonjcpapnaaGreatDoor.Abs

/- Texts of versions and spans: what the functions compute. -/
set_option linter.unusedVariables false
set_option linter.unusedSimpArgs false
namespace Go.Proofs.YtlhfgonjcpapnaaGreatDoor.Abs
open Go Go.Proofs

def joinL (sep : List UInt8) (l : List (List UInt8)) : List UInt8 := Lib.join l sep
/-- the text of a version, however long -/
def verL (v : V) : List UInt8 := joinL [46] [numL v.a.toNat, numL v.b.toNat, numL v.c.toNat] ++ (if v.pre.length > 0 then 45 :: joinL [46] v.pre else [])
def okText (v : V) : Bool := mayV v && decide ((verL v).length ≤ 128)
def txtV (v : V) : List UInt8 := if okText v then verL v else List.replicate 129 63
def leastS (x : I) : Bool := befE { v := x.lo, behind := x.lopen, less := false } { v := { a := 0, b := 0, c := 0, k := 1, nl := false, full := true, pre := [[48]] }, behind := false, less := false } == 0
def wordsOf (least : Bool) (x : I) (one : Bool) (lo hi : List UInt8) : List UInt8 :=
  if least && x.less then [42]
  else if one then 61 :: lo
  else (if least then [] else (if x.lopen then [62] else [62, 61]) ++ lo ++ (if x.less then [] else [32])) ++ (if x.less then [] else (if x.hopen then [60] else [60, 61]) ++ hi)
def wordsS (x : I) : List UInt8 := wordsOf (leastS x) x (!x.less && ordV x.lo x.hi == 0) (txtV x.lo) (txtV x.hi)
def zeroR (x : I) : Bool := cmpV x.lo { a := 0, b := 0, c := 0, k := 1, nl := false, full := true, pre := [[48]] } == 0
def leastR (x : I) : Bool := !x.lopen && zeroR x
def wordsR (x : I) : List UInt8 := wordsOf (leastR x) x (!x.less && cmpV x.lo x.hi == 0) (verL x.lo) (verL x.hi)
def textOf (may : Bool) (l : List (List UInt8)) : List UInt8 × Int :=
  if !may then ([], 80) else if l.length = 0 then ([33], 0) else if (joinL [32, 124, 124, 32] l).length > 128 then ([], 80) else (joinL [32, 124, 124, 32] l, 0)
def strsL : List PV → List (List UInt8)
  | [] => []
  | .lit (.string s) :: l => s.data.toList :: strsL l
  | _ :: l => strsL l
end Go.Proofs.YtlhfgonjcpapnaaGreatDoor.Abs

/- Conditions of functions and their loops, printed by a program and checked by computing. -/
set_option linter.unusedVariables false
namespace Go.Proofs.YtlhfgonjcpapnaaGreatDoor.Abs
open Go Go.Proofs

theorem version_Text_go (v : V) (r : PV) : FnGo E1 Tryz.f74 [V.p v] r 2000 (.res (intP (errV (mayV v))) (.fork (.hole 0) (.go (.lit (.res (.lit (.string (bs (numL (Int.toNat (IntKind.wrap IntKind.u64 (V.a v))))))) (.lit (.lit (.go (.lit (.res (.lit (.string (bs (numL (Int.toNat (IntKind.wrap IntKind.u64 (V.b v))))))) (.lit (.go (.lit (.res (.lit (.string (bs (numL (Int.toNat (IntKind.wrap IntKind.u64 (V.c v))))))) (.lit (.go (.lit (.ev (.res (.lit (.string (bs (joinL [(46 : UInt8)] [numL (Int.toNat (IntKind.wrap IntKind.u64 (V.a v))), numL (Int.toNat (IntKind.wrap IntKind.u64 (V.b v))), numL (Int.toNat (IntKind.wrap IntKind.u64 (V.c v)))])))) (.fork (.res (.lit (.string (bs (joinL [(46 : UInt8)] (V.pre v))))) (.fork (.hole 0) (.hole 0))) (.fork (.hole 0) (.hole 0)))))))))))))))))))))) =
  (((0 : Nat) = 0) ∧
  (Den E1 59 [V.p v] (intP (errV (mayV v)))) ∧
  ((errV (mayV v) != (0 : Int)) = true →
   ((.tup [.lit (.string (bs [])), intP 70]) : PV) = r) ∧
  ((errV (mayV v) != (0 : Int)) = false →
   ((0 : Nat) = 0) ∧
   ((0 : Nat) = 0) ∧
   ((0 : Nat) = 0) ∧
   (Den E1 112 [.lit (.int .u64 (IntKind.wrap IntKind.u64 (V.a v))), intP 10] (.lit (.string (bs (numL (Int.toNat (IntKind.wrap IntKind.u64 (V.a v)))))))) ∧
   ((22 : Nat) = 22) ∧
   (((1 : Nat) = 1) ∧ ((1 : Nat) ≤ (1 : Nat))) ∧
   (((0 : Nat) = 0) ∧ (true = true)) ∧
   (Den E1 112 [.lit (.int .u64 (IntKind.wrap IntKind.u64 (V.b v))), intP 10] (.lit (.string (bs (numL (Int.toNat (IntKind.wrap IntKind.u64 (V.b v)))))))) ∧
   ((34 : Nat) = 34) ∧
   (((1 : Nat) = 1) ∧ ((1 : Nat) ≤ (1 : Nat))) ∧
   ((23 : Nat) = 23) ∧
   ((false = false) ∧ (((1 : Nat) = 1) ∧ (((9 : Nat) = 9) ∧ (((1 : Nat) = 1) ∧ (true = true))))) ∧
   (Den E1 112 [.lit (.int .u64 (IntKind.wrap IntKind.u64 (V.c v))), intP 10] (.lit (.string (bs (numL (Int.toNat (IntKind.wrap IntKind.u64 (V.c v)))))))) ∧
   ((46 : Nat) = 46) ∧
   (((1 : Nat) = 1) ∧ ((1 : Nat) ≤ (1 : Nat))) ∧
   ((35 : Nat) = 35) ∧
   ((false = false) ∧ (((1 : Nat) = 1) ∧ (((9 : Nat) = 9) ∧ (((2 : Nat) = 2) ∧ (true = true))))) ∧
   (Den E1 40 [.sl 1 false false [.lit (.string (bs (numL (Int.toNat (IntKind.wrap IntKind.u64 (V.a v)))))), .lit (.string (bs (numL (Int.toNat (IntKind.wrap IntKind.u64 (V.b v)))))), .lit (.string (bs (numL (Int.toNat (IntKind.wrap IntKind.u64 (V.c v))))))], .lit (.string (bs [(46 : UInt8)]))] (.lit (.string (bs (joinL [(46 : UInt8)] [numL (Int.toNat (IntKind.wrap IntKind.u64 (V.a v))), numL (Int.toNat (IntKind.wrap IntKind.u64 (V.b v))), numL (Int.toNat (IntKind.wrap IntKind.u64 (V.c v)))]))))) ∧
   ((0 : Nat) = 0) ∧
   ((decide ((↑(List.length (List.map strP (V.pre v))) : Int) > (0 : Int))) = true →
    ((0 : Nat) = 0) ∧
    (Den E1 40 [.sl (V.k v) (V.nl v) (V.full v) (List.map strP (V.pre v)), .lit (.string (bs [(46 : UInt8)]))] (.lit (.string (bs (joinL [(46 : UInt8)] (V.pre v)))))) ∧
    ((1 : Nat) + ByteArray.size (bs (joinL [(46 : UInt8)] (V.pre v))) ≤ (9223372036854775807 : Nat)) ∧
    (ByteArray.size (bs (joinL [(46 : UInt8)] [numL (Int.toNat (IntKind.wrap IntKind.u64 (V.a v))), numL (Int.toNat (IntKind.wrap IntKind.u64 (V.b v))), numL (Int.toNat (IntKind.wrap IntKind.u64 (V.c v)))])) + ByteArray.size (bs [(45 : UInt8)] ++ bs (joinL [(46 : UInt8)] (V.pre v))) ≤ (9223372036854775807 : Nat)) ∧
    ((decide ((↑(ByteArray.size (bs (joinL [(46 : UInt8)] [numL (Int.toNat (IntKind.wrap IntKind.u64 (V.a v))), numL (Int.toNat (IntKind.wrap IntKind.u64 (V.b v))), numL (Int.toNat (IntKind.wrap IntKind.u64 (V.c v)))]) ++ (bs [(45 : UInt8)] ++ bs (joinL [(46 : UInt8)] (V.pre v))))) : Int) > (128 : Int))) = true →
     ((.tup [.lit (.string (bs [])), intP 70]) : PV) = r) ∧
    ((decide ((↑(ByteArray.size (bs (joinL [(46 : UInt8)] [numL (Int.toNat (IntKind.wrap IntKind.u64 (V.a v))), numL (Int.toNat (IntKind.wrap IntKind.u64 (V.b v))), numL (Int.toNat (IntKind.wrap IntKind.u64 (V.c v)))]) ++ (bs [(45 : UInt8)] ++ bs (joinL [(46 : UInt8)] (V.pre v))))) : Int) > (128 : Int))) = false →
     ((.tup [.lit (.string (bs (joinL [(46 : UInt8)] [numL (Int.toNat (IntKind.wrap IntKind.u64 (V.a v))), numL (Int.toNat (IntKind.wrap IntKind.u64 (V.b v))), numL (Int.toNat (IntKind.wrap IntKind.u64 (V.c v)))]) ++ (bs [(45 : UInt8)] ++ bs (joinL [(46 : UInt8)] (V.pre v))))), intP 0]) : PV) = r)) ∧
   ((decide ((↑(List.length (List.map strP (V.pre v))) : Int) > (0 : Int))) = false →
    ((decide ((↑(ByteArray.size (bs (joinL [(46 : UInt8)] [numL (Int.toNat (IntKind.wrap IntKind.u64 (V.a v))), numL (Int.toNat (IntKind.wrap IntKind.u64 (V.b v))), numL (Int.toNat (IntKind.wrap IntKind.u64 (V.c v)))]))) : Int) > (128 : Int))) = true →
     ((.tup [.lit (.string (bs [])), intP 70]) : PV) = r) ∧
    ((decide ((↑(ByteArray.size (bs (joinL [(46 : UInt8)] [numL (Int.toNat (IntKind.wrap IntKind.u64 (V.a v))), numL (Int.toNat (IntKind.wrap IntKind.u64 (V.b v))), numL (Int.toNat (IntKind.wrap IntKind.u64 (V.c v)))]))) : Int) > (128 : Int))) = false →
     ((.tup [.lit (.string (bs (joinL [(46 : UInt8)] [numL (Int.toNat (IntKind.wrap IntKind.u64 (V.a v))), numL (Int.toNat (IntKind.wrap IntKind.u64 (V.b v))), numL (Int.toNat (IntKind.wrap IntKind.u64 (V.c v)))]))), intP 0]) : PV) = r)))) := by kernel_rfl

def ref08_version_S0 (v : V) (i : Int) (s : ByteArray) (j : Nat → AV) (jr : Nat → Row) (g : Nat) : St :=
  { t := [j (0 : Nat), .mptr 0 1 0 0 0, strA (bs []), strA s, intA i, j (5 : Nat), j (6 : Nat), j (7 : Nat), j (8 : Nat), j (9 : Nat), j (10 : Nat), j (11 : Nat), j (12 : Nat), j (13 : Nat), j (14 : Nat), j (15 : Nat), j (16 : Nat), j (17 : Nat), j (18 : Nat), j (19 : Nat), j (20 : Nat), j (21 : Nat), j (22 : Nat), j (23 : Nat), j (24 : Nat), j (25 : Nat), j (26 : Nat), j (27 : Nat), j (28 : Nat), j (29 : Nat), j (30 : Nat), j (31 : Nat), j (32 : Nat), j (33 : Nat), j (34 : Nat), j (35 : Nat), j (36 : Nat), j (37 : Nat), j (38 : Nat), j (39 : Nat), j (40 : Nat), j (41 : Nat), j (42 : Nat), j (43 : Nat), j (44 : Nat), j (45 : Nat), undefA], h := [[row0, ⟨0, .box (.pv (V.p v)) false⟩] ++ List.replicate 45 row0], g := g }
theorem ref08_version_go (v : V) (r : PV) : FnGo E1 Tryz.f82 [V.p v] r 2000 (.res (.lit (.string (bs (numL (Int.toNat (IntKind.wrap IntKind.u64 (V.a v))))))) (.res (.lit (.string (bs (numL (Int.toNat (IntKind.wrap IntKind.u64 (V.b v))))))) (.res (.lit (.string (bs (numL (Int.toNat (IntKind.wrap IntKind.u64 (V.c v))))))) (.mask [0, 5, 6, 7, 8, 9, 10, 11, 12, 13, 14, 15, 16, 17, 18, 19, 20, 21, 22, 23, 24, 25, 26, 27, 28, 29, 30, 31, 32, 33, 34, 35, 36, 37, 38, 39, 40, 41, 42, 43, 44, 45] [])))) =
  (((0 : Nat) = 0) ∧
  (Den E1 120 [.lit (.int .u64 (IntKind.wrap IntKind.u64 (V.a v)))] (.lit (.string (bs (numL (Int.toNat (IntKind.wrap IntKind.u64 (V.a v)))))))) ∧
  (ByteArray.size (bs (numL (Int.toNat (IntKind.wrap IntKind.u64 (V.a v))))) + (1 : Nat) ≤ (9223372036854775807 : Nat)) ∧
  ((0 : Nat) = 0) ∧
  (Den E1 120 [.lit (.int .u64 (IntKind.wrap IntKind.u64 (V.b v)))] (.lit (.string (bs (numL (Int.toNat (IntKind.wrap IntKind.u64 (V.b v)))))))) ∧
  (ByteArray.size (bs (numL (Int.toNat (IntKind.wrap IntKind.u64 (V.a v)))) ++ bs [(46 : UInt8)]) + ByteArray.size (bs (numL (Int.toNat (IntKind.wrap IntKind.u64 (V.b v))))) ≤ (9223372036854775807 : Nat)) ∧
  (ByteArray.size (bs (numL (Int.toNat (IntKind.wrap IntKind.u64 (V.a v)))) ++ bs [(46 : UInt8)] ++ bs (numL (Int.toNat (IntKind.wrap IntKind.u64 (V.b v))))) + (1 : Nat) ≤ (9223372036854775807 : Nat)) ∧
  ((0 : Nat) = 0) ∧
  (Den E1 120 [.lit (.int .u64 (IntKind.wrap IntKind.u64 (V.c v)))] (.lit (.string (bs (numL (Int.toNat (IntKind.wrap IntKind.u64 (V.c v)))))))) ∧
  (ByteArray.size (bs (numL (Int.toNat (IntKind.wrap IntKind.u64 (V.a v)))) ++ bs [(46 : UInt8)] ++ bs (numL (Int.toNat (IntKind.wrap IntKind.u64 (V.b v)))) ++ bs [(46 : UInt8)]) + ByteArray.size (bs (numL (Int.toNat (IntKind.wrap IntKind.u64 (V.c v))))) ≤ (9223372036854775807 : Nat)) ∧
  (∀ (j' : Nat → AV) (jr' : Nat → Row) (g' : Nat), LoopAt E1 Tryz.f82 r 0 (ref08_version_S0 v 0 (bs (numL (Int.toNat (IntKind.wrap IntKind.u64 (V.a v)))) ++ bs [(46 : UInt8)] ++ bs (numL (Int.toNat (IntKind.wrap IntKind.u64 (V.b v)))) ++ bs [(46 : UInt8)] ++ bs (numL (Int.toNat (IntKind.wrap IntKind.u64 (V.c v))))) j' jr' g'))) := by kernel_rfl
theorem ref08_version_go_S0 (v : V) (i : Int) (s : ByteArray) (j : Nat → AV) (jr : Nat → Row) (g : Nat) (r : PV) : LoopGo E1 Tryz.f82 r 0 2000 (.fork (.fork (.val (.lit (.string (bs (List.getD (V.pre v) (Int.toNat i) default)))) (.mask [0, 5, 6, 7, 8, 9, 10, 11, 12, 13, 14, 15, 16, 17, 18, 19, 20, 21, 22, 23, 24, 25, 26, 27, 28, 29, 30, 31, 32, 33, 34, 35, 36, 37, 38, 39, 40, 41, 42, 43, 44, 45] [])) (.val (.lit (.string (bs (List.getD (V.pre v) (Int.toNat i) default)))) (.mask [0, 5, 6, 7, 8, 9, 10, 11, 12, 13, 14, 15, 16, 17, 18, 19, 20, 21, 22, 23, 24, 25, 26, 27, 28, 29, 30, 31, 32, 33, 34, 35, 36, 37, 38, 39, 40, 41, 42, 43, 44, 45] []))) (.hole 0)) (ref08_version_S0 v i s j jr g) =
  (((0 : Nat) = 0) ∧
  ((decide (i < (↑(List.length (List.map strP (V.pre v))) : Int))) = true →
   ((i == (0 : Int)) = true →
    (ByteArray.size s + (1 : Nat) ≤ (9223372036854775807 : Nat)) ∧
    ((0 : Nat) = 0) ∧
    (((0 : Int) ≤ i) ∧ (((V.nl v) = false) ∧ ((V.k v) = 1))) ∧
    (((List.map strP (V.pre v))[Int.toNat i]?) = some (.lit (.string (bs (List.getD (V.pre v) (Int.toNat i) default))))) ∧
    (ByteArray.size (s ++ bs [(45 : UInt8)]) + ByteArray.size (bs (List.getD (V.pre v) (Int.toNat i) default)) ≤ (9223372036854775807 : Nat)) ∧
    (∀ (j' : Nat → AV) (jr' : Nat → Row) (g' : Nat), LoopAt E1 Tryz.f82 r 0 (ref08_version_S0 v (IntKind.wrap IntKind.i64 (i + (1 : Int))) (s ++ bs [(45 : UInt8)] ++ bs (List.getD (V.pre v) (Int.toNat i) default)) j' jr' g'))) ∧
   ((i == (0 : Int)) = false →
    (ByteArray.size s + (1 : Nat) ≤ (9223372036854775807 : Nat)) ∧
    ((0 : Nat) = 0) ∧
    (((0 : Int) ≤ i) ∧ (((V.nl v) = false) ∧ ((V.k v) = 1))) ∧
    (((List.map strP (V.pre v))[Int.toNat i]?) = some (.lit (.string (bs (List.getD (V.pre v) (Int.toNat i) default))))) ∧
    (ByteArray.size (s ++ bs [(46 : UInt8)]) + ByteArray.size (bs (List.getD (V.pre v) (Int.toNat i) default)) ≤ (9223372036854775807 : Nat)) ∧
    (∀ (j' : Nat → AV) (jr' : Nat → Row) (g' : Nat), LoopAt E1 Tryz.f82 r 0 (ref08_version_S0 v (IntKind.wrap IntKind.i64 (i + (1 : Int))) (s ++ bs [(46 : UInt8)] ++ bs (List.getD (V.pre v) (Int.toNat i) default)) j' jr' g')))) ∧
  ((decide (i < (↑(List.length (List.map strP (V.pre v))) : Int))) = false →
   ((.lit (.string s)) : PV) = r)) := by kernel_rfl

theorem span_words_1_go (v : V) (r : PV) : FnGo E1 Tryz.f73 [V.p v] r 2000 (.res (.tup [.lit (.string (bs (if okText v = true then verL v else []))), intP (errV (okText v))]) (.fork (.res (.lit (.string (bs (Lib.repeatL [(63 : UInt8)] (129 : Nat))))) (.hole 0)) (.hole 0))) =
  (((0 : Nat) = 0) ∧
  (Den E1 74 [V.p v] (.tup [.lit (.string (bs (if okText v = true then verL v else []))), intP (errV (okText v))])) ∧
  ((errV (okText v) != (0 : Int)) = true →
   (Den E1 75 [.lit (.string (bs [(63 : UInt8)])), intP 129] (.lit (.string (bs (Lib.repeatL [(63 : UInt8)] (129 : Nat)))))) ∧
   ((.lit (.string (bs (Lib.repeatL [(63 : UInt8)] (129 : Nat))))) : PV) = r) ∧
  ((errV (okText v) != (0 : Int)) = false →
   ((.lit (.string (bs (if okText v = true then verL v else [])))) : PV) = r)) := by kernel_rfl

theorem span_words_go (x : I) (r : PV) : FnGo E1 Tryz.f39 [I.p x] r 2000 (.res (edgP (V.a (I.lo x)) (V.b (I.lo x)) (V.c (I.lo x)) (.sl (V.k (I.lo x)) (V.nl (I.lo x)) (V.full (I.lo x)) (List.map strP (V.pre (I.lo x)))) (I.lopen x) false) (.res (edgP 0 0 0 (.sl 1 false true [.lit (.string (bs [(48 : UInt8)]))]) false false) (.res (intP (befE { v := I.lo x, behind := I.lopen x, less := false } { v := { a := (0 : Int), b := (0 : Int), c := (0 : Int), k := (1 : Nat), nl := false, full := true, pre := [[(48 : UInt8)]] }, behind := false, less := false })) (.fork (.lit (.lit (.lit (.fork (.hole 0) (.br true (.lit (.lit (.lit (.lit (.lit (.lit (.lit (.res (intP (ordV (I.lo x) (I.hi x))) (.lit (.lit (.fork (.res (.lit (.string (bs (txtV (I.lo x))))) (.hole 0)) (.br false (.br true (.fork (.res (.lit (.string (bs (txtV (I.hi x))))) (.lit (.lit (.ev (.res (.lit (.string (bs (joinL [(32 : UInt8)] [[(60 : UInt8)] ++ txtV (I.hi x)])))) (.hole 0)))))) (.res (.lit (.string (bs (txtV (I.hi x))))) (.lit (.lit (.ev (.res (.lit (.string (bs (joinL [(32 : UInt8)] [[(60 : UInt8), (61 : UInt8)] ++ txtV (I.hi x)])))) (.hole 0))))))))))))))))))))))))) (.lit (.lit (.lit (.lit (.fork (.lit (.lit (.lit (.lit (.lit (.lit (.lit (.res (intP (ordV (I.lo x) (I.hi x))) (.lit (.lit (.fork (.res (.lit (.string (bs (txtV (I.lo x))))) (.hole 0)) (.br true (.fork (.res (.lit (.string (bs (txtV (I.lo x))))) (.lit (.lit (.br true (.fork (.res (.lit (.string (bs (txtV (I.hi x))))) (.lit (.ev (.res (.lit (.string (bs (joinL [(32 : UInt8)] [[(62 : UInt8)] ++ txtV (I.lo x), [(60 : UInt8)] ++ txtV (I.hi x)])))) (.hole 0))))) (.res (.lit (.string (bs (txtV (I.hi x))))) (.lit (.ev (.res (.lit (.string (bs (joinL [(32 : UInt8)] [[(62 : UInt8)] ++ txtV (I.lo x), [(60 : UInt8), (61 : UInt8)] ++ txtV (I.hi x)])))) (.hole 0)))))))))) (.res (.lit (.string (bs (txtV (I.lo x))))) (.lit (.lit (.br true (.fork (.res (.lit (.string (bs (txtV (I.hi x))))) (.lit (.ev (.res (.lit (.string (bs (joinL [(32 : UInt8)] [[(62 : UInt8), (61 : UInt8)] ++ txtV (I.lo x), [(60 : UInt8)] ++ txtV (I.hi x)])))) (.hole 0))))) (.res (.lit (.string (bs (txtV (I.hi x))))) (.lit (.ev (.res (.lit (.string (bs (joinL [(32 : UInt8)] [[(62 : UInt8), (61 : UInt8)] ++ txtV (I.lo x), [(60 : UInt8), (61 : UInt8)] ++ txtV (I.hi x)])))) (.hole 0))))))))))))))))))))))) (.lit (.lit (.lit (.lit (.lit (.lit (.lit (.lit (.lit (.lit (.br true (.fork (.res (.lit (.string (bs (txtV (I.lo x))))) (.lit (.lit (.br false (.ev (.res (.lit (.string (bs (joinL [(32 : UInt8)] [[(62 : UInt8)] ++ txtV (I.lo x)])))) (.hole 0))))))) (.res (.lit (.string (bs (txtV (I.lo x))))) (.lit (.lit (.br false (.ev (.res (.lit (.string (bs (joinL [(32 : UInt8)] [[(62 : UInt8), (61 : UInt8)] ++ txtV (I.lo x)])))) (.hole 0)))))))))))))))))))))))))))) =
  (((0 : Nat) = 0) ∧
  (Den E1 37 [I.p x] (edgP (V.a (I.lo x)) (V.b (I.lo x)) (V.c (I.lo x)) (.sl (V.k (I.lo x)) (V.nl (I.lo x)) (V.full (I.lo x)) (List.map strP (V.pre (I.lo x)))) (I.lopen x) false)) ∧
  (Den E1 76 [] (edgP 0 0 0 (.sl 1 false true [.lit (.string (bs [(48 : UInt8)]))]) false false)) ∧
  (Den E1 36 [edgP (V.a (I.lo x)) (V.b (I.lo x)) (V.c (I.lo x)) (.sl (V.k (I.lo x)) (V.nl (I.lo x)) (V.full (I.lo x)) (List.map strP (V.pre (I.lo x)))) (I.lopen x) false, edgP 0 0 0 (.sl 1 false true [.lit (.string (bs [(48 : UInt8)]))]) false false] (intP (befE { v := I.lo x, behind := I.lopen x, less := false } { v := { a := (0 : Int), b := (0 : Int), c := (0 : Int), k := (1 : Nat), nl := false, full := true, pre := [[(48 : UInt8)]] }, behind := false, less := false }))) ∧
  ((befE { v := I.lo x, behind := I.lopen x, less := false } { v := { a := (0 : Int), b := (0 : Int), c := (0 : Int), k := (1 : Nat), nl := false, full := true, pre := [[(48 : UInt8)]] }, behind := false, less := false } == (0 : Int)) = true →
   ((0 : Nat) = 0) ∧
   ((I.less x) = true →
    ((.lit (.string (bs [(42 : UInt8)]))) : PV) = r) ∧
   ((I.less x) = false →
    ((0 : Nat) = 0) ∧
    ((!I.less x) = true) ∧
    ((0 : Nat) = 0) ∧
    ((0 : Nat) = 0) ∧
    (Den E1 72 [V.p (I.lo x), V.p (I.hi x)] (intP (ordV (I.lo x) (I.hi x)))) ∧
    ((ordV (I.lo x) (I.hi x) == (0 : Int)) = true →
     ((0 : Nat) = 0) ∧
     (Den E1 73 [V.p (I.lo x)] (.lit (.string (bs (txtV (I.lo x)))))) ∧
     ((1 : Nat) + ByteArray.size (bs (txtV (I.lo x))) ≤ (9223372036854775807 : Nat)) ∧
     ((.lit (.string (bs [(61 : UInt8)] ++ bs (txtV (I.lo x))))) : PV) = r) ∧
    ((ordV (I.lo x) (I.hi x) == (0 : Int)) = false →
     ((!befE { v := I.lo x, behind := I.lopen x, less := false } { v := { a := (0 : Int), b := (0 : Int), c := (0 : Int), k := (1 : Nat), nl := false, full := true, pre := [[(48 : UInt8)]] }, behind := false, less := false } == (0 : Int)) = false) ∧
     ((0 : Nat) = 0) ∧
     ((!I.less x) = true) ∧
     ((0 : Nat) = 0) ∧
     ((I.hopen x) = true →
      ((0 : Nat) = 0) ∧
      (Den E1 73 [V.p (I.hi x)] (.lit (.string (bs (txtV (I.hi x)))))) ∧
      ((1 : Nat) + ByteArray.size (bs (txtV (I.hi x))) ≤ (9223372036854775807 : Nat)) ∧
      ((48 : Nat) = 48) ∧
      (((1 : Nat) = 1) ∧ ((1 : Nat) ≤ (1 : Nat))) ∧
      (((0 : Nat) = 0) ∧ (true = true)) ∧
      (Den E1 40 [.sl 1 false false [.lit (.string (bs [(60 : UInt8)] ++ bs (txtV (I.hi x))))], .lit (.string (bs [(32 : UInt8)]))] (.lit (.string (bs (joinL [(32 : UInt8)] [[(60 : UInt8)] ++ txtV (I.hi x)]))))) ∧
      ((.lit (.string (bs (joinL [(32 : UInt8)] [[(60 : UInt8)] ++ txtV (I.hi x)])))) : PV) = r) ∧
     ((I.hopen x) = false →
      ((0 : Nat) = 0) ∧
      (Den E1 73 [V.p (I.hi x)] (.lit (.string (bs (txtV (I.hi x)))))) ∧
      ((2 : Nat) + ByteArray.size (bs (txtV (I.hi x))) ≤ (9223372036854775807 : Nat)) ∧
      ((47 : Nat) = 47) ∧
      (((1 : Nat) = 1) ∧ ((1 : Nat) ≤ (1 : Nat))) ∧
      (((0 : Nat) = 0) ∧ (true = true)) ∧
      (Den E1 40 [.sl 1 false false [.lit (.string (bs [(60 : UInt8), (61 : UInt8)] ++ bs (txtV (I.hi x))))], .lit (.string (bs [(32 : UInt8)]))] (.lit (.string (bs (joinL [(32 : UInt8)] [[(60 : UInt8), (61 : UInt8)] ++ txtV (I.hi x)]))))) ∧
      ((.lit (.string (bs (joinL [(32 : UInt8)] [[(60 : UInt8), (61 : UInt8)] ++ txtV (I.hi x)])))) : PV) = r)))) ∧
  ((befE { v := I.lo x, behind := I.lopen x, less := false } { v := { a := (0 : Int), b := (0 : Int), c := (0 : Int), k := (1 : Nat), nl := false, full := true, pre := [[(48 : UInt8)]] }, behind := false, less := false } == (0 : Int)) = false →
   ((0 : Nat) = 0) ∧
   ((!I.less x) = true →
    ((0 : Nat) = 0) ∧
    ((0 : Nat) = 0) ∧
    (Den E1 72 [V.p (I.lo x), V.p (I.hi x)] (intP (ordV (I.lo x) (I.hi x)))) ∧
    ((ordV (I.lo x) (I.hi x) == (0 : Int)) = true →
     ((0 : Nat) = 0) ∧
     (Den E1 73 [V.p (I.lo x)] (.lit (.string (bs (txtV (I.lo x)))))) ∧
     ((1 : Nat) + ByteArray.size (bs (txtV (I.lo x))) ≤ (9223372036854775807 : Nat)) ∧
     ((.lit (.string (bs [(61 : UInt8)] ++ bs (txtV (I.lo x))))) : PV) = r) ∧
    ((ordV (I.lo x) (I.hi x) == (0 : Int)) = false →
     ((!befE { v := I.lo x, behind := I.lopen x, less := false } { v := { a := (0 : Int), b := (0 : Int), c := (0 : Int), k := (1 : Nat), nl := false, full := true, pre := [[(48 : UInt8)]] }, behind := false, less := false } == (0 : Int)) = true) ∧
     ((0 : Nat) = 0) ∧
     ((I.lopen x) = true →
      ((0 : Nat) = 0) ∧
      (Den E1 73 [V.p (I.lo x)] (.lit (.string (bs (txtV (I.lo x)))))) ∧
      ((1 : Nat) + ByteArray.size (bs (txtV (I.lo x))) ≤ (9223372036854775807 : Nat)) ∧
      ((45 : Nat) = 45) ∧
      (((1 : Nat) = 1) ∧ ((1 : Nat) ≤ (1 : Nat))) ∧
      (((0 : Nat) = 0) ∧ (true = true)) ∧
      ((0 : Nat) = 0) ∧
      ((!I.less x) = true) ∧
      ((0 : Nat) = 0) ∧
      ((I.hopen x) = true →
       ((0 : Nat) = 0) ∧
       (Den E1 73 [V.p (I.hi x)] (.lit (.string (bs (txtV (I.hi x)))))) ∧
       ((1 : Nat) + ByteArray.size (bs (txtV (I.hi x))) ≤ (9223372036854775807 : Nat)) ∧
       ((64 : Nat) = 64) ∧
       (((1 : Nat) = 1) ∧ ((1 : Nat) ≤ (1 : Nat))) ∧
       ((46 : Nat) = 46) ∧
       ((false = false) ∧ (((1 : Nat) = 1) ∧ (((9 : Nat) = 9) ∧ (((1 : Nat) = 1) ∧ (true = true))))) ∧
       (Den E1 40 [.sl 1 false false [.lit (.string (bs [(62 : UInt8)] ++ bs (txtV (I.lo x)))), .lit (.string (bs [(60 : UInt8)] ++ bs (txtV (I.hi x))))], .lit (.string (bs [(32 : UInt8)]))] (.lit (.string (bs (joinL [(32 : UInt8)] [[(62 : UInt8)] ++ txtV (I.lo x), [(60 : UInt8)] ++ txtV (I.hi x)]))))) ∧
       ((.lit (.string (bs (joinL [(32 : UInt8)] [[(62 : UInt8)] ++ txtV (I.lo x), [(60 : UInt8)] ++ txtV (I.hi x)])))) : PV) = r) ∧
      ((I.hopen x) = false →
       ((0 : Nat) = 0) ∧
       (Den E1 73 [V.p (I.hi x)] (.lit (.string (bs (txtV (I.hi x)))))) ∧
       ((2 : Nat) + ByteArray.size (bs (txtV (I.hi x))) ≤ (9223372036854775807 : Nat)) ∧
       ((63 : Nat) = 63) ∧
       (((1 : Nat) = 1) ∧ ((1 : Nat) ≤ (1 : Nat))) ∧
       ((46 : Nat) = 46) ∧
       ((false = false) ∧ (((1 : Nat) = 1) ∧ (((9 : Nat) = 9) ∧ (((1 : Nat) = 1) ∧ (true = true))))) ∧
       (Den E1 40 [.sl 1 false false [.lit (.string (bs [(62 : UInt8)] ++ bs (txtV (I.lo x)))), .lit (.string (bs [(60 : UInt8), (61 : UInt8)] ++ bs (txtV (I.hi x))))], .lit (.string (bs [(32 : UInt8)]))] (.lit (.string (bs (joinL [(32 : UInt8)] [[(62 : UInt8)] ++ txtV (I.lo x), [(60 : UInt8), (61 : UInt8)] ++ txtV (I.hi x)]))))) ∧
       ((.lit (.string (bs (joinL [(32 : UInt8)] [[(62 : UInt8)] ++ txtV (I.lo x), [(60 : UInt8), (61 : UInt8)] ++ txtV (I.hi x)])))) : PV) = r)) ∧
     ((I.lopen x) = false →
      ((0 : Nat) = 0) ∧
      (Den E1 73 [V.p (I.lo x)] (.lit (.string (bs (txtV (I.lo x)))))) ∧
      ((2 : Nat) + ByteArray.size (bs (txtV (I.lo x))) ≤ (9223372036854775807 : Nat)) ∧
      ((44 : Nat) = 44) ∧
      (((1 : Nat) = 1) ∧ ((1 : Nat) ≤ (1 : Nat))) ∧
      (((0 : Nat) = 0) ∧ (true = true)) ∧
      ((0 : Nat) = 0) ∧
      ((!I.less x) = true) ∧
      ((0 : Nat) = 0) ∧
      ((I.hopen x) = true →
       ((0 : Nat) = 0) ∧
       (Den E1 73 [V.p (I.hi x)] (.lit (.string (bs (txtV (I.hi x)))))) ∧
       ((1 : Nat) + ByteArray.size (bs (txtV (I.hi x))) ≤ (9223372036854775807 : Nat)) ∧
       ((63 : Nat) = 63) ∧
       (((1 : Nat) = 1) ∧ ((1 : Nat) ≤ (1 : Nat))) ∧
       ((45 : Nat) = 45) ∧
       ((false = false) ∧ (((1 : Nat) = 1) ∧ (((9 : Nat) = 9) ∧ (((1 : Nat) = 1) ∧ (true = true))))) ∧
       (Den E1 40 [.sl 1 false false [.lit (.string (bs [(62 : UInt8), (61 : UInt8)] ++ bs (txtV (I.lo x)))), .lit (.string (bs [(60 : UInt8)] ++ bs (txtV (I.hi x))))], .lit (.string (bs [(32 : UInt8)]))] (.lit (.string (bs (joinL [(32 : UInt8)] [[(62 : UInt8), (61 : UInt8)] ++ txtV (I.lo x), [(60 : UInt8)] ++ txtV (I.hi x)]))))) ∧
       ((.lit (.string (bs (joinL [(32 : UInt8)] [[(62 : UInt8), (61 : UInt8)] ++ txtV (I.lo x), [(60 : UInt8)] ++ txtV (I.hi x)])))) : PV) = r) ∧
      ((I.hopen x) = false →
       ((0 : Nat) = 0) ∧
       (Den E1 73 [V.p (I.hi x)] (.lit (.string (bs (txtV (I.hi x)))))) ∧
       ((2 : Nat) + ByteArray.size (bs (txtV (I.hi x))) ≤ (9223372036854775807 : Nat)) ∧
       ((62 : Nat) = 62) ∧
       (((1 : Nat) = 1) ∧ ((1 : Nat) ≤ (1 : Nat))) ∧
       ((45 : Nat) = 45) ∧
       ((false = false) ∧ (((1 : Nat) = 1) ∧ (((9 : Nat) = 9) ∧ (((1 : Nat) = 1) ∧ (true = true))))) ∧
       (Den E1 40 [.sl 1 false false [.lit (.string (bs [(62 : UInt8), (61 : UInt8)] ++ bs (txtV (I.lo x)))), .lit (.string (bs [(60 : UInt8), (61 : UInt8)] ++ bs (txtV (I.hi x))))], .lit (.string (bs [(32 : UInt8)]))] (.lit (.string (bs (joinL [(32 : UInt8)] [[(62 : UInt8), (61 : UInt8)] ++ txtV (I.lo x), [(60 : UInt8), (61 : UInt8)] ++ txtV (I.hi x)]))))) ∧
       ((.lit (.string (bs (joinL [(32 : UInt8)] [[(62 : UInt8), (61 : UInt8)] ++ txtV (I.lo x), [(60 : UInt8), (61 : UInt8)] ++ txtV (I.hi x)])))) : PV) = r)))) ∧
   ((!I.less x) = false →
    ((!befE { v := I.lo x, behind := I.lopen x, less := false } { v := { a := (0 : Int), b := (0 : Int), c := (0 : Int), k := (1 : Nat), nl := false, full := true, pre := [[(48 : UInt8)]] }, behind := false, less := false } == (0 : Int)) = true) ∧
    ((0 : Nat) = 0) ∧
    ((I.lopen x) = true →
     ((0 : Nat) = 0) ∧
     (Den E1 73 [V.p (I.lo x)] (.lit (.string (bs (txtV (I.lo x)))))) ∧
     ((1 : Nat) + ByteArray.size (bs (txtV (I.lo x))) ≤ (9223372036854775807 : Nat)) ∧
     ((45 : Nat) = 45) ∧
     (((1 : Nat) = 1) ∧ ((1 : Nat) ≤ (1 : Nat))) ∧
     (((0 : Nat) = 0) ∧ (true = true)) ∧
     ((0 : Nat) = 0) ∧
     ((!I.less x) = false) ∧
     (Den E1 40 [.sl 1 false false [.lit (.string (bs [(62 : UInt8)] ++ bs (txtV (I.lo x))))], .lit (.string (bs [(32 : UInt8)]))] (.lit (.string (bs (joinL [(32 : UInt8)] [[(62 : UInt8)] ++ txtV (I.lo x)]))))) ∧
     ((.lit (.string (bs (joinL [(32 : UInt8)] [[(62 : UInt8)] ++ txtV (I.lo x)])))) : PV) = r) ∧
    ((I.lopen x) = false →
     ((0 : Nat) = 0) ∧
     (Den E1 73 [V.p (I.lo x)] (.lit (.string (bs (txtV (I.lo x)))))) ∧
     ((2 : Nat) + ByteArray.size (bs (txtV (I.lo x))) ≤ (9223372036854775807 : Nat)) ∧
     ((44 : Nat) = 44) ∧
     (((1 : Nat) = 1) ∧ ((1 : Nat) ≤ (1 : Nat))) ∧
     (((0 : Nat) = 0) ∧ (true = true)) ∧
     ((0 : Nat) = 0) ∧
     ((!I.less x) = false) ∧
     (Den E1 40 [.sl 1 false false [.lit (.string (bs [(62 : UInt8), (61 : UInt8)] ++ bs (txtV (I.lo x))))], .lit (.string (bs [(32 : UInt8)]))] (.lit (.string (bs (joinL [(32 : UInt8)] [[(62 : UInt8), (61 : UInt8)] ++ txtV (I.lo x)]))))) ∧
     ((.lit (.string (bs (joinL [(32 : UInt8)] [[(62 : UInt8), (61 : UInt8)] ++ txtV (I.lo x)])))) : PV) = r)))) := by kernel_rfl

theorem ref08_words_go (x : I) (r : PV) : FnGo E1 Tryz.f41 [I.p x] r 2000 (.fork (.lit (.lit (.lit (.lit (.res (verP 0 0 0 (.sl 1 false true [.lit (.string (bs [(48 : UInt8)]))])) (.lit (.res (intP (cmpV (I.lo x) { a := (0 : Int), b := (0 : Int), c := (0 : Int), k := (1 : Nat), nl := false, full := true, pre := [[(48 : UInt8)]] })) (.lit (.lit (.fork (.lit (.lit (.lit (.fork (.hole 0) (.br true (.lit (.lit (.lit (.lit (.lit (.lit (.lit (.res (intP (cmpV (I.lo x) (I.hi x))) (.lit (.lit (.fork (.res (.lit (.string (bs (verL (I.lo x))))) (.hole 0)) (.br false (.br true (.fork (.res (.lit (.string (bs (verL (I.hi x))))) (.hole 0)) (.res (.lit (.string (bs (verL (I.hi x))))) (.hole 0))))))))))))))))))))) (.lit (.lit (.lit (.lit (.fork (.lit (.lit (.lit (.lit (.lit (.lit (.lit (.res (intP (cmpV (I.lo x) (I.hi x))) (.lit (.lit (.fork (.res (.lit (.string (bs (verL (I.lo x))))) (.hole 0)) (.br true (.br true (.res (.lit (.string (bs (verL (I.lo x))))) (.br true (.br true (.fork (.res (.lit (.string (bs (verL (I.hi x))))) (.hole 0)) (.res (.lit (.string (bs (verL (I.hi x))))) (.hole 0))))))))))))))))))) (.lit (.lit (.lit (.lit (.lit (.lit (.lit (.lit (.lit (.lit (.br true (.br true (.res (.lit (.string (bs (verL (I.lo x))))) (.br false (.br false (.hole 0))))))))))))))))))))))))))))))) (.lit (.lit (.lit (.lit (.lit (.lit (.lit (.lit (.lit (.lit (.lit (.lit (.fork (.lit (.lit (.lit (.lit (.lit (.lit (.lit (.res (intP (cmpV (I.lo x) (I.hi x))) (.lit (.lit (.fork (.res (.lit (.string (bs (verL (I.lo x))))) (.hole 0)) (.lit (.br false (.res (.lit (.string (bs (verL (I.lo x))))) (.br true (.br true (.fork (.res (.lit (.string (bs (verL (I.hi x))))) (.hole 0)) (.res (.lit (.string (bs (verL (I.hi x))))) (.hole 0))))))))))))))))))) (.lit (.lit (.lit (.lit (.lit (.lit (.lit (.lit (.lit (.lit (.lit (.br false (.res (.lit (.string (bs (verL (I.lo x))))) (.br false (.br false (.hole 0)))))))))))))))))))))))))))))) =
  (((0 : Nat) = 0) ∧
  ((!I.lopen x) = true →
   ((0 : Nat) = 0) ∧
   (Den E1 81 [] (verP 0 0 0 (.sl 1 false true [.lit (.string (bs [(48 : UInt8)]))]))) ∧
   (Den E1 80 [V.p (I.lo x), verP 0 0 0 (.sl 1 false true [.lit (.string (bs [(48 : UInt8)]))])] (intP (cmpV (I.lo x) { a := (0 : Int), b := (0 : Int), c := (0 : Int), k := (1 : Nat), nl := false, full := true, pre := [[(48 : UInt8)]] }))) ∧
   ((cmpV (I.lo x) { a := (0 : Int), b := (0 : Int), c := (0 : Int), k := (1 : Nat), nl := false, full := true, pre := [[(48 : UInt8)]] } == (0 : Int)) = true →
    ((0 : Nat) = 0) ∧
    ((I.less x) = true →
     ((.lit (.string (bs [(42 : UInt8)]))) : PV) = r) ∧
    ((I.less x) = false →
     ((0 : Nat) = 0) ∧
     ((!I.less x) = true) ∧
     ((0 : Nat) = 0) ∧
     ((0 : Nat) = 0) ∧
     (Den E1 80 [V.p (I.lo x), V.p (I.hi x)] (intP (cmpV (I.lo x) (I.hi x)))) ∧
     ((cmpV (I.lo x) (I.hi x) == (0 : Int)) = true →
      ((0 : Nat) = 0) ∧
      (Den E1 82 [V.p (I.lo x)] (.lit (.string (bs (verL (I.lo x)))))) ∧
      ((1 : Nat) + ByteArray.size (bs (verL (I.lo x))) ≤ (9223372036854775807 : Nat)) ∧
      ((.lit (.string (bs [(61 : UInt8)] ++ bs (verL (I.lo x))))) : PV) = r) ∧
     ((cmpV (I.lo x) (I.hi x) == (0 : Int)) = false →
      ((!cmpV (I.lo x) { a := (0 : Int), b := (0 : Int), c := (0 : Int), k := (1 : Nat), nl := false, full := true, pre := [[(48 : UInt8)]] } == (0 : Int)) = false) ∧
      ((0 : Nat) = 0) ∧
      ((!I.less x) = true) ∧
      ((1 : Nat) ≤ (9223372036854775807 : Nat)) ∧
      ((0 : Nat) = 0) ∧
      ((!I.hopen x) = true →
       ((2 : Nat) ≤ (9223372036854775807 : Nat)) ∧
       ((0 : Nat) = 0) ∧
       (Den E1 82 [V.p (I.hi x)] (.lit (.string (bs (verL (I.hi x)))))) ∧
       ((2 : Nat) + ByteArray.size (bs (verL (I.hi x))) ≤ (9223372036854775807 : Nat)) ∧
       ((.lit (.string (bs [] ++ bs [(60 : UInt8)] ++ bs [(61 : UInt8)] ++ bs (verL (I.hi x))))) : PV) = r) ∧
      ((!I.hopen x) = false →
       ((0 : Nat) = 0) ∧
       (Den E1 82 [V.p (I.hi x)] (.lit (.string (bs (verL (I.hi x)))))) ∧
       ((1 : Nat) + ByteArray.size (bs (verL (I.hi x))) ≤ (9223372036854775807 : Nat)) ∧
       ((.lit (.string (bs [] ++ bs [(60 : UInt8)] ++ bs (verL (I.hi x))))) : PV) = r)))) ∧
   ((cmpV (I.lo x) { a := (0 : Int), b := (0 : Int), c := (0 : Int), k := (1 : Nat), nl := false, full := true, pre := [[(48 : UInt8)]] } == (0 : Int)) = false →
    ((0 : Nat) = 0) ∧
    ((!I.less x) = true →
     ((0 : Nat) = 0) ∧
     ((0 : Nat) = 0) ∧
     (Den E1 80 [V.p (I.lo x), V.p (I.hi x)] (intP (cmpV (I.lo x) (I.hi x)))) ∧
     ((cmpV (I.lo x) (I.hi x) == (0 : Int)) = true →
      ((0 : Nat) = 0) ∧
      (Den E1 82 [V.p (I.lo x)] (.lit (.string (bs (verL (I.lo x)))))) ∧
      ((1 : Nat) + ByteArray.size (bs (verL (I.lo x))) ≤ (9223372036854775807 : Nat)) ∧
      ((.lit (.string (bs [(61 : UInt8)] ++ bs (verL (I.lo x))))) : PV) = r) ∧
     ((cmpV (I.lo x) (I.hi x) == (0 : Int)) = false →
      ((!cmpV (I.lo x) { a := (0 : Int), b := (0 : Int), c := (0 : Int), k := (1 : Nat), nl := false, full := true, pre := [[(48 : UInt8)]] } == (0 : Int)) = true) ∧
      ((0 : Nat) = 0) ∧
      ((!I.lopen x) = true) ∧
      ((0 : Nat) = 0) ∧
      (Den E1 82 [V.p (I.lo x)] (.lit (.string (bs (verL (I.lo x)))))) ∧
      ((2 : Nat) + ByteArray.size (bs (verL (I.lo x))) ≤ (9223372036854775807 : Nat)) ∧
      ((0 : Nat) = 0) ∧
      ((!I.less x) = true) ∧
      (ByteArray.size (bs [(62 : UInt8), (61 : UInt8)] ++ bs (verL (I.lo x))) + (1 : Nat) ≤ (9223372036854775807 : Nat)) ∧
      ((0 : Nat) = 0) ∧
      ((!I.less x) = true) ∧
      (ByteArray.size (bs [(62 : UInt8), (61 : UInt8)] ++ bs (verL (I.lo x)) ++ bs [(32 : UInt8)]) + (1 : Nat) ≤ (9223372036854775807 : Nat)) ∧
      ((0 : Nat) = 0) ∧
      ((!I.hopen x) = true →
       (ByteArray.size (bs [(62 : UInt8), (61 : UInt8)] ++ bs (verL (I.lo x)) ++ bs [(32 : UInt8)] ++ bs [(60 : UInt8)]) + (1 : Nat) ≤ (9223372036854775807 : Nat)) ∧
       ((0 : Nat) = 0) ∧
       (Den E1 82 [V.p (I.hi x)] (.lit (.string (bs (verL (I.hi x)))))) ∧
       (ByteArray.size (bs [(62 : UInt8), (61 : UInt8)] ++ bs (verL (I.lo x)) ++ bs [(32 : UInt8)] ++ bs [(60 : UInt8)] ++ bs [(61 : UInt8)]) + ByteArray.size (bs (verL (I.hi x))) ≤ (9223372036854775807 : Nat)) ∧
       ((.lit (.string (bs [(62 : UInt8), (61 : UInt8)] ++ bs (verL (I.lo x)) ++ bs [(32 : UInt8)] ++ bs [(60 : UInt8)] ++ bs [(61 : UInt8)] ++ bs (verL (I.hi x))))) : PV) = r) ∧
      ((!I.hopen x) = false →
       ((0 : Nat) = 0) ∧
       (Den E1 82 [V.p (I.hi x)] (.lit (.string (bs (verL (I.hi x)))))) ∧
       (ByteArray.size (bs [(62 : UInt8), (61 : UInt8)] ++ bs (verL (I.lo x)) ++ bs [(32 : UInt8)] ++ bs [(60 : UInt8)]) + ByteArray.size (bs (verL (I.hi x))) ≤ (9223372036854775807 : Nat)) ∧
       ((.lit (.string (bs [(62 : UInt8), (61 : UInt8)] ++ bs (verL (I.lo x)) ++ bs [(32 : UInt8)] ++ bs [(60 : UInt8)] ++ bs (verL (I.hi x))))) : PV) = r))) ∧
    ((!I.less x) = false →
     ((!cmpV (I.lo x) { a := (0 : Int), b := (0 : Int), c := (0 : Int), k := (1 : Nat), nl := false, full := true, pre := [[(48 : UInt8)]] } == (0 : Int)) = true) ∧
     ((0 : Nat) = 0) ∧
     ((!I.lopen x) = true) ∧
     ((0 : Nat) = 0) ∧
     (Den E1 82 [V.p (I.lo x)] (.lit (.string (bs (verL (I.lo x)))))) ∧
     ((2 : Nat) + ByteArray.size (bs (verL (I.lo x))) ≤ (9223372036854775807 : Nat)) ∧
     ((0 : Nat) = 0) ∧
     ((!I.less x) = false) ∧
     ((0 : Nat) = 0) ∧
     ((!I.less x) = false) ∧
     ((.lit (.string (bs [(62 : UInt8), (61 : UInt8)] ++ bs (verL (I.lo x))))) : PV) = r))) ∧
  ((!I.lopen x) = false →
   ((0 : Nat) = 0) ∧
   ((!I.less x) = true →
    ((0 : Nat) = 0) ∧
    ((0 : Nat) = 0) ∧
    (Den E1 80 [V.p (I.lo x), V.p (I.hi x)] (intP (cmpV (I.lo x) (I.hi x)))) ∧
    ((cmpV (I.lo x) (I.hi x) == (0 : Int)) = true →
     ((0 : Nat) = 0) ∧
     (Den E1 82 [V.p (I.lo x)] (.lit (.string (bs (verL (I.lo x)))))) ∧
     ((1 : Nat) + ByteArray.size (bs (verL (I.lo x))) ≤ (9223372036854775807 : Nat)) ∧
     ((.lit (.string (bs [(61 : UInt8)] ++ bs (verL (I.lo x))))) : PV) = r) ∧
    ((cmpV (I.lo x) (I.hi x) == (0 : Int)) = false →
     ((0 : Nat) = 0) ∧
     ((!I.lopen x) = false) ∧
     ((0 : Nat) = 0) ∧
     (Den E1 82 [V.p (I.lo x)] (.lit (.string (bs (verL (I.lo x)))))) ∧
     ((1 : Nat) + ByteArray.size (bs (verL (I.lo x))) ≤ (9223372036854775807 : Nat)) ∧
     ((0 : Nat) = 0) ∧
     ((!I.less x) = true) ∧
     (ByteArray.size (bs [(62 : UInt8)] ++ bs (verL (I.lo x))) + (1 : Nat) ≤ (9223372036854775807 : Nat)) ∧
     ((0 : Nat) = 0) ∧
     ((!I.less x) = true) ∧
     (ByteArray.size (bs [(62 : UInt8)] ++ bs (verL (I.lo x)) ++ bs [(32 : UInt8)]) + (1 : Nat) ≤ (9223372036854775807 : Nat)) ∧
     ((0 : Nat) = 0) ∧
     ((!I.hopen x) = true →
      (ByteArray.size (bs [(62 : UInt8)] ++ bs (verL (I.lo x)) ++ bs [(32 : UInt8)] ++ bs [(60 : UInt8)]) + (1 : Nat) ≤ (9223372036854775807 : Nat)) ∧
      ((0 : Nat) = 0) ∧
      (Den E1 82 [V.p (I.hi x)] (.lit (.string (bs (verL (I.hi x)))))) ∧
      (ByteArray.size (bs [(62 : UInt8)] ++ bs (verL (I.lo x)) ++ bs [(32 : UInt8)] ++ bs [(60 : UInt8)] ++ bs [(61 : UInt8)]) + ByteArray.size (bs (verL (I.hi x))) ≤ (9223372036854775807 : Nat)) ∧
      ((.lit (.string (bs [(62 : UInt8)] ++ bs (verL (I.lo x)) ++ bs [(32 : UInt8)] ++ bs [(60 : UInt8)] ++ bs [(61 : UInt8)] ++ bs (verL (I.hi x))))) : PV) = r) ∧
     ((!I.hopen x) = false →
      ((0 : Nat) = 0) ∧
      (Den E1 82 [V.p (I.hi x)] (.lit (.string (bs (verL (I.hi x)))))) ∧
      (ByteArray.size (bs [(62 : UInt8)] ++ bs (verL (I.lo x)) ++ bs [(32 : UInt8)] ++ bs [(60 : UInt8)]) + ByteArray.size (bs (verL (I.hi x))) ≤ (9223372036854775807 : Nat)) ∧
      ((.lit (.string (bs [(62 : UInt8)] ++ bs (verL (I.lo x)) ++ bs [(32 : UInt8)] ++ bs [(60 : UInt8)] ++ bs (verL (I.hi x))))) : PV) = r))) ∧
   ((!I.less x) = false →
    ((0 : Nat) = 0) ∧
    ((!I.lopen x) = false) ∧
    ((0 : Nat) = 0) ∧
    (Den E1 82 [V.p (I.lo x)] (.lit (.string (bs (verL (I.lo x)))))) ∧
    ((1 : Nat) + ByteArray.size (bs (verL (I.lo x))) ≤ (9223372036854775807 : Nat)) ∧
    ((0 : Nat) = 0) ∧
    ((!I.less x) = false) ∧
    ((0 : Nat) = 0) ∧
    ((!I.less x) = false) ∧
    ((.lit (.string (bs [(62 : UInt8)] ++ bs (verL (I.lo x))))) : PV) = r))) := by kernel_rfl

def span_Text_S0 (l : List I) (k : Nat) (nl : Bool) (full : Bool) (i : Int) (j : Nat → AV) (jr : Nat → Row) (g : Nat) : St :=
  { t := [j (0 : Nat), j (1 : Nat), strA (bs []), intA 0, .pv (.sl 0 true true []), j (5 : Nat), j (6 : Nat), undefA, j (8 : Nat), j (9 : Nat), j (10 : Nat), j (11 : Nat), j (12 : Nat), j (13 : Nat), .pv (.sl k nl full (List.map I.p l)), intA ((↑(List.length (List.map I.p l)) : Int)), intA i, j (17 : Nat), j (18 : Nat), j (19 : Nat), j (20 : Nat), j (21 : Nat), j (22 : Nat), j (23 : Nat), j (24 : Nat), j (25 : Nat), undefA, undefA, undefA, undefA, undefA, undefA], h := [List.replicate 6 row0 ++ [jr (6 : Nat), row0, row0, row0, row0, row0, row0, row0, row0, row0, row0, row0, row0, row0, row0, row0, row0, jr (23 : Nat)] ++ List.replicate 8 row0], g := g }
def span_Text_S1 (l : List I) (k : Nat) (nl : Bool) (full : Bool) (i : Int) (gm : Nat) (n : Nat) (xs : List PV) (j : Nat → AV) (jr : Nat → Row) (g : Nat) : St :=
  { t := [j (0 : Nat), j (1 : Nat), strA (bs []), intA 0, .msl 0 24 gm 0 n false, j (5 : Nat), j (6 : Nat), undefA, j (8 : Nat), j (9 : Nat), j (10 : Nat), j (11 : Nat), j (12 : Nat), j (13 : Nat), .pv (.sl k nl full (List.map I.p l)), intA ((↑(List.length (List.map I.p l)) : Int)), intA i, j (17 : Nat), j (18 : Nat), j (19 : Nat), j (20 : Nat), j (21 : Nat), j (22 : Nat), j (23 : Nat), j (24 : Nat), j (25 : Nat), undefA, undefA, undefA, undefA, undefA, undefA], h := [List.replicate 6 row0 ++ [jr (6 : Nat), row0, row0, row0, row0, row0, row0, row0, row0, row0, row0, row0, row0, row0, row0, row0, row0, jr (23 : Nat), ⟨gm, .row 1 9 xs false⟩] ++ List.replicate 7 row0], g := g }
theorem span_Text_go (l : List I) (k : Nat) (nl : Bool) (full : Bool) (r : PV) : FnGo E1 Tryz.f13 [.sl k nl full (List.map I.p l)] r 2000 (.res (intP (errS (mayS l))) (.fork (.hole 0) (.fork (.hole 0) (.mask [0, 1, 5, 6, 8, 9, 10, 11, 12, 13, 17, 18, 19, 20, 21, 22, 23, 24, 25] [6, 23])))) =
  ((Den E1 12 [.sl k nl full (List.map I.p l)] (intP (errS (mayS l)))) ∧
  ((errS (mayS l) != (0 : Int)) = true →
   ((.tup [.lit (.string (bs [])), intP 80]) : PV) = r) ∧
  ((errS (mayS l) != (0 : Int)) = false →
   (((↑(List.length (List.map I.p l)) : Int) == (0 : Int)) = true →
    ((.tup [.lit (.string (bs [(33 : UInt8)])), intP 0]) : PV) = r) ∧
   (((↑(List.length (List.map I.p l)) : Int) == (0 : Int)) = false →
    ∀ (j' : Nat → AV) (jr' : Nat → Row) (g' : Nat), LoopAt E1 Tryz.f13 r 0 (span_Text_S0 l k nl full 0 j' jr' g')))) := by kernel_rfl
theorem span_Text_go_S0 (l : List I) (k : Nat) (nl : Bool) (full : Bool) (i : Int) (j : Nat → AV) (jr : Nat → Row) (g : Nat) (r : PV) : LoopGo E1 Tryz.f13 r 0 2000 (.fork (.val (I.p (List.getD l (Int.toNat i) default)) (.res (.lit (.string (bs (wordsS (List.getD l (Int.toNat i) default))))) (.lit (.lit (.mask [0, 1, 5, 6, 8, 9, 10, 11, 12, 13, 17, 18, 19, 20, 21, 22, 23, 24, 25] [6, 23]))))) (.res (.lit (.string (bs (joinL [(32 : UInt8), (124 : UInt8), (124 : UInt8), (32 : UInt8)] [])))) (.lit (.hole 0)))) (span_Text_S0 l k nl full i j jr g) =
  (((decide (i < (↑(List.length (List.map I.p l)) : Int))) = true →
   (((0 : Int) ≤ i) ∧ ((nl = false) ∧ (k = 11))) ∧
   (((List.map I.p l)[Int.toNat i]?) = some (I.p (List.getD l (Int.toNat i) default))) ∧
   ((g + (1 : Nat) + (2 : Nat)) = g + (1 : Nat) + (2 : Nat)) ∧
   ((g + (1 : Nat) + (2 : Nat)) = g + (1 : Nat) + (2 : Nat)) ∧
   (Den E1 39 [I.p (List.getD l (Int.toNat i) default)] (.lit (.string (bs (wordsS (List.getD l (Int.toNat i) default)))))) ∧
   ((g + (1 : Nat) + (4 : Nat) + (3 : Nat)) = g + (1 : Nat) + (4 : Nat) + (3 : Nat)) ∧
   (((1 : Nat) = 1) ∧ ((1 : Nat) ≤ (1 : Nat))) ∧
   (((0 : Nat) = 0) ∧ (true = true)) ∧
   (∀ (j' : Nat → AV) (jr' : Nat → Row) (g' : Nat), LoopAt E1 Tryz.f13 r 0 (span_Text_S1 l k nl full (IntKind.wrap IntKind.i64 (i + (1 : Int))) (g + (1 : Nat) + (4 : Nat) + (4 : Nat)) 1 [.lit (.string (bs (wordsS (List.getD l (Int.toNat i) default))))] j' jr' g'))) ∧
  ((decide (i < (↑(List.length (List.map I.p l)) : Int))) = false →
   (Den E1 40 [.sl 0 true true [], .lit (.string (bs [(32 : UInt8), (124 : UInt8), (124 : UInt8), (32 : UInt8)]))] (.lit (.string (bs (joinL [(32 : UInt8), (124 : UInt8), (124 : UInt8), (32 : UInt8)] []))))) ∧
   ((.tup [.lit (.string (bs (joinL [(32 : UInt8), (124 : UInt8), (124 : UInt8), (32 : UInt8)] []))), intP 0]) : PV) = r)) := by kernel_rfl
theorem span_Text_go_S1 (l : List I) (k : Nat) (nl : Bool) (full : Bool) (i : Int) (gm : Nat) (n : Nat) (xs : List PV) (j : Nat → AV) (jr : Nat → Row) (g : Nat) (r : PV) : LoopGo E1 Tryz.f13 r 0 2000 (.fork (.val (I.p (List.getD l (Int.toNat i) default)) (.res (.lit (.string (bs (wordsS (List.getD l (Int.toNat i) default))))) (.lit (.mask [0, 1, 5, 6, 8, 9, 10, 11, 12, 13, 17, 18, 19, 20, 21, 22, 23, 24, 25] [6, 23])))) (.frz [.sl 1 false false xs, .lit (.string (bs [(32 : UInt8), (124 : UInt8), (124 : UInt8), (32 : UInt8)]))] [List.replicate 6 row0 ++ [jr (6 : Nat), row0, row0, row0, row0, row0, row0, row0, row0, row0, row0, row0, row0, row0, row0, row0, row0, jr (23 : Nat), ⟨gm, .row 1 9 xs true⟩] ++ List.replicate 7 row0] (.res (.lit (.string (bs (joinL [(32 : UInt8), (124 : UInt8), (124 : UInt8), (32 : UInt8)] (strsL xs))))) (.fork (.hole 0) (.hole 0))))) (span_Text_S1 l k nl full i gm n xs j jr g) =
  (((decide (i < (↑(List.length (List.map I.p l)) : Int))) = true →
   (((0 : Int) ≤ i) ∧ ((nl = false) ∧ (k = 11))) ∧
   (((List.map I.p l)[Int.toNat i]?) = some (I.p (List.getD l (Int.toNat i) default))) ∧
   ((g + (1 : Nat) + (2 : Nat)) = g + (1 : Nat) + (2 : Nat)) ∧
   ((g + (1 : Nat) + (2 : Nat)) = g + (1 : Nat) + (2 : Nat)) ∧
   (Den E1 39 [I.p (List.getD l (Int.toNat i) default)] (.lit (.string (bs (wordsS (List.getD l (Int.toNat i) default)))))) ∧
   ((g + (1 : Nat) + (4 : Nat) + (3 : Nat)) = g + (1 : Nat) + (4 : Nat) + (3 : Nat)) ∧
   (((1 : Nat) = 1) ∧ ((1 : Nat) ≤ (1 : Nat))) ∧
   (gm = gm) ∧
   ((false = false) ∧ (((1 : Nat) = 1) ∧ (((9 : Nat) = 9) ∧ ((((0 : Nat) + n) = List.length xs) ∧ ((fitsRow (n + (1 : Nat)) (16 : Nat)) = true))))) ∧
   (∀ (j' : Nat → AV) (jr' : Nat → Row) (g' : Nat), LoopAt E1 Tryz.f13 r 0 (span_Text_S1 l k nl full (IntKind.wrap IntKind.i64 (i + (1 : Int))) (g + (1 : Nat) + (4 : Nat) + (4 : Nat)) (n + (1 : Nat)) (List.drop (0 : Nat) xs ++ List.take (1 : Nat) (List.drop (0 : Nat) [PV.lit (Value.string (bs (wordsS (List.getD l (Int.toNat i) default))))])) j' jr' g'))) ∧
  ((decide (i < (↑(List.length (List.map I.p l)) : Int))) = false →
   (frzs frzDepth [.msl 0 24 gm 0 n false, strA (bs [(32 : UInt8), (124 : UInt8), (124 : UInt8), (32 : UInt8)])] [List.replicate 6 row0 ++ [jr (6 : Nat), row0, row0, row0, row0, row0, row0, row0, row0, row0, row0, row0, row0, row0, row0, row0, row0, jr (23 : Nat), ⟨gm, .row 1 9 xs false⟩] ++ List.replicate 7 row0] = some ([.sl 1 false false xs, .lit (.string (bs [(32 : UInt8), (124 : UInt8), (124 : UInt8), (32 : UInt8)]))], [List.replicate 6 row0 ++ [jr (6 : Nat), row0, row0, row0, row0, row0, row0, row0, row0, row0, row0, row0, row0, row0, row0, row0, row0, jr (23 : Nat), ⟨gm, .row 1 9 xs true⟩] ++ List.replicate 7 row0])) ∧
   (Den E1 40 [.sl 1 false false xs, .lit (.string (bs [(32 : UInt8), (124 : UInt8), (124 : UInt8), (32 : UInt8)]))] (.lit (.string (bs (joinL [(32 : UInt8), (124 : UInt8), (124 : UInt8), (32 : UInt8)] (strsL xs)))))) ∧
   ((decide ((↑(ByteArray.size (bs (joinL [(32 : UInt8), (124 : UInt8), (124 : UInt8), (32 : UInt8)] (strsL xs)))) : Int) > (128 : Int))) = true →
    ((.tup [.lit (.string (bs [])), intP 80]) : PV) = r) ∧
   ((decide ((↑(ByteArray.size (bs (joinL [(32 : UInt8), (124 : UInt8), (124 : UInt8), (32 : UInt8)] (strsL xs)))) : Int) > (128 : Int))) = false →
    ((.tup [.lit (.string (bs (joinL [(32 : UInt8), (124 : UInt8), (124 : UInt8), (32 : UInt8)] (strsL xs)))), intP 0]) : PV) = r))) := by kernel_rfl

def ref08_Text_S0 (l : List I) (k : Nat) (nl : Bool) (full : Bool) (i : Int) (s : ByteArray) (j : Nat → AV) (jr : Nat → Row) (g : Nat) : St :=
  { t := [.pv (.sl k nl full (List.map I.p l)), j (1 : Nat), strA (bs []), intA 0, strA s, intA i, j (6 : Nat), j (7 : Nat), j (8 : Nat), j (9 : Nat), j (10 : Nat), j (11 : Nat), j (12 : Nat), j (13 : Nat), j (14 : Nat), j (15 : Nat), j (16 : Nat), j (17 : Nat), j (18 : Nat), j (19 : Nat), j (20 : Nat), j (21 : Nat), j (22 : Nat), j (23 : Nat), j (24 : Nat), j (25 : Nat), j (26 : Nat), j (27 : Nat), j (28 : Nat), undefA, undefA, undefA, undefA], h := [List.replicate 33 row0], g := g }
theorem ref08_Text_go (l : List I) (k : Nat) (nl : Bool) (full : Bool) (r : PV) : FnGo E1 Tryz.f14 [.sl k nl full (List.map I.p l)] r 2000 (.res (bolP (mayR l)) (.fork (.hole 0) (.fork (.hole 0) (.mask [1, 6, 7, 8, 9, 10, 11, 12, 13, 14, 15, 16, 17, 18, 19, 20, 21, 22, 23, 24, 25, 26, 27, 28] [])))) =
  ((Den E1 15 [.sl k nl full (List.map I.p l)] (bolP (mayR l))) ∧
  ((!mayR l) = true →
   ((.tup [.lit (.string (bs [])), intP 80]) : PV) = r) ∧
  ((!mayR l) = false →
   (((↑(List.length (List.map I.p l)) : Int) == (0 : Int)) = true →
    ((.tup [.lit (.string (bs [(33 : UInt8)])), intP 0]) : PV) = r) ∧
   (((↑(List.length (List.map I.p l)) : Int) == (0 : Int)) = false →
    ∀ (j' : Nat → AV) (jr' : Nat → Row) (g' : Nat), LoopAt E1 Tryz.f14 r 0 (ref08_Text_S0 l k nl full 0 (bs []) j' jr' g')))) := by kernel_rfl
theorem ref08_Text_go_S0 (l : List I) (k : Nat) (nl : Bool) (full : Bool) (i : Int) (s : ByteArray) (j : Nat → AV) (jr : Nat → Row) (g : Nat) (r : PV) : LoopGo E1 Tryz.f14 r 0 2000 (.fork (.fork (.val (I.p (List.getD l (Int.toNat i) default)) (.res (.lit (.string (bs (wordsR (List.getD l (Int.toNat i) default))))) (.mask [1, 6, 7, 8, 9, 10, 11, 12, 13, 14, 15, 16, 17, 18, 19, 20, 21, 22, 23, 24, 25, 26, 27, 28] []))) (.val (I.p (List.getD l (Int.toNat i) default)) (.res (.lit (.string (bs (wordsR (List.getD l (Int.toNat i) default))))) (.mask [1, 6, 7, 8, 9, 10, 11, 12, 13, 14, 15, 16, 17, 18, 19, 20, 21, 22, 23, 24, 25, 26, 27, 28] [])))) (.fork (.hole 0) (.hole 0))) (ref08_Text_S0 l k nl full i s j jr g) =
  (((decide (i < (↑(List.length (List.map I.p l)) : Int))) = true →
   ((decide (i > (0 : Int))) = true →
    (ByteArray.size s + (4 : Nat) ≤ (9223372036854775807 : Nat)) ∧
    (((0 : Int) ≤ i) ∧ ((nl = false) ∧ (k = 11))) ∧
    (((List.map I.p l)[Int.toNat i]?) = some (I.p (List.getD l (Int.toNat i) default))) ∧
    (Den E1 41 [I.p (List.getD l (Int.toNat i) default)] (.lit (.string (bs (wordsR (List.getD l (Int.toNat i) default)))))) ∧
    (ByteArray.size (s ++ bs [(32 : UInt8), (124 : UInt8), (124 : UInt8), (32 : UInt8)]) + ByteArray.size (bs (wordsR (List.getD l (Int.toNat i) default))) ≤ (9223372036854775807 : Nat)) ∧
    (∀ (j' : Nat → AV) (jr' : Nat → Row) (g' : Nat), LoopAt E1 Tryz.f14 r 0 (ref08_Text_S0 l k nl full (IntKind.wrap IntKind.i64 (i + (1 : Int))) (s ++ bs [(32 : UInt8), (124 : UInt8), (124 : UInt8), (32 : UInt8)] ++ bs (wordsR (List.getD l (Int.toNat i) default))) j' jr' g'))) ∧
   ((decide (i > (0 : Int))) = false →
    (((0 : Int) ≤ i) ∧ ((nl = false) ∧ (k = 11))) ∧
    (((List.map I.p l)[Int.toNat i]?) = some (I.p (List.getD l (Int.toNat i) default))) ∧
    (Den E1 41 [I.p (List.getD l (Int.toNat i) default)] (.lit (.string (bs (wordsR (List.getD l (Int.toNat i) default)))))) ∧
    (ByteArray.size s + ByteArray.size (bs (wordsR (List.getD l (Int.toNat i) default))) ≤ (9223372036854775807 : Nat)) ∧
    (∀ (j' : Nat → AV) (jr' : Nat → Row) (g' : Nat), LoopAt E1 Tryz.f14 r 0 (ref08_Text_S0 l k nl full (IntKind.wrap IntKind.i64 (i + (1 : Int))) (s ++ bs (wordsR (List.getD l (Int.toNat i) default))) j' jr' g')))) ∧
  ((decide (i < (↑(List.length (List.map I.p l)) : Int))) = false →
   ((decide ((↑(ByteArray.size s) : Int) > (128 : Int))) = true →
    ((.tup [.lit (.string (bs [])), intP 80]) : PV) = r) ∧
   ((decide ((↑(ByteArray.size s) : Int) > (128 : Int))) = false →
    ((.tup [.lit (.string s), intP 0]) : PV) = r))) := by kernel_rfl
end Go.Proofs.YtlhfgonjcpapnaaGreatDoor.Abs

/- Texts: the functions compute them. -/
set_option linter.unusedVariables false
set_option linter.unusedSimpArgs false
namespace Go.Proofs.YtlhfgonjcpapnaaGreatDoor.Abs
open Go Go.Proofs

theorem numL_eq (n : Nat) : numL n = Lib.decDigits n := by
  induction n using Nat.strongRecOn with
  | ind n ih =>
    rw [numL, Lib.decDigits]
    split
    · rfl
    · rw [ih (n / 10) (by omega)]
theorem den_FormatUint (n : Nat) (h : n < 18446744073709551616) : Den E1 112 [.lit (.int .u64 n), intP 10] (strP (numL n)) := by
  refine den_intr (F := fmtP) rfl ?_
  have h1 : (10 : Int) = 10 ∧ 0 ≤ (n : Int) ∧ (n : Int) < 18446744073709551616 := ⟨rfl, by omega, by omega⟩
  have e : fmtP [.lit (.int .u64 n), intP 10] = if (10 : Int) = 10 ∧ 0 ≤ (n : Int) ∧ (n : Int) < 18446744073709551616 then some (strP (Lib.decDigits (n : Int).toNat)) else none := rfl
  rw [e, if_pos h1, Int.toNat_natCast, numL_eq]
theorem strsP_of (l : List (List UInt8)) : strsP (l.map strP) = some (l.map bs) := by
  induction l with
  | nil => rfl
  | cons a l ih =>
    show (strsP (l.map strP)).map (bs a :: ·) = _
    rw [ih]; rfl
theorem den_Join (l : List (List UInt8)) (k : Nat) (nl full : Bool) (sep : List UInt8) (h1 : l.length ≤ 140737488355328) (h2 : (joinL sep l).length ≤ 140737488355328) : Den E1 40 [preP k nl full l, strP sep] (strP (joinL sep l)) := by
  refine den_intr (F := joinP) rfl ?_
  have e : (l.map bs).map (fun x => x.data.toList) = l := by rw [List.map_map]; exact (List.map_congr_left (fun _ _ => rfl)).trans (List.map_id l)
  have e2 : joinP [preP k nl full l, strP sep] = (match strsP (l.map strP) with
    | some xs => if xs.length ≤ 140737488355328 ∧ (Lib.join (xs.map fun x => x.data.toList) (bs sep).data.toList).length ≤ 140737488355328 then some (strP (Lib.join (xs.map fun x => x.data.toList) (bs sep).data.toList)) else none
    | none => none) := rfl
  rw [e2, strsP_of]
  simp only [e, List.length_map]
  rw [if_pos ⟨h1, h2⟩]
  rfl
theorem joinL_one (sep a : List UInt8) : joinL sep [a] = a := by simp [joinL, Lib.join, List.intercalate]
theorem joinL_cons (sep a b : List UInt8) (l : List (List UInt8)) : joinL sep (a :: b :: l) = a ++ sep ++ joinL sep (b :: l) := by
  simp [joinL, Lib.join, List.intercalate, List.intersperse]
theorem joinL_nil (sep : List UInt8) : joinL sep [] = [] := by simp [joinL, Lib.join, List.intercalate]
theorem joinL_len (sep : List UInt8) (m : Nat) : ∀ l : List (List UInt8), (∀ s ∈ l, s.length ≤ m) → (joinL sep l).length ≤ l.length * (m + sep.length)
  | [], _ => by simp [joinL_nil]
  | [a], h => by
    have := h a (by simp)
    simp [joinL_one]; omega
  | a :: b :: l, h => by
    have h1 := h a (by simp)
    have h2 := joinL_len sep m (b :: l) (fun s hs => h s (by simp at hs ⊢; right; exact hs))
    rw [joinL_cons]
    simp only [List.length_append, List.length_cons] at h2 ⊢
    rw [Nat.add_mul (l.length + 1), Nat.one_mul]
    omega
theorem may_pre {v : V} (h : mayV v = true) : v.pre.length ≤ 8 ∧ ∀ s ∈ v.pre, s.length ≤ 16 := by
  simp [mayV] at h
  refine ⟨h.1.2, fun s hs => ?_⟩
  have := h.2 s hs
  simp [identL] at this
  exact this.1.1.2
theorem may_num {v : V} (h : mayV v = true) : v.a ≤ 2147483647 ∧ v.b ≤ 2147483647 ∧ v.c ≤ 2147483647 := by
  simp [mayV] at h; omega
theorem num_len (n : Int) (h : n ≤ 2147483647) : (numL n.toNat).length ≤ 10 := numL_length n.toNat 9 (by omega)
theorem nums_len {v : V} (h : mayV v = true) : (joinL [46] [numL v.a.toNat, numL v.b.toNat, numL v.c.toNat]).length ≤ 33 := by
  have h1 := may_num h
  exact joinL_len [46] 10 _ (by
    intro s hs
    simp at hs
    rcases hs with rfl | rfl | rfl
    · exact num_len _ h1.1
    · exact num_len _ h1.2.1
    · exact num_len _ h1.2.2)
theorem pre_len {v : V} (h : mayV v = true) : (joinL [46] v.pre).length ≤ 136 := by
  have h1 := may_pre h
  have h2 := joinL_len [46] 16 v.pre h1.2
  have : v.pre.length * (16 + [46].length (α := UInt8)) ≤ 8 * 17 := Nat.mul_le_mul h1.1 (by simp)
  omega
theorem ver_len {v : V} (h : mayV v = true) : (verL v).length ≤ 170 := by
  have h1 := nums_len h
  have h2 := pre_len h
  unfold verL
  split <;> simp <;> omega
theorem wrap_u32 {n : Int} (h : u32 n) : IntKind.wrap IntKind.u64 n = ((n.toNat : Nat) : Int) := by
  obtain ⟨h1, h2⟩ := h
  rw [wrap_u64 n h1 (by omega)]; omega

theorem den_version_Text (v : V) (hv : v.ok) : Den E1 74 [v.p] (.tup [strP (if okText v then verL v else []), intP (errV (okText v))]) := by
  refine den1 2000 _ rfl (by kernel_rfl) rfl rfl rfl (Eq.mpr (version_Text_go v _) ?_)
  have ha := wrap_u32 hv.a
  have hb := wrap_u32 hv.b
  have hc := wrap_u32 hv.c
  have hsmall : ∀ n : Int, u32 n → n.toNat < 18446744073709551616 := fun n h => by have := h.1; have := h.2; omega
  simp only [ha, hb, hc, Int.toNat_natCast, errV_ne, Bool.not_eq_true', Bool.not_eq_false', bs_append, size_bs, List.length_map]
  refine ⟨trivial, den_version_May v hv, fun h => ?_, fun h => ⟨trivial, trivial, trivial, den_FormatUint _ (hsmall _ hv.a), trivial, ⟨trivial, by omega⟩, ⟨trivial, trivial⟩, den_FormatUint _ (hsmall _ hv.b), trivial, ⟨trivial, by omega⟩, trivial, ⟨trivial, trivial, trivial, trivial, trivial⟩, den_FormatUint _ (hsmall _ hv.c), trivial, ⟨trivial, by omega⟩, trivial, ⟨trivial, trivial, trivial, trivial, trivial⟩, den_Join [_, _, _] _ _ _ _ (by simp) ?_, trivial, fun h1 => ⟨trivial, den_Join _ _ _ _ _ ?_ ?_, ?_, ?_, fun h2 => ?_, fun h2 => ?_⟩, fun h1 => ⟨fun h2 => ?_, fun h2 => ?_⟩⟩⟩
  · have : okText v = false := by simp [okText, h]
    simp [this, errV]; rfl
  · have := nums_len h; omega
  · have := (may_pre h).1; omega
  · have := pre_len h; omega
  · have := pre_len h; simp; omega
  · have := nums_len h; have := pre_len h; simp; omega
  · simp only [decide_eq_true_eq] at h1 h2
    have h3 : v.pre.length > 0 := by omega
    have h4 : (verL v).length > 128 := by unfold verL; rw [if_pos h3]; simp at h2 ⊢; omega
    have h5 : ¬ (verL v).length ≤ 128 := by omega
    have : okText v = false := by simp [okText, h5]
    simp [this, errV]; rfl
  · simp only [decide_eq_true_eq, decide_eq_false_iff_not] at h1 h2
    have h3 : v.pre.length > 0 := by omega
    have h4 : (verL v).length ≤ 128 := by unfold verL; rw [if_pos h3]; simp at h2 ⊢; omega
    have : okText v = true := by simp [okText, h, h4]
    simp only [this, if_true, errV]
    rw [verL, if_pos h3]; rfl
  · simp only [decide_eq_true_eq, decide_eq_false_iff_not] at h1 h2
    have h3 : ¬ v.pre.length > 0 := by omega
    have h4 : (verL v).length > 128 := by unfold verL; rw [if_neg h3]; simp; omega
    have h5 : ¬ (verL v).length ≤ 128 := by omega
    have : okText v = false := by simp [okText, h5]
    simp [this, errV]; rfl
  · simp only [decide_eq_true_eq, decide_eq_false_iff_not] at h1 h2
    have h3 : ¬ v.pre.length > 0 := by omega
    have h4 : (verL v).length ≤ 128 := by unfold verL; rw [if_neg h3]; simp; omega
    have : okText v = true := by simp [okText, h, h4]
    simp only [this, if_true, errV]
    rw [verL, if_neg h3]; simp; rfl

/-- what follows the first identifier -/
def tailL : List (List UInt8) → List UInt8
  | [] => []
  | s :: l => 46 :: (s ++ tailL l)
theorem joinL_tail (a : List UInt8) (l : List (List UInt8)) : joinL [46] (a :: l) = a ++ tailL l := by
  induction l generalizing a with
  | nil => simp [joinL_one, tailL]
  | cons b l ih => rw [joinL_cons, ih]; simp [tailL]
def restL (v : V) (i : Nat) : List UInt8 := if i = 0 then (if v.pre.length > 0 then 45 :: joinL [46] v.pre else []) else tailL (v.pre.drop i)
theorem restL_end {v : V} {i : Nat} (h : v.pre.length ≤ i) : restL v i = [] := by
  unfold restL
  split
  · rw [if_neg (by omega)]
  · rw [List.drop_eq_nil_of_le h]; rfl
theorem restL_step {v : V} {i : Nat} (h : i < v.pre.length) : restL v i = (if i = 0 then 45 else 46) :: (v.pre[i] ++ restL v (i + 1)) := by
  unfold restL
  rw [if_neg (show ¬ i + 1 = 0 by omega)]
  by_cases h0 : i = 0
  · subst h0
    rw [if_pos rfl, if_pos h, if_pos rfl]
    have := List.drop_eq_getElem_cons h
    rw [List.drop_zero] at this
    exact congrArg (45 :: ·) ((congrArg (joinL [46]) this).trans (joinL_tail _ _))
  · rw [if_neg h0, if_neg h0, List.drop_eq_getElem_cons h]; rfl
theorem den_ref08_version (v : V) (hv : v.ok) (hm : mayV v = true) : Den E1 82 [v.p] (strP (verL v)) := by
  have hvl := ver_len hm
  refine den1 2000 _ rfl (by kernel_rfl) rfl rfl rfl (Eq.mpr (ref08_version_go v _) ?_)
  have H : ∀ (n i : Nat) (s : List UInt8) j jr g, i + n = v.pre.length → s ++ restL v i = verL v → LoopAt E1 Tryz.f82 (strP (verL v)) 0 (ref08_version_S0 v i (bs s) j jr g) := by
    intro n
    induction n with
    | zero =>
      intro i s j jr g hi hd
      refine loop_go 2000 _ (Eq.mpr (ref08_version_go_S0 v i (bs s) j jr g _) ⟨rfl, fun h => ?_, fun h => ?_⟩)
      · simp at h; omega
      · rw [← hd, restL_end (by omega), List.append_nil]; rfl
    | succ n ih =>
      intro i s j jr g hi hd
      have h1 : i < v.pre.length := by omega
      have hp := (may_pre hm).1
      have hw : IntKind.wrap IntKind.i64 ((i : Int) + 1) = ((i + 1 : Nat) : Int) := wrap_i64 _ (by omega) (by omega)
      rw [restL_step h1] at hd
      have hlen : s.length + v.pre[i].length + 1 ≤ 170 := by
        rw [← hd] at hvl
        simp at hvl; omega
      refine loop_go 2000 _ (Eq.mpr (ref08_version_go_S0 v i (bs s) j jr g _) ⟨rfl, fun h => ?_, fun h => ?_⟩)
      · simp only [Int.toNat_natCast, getD_lt h1, hw, bs_append, size_bs]
        refine ⟨fun h2 => ⟨by omega, trivial, ⟨by omega, sl_at hv.sl h1⟩, by simp [h1, strP], by simp; omega, fun j jr g => ?_⟩, fun h2 => ⟨by omega, trivial, ⟨by omega, sl_at hv.sl h1⟩, by simp [h1, strP], by simp; omega, fun j jr g => ?_⟩⟩
        · refine ih (i + 1) _ j jr g (by omega) ?_
          simp only [beq_iff_eq] at h2
          rw [if_pos (by omega)] at hd
          rw [← hd]; simp
        · refine ih (i + 1) _ j jr g (by omega) ?_
          simp only [beq_eq_false_iff_ne, ne_eq] at h2
          rw [if_neg (by omega)] at hd
          rw [← hd]; simp
      · simp at h; omega
  have ha := wrap_u32 hv.a
  have hb := wrap_u32 hv.b
  have hc := wrap_u32 hv.c
  have hsmall : ∀ n : Int, u32 n → n.toNat < 18446744073709551616 := fun n h => by have := h.1; have := h.2; omega
  have hn := may_num hm
  have l1 := num_len _ hn.1
  have l2 := num_len _ hn.2.1
  have l3 := num_len _ hn.2.2
  simp only [ha, hb, hc, Int.toNat_natCast, bs_append, size_bs]
  refine ⟨trivial, den_ref07_Number _ (hsmall _ hv.a), by omega, trivial, den_ref07_Number _ (hsmall _ hv.b), by simp; omega, by simp; omega, trivial, den_ref07_Number _ (hsmall _ hv.c), by simp; omega, fun j jr g => ?_⟩
  have h0 := H v.pre.length 0 (numL v.a.toNat ++ [46] ++ numL v.b.toNat ++ [46] ++ numL v.c.toNat) j jr g (by omega) (by
    simp only [restL, if_true, verL, joinL_cons, joinL_one]
    simp)
  rw [Int.natCast_zero] at h0
  exact h0

theorem den_Repeat : Den E1 75 [strP [63], intP 129] (strP (Lib.repeatL [63] 129)) := by
  refine den_intr (F := repeatP) rfl ?_
  have e : repeatP [strP [63], intP 129] = if (0 : Int) ≤ 129 ∧ (129 : Int) ≤ 9223372036854775807 ∧ (bs [63]).size * (129 : Int).toNat ≤ 140737488355328 then some (strP (Lib.repeatL (bs [63]).data.toList (129 : Int).toNat)) else none := rfl
  rw [e, if_pos (by decide)]
  rfl
theorem rep_129 : Lib.repeatL [63] 129 = List.replicate 129 63 := by decide
theorem den_txt (v : V) (hv : v.ok) : Den E1 73 [v.p] (strP (txtV v)) := by
  refine den1 2000 _ rfl (by kernel_rfl) rfl rfl rfl (Eq.mpr (span_words_1_go v _) ⟨rfl, den_version_Text v hv, fun h => ⟨den_Repeat, ?_⟩, fun h => ?_⟩)
  · simp only [errV_ne, Bool.not_eq_true'] at h
    simp only [txtV, h, rep_129]; rfl
  · simp only [errV_ne, Bool.not_eq_false'] at h
    simp only [txtV, h]; rfl
theorem txt_len (v : V) : (txtV v).length ≤ 129 := by
  unfold txtV
  split
  · rename_i h
    simp [okText] at h
    omega
  · simp

theorem bottomV_ok : bottomV.ok := ⟨⟨by decide, by decide⟩, ⟨by decide, by decide⟩, ⟨by decide, by decide⟩, ⟨fun h => (by cases h), fun _ => rfl⟩, by unfold small bottomV; decide, fun s h => by
  simp [bottomV] at h; subst h; unfold small; decide⟩
theorem two_sl (a b : List UInt8) : PV.sl 1 false false [.lit (.string (bs a)), .lit (.string (bs b))] = preP 1 false false [a, b] := rfl
theorem one_sl (a : List UInt8) : PV.sl 1 false false [.lit (.string (bs a))] = preP 1 false false [a] := rfl
theorem str_bs (a : List UInt8) : PV.lit (.string (bs a)) = strP a := rfl
theorem den_words (x : I) (hx : x.ok) : Den E1 39 [x.p] (strP (wordsS x)) := by
  refine den1 2000 _ rfl (by kernel_rfl) rfl rfl rfl (Eq.mpr (span_words_go x _) ?_)
  have d37 := den_low x
  have d76 := den_bottom
  have d36 := den_before x.low bottomE hx.lo bottomV_ok
  have d72 := den_span_order x.lo x.hi hx.lo hx.hi
  have dl := den_txt x.lo hx.lo
  have dh := den_txt x.hi hx.hi
  have ll := txt_len x.lo
  have lh := txt_len x.hi
  have j1 : ∀ a : List UInt8, a.length ≤ 300 → Den E1 40 [PV.sl 1 false false [strP a], strP [32]] (strP a) := fun a h => by
    have := den_Join [a] 1 false false [32] (by simp) (by rw [joinL_one]; omega)
    rw [joinL_one] at this; exact this
  have j2 : ∀ a b : List UInt8, a.length ≤ 300 → b.length ≤ 300 → Den E1 40 [PV.sl 1 false false [strP a, strP b], strP [32]] (strP (a ++ 32 :: b)) := fun a b h h2 => by
    have := den_Join [a, b] 1 false false [32] (by simp) (by rw [joinL_cons, joinL_one]; simp; omega)
    rw [joinL_cons, joinL_one, show a ++ [32] ++ b = a ++ 32 :: b by simp] at this
    exact this
  refine ⟨rfl, d37, d76, d36, ?_⟩
  simp only [bs_append, size_bs, str_bs]
  have e1 : (befE { v := x.lo, behind := x.lopen, less := false } { v := { a := 0, b := 0, c := 0, k := 1, nl := false, full := true, pre := [[48]] }, behind := false, less := false } == 0) = leastS x := rfl
  rw [e1]
  simp only [wordsS, wordsOf]
  have s1 : (1 : Nat) + (txtV x.lo).length ≤ 9223372036854775807 := by omega
  have s2 : (2 : Nat) + (txtV x.lo).length ≤ 9223372036854775807 := by omega
  have s3 : (1 : Nat) + (txtV x.hi).length ≤ 9223372036854775807 := by omega
  have s4 : (2 : Nat) + (txtV x.hi).length ≤ 9223372036854775807 := by omega
  have a1 := j1 (60 :: txtV x.hi) (by simp; omega)
  have a2 := j1 (60 :: 61 :: txtV x.hi) (by simp; omega)
  have a3 := j1 (62 :: txtV x.lo) (by simp; omega)
  have a4 := j1 (62 :: 61 :: txtV x.lo) (by simp; omega)
  have b1 := j2 (62 :: txtV x.lo) (60 :: txtV x.hi) (by simp; omega) (by simp; omega)
  have b2 := j2 (62 :: txtV x.lo) (60 :: 61 :: txtV x.hi) (by simp; omega) (by simp; omega)
  have b3 := j2 (62 :: 61 :: txtV x.lo) (60 :: txtV x.hi) (by simp; omega) (by simp; omega)
  have b4 := j2 (62 :: 61 :: txtV x.lo) (60 :: 61 :: txtV x.hi) (by simp; omega) (by simp; omega)
  simp only [List.cons_append] at b1 b2 b3 b4
  generalize leastS x = ls
  generalize (ordV x.lo x.hi == 0) = c0
  generalize x.less = le at *
  generalize x.lopen = lo at *
  generalize x.hopen = ho at *
  clear e1 d37 d36
  clear j1 j2
  cases ls <;> cases le <;> cases c0 <;> cases lo <;> cases ho <;> simp [joinL_one, joinL_cons, *]

theorem den_ref08_words (x : I) (hx : x.ok) (hl : mayV x.lo = true) (hh : mayV x.hi = true) : Den E1 41 [x.p] (strP (wordsR x)) := by
  refine den1 2000 _ rfl (by kernel_rfl) rfl rfl rfl (Eq.mpr (ref08_words_go x _) ?_)
  have d81 := den_ref08_Bottom
  have d80 := den_ref07_Cmp x.lo bottomV hx.lo bottomV_ok (may_len hl) (by decide)
  have d81' : Den E1 81 [] (verP 0 0 0 (.sl 1 false true [strP [48]])) := d81
  have d80' : Den E1 80 [x.lo.p, verP 0 0 0 (.sl 1 false true [strP [48]])] (intP (cmpV x.lo { a := 0, b := 0, c := 0, k := 1, nl := false, full := true, pre := [[48]] })) := d80
  have d72 := den_ref07_Cmp x.lo x.hi hx.lo hx.hi (may_len hl) (may_len hh)
  have dl := den_ref08_version x.lo hx.lo hl
  have dh := den_ref08_version x.hi hx.hi hh
  have ll := ver_len hl
  have lh := ver_len hh
  simp only [bs_append, size_bs, str_bs]
  have e1 : (cmpV x.lo { a := 0, b := 0, c := 0, k := 1, nl := false, full := true, pre := [[48]] } == 0) = zeroR x := rfl
  rw [e1]
  simp only [wordsR, wordsOf, leastR]
  clear d81 d80
  clear e1
  rcases Bool.eq_false_or_eq_true (zeroR x) with hz | hz <;> rcases Bool.eq_false_or_eq_true (cmpV x.lo x.hi == 0) with hc | hc <;> rcases Bool.eq_false_or_eq_true x.less with hle | hle <;>
    rcases Bool.eq_false_or_eq_true x.lopen with hlo | hlo <;> rcases Bool.eq_false_or_eq_true x.hopen with hho | hho <;> simp only [hz, hc, hle, hlo, hho] <;> simp [*] <;> omega
end Go.Proofs.YtlhfgonjcpapnaaGreatDoor.Abs

/- Texts of spans: both functions. -/
set_option linter.unusedVariables false
set_option linter.unusedSimpArgs false
namespace Go.Proofs.YtlhfgonjcpapnaaGreatDoor.Abs
open Go Go.Proofs

theorem wordsOf_len (ls : Bool) (x : I) (c : Bool) (a b : List UInt8) (m : Nat) (ha : a.length ≤ m) (hb : b.length ≤ m) : (wordsOf ls x c a b).length ≤ m + m + 6 := by
  unfold wordsOf
  cases ls <;> cases c <;> cases x.less <;> cases x.lopen <;> cases x.hopen <;> simp <;> omega
theorem wordsS_len (x : I) : (wordsS x).length ≤ 400 := by
  have := wordsOf_len (leastS x) x (!x.less && ordV x.lo x.hi == 0) _ _ 129 (txt_len x.lo) (txt_len x.hi)
  unfold wordsS; omega
theorem wordsR_len {x : I} (hl : mayV x.lo = true) (hh : mayV x.hi = true) : (wordsR x).length ≤ 400 := by
  have := wordsOf_len (leastR x) x (!x.less && cmpV x.lo x.hi == 0) _ _ 170 (ver_len hl) (ver_len hh)
  unfold wordsR; omega
theorem errS_ne (b : Bool) : (errS b != 0) = !b := by cases b <;> rfl
theorem strsL_map (l : List (List UInt8)) : strsL (l.map strP) = l := by
  induction l with
  | nil => rfl
  | cons a l ih => show a :: strsL (l.map strP) = _; rw [ih]
theorem fits_small {n : Nat} (h : n ≤ 1000000) : fitsRow n 16 = true := by
  have h1 : n * 16 ≤ room47 := by unfold room47; omega
  have h2 : n ≤ maxInt := by unfold maxInt; omega
  simp [fitsRow, h1, h2]
theorem den_span_Text (l : List I) (k : Nat) (nl full : Bool) (hsl : slOk 11 k nl l.length) (hok : ∀ x ∈ l, x.ok) : Den E1 13 [listP k nl full l] (.tup [strP (textOf (mayS l) (l.map wordsS)).1, intP (textOf (mayS l) (l.map wordsS)).2]) := by
  refine den1 2000 _ rfl (by kernel_rfl) rfl rfl rfl (Eq.mpr (span_Text_go l k nl full _) ?_)
  simp only [errS_ne, Bool.not_eq_true', Bool.not_eq_false', List.length_map, beq_nat]
  refine ⟨den_span_May l k nl full hsl hok, fun h => ?_, fun h => ⟨fun h1 => ?_, fun h1 j jr g => ?_⟩⟩
  · simp only [textOf, h]; rfl
  · simp only [decide_eq_true_eq] at h1
    simp only [textOf, h, List.length_map, h1]; rfl
  simp only [decide_eq_false_iff_not] at h1
  have h16 : l.length ≤ 16 := by simp [mayS] at h; exact h.1
  have hjl : (joinL [32, 124, 124, 32] (l.map wordsS)).length ≤ 10000 := by
    have h2 := joinL_len [32, 124, 124, 32] 400 (l.map wordsS) (by intro s hs; simp at hs; obtain ⟨x, _, rfl⟩ := hs; exact wordsS_len x)
    simp only [List.length_map] at h2
    have : l.length * (400 + [32, 124, 124, 32].length (α := UInt8)) ≤ 16 * 404 := Nat.mul_le_mul h16 (by simp)
    omega
  have H1 : ∀ (n i gm : Nat) (xs : List PV) j jr g, i + n = l.length → 1 ≤ i → xs = ((l.take i).map wordsS).map strP → LoopAt E1 Tryz.f13 (.tup [strP (textOf (mayS l) (l.map wordsS)).1, intP (textOf (mayS l) (l.map wordsS)).2]) 0 (span_Text_S1 l k nl full i gm i xs j jr g) := by
    intro n
    induction n with
    | zero =>
      intro i gm xs j jr g hi h0 hx
      have hxl : xs.length = i := by rw [hx]; simp; omega
      have hx2 : xs = (l.map wordsS).map strP := by rw [hx, List.take_of_length_le (by omega)]
      refine loop_go 2000 _ (Eq.mpr (span_Text_go_S1 l k nl full i gm i xs j jr g _) ⟨fun h => ?_, fun h2 => ?_⟩)
      · simp at h; omega
      · have hst : strsL xs = l.map wordsS := by rw [hx2, strsL_map]
        rw [hst]
        simp only [size_bs]
        refine ⟨?_, ?_, fun h3 => ?_, fun h3 => ?_⟩
        · have hk : ∀ ps : List AV, pk [List.replicate 6 row0 ++ [jr 6, row0, row0, row0, row0, row0, row0, row0, row0, row0, row0, row0, row0, row0, row0, row0, row0, jr 23, ⟨gm, .row 1 9 xs false⟩] ++ List.replicate 7 row0] 8 (.msl 0 24 gm 0 i false) = some (.sl 1 false false xs, [(0, 24)]) := by
            intro _
            simp only [pk]
            have hl : live [List.replicate 6 row0 ++ [jr 6, row0, row0, row0, row0, row0, row0, row0, row0, row0, row0, row0, row0, row0, row0, row0, row0, jr 23, ⟨gm, .row 1 9 xs false⟩] ++ List.replicate 7 row0] 0 24 gm = .row 1 9 xs false := by
              show (if gm = gm then _ else _) = _
              rw [if_pos rfl]; rfl
            simp only [hl]
            rw [if_pos (by omega), ← hxl]
            simp
          simp only [frzs, pks, frzDepth, hk []]
          rfl
        · rw [hx2]
          exact den_Join _ _ _ _ _ (by simp; omega) (by omega)
        · simp only [decide_eq_true_eq] at h3
          have h4 : ¬ (l.map wordsS).length = 0 := by simpa using h1
          have h5 : (joinL [32, 124, 124, 32] (l.map wordsS)).length > 128 := by omega
          simp only [textOf, h, h4, h5]; rfl
        · simp only [decide_eq_false_iff_not] at h3
          have h4 : ¬ (l.map wordsS).length = 0 := by simpa using h1
          have h5 : ¬ (joinL [32, 124, 124, 32] (l.map wordsS)).length > 128 := by omega
          simp only [textOf, h, h4, h5]; rfl
    | succ n ih =>
      intro i gm xs j jr g hi h0 hx
      have h2 : i < l.length := by omega
      have hxl : xs.length = i := by rw [hx]; simp; omega
      have hx' : l[i].ok := hok _ (by simp)
      have hw : IntKind.wrap IntKind.i64 ((i : Int) + 1) = ((i + 1 : Nat) : Int) := wrap_i64 _ (by omega) (by omega)
      refine loop_go 2000 _ (Eq.mpr (span_Text_go_S1 l k nl full i gm i xs j jr g _) ⟨fun h => ?_, fun h => ?_⟩)
      · simp only [Int.toNat_natCast, getD_lt h2, hw]
        have hm := mapI_get h2
        have htk : l.take (i + 1) = l.take i ++ [l[i]] := List.take_succ_eq_append_getElem h2
        generalize l[i] = x at hm hx' htk ⊢
        refine ⟨⟨by omega, sl_at hsl h2⟩, hm, trivial, trivial, den_words x hx', trivial, ⟨trivial, by omega⟩, trivial, ⟨trivial, trivial, trivial, by omega, fits_small (by omega)⟩, fun j jr g => ?_⟩
        refine ih (i + 1) _ _ j jr g (by omega) (by omega) ?_
        rw [htk, hx]; simp [strP]
      · simp at h; omega
  have hl0 : 0 < l.length := by omega
  have hx0 : l[0].ok := hok _ (by simp)
  have hw : IntKind.wrap IntKind.i64 ((0 : Int) + 1) = ((1 : Nat) : Int) := by decide
  refine loop_go 2000 _ (Eq.mpr (span_Text_go_S0 l k nl full 0 j jr g _) ⟨fun h => ?_, fun h => ?_⟩)
  · have hz : (0 : Int).toNat = 0 := rfl
    simp only [hz, getD_lt hl0, hw]
    have hm := mapI_get hl0
    have htk : l.take 1 = [l[0]] := by
      have := List.take_succ_eq_append_getElem hl0
      simpa using this
    generalize l[0] = x at hm hx0 htk ⊢
    refine ⟨⟨by omega, sl_at hsl hl0⟩, hm, trivial, trivial, den_words x hx0, trivial, ⟨trivial, by omega⟩, ⟨trivial, trivial⟩, fun j jr g => ?_⟩
    refine H1 (l.length - 1) 1 _ _ j jr g (by omega) (by omega) ?_
    rw [htk]; rfl
  · rw [decide_eq_false_iff_not, List.length_map] at h; omega

theorem joinL_snoc (sep a : List UInt8) : ∀ l : List (List UInt8), l ≠ [] → joinL sep (l ++ [a]) = joinL sep l ++ sep ++ a
  | [], h => absurd rfl h
  | [b], _ => by rw [List.singleton_append, joinL_cons, joinL_one, joinL_one]
  | b :: c :: l, _ => by
    have := joinL_snoc sep a (c :: l) (by simp)
    show joinL sep (b :: c :: (l ++ [a])) = _
    rw [joinL_cons, joinL_cons]
    have e : c :: (l ++ [a]) = c :: l ++ [a] := rfl
    rw [e, this]
    simp
theorem den_ref08_Text (l : List I) (k : Nat) (nl full : Bool) (hsl : slOk 11 k nl l.length) (hok : ∀ x ∈ l, x.ok) : Den E1 14 [listP k nl full l] (.tup [strP (textOf (mayR l) (l.map wordsR)).1, intP (textOf (mayR l) (l.map wordsR)).2]) := by
  refine den1 2000 _ rfl (by kernel_rfl) rfl rfl rfl (Eq.mpr (ref08_Text_go l k nl full _) ?_)
  simp only [Bool.not_eq_true', Bool.not_eq_false', List.length_map, beq_nat]
  refine ⟨den_ref08_May l k nl full hsl hok, fun h => ?_, fun h => ⟨fun h1 => ?_, fun h1 j jr g => ?_⟩⟩
  · simp only [textOf, h]; rfl
  · simp only [decide_eq_true_eq] at h1
    simp only [textOf, h, List.length_map, h1]; rfl
  simp only [decide_eq_false_iff_not] at h1
  have hmr := h
  simp only [mayR, Bool.and_eq_true, decide_eq_true_eq, List.all_eq_true] at hmr
  have h16 : l.length ≤ 16 := hmr.1.1
  have hr : ∀ x ∈ l, rightI x = true := fun x hx => (hmr.1.2 x hx).1
  have hjl : ∀ m : List I, (∀ x ∈ m, rightI x = true) → m.length ≤ 16 → (joinL [32, 124, 124, 32] (m.map wordsR)).length ≤ 10000 := by
    intro m hm hl
    have h2 := joinL_len [32, 124, 124, 32] 400 (m.map wordsR) (by intro s hs; simp at hs; obtain ⟨x, hx, rfl⟩ := hs; exact wordsR_len (right_lo (hm x hx)) (right_hi (hm x hx)))
    simp only [List.length_map] at h2
    have : m.length * (400 + [32, 124, 124, 32].length (α := UInt8)) ≤ 16 * 404 := Nat.mul_le_mul hl (by simp)
    omega
  have H1 : ∀ (n i : Nat) (s : List UInt8) j jr g, i + n = l.length → s = joinL [32, 124, 124, 32] ((l.take i).map wordsR) → LoopAt E1 Tryz.f14 (.tup [strP (textOf (mayR l) (l.map wordsR)).1, intP (textOf (mayR l) (l.map wordsR)).2]) 0 (ref08_Text_S0 l k nl full i (bs s) j jr g) := by
    intro n
    induction n with
    | zero =>
      intro i s j jr g hi hs
      rw [List.take_of_length_le (by omega)] at hs
      refine loop_go 2000 _ (Eq.mpr (ref08_Text_go_S0 l k nl full i (bs s) j jr g _) ⟨fun h => ?_, fun h2 => ?_⟩)
      · simp at h; omega
      · simp only [size_bs]
        have h4 : ¬ (l.map wordsR).length = 0 := by simpa using h1
        refine ⟨fun h3 => ?_, fun h3 => ?_⟩
        · simp only [decide_eq_true_eq] at h3
          have h5 : (joinL [32, 124, 124, 32] (l.map wordsR)).length > 128 := by rw [← hs]; omega
          simp only [textOf, h, h4, h5]; rfl
        · simp only [decide_eq_false_iff_not] at h3
          have h5 : ¬ (joinL [32, 124, 124, 32] (l.map wordsR)).length > 128 := by rw [← hs]; omega
          simp only [textOf, h, h4, h5]; rw [hs]; rfl
    | succ n ih =>
      intro i s j jr g hi hs
      have h2 : i < l.length := by omega
      have hx' : l[i].ok := hok _ (by simp)
      have hrx := hr l[i] (by simp)
      have hw : IntKind.wrap IntKind.i64 ((i : Int) + 1) = ((i + 1 : Nat) : Int) := wrap_i64 _ (by omega) (by omega)
      have hsl2 := hjl (l.take i) (fun x hx => hr x (List.mem_of_mem_take hx)) (by simp; omega)
      rw [← hs] at hsl2
      refine loop_go 2000 _ (Eq.mpr (ref08_Text_go_S0 l k nl full i (bs s) j jr g _) ⟨fun h => ?_, fun h => ?_⟩)
      · simp only [Int.toNat_natCast, getD_lt h2, hw, bs_append, size_bs]
        have hm := mapI_get h2
        have htk : l.take (i + 1) = l.take i ++ [l[i]] := List.take_succ_eq_append_getElem h2
        generalize l[i] = x at hm hx' hrx htk ⊢
        have hwl := wordsR_len (right_lo hrx) (right_hi hrx)
        have dw := den_ref08_words x hx' (right_lo hrx) (right_hi hrx)
        refine ⟨fun h3 => ⟨by omega, ⟨by omega, sl_at hsl h2⟩, hm, dw, by simp; omega, fun j jr g => ?_⟩, fun h3 => ⟨⟨by omega, sl_at hsl h2⟩, hm, dw, by omega, fun j jr g => ?_⟩⟩
        · refine ih (i + 1) _ j jr g (by omega) ?_
          simp only [decide_eq_true_eq] at h3
          have hne : (l.take i).map wordsR ≠ [] := by
            intro e
            have := congrArg List.length e
            rw [List.length_map, List.length_take, List.length_nil] at this; omega
          rw [htk, List.map_append, List.map_singleton, joinL_snoc _ _ _ hne, hs]
        · refine ih (i + 1) _ j jr g (by omega) ?_
          simp only [decide_eq_false_iff_not] at h3
          have h0 : i = 0 := by omega
          subst h0
          rw [htk, hs]
          simp [joinL_nil, joinL_one]
      · simp at h; omega
  have h0 := H1 l.length 0 [] j jr g (by omega) (by simp [joinL_nil])
  rw [Int.natCast_zero] at h0
  exact h0
end Go.Proofs.YtlhfgonjcpapnaaGreatDoor.Abs

/- The order of versions is an order; a span may be for the program just if it may be for the reference. -/
set_option linter.unusedVariables false
set_option linter.unusedSimpArgs false
namespace Go.Proofs.YtlhfgonjcpapnaaGreatDoor.Abs
open Go Go.Proofs

structure Tr {α : Type} (f : α → α → Int) : Prop where
  ll : ∀ a b c, f a b < 0 → f b c < 0 → f a c < 0
  le : ∀ a b c, f a b < 0 → f b c = 0 → f a c < 0
  el : ∀ a b c, f a b = 0 → f b c < 0 → f a c < 0
  ee : ∀ a b c, f a b = 0 → f b c = 0 → f a c = 0
def lex2 {α : Type} (f g : α → α → Int) (a b : α) : Int := if f a b ≠ 0 then f a b else g a b
theorem Tr.lex {α : Type} {f g : α → α → Int} (hf : Tr f) (hg : Tr g) : Tr (lex2 f g) := by
  have cases2 : ∀ a b, lex2 f g a b < 0 → f a b < 0 ∨ (f a b = 0 ∧ g a b < 0) := by
    intro a b h
    unfold lex2 at h
    split at h
    · exact .inl h
    · rename_i h0; exact .inr ⟨by simpa using h0, h⟩
  have cases0 : ∀ a b, lex2 f g a b = 0 → f a b = 0 ∧ g a b = 0 := by
    intro a b h
    unfold lex2 at h
    split at h
    · rename_i h0; exact absurd h h0
    · rename_i h0; exact ⟨by simpa using h0, h⟩
  have lt : ∀ a b, f a b < 0 → lex2 f g a b < 0 := fun a b h => by unfold lex2; rw [if_pos (by omega)]; exact h
  have eq : ∀ a b, f a b = 0 → lex2 f g a b = g a b := fun a b h => by unfold lex2; rw [if_neg (by omega)]
  refine ⟨fun a b c h1 h2 => ?_, fun a b c h1 h2 => ?_, fun a b c h1 h2 => ?_, fun a b c h1 h2 => ?_⟩
  · rcases cases2 a b h1 with h1 | ⟨h1, h1'⟩ <;> rcases cases2 b c h2 with h2 | ⟨h2, h2'⟩
    · exact lt _ _ (hf.ll _ _ _ h1 h2)
    · exact lt _ _ (hf.le _ _ _ h1 h2)
    · exact lt _ _ (hf.el _ _ _ h1 h2)
    · rw [eq _ _ (hf.ee _ _ _ h1 h2)]; exact hg.ll _ _ _ h1' h2'
  · obtain ⟨h2, h2'⟩ := cases0 b c h2
    rcases cases2 a b h1 with h1 | ⟨h1, h1'⟩
    · exact lt _ _ (hf.le _ _ _ h1 h2)
    · rw [eq _ _ (hf.ee _ _ _ h1 h2)]; exact hg.le _ _ _ h1' h2'
  · obtain ⟨h1, h1'⟩ := cases0 a b h1
    rcases cases2 b c h2 with h2 | ⟨h2, h2'⟩
    · exact lt _ _ (hf.el _ _ _ h1 h2)
    · rw [eq _ _ (hf.ee _ _ _ h1 h2)]; exact hg.el _ _ _ h1' h2'
  · obtain ⟨h1, h1'⟩ := cases0 a b h1
    obtain ⟨h2, h2'⟩ := cases0 b c h2
    rw [eq _ _ (hf.ee _ _ _ h1 h2)]; exact hg.ee _ _ _ h1' h2'
theorem cmpI_lt (x y : Int) : cmpI x y < 0 ↔ x < y := by unfold cmpI; split <;> (try split) <;> omega
theorem Tr.key {α : Type} (k : α → Int) : Tr (fun a b => cmpI (k a) (k b)) := by
  refine ⟨fun a b c h1 h2 => ?_, fun a b c h1 h2 => ?_, fun a b c h1 h2 => ?_, fun a b c h1 h2 => ?_⟩ <;> simp only [cmpI_lt, cmpI_eq] at * <;> omega
def lexL {α : Type} (f : α → α → Int) : List α → List α → Int
  | [], [] => 0
  | [], _ :: _ => -1
  | _ :: _, [] => 1
  | a :: x, b :: y => if f a b ≠ 0 then f a b else lexL f x y
theorem Tr.list {α : Type} {f : α → α → Int} (hf : Tr f) : Tr (lexL f) := by
  have c2 : ∀ (a b : α) (x y : List α), lexL f (a :: x) (b :: y) < 0 → f a b < 0 ∨ (f a b = 0 ∧ lexL f x y < 0) := by
    intro a b x y h
    simp only [lexL] at h
    split at h
    · exact .inl h
    · rename_i h0; exact .inr ⟨by simpa using h0, h⟩
  have c0 : ∀ (a b : α) (x y : List α), lexL f (a :: x) (b :: y) = 0 → f a b = 0 ∧ lexL f x y = 0 := by
    intro a b x y h
    simp only [lexL] at h
    split at h
    · rename_i h0; exact absurd h h0
    · rename_i h0; exact ⟨by simpa using h0, h⟩
  have lt : ∀ (a b : α) (x y : List α), f a b < 0 → lexL f (a :: x) (b :: y) < 0 := fun a b x y h => by simp only [lexL]; rw [if_pos (by omega)]; exact h
  have eq : ∀ (a b : α) (x y : List α), f a b = 0 → lexL f (a :: x) (b :: y) = lexL f x y := fun a b x y h => by simp only [lexL]; rw [if_neg (by omega)]
  have key : ∀ (x y z : List α), (lexL f x y < 0 → lexL f y z < 0 → lexL f x z < 0) ∧ (lexL f x y < 0 → lexL f y z = 0 → lexL f x z < 0) ∧ (lexL f x y = 0 → lexL f y z < 0 → lexL f x z < 0) ∧ (lexL f x y = 0 → lexL f y z = 0 → lexL f x z = 0) := by
    intro x
    induction x with
    | nil =>
      intro y z
      cases y with
      | nil => cases z <;> simp [lexL]
      | cons b y => cases z <;> simp [lexL]
    | cons a x ih =>
      intro y z
      cases y with
      | nil => simp [lexL]
      | cons b y => cases z with
        | nil => simp [lexL]
        | cons c z =>
          obtain ⟨i1, i2, i3, i4⟩ := ih y z
          refine ⟨fun h1 h2 => ?_, fun h1 h2 => ?_, fun h1 h2 => ?_, fun h1 h2 => ?_⟩
          · rcases c2 _ _ _ _ h1 with h1 | ⟨h1, h1'⟩ <;> rcases c2 _ _ _ _ h2 with h2 | ⟨h2, h2'⟩
            · exact lt _ _ _ _ (hf.ll _ _ _ h1 h2)
            · exact lt _ _ _ _ (hf.le _ _ _ h1 h2)
            · exact lt _ _ _ _ (hf.el _ _ _ h1 h2)
            · rw [eq _ _ _ _ (hf.ee _ _ _ h1 h2)]; exact i1 h1' h2'
          · obtain ⟨h2, h2'⟩ := c0 _ _ _ _ h2
            rcases c2 _ _ _ _ h1 with h1 | ⟨h1, h1'⟩
            · exact lt _ _ _ _ (hf.le _ _ _ h1 h2)
            · rw [eq _ _ _ _ (hf.ee _ _ _ h1 h2)]; exact i2 h1' h2'
          · obtain ⟨h1, h1'⟩ := c0 _ _ _ _ h1
            rcases c2 _ _ _ _ h2 with h2 | ⟨h2, h2'⟩
            · exact lt _ _ _ _ (hf.el _ _ _ h1 h2)
            · rw [eq _ _ _ _ (hf.ee _ _ _ h1 h2)]; exact i3 h1' h2'
          · obtain ⟨h1, h1'⟩ := c0 _ _ _ _ h1
            obtain ⟨h2, h2'⟩ := c0 _ _ _ _ h2
            rw [eq _ _ _ _ (hf.ee _ _ _ h1 h2)]; exact i4 h1' h2'
  exact ⟨fun a b c => (key a b c).1, fun a b c => (key a b c).2.1, fun a b c => (key a b c).2.2.1, fun a b c => (key a b c).2.2.2⟩

theorem cmpP_lex : ∀ x y, cmpP x y = lexL ordL x y
  | [], [] => rfl
  | [], _ :: _ => rfl
  | _ :: _, [] => rfl
  | a :: x, b :: y => by simp only [cmpP, lexL, cmpP_lex x y]
theorem cmpS_lex : ∀ x y : List UInt8, cmpS x y = lexL (fun a b => cmpI (a.toNat : Int) (b.toNat : Int)) x y
  | [], [] => rfl
  | [], _ :: _ => rfl
  | a :: x, [] => by simp [cmpS, lexL, Op.bytesLess]
  | a :: x, b :: y => by
    have ih := cmpS_lex x y
    simp only [lexL, ← ih]
    by_cases h : a.toNat < b.toNat
    · have h1 : a < b := h
      have h2 : cmpI (a.toNat : Int) (b.toNat : Int) = -1 := by unfold cmpI; rw [if_pos (by omega)]
      simp [cmpS, Op.bytesLess, h1, h2]
    · by_cases h3 : b.toNat < a.toNat
      · have h1 : ¬ a < b := h
        have h4 : ¬ a = b := fun e => by subst e; omega
        have h2 : cmpI (a.toNat : Int) (b.toNat : Int) = 1 := by unfold cmpI; rw [if_neg (by omega), if_pos (by omega)]
        simp [cmpS, Op.bytesLess, h1, h2, h4]
      · have h4 : a = b := UInt8.toNat_inj.1 (by omega)
        subst h4
        have h1 : ¬ a < a := h
        simp [cmpS, Op.bytesLess, h1, cmpI_self]
theorem Tr.congr {α : Type} {f g : α → α → Int} (h : ∀ a b, f a b = g a b) (hg : Tr g) : Tr f := by
  have : f = g := by funext a b; exact h a b
  rw [this]; exact hg
theorem tr_cmpS : Tr cmpS := Tr.congr cmpS_lex (Tr.list (Tr.key fun a : UInt8 => (a.toNat : Int)))
def rankL (a : List UInt8) : Int := if digitsL a then 0 else 1
def lenL (a : List UInt8) : Int := if digitsL a then a.length else 0
theorem ordL_lex (a b : List UInt8) : ordL a b = lex2 (fun a b => cmpI (rankL a) (rankL b)) (lex2 (fun a b => cmpI (lenL a) (lenL b)) cmpS) a b := by
  unfold ordL lex2 rankL lenL
  cases h1 : digitsL a <;> cases h2 : digitsL b
  · simp [h1, h2, cmpI_self]
  · simp [h1, h2, cmpI]
  · simp [h1, h2, cmpI]
  · simp [h1, h2, cmpI_self]
theorem tr_ordL : Tr ordL := Tr.congr ordL_lex (Tr.lex (Tr.key rankL) (Tr.lex (Tr.key lenL) tr_cmpS))
def relV (v : V) : Int := if v.pre.length = 0 then 1 else 0
theorem cmpV_lex (v w : V) : cmpV v w = lex2 (fun v w => cmpI v.a w.a) (lex2 (fun v w => cmpI v.b w.b) (lex2 (fun v w => cmpI v.c w.c) (lex2 (fun v w => cmpI (relV v) (relV w)) (fun v w => lexL ordL v.pre w.pre)))) v w := by
  unfold cmpV cmpN or3 lex2
  by_cases ha : cmpI v.a w.a = 0
  · by_cases hb : cmpI v.b w.b = 0
    · by_cases hc : cmpI v.c w.c = 0
      · simp only [ha, hb, hc, ne_eq, not_true, if_false]
        unfold relV
        by_cases h1 : v.pre.length = 0
        · by_cases h2 : w.pre.length = 0
          · have e1 : v.pre = [] := List.length_eq_zero_iff.1 h1
            have e2 : w.pre = [] := List.length_eq_zero_iff.1 h2
            simp [e1, e2, cmpI_self, lexL]
          · simp [h1, h2, cmpI] <;> omega
        · by_cases h2 : w.pre.length = 0
          · simp [h1, h2, cmpI] <;> omega
          · simp [h1, h2, cmpI_self, cmpP_lex]
      · simp [ha, hb, hc]
    · simp [ha, hb]
  · simp [ha]
theorem tr_cmpV : Tr cmpV := Tr.congr cmpV_lex (Tr.lex (Tr.key V.a) (Tr.lex (Tr.key V.b) (Tr.lex (Tr.key V.c) (Tr.lex (Tr.key relV) ⟨fun a b c => (Tr.list tr_ordL).ll _ _ _, fun a b c => (Tr.list tr_ordL).le _ _ _, fun a b c => (Tr.list tr_ordL).el _ _ _, fun a b c => (Tr.list tr_ordL).ee _ _ _⟩))))

/-! ### spans -/
theorem ordV_may {v w : V} (hv : mayV v = true) (hw : mayV w = true) : ordV v w = cmpV v w := by simp [ordV, hv, hw]
theorem befE_fin {a b : Ed} (ha : a.less = false) (hb : b.less = false) (hva : mayV a.v = true) (hvb : mayV b.v = true) : befE a b < 0 ↔ cmpV a.v b.v < 0 ∨ (cmpV a.v b.v = 0 ∧ a.behind = false ∧ b.behind = true) := by
  simp only [befE, ha, hb, ordV_may hva hvb]
  by_cases hc : cmpV a.v b.v = 0
  · cases h1 : a.behind <;> cases h2 : b.behind <;> simp [hc]
  · simp [hc]
theorem step_empty {x : I} (hr : rightI x = true) : decide (befE x.low x.high < 0) = !emptyI x := by
  have hl := right_lo hr
  have hh := right_hi hr
  cases hs : x.less with
  | true => simp [befE, I.low, I.high, emptyI, hs]
  | false =>
    have := befE_fin (a := x.low) (b := x.high) rfl (by simp [I.high, hs]) hl hh
    rw [Bool.eq_iff_iff, decide_eq_true_eq, this]
    simp only [I.low, I.high, emptyI, hs]
    cases x.lopen <;> cases x.hopen <;> simp <;> omega
theorem befE_less {a b : Ed} (h : a.less = true) : ¬ befE a b < 0 := by
  unfold befE
  cases b.less <;> simp [h]
theorem pair_ok {p x : I} (hp : rightI p = true) (hx : rightI x = true) (hpe : befE p.low p.high < 0) : decide (befE p.high x.low < 0) = (decide (lowB p.lb x.lb < 0) && !touchI p x) := by
  have hpl := right_lo hp
  have hph := right_hi hp
  have hxl := right_lo hx
  cases hs : p.less with
  | true =>
    have h1 : ¬ befE p.high x.low < 0 := befE_less (by simp [I.high, hs])
    simp [h1, touchI, hs]
  | false =>
    have h1 := befE_fin (a := p.high) (b := x.low) (by simp [I.high, hs]) rfl hph hxl
    have h2 := (befE_fin (a := p.low) (b := p.high) rfl (by simp [I.high, hs]) hpl hph).1 hpe
    have hl : lowB p.lb x.lb < 0 ↔ cmpV p.lo x.lo < 0 ∨ (cmpV p.lo x.lo = 0 ∧ p.lopen = false ∧ x.lopen = true) := by
      simp only [lowB, I.lb]
      by_cases hc : cmpV p.lo x.lo = 0
      · rcases Bool.eq_false_or_eq_true p.lopen with h5 | h5 <;> rcases Bool.eq_false_or_eq_true x.lopen with h6 | h6 <;> simp [hc, h5, h6]
      · simp [hc]
    have ht : touchI p x = false ↔ cmpV p.hi x.lo < 0 ∨ (cmpV p.hi x.lo = 0 ∧ p.hopen = true ∧ x.lopen = true) := by
      simp only [touchI, hs]
      by_cases hc : cmpV p.hi x.lo = 0
      · rcases Bool.eq_false_or_eq_true p.hopen with h5 | h5 <;> rcases Bool.eq_false_or_eq_true x.lopen with h6 | h6 <;> simp [hc, h5, h6]
      · simp [hc]; omega
    have hboth : befE p.high x.low < 0 ↔ touchI p x = false := by
      rw [h1, ht]
      simp only [I.high, I.low]
      cases p.hopen <;> cases x.lopen <;> simp
    have himp : befE p.high x.low < 0 → lowB p.lb x.lb < 0 := by
      intro h
      have h3 := h1.1 h
      rw [hl]
      simp only [I.high, I.low] at h2 h3
      rcases h2 with h2 | ⟨h2, h2', h2''⟩ <;> rcases h3 with h3 | ⟨h3, h3', h3''⟩
      · exact .inl (tr_cmpV.ll _ _ _ h2 h3)
      · exact .inl (tr_cmpV.le _ _ _ h2 h3)
      · exact .inl (tr_cmpV.el _ _ _ h2 h3)
      · simp at h2'' h3'
        rw [h2''] at h3'; cases h3'
    rw [Bool.eq_iff_iff]
    simp only [decide_eq_true_eq, Bool.and_eq_true, Bool.not_eq_true']
    constructor
    · exact fun h => ⟨himp h, hboth.1 h⟩
    · exact fun h => hboth.2 h.2
theorem chain_pairs : ∀ (l : List I) (p : I), rightI p = true → befE p.low p.high < 0 → chainOk (some p) l = (l.all (fun x => rightI x && !emptyI x) && pairsS (p :: l))
  | [], p, _, _ => by simp [chainOk, pairsS]
  | x :: l, p, hp, hpe => by
    simp only [chainOk, stepOk, List.all_cons, pairsS]
    cases hr : rightI x with
    | false => simp
    | true =>
      rw [pair_ok hp hr hpe]
      have he := step_empty hr
      cases hem : emptyI x with
      | true => rw [hem] at he; simp [he]
      | false =>
        rw [hem] at he
        have he' : befE x.low x.high < 0 := by simpa using he
        rw [chain_pairs l x hr he', he]
        cases decide (lowB p.lb x.lb < 0) <;> cases touchI p x <;> simp
theorem may_same (l : List I) : mayS l = mayR l := by
  unfold mayS mayR
  cases l with
  | nil => simp [chainOk, pairsS]
  | cons x l =>
    simp only [chainOk, stepOk, List.all_cons]
    cases hr : rightI x with
    | false => simp
    | true =>
      have he := step_empty hr
      cases hem : emptyI x with
      | true => rw [hem] at he; simp [he]
      | false =>
        rw [hem] at he
        have he' : befE x.low x.high < 0 := by simpa using he
        rw [chain_pairs l x hr he', he]
        simp [Bool.and_assoc]

/-! ### texts -/
theorem least_same {x : I} (hl : mayV x.lo = true) : leastS x = leastR x := by
  have hb : mayV ⟨0, 0, 0, 1, false, true, [[48]]⟩ = true := by decide
  have ho := ordV_may hl hb
  simp only [leastS, leastR, zeroR, befE]
  rw [ho]
  by_cases hc : cmpV x.lo ⟨0, 0, 0, 1, false, true, [[48]]⟩ = 0
  · rcases Bool.eq_false_or_eq_true x.lopen with h5 | h5 <;> simp [hc, h5]
  · simp [hc]
theorem txt_or {v : V} (h : mayV v = true) : txtV v = verL v ∨ ((txtV v).length > 128 ∧ (verL v).length > 128) := by
  unfold txtV
  split
  · exact .inl rfl
  · rename_i hn
    refine .inr ⟨by simp, ?_⟩
    simp [okText, h] at hn
    exact hn
theorem words_or {x : I} (hl : mayV x.lo = true) (hh : mayV x.hi = true) : wordsS x = wordsR x ∨ ((wordsS x).length > 128 ∧ (wordsR x).length > 128) := by
  unfold wordsS wordsR
  rw [least_same hl, ordV_may hl hh]
  unfold wordsOf
  rcases txt_or hl with h1 | ⟨h1, h1'⟩ <;> rcases txt_or hh with h2 | ⟨h2, h2'⟩
  · rw [h1, h2]; exact .inl rfl
  · rw [h1]
    generalize leastR x = a
    generalize (!x.less && cmpV x.lo x.hi == 0) = b
    cases a <;> cases x.less <;> cases b <;> simp <;> (try (right; constructor <;> omega))
  · rw [h2]
    generalize leastR x = a
    generalize (!x.less && cmpV x.lo x.hi == 0) = b
    cases a <;> cases x.less <;> cases b <;> simp <;> (try (right; constructor <;> omega))
  · generalize leastR x = a
    generalize (!x.less && cmpV x.lo x.hi == 0) = b
    cases a <;> cases x.less <;> cases b <;> simp <;> (try (right; constructor <;> omega))
theorem joinL_ge (sep s : List UInt8) : ∀ l : List (List UInt8), s ∈ l → s.length ≤ (joinL sep l).length
  | [], h => by simp at h
  | [a], h => by simp at h; subst h; rw [joinL_one]; omega
  | a :: b :: l, h => by
    rw [joinL_cons]
    rcases List.mem_cons.1 h with rfl | h
    · simp <;> omega
    · have := joinL_ge sep s (b :: l) h
      simp at this ⊢ <;> omega
theorem words_all : ∀ (l : List I), (∀ x ∈ l, rightI x = true) → l.map wordsS = l.map wordsR ∨ ∃ x ∈ l, (wordsS x).length > 128 ∧ (wordsR x).length > 128
  | [], _ => .inl rfl
  | x :: l, h => by
    rcases words_or (right_lo (h x (by simp))) (right_hi (h x (by simp))) with h1 | h1
    · rcases words_all l (fun y hy => h y (by simp [hy])) with h2 | ⟨y, hy, h2⟩
      · left; simp only [List.map_cons, h1, h2]
      · exact .inr ⟨y, by simp [hy], h2⟩
    · exact .inr ⟨x, by simp, h1⟩
theorem text_same (l : List I) : textOf (mayS l) (l.map wordsS) = textOf (mayR l) (l.map wordsR) := by
  rw [may_same]
  unfold textOf
  cases hm : mayR l with
  | false => rfl
  | true =>
    have hr : ∀ x ∈ l, rightI x = true := by
      simp only [mayR, Bool.and_eq_true, List.all_eq_true] at hm
      exact fun x hx => (hm.1.2 x hx).1
    rcases words_all l hr with h | ⟨x, hx, h1, h2⟩
    · rw [h]
    · have g1 := joinL_ge [32, 124, 124, 32] _ _ (List.mem_map_of_mem (f := wordsS) hx)
      have g2 := joinL_ge [32, 124, 124, 32] _ _ (List.mem_map_of_mem (f := wordsR) hx)
      have e1 : (joinL [32, 124, 124, 32] (l.map wordsS)).length > 128 := by omega
      have e2 : (joinL [32, 124, 124, 32] (l.map wordsR)).length > 128 := by omega
      simp only [List.length_map, e1, e2, if_true]
end Go.Proofs.YtlhfgonjcpapnaaGreatDoor.Abs

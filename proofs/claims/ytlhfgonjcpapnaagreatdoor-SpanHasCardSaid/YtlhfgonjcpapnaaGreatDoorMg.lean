/-
  Copies of spans, and the law SpanTexts as a function of values. Conditions: the values are of their types.
-/
import Derived.Test.YtlhfgonjcpapnaaGreatDoorMf

set_option linter.all false
set_option linter.unnecessarySimpa false

/- Copies of spans, beside the spans. -/
set_option linter.unusedVariables false
set_option linter.unusedSimpArgs false
namespace Go.Proofs.YtlhfgonjcpapnaaGreatDoor.Abs
open Go Go.Proofs
def twV (v : V) : V := if v.pre.length = 0 then ⟨v.a, v.b, v.c, 0, true, true, []⟩ else ⟨v.a, v.b, v.c, 1, false, false, v.pre⟩
def twI (x : I) : I := ⟨twV x.lo, x.lopen, twV x.hi, x.hopen, x.less⟩
def sameI (x y : I) : Bool := x.lopen == y.lopen && x.hopen == y.hopen && x.less == y.less && sameV x.lo y.lo && sameV x.hi y.hi
def sameLs : List I → List I → Bool
  | [], [] => true
  | x :: a, y :: b => sameI x y && sameLs a b
  | _, _ => false
end Go.Proofs.YtlhfgonjcpapnaaGreatDoor.Abs

/- Conditions of functions and their loops, printed by a program and checked by computing. -/
set_option linter.unusedVariables false
namespace Go.Proofs.YtlhfgonjcpapnaaGreatDoor.Abs
open Go Go.Proofs

def law08_same_S0 (l : List I) (m : List I) (k : Nat) (k' : Nat) (nl : Bool) (full : Bool) (nl' : Bool) (full' : Bool) (i : Int) (j : Nat → AV) (jr : Nat → Row) (g : Nat) : St :=
  { t := [.pv (.sl k nl full (List.map I.p l)), .pv (.sl k' nl' full' (List.map I.p m)), j (2 : Nat), j (3 : Nat), j (4 : Nat), intA i, j (6 : Nat), j (7 : Nat), j (8 : Nat), j (9 : Nat), j (10 : Nat), j (11 : Nat), j (12 : Nat), j (13 : Nat), j (14 : Nat), j (15 : Nat), j (16 : Nat), j (17 : Nat), j (18 : Nat), j (19 : Nat), j (20 : Nat), j (21 : Nat), j (22 : Nat), j (23 : Nat), j (24 : Nat), j (25 : Nat), j (26 : Nat), j (27 : Nat), j (28 : Nat), j (29 : Nat), j (30 : Nat), j (31 : Nat), j (32 : Nat), j (33 : Nat), j (34 : Nat), j (35 : Nat), j (36 : Nat), j (37 : Nat), j (38 : Nat), j (39 : Nat), j (40 : Nat), j (41 : Nat), j (42 : Nat), j (43 : Nat), j (44 : Nat), j (45 : Nat), j (46 : Nat), j (47 : Nat), j (48 : Nat), j (49 : Nat), j (50 : Nat), j (51 : Nat), j (52 : Nat), j (53 : Nat), j (54 : Nat), j (55 : Nat), j (56 : Nat), j (57 : Nat), j (58 : Nat), j (59 : Nat), j (60 : Nat), j (61 : Nat), j (62 : Nat), j (63 : Nat), j (64 : Nat), j (65 : Nat), j (66 : Nat), j (67 : Nat), j (68 : Nat), j (69 : Nat), j (70 : Nat), j (71 : Nat), j (72 : Nat), j (73 : Nat), j (74 : Nat), j (75 : Nat), j (76 : Nat), j (77 : Nat), j (78 : Nat), j (79 : Nat), j (80 : Nat), j (81 : Nat), j (82 : Nat), j (83 : Nat), j (84 : Nat), j (85 : Nat), j (86 : Nat), j (87 : Nat), j (88 : Nat), j (89 : Nat)], h := [List.replicate 90 row0], g := g }
theorem law08_same_go (l : List I) (m : List I) (k : Nat) (k' : Nat) (nl : Bool) (full : Bool) (nl' : Bool) (full' : Bool) (r : PV) : FnGo E1 Tryz.f16 [.sl k nl full (List.map I.p l), .sl k' nl' full' (List.map I.p m)] r 2000 (.fork (.hole 0) (.mask [2, 3, 4, 6, 7, 8, 9, 10, 11, 12, 13, 14, 15, 16, 17, 18, 19, 20, 21, 22, 23, 24, 25, 26, 27, 28, 29, 30, 31, 32, 33, 34, 35, 36, 37, 38, 39, 40, 41, 42, 43, 44, 45, 46, 47, 48, 49, 50, 51, 52, 53, 54, 55, 56, 57, 58, 59, 60, 61, 62, 63, 64, 65, 66, 67, 68, 69, 70, 71, 72, 73, 74, 75, 76, 77, 78, 79, 80, 81, 82, 83, 84, 85, 86, 87, 88, 89] [])) =
  ((((↑(List.length (List.map I.p l)) : Int) != (↑(List.length (List.map I.p m)) : Int)) = true →
   (bolP false) = r) ∧
  (((↑(List.length (List.map I.p l)) : Int) != (↑(List.length (List.map I.p m)) : Int)) = false →
   ∀ (j' : Nat → AV) (jr' : Nat → Row) (g' : Nat), LoopAt E1 Tryz.f16 r 0 (law08_same_S0 l m k k' nl full nl' full' 0 j' jr' g'))) := by kernel_rfl
theorem law08_same_go_S0 (l : List I) (m : List I) (k : Nat) (k' : Nat) (nl : Bool) (full : Bool) (nl' : Bool) (full' : Bool) (i : Int) (j : Nat → AV) (jr : Nat → Row) (g : Nat) (r : PV) : LoopGo E1 Tryz.f16 r 0 2000 (.fork (.val (I.p (List.getD l (Int.toNat i) default)) (.val (I.p (List.getD m (Int.toNat i) default)) (.fork (.lit (.lit (.lit (.lit (.lit (.lit (.lit (.lit (.lit (.lit (.lit (.lit (.lit (.lit (.lit (.lit (.lit (.lit (.lit (.lit (.lit (.lit (.lit (.lit (.lit (.lit (.lit (.lit (.lit (.lit (.lit (.lit (.lit (.lit (.lit (.lit (.lit (.lit (.lit (.lit (.lit (.lit (.lit (.lit (.lit (.lit (.lit (.lit (.lit (.lit (.lit (.lit (.lit (.lit (.lit (.lit (.lit (.lit (.lit (.lit (.hole 0))))))))))))))))))))))))))))))))))))))))))))))))))))))))))))) (.lit (.lit (.lit (.val (I.p (List.getD l (Int.toNat i) default)) (.lit (.lit (.lit (.lit (.lit (.lit (.val (I.p (List.getD m (Int.toNat i) default)) (.lit (.lit (.lit (.lit (.lit (.fork (.lit (.lit (.lit (.lit (.lit (.lit (.lit (.lit (.lit (.lit (.lit (.lit (.lit (.lit (.lit (.lit (.lit (.lit (.lit (.lit (.lit (.lit (.lit (.lit (.lit (.lit (.lit (.lit (.lit (.lit (.lit (.lit (.lit (.lit (.lit (.lit (.lit (.lit (.lit (.lit (.lit (.lit (.lit (.lit (.lit (.hole 0)))))))))))))))))))))))))))))))))))))))))))))) (.lit (.lit (.lit (.val (I.p (List.getD l (Int.toNat i) default)) (.lit (.lit (.lit (.lit (.lit (.val (I.p (List.getD m (Int.toNat i) default)) (.lit (.lit (.lit (.lit (.fork (.lit (.lit (.lit (.lit (.lit (.lit (.lit (.lit (.lit (.lit (.lit (.lit (.lit (.lit (.lit (.lit (.lit (.lit (.lit (.lit (.lit (.lit (.lit (.lit (.lit (.lit (.lit (.lit (.lit (.lit (.lit (.lit (.hole 0))))))))))))))))))))))))))))))))) (.lit (.lit (.lit (.val (I.p (List.getD l (Int.toNat i) default)) (.lit (.lit (.lit (.lit (.lit (.lit (.val (I.p (List.getD m (Int.toNat i) default)) (.lit (.lit (.lit (.lit (.res (bolP (sameV (I.lo (List.getD l (Int.toNat i) default)) (I.lo (List.getD m (Int.toNat i) default)))) (.lit (.lit (.fork (.lit (.lit (.lit (.lit (.lit (.lit (.lit (.lit (.lit (.lit (.lit (.lit (.lit (.lit (.lit (.lit (.hole 0))))))))))))))))) (.lit (.lit (.lit (.val (I.p (List.getD l (Int.toNat i) default)) (.lit (.lit (.lit (.lit (.lit (.lit (.val (I.p (List.getD m (Int.toNat i) default)) (.lit (.lit (.lit (.lit (.res (bolP (sameV (I.hi (List.getD l (Int.toNat i) default)) (I.hi (List.getD m (Int.toNat i) default)))) (.lit (.lit (.fork (.hole 0) (.mask [2, 3, 4, 6, 7, 8, 9, 10, 11, 12, 13, 14, 15, 16, 17, 18, 19, 20, 21, 22, 23, 24, 25, 26, 27, 28, 29, 30, 31, 32, 33, 34, 35, 36, 37, 38, 39, 40, 41, 42, 43, 44, 45, 46, 47, 48, 49, 50, 51, 52, 53, 54, 55, 56, 57, 58, 59, 60, 61, 62, 63, 64, 65, 66, 67, 68, 69, 70, 71, 72, 73, 74, 75, 76, 77, 78, 79, 80, 81, 82, 83, 84, 85, 86, 87, 88, 89] [])))))))))))))))))))))))))))))))))))))))))))))))))))))))))))))))))))))))))) (.hole 0)) (law08_same_S0 l m k k' nl full nl' full' i j jr g) =
  (((decide (i < (↑(List.length (List.map I.p l)) : Int))) = true →
   (((0 : Int) ≤ i) ∧ ((nl = false) ∧ (k = 11))) ∧
   (((List.map I.p l)[Int.toNat i]?) = some (I.p (List.getD l (Int.toNat i) default))) ∧
   (((0 : Int) ≤ i) ∧ ((nl' = false) ∧ (k' = 11))) ∧
   (((List.map I.p m)[Int.toNat i]?) = some (I.p (List.getD m (Int.toNat i) default))) ∧
   ((!I.lopen (List.getD l (Int.toNat i) default) == I.lopen (List.getD m (Int.toNat i) default)) = true →
    (bolP false) = r) ∧
   ((!I.lopen (List.getD l (Int.toNat i) default) == I.lopen (List.getD m (Int.toNat i) default)) = false →
    (((0 : Int) ≤ i) ∧ ((nl = false) ∧ (k = 11))) ∧
    (((List.map I.p l)[Int.toNat i]?) = some (I.p (List.getD l (Int.toNat i) default))) ∧
    (((0 : Int) ≤ i) ∧ ((nl' = false) ∧ (k' = 11))) ∧
    (((List.map I.p m)[Int.toNat i]?) = some (I.p (List.getD m (Int.toNat i) default))) ∧
    ((!I.hopen (List.getD l (Int.toNat i) default) == I.hopen (List.getD m (Int.toNat i) default)) = true →
     (bolP false) = r) ∧
    ((!I.hopen (List.getD l (Int.toNat i) default) == I.hopen (List.getD m (Int.toNat i) default)) = false →
     (((0 : Int) ≤ i) ∧ ((nl = false) ∧ (k = 11))) ∧
     (((List.map I.p l)[Int.toNat i]?) = some (I.p (List.getD l (Int.toNat i) default))) ∧
     (((0 : Int) ≤ i) ∧ ((nl' = false) ∧ (k' = 11))) ∧
     (((List.map I.p m)[Int.toNat i]?) = some (I.p (List.getD m (Int.toNat i) default))) ∧
     ((!I.less (List.getD l (Int.toNat i) default) == I.less (List.getD m (Int.toNat i) default)) = true →
      (bolP false) = r) ∧
     ((!I.less (List.getD l (Int.toNat i) default) == I.less (List.getD m (Int.toNat i) default)) = false →
      (((0 : Int) ≤ i) ∧ ((nl = false) ∧ (k = 11))) ∧
      (((List.map I.p l)[Int.toNat i]?) = some (I.p (List.getD l (Int.toNat i) default))) ∧
      (((0 : Int) ≤ i) ∧ ((nl' = false) ∧ (k' = 11))) ∧
      (((List.map I.p m)[Int.toNat i]?) = some (I.p (List.getD m (Int.toNat i) default))) ∧
      (Den E1 46 [V.p (I.lo (List.getD l (Int.toNat i) default)), V.p (I.lo (List.getD m (Int.toNat i) default))] (bolP (sameV (I.lo (List.getD l (Int.toNat i) default)) (I.lo (List.getD m (Int.toNat i) default))))) ∧
      ((!sameV (I.lo (List.getD l (Int.toNat i) default)) (I.lo (List.getD m (Int.toNat i) default))) = true →
       (bolP false) = r) ∧
      ((!sameV (I.lo (List.getD l (Int.toNat i) default)) (I.lo (List.getD m (Int.toNat i) default))) = false →
       (((0 : Int) ≤ i) ∧ ((nl = false) ∧ (k = 11))) ∧
       (((List.map I.p l)[Int.toNat i]?) = some (I.p (List.getD l (Int.toNat i) default))) ∧
       (((0 : Int) ≤ i) ∧ ((nl' = false) ∧ (k' = 11))) ∧
       (((List.map I.p m)[Int.toNat i]?) = some (I.p (List.getD m (Int.toNat i) default))) ∧
       (Den E1 46 [V.p (I.hi (List.getD l (Int.toNat i) default)), V.p (I.hi (List.getD m (Int.toNat i) default))] (bolP (sameV (I.hi (List.getD l (Int.toNat i) default)) (I.hi (List.getD m (Int.toNat i) default))))) ∧
       ((!sameV (I.hi (List.getD l (Int.toNat i) default)) (I.hi (List.getD m (Int.toNat i) default))) = true →
        (bolP false) = r) ∧
       ((!sameV (I.hi (List.getD l (Int.toNat i) default)) (I.hi (List.getD m (Int.toNat i) default))) = false →
        ∀ (j' : Nat → AV) (jr' : Nat → Row) (g' : Nat), LoopAt E1 Tryz.f16 r 0 (law08_same_S0 l m k k' nl full nl' full' (IntKind.wrap IntKind.i64 (i + (1 : Int))) j' jr' g'))))))) ∧
  ((decide (i < (↑(List.length (List.map I.p l)) : Int))) = false →
   (bolP true) = r)) := by kernel_rfl

def law08_twin_S0 (l : List I) (k : Nat) (nl : Bool) (full : Bool) (i : Int) (j : Nat → AV) (jr : Nat → Row) (g : Nat) : St :=
  { t := [.pv (.sl k nl full (List.map I.p l)), j (1 : Nat), .pv (.sl 0 true true []), .pv (.sl 0 true true []), intA i, j (5 : Nat), j (6 : Nat), j (7 : Nat), j (8 : Nat), j (9 : Nat), j (10 : Nat), j (11 : Nat), j (12 : Nat), j (13 : Nat), j (14 : Nat), j (15 : Nat), j (16 : Nat), j (17 : Nat), j (18 : Nat), j (19 : Nat), j (20 : Nat), j (21 : Nat), j (22 : Nat), j (23 : Nat), j (24 : Nat), j (25 : Nat), j (26 : Nat), j (27 : Nat), j (28 : Nat), j (29 : Nat), j (30 : Nat), j (31 : Nat), j (32 : Nat), j (33 : Nat), j (34 : Nat), j (35 : Nat), undefA], h := [[row0, row0, row0, row0, row0, jr (5 : Nat), row0, row0, row0, row0, row0, row0, row0, row0, row0, row0, row0, row0, row0, row0, jr (20 : Nat), row0, row0, row0, row0, row0, row0, row0, jr (28 : Nat), row0, row0, row0, row0, row0, jr (34 : Nat), row0, row0]], g := g }
def law08_twin_S1 (l : List I) (k : Nat) (nl : Bool) (full : Bool) (i : Int) (gm : Nat) (n : Nat) (xs : List PV) (j : Nat → AV) (jr : Nat → Row) (g : Nat) : St :=
  { t := [.pv (.sl k nl full (List.map I.p l)), j (1 : Nat), .pv (.sl 0 true true []), .msl 0 35 gm 0 n false, intA i, j (5 : Nat), j (6 : Nat), j (7 : Nat), j (8 : Nat), j (9 : Nat), j (10 : Nat), j (11 : Nat), j (12 : Nat), j (13 : Nat), j (14 : Nat), j (15 : Nat), j (16 : Nat), j (17 : Nat), j (18 : Nat), j (19 : Nat), j (20 : Nat), j (21 : Nat), j (22 : Nat), j (23 : Nat), j (24 : Nat), j (25 : Nat), j (26 : Nat), j (27 : Nat), j (28 : Nat), j (29 : Nat), j (30 : Nat), j (31 : Nat), j (32 : Nat), j (33 : Nat), j (34 : Nat), j (35 : Nat), undefA], h := [[row0, row0, row0, row0, row0, jr (5 : Nat), row0, row0, row0, row0, row0, row0, row0, row0, row0, row0, row0, row0, row0, row0, jr (20 : Nat), row0, row0, row0, row0, row0, row0, row0, jr (28 : Nat), row0, row0, row0, row0, row0, jr (34 : Nat), ⟨gm, .row 11 63 xs false⟩, row0]], g := g }
theorem law08_twin_go (l : List I) (k : Nat) (nl : Bool) (full : Bool) (r : PV) : FnGo E1 Tryz.f11 [.sl k nl full (List.map I.p l)] r 2000 (.mask [1, 5, 6, 7, 8, 9, 10, 11, 12, 13, 14, 15, 16, 17, 18, 19, 20, 21, 22, 23, 24, 25, 26, 27, 28, 29, 30, 31, 32, 33, 34, 35] [5, 20, 28, 34]) =
  (∀ (j' : Nat → AV) (jr' : Nat → Row) (g' : Nat), LoopAt E1 Tryz.f11 r 0 (law08_twin_S0 l k nl full 0 j' jr' g')) := by kernel_rfl
theorem law08_twin_go_S0 (l : List I) (k : Nat) (nl : Bool) (full : Bool) (i : Int) (j : Nat → AV) (jr : Nat → Row) (g : Nat) (r : PV) : LoopGo E1 Tryz.f11 r 0 2000 (.fork (.val (I.p (List.getD l (Int.toNat i) default)) (.fork (.fork (.lit (.lit (.mask [1, 5, 6, 7, 8, 9, 10, 11, 12, 13, 14, 15, 16, 17, 18, 19, 20, 21, 22, 23, 24, 25, 26, 27, 28, 29, 30, 31, 32, 33, 34, 35] [5, 20, 28, 34]))) (.lit (.frz [itvP (V.a (I.lo (List.getD l (Int.toNat i) default))) (V.b (I.lo (List.getD l (Int.toNat i) default))) (V.c (I.lo (List.getD l (Int.toNat i) default))) (.sl 0 true true []) (I.lopen (List.getD l (Int.toNat i) default)) (V.a (I.hi (List.getD l (Int.toNat i) default))) (V.b (I.hi (List.getD l (Int.toNat i) default))) (V.c (I.hi (List.getD l (Int.toNat i) default))) (.sl 1 false false (List.map strP (V.pre (I.hi (List.getD l (Int.toNat i) default))))) (I.hopen (List.getD l (Int.toNat i) default)) (I.less (List.getD l (Int.toNat i) default))] [[row0, row0, row0, row0, row0, ⟨g + (4 : Nat) + (4 : Nat), .box (.agg [.pv (.lit (.int .u32 (V.a (I.lo (List.getD l (Int.toNat i) default))))), .pv (.lit (.int .u32 (V.b (I.lo (List.getD l (Int.toNat i) default))))), .pv (.lit (.int .u32 (V.c (I.lo (List.getD l (Int.toNat i) default))))), .pv (.sl 0 true true []), bolA (I.lopen (List.getD l (Int.toNat i) default)), .pv (.lit (.int .u32 (V.a (I.hi (List.getD l (Int.toNat i) default))))), .pv (.lit (.int .u32 (V.b (I.hi (List.getD l (Int.toNat i) default))))), .pv (.lit (.int .u32 (V.c (I.hi (List.getD l (Int.toNat i) default))))), .msl 0 28 (g + (4 : Nat) + (6 : Nat) + (9 : Nat) + (4 : Nat)) 0 (List.length (List.map strP (V.pre (I.hi (List.getD l (Int.toNat i) default))))) false, bolA (I.hopen (List.getD l (Int.toNat i) default)), bolA (I.less (List.getD l (Int.toNat i) default))]) false⟩, row0, row0, row0, row0, row0, row0, row0, row0, row0, row0, row0, row0, row0, row0, jr (20 : Nat), row0, row0, row0, row0, row0, row0, row0, ⟨g + (4 : Nat) + (6 : Nat) + (9 : Nat) + (4 : Nat), .row 1 9 (List.map strP (V.pre (I.hi (List.getD l (Int.toNat i) default)))) true⟩, row0, row0, row0, row0, row0, jr (34 : Nat), row0, row0]] (.lit (.lit (.mask [1, 5, 6, 7, 8, 9, 10, 11, 12, 13, 14, 15, 16, 17, 18, 19, 20, 21, 22, 23, 24, 25, 26, 27, 28, 29, 30, 31, 32, 33, 34, 35] [5, 20, 28, 34])))))) (.lit (.fork (.frz [itvP (V.a (I.lo (List.getD l (Int.toNat i) default))) (V.b (I.lo (List.getD l (Int.toNat i) default))) (V.c (I.lo (List.getD l (Int.toNat i) default))) (.sl 1 false false (List.map strP (V.pre (I.lo (List.getD l (Int.toNat i) default))))) (I.lopen (List.getD l (Int.toNat i) default)) (V.a (I.hi (List.getD l (Int.toNat i) default))) (V.b (I.hi (List.getD l (Int.toNat i) default))) (V.c (I.hi (List.getD l (Int.toNat i) default))) (.sl 0 true true []) (I.hopen (List.getD l (Int.toNat i) default)) (I.less (List.getD l (Int.toNat i) default))] [[row0, row0, row0, row0, row0, ⟨g + (4 : Nat) + (4 : Nat), .box (.agg [.pv (.lit (.int .u32 (V.a (I.lo (List.getD l (Int.toNat i) default))))), .pv (.lit (.int .u32 (V.b (I.lo (List.getD l (Int.toNat i) default))))), .pv (.lit (.int .u32 (V.c (I.lo (List.getD l (Int.toNat i) default))))), .msl 0 20 (g + (4 : Nat) + (6 : Nat) + (4 : Nat)) 0 (List.length (List.map strP (V.pre (I.lo (List.getD l (Int.toNat i) default))))) false, bolA (I.lopen (List.getD l (Int.toNat i) default)), .pv (.lit (.int .u32 (V.a (I.hi (List.getD l (Int.toNat i) default))))), .pv (.lit (.int .u32 (V.b (I.hi (List.getD l (Int.toNat i) default))))), .pv (.lit (.int .u32 (V.c (I.hi (List.getD l (Int.toNat i) default))))), .pv (.sl 0 true true []), bolA (I.hopen (List.getD l (Int.toNat i) default)), bolA (I.less (List.getD l (Int.toNat i) default))]) false⟩, row0, row0, row0, row0, row0, row0, row0, row0, row0, row0, row0, row0, row0, row0, ⟨g + (4 : Nat) + (6 : Nat) + (4 : Nat), .row 1 9 (List.map strP (V.pre (I.lo (List.getD l (Int.toNat i) default)))) true⟩, row0, row0, row0, row0, row0, row0, row0, jr (28 : Nat), row0, row0, row0, row0, row0, jr (34 : Nat), row0, row0]] (.lit (.lit (.mask [1, 5, 6, 7, 8, 9, 10, 11, 12, 13, 14, 15, 16, 17, 18, 19, 20, 21, 22, 23, 24, 25, 26, 27, 28, 29, 30, 31, 32, 33, 34, 35] [5, 20, 28, 34])))) (.lit (.frz [itvP (V.a (I.lo (List.getD l (Int.toNat i) default))) (V.b (I.lo (List.getD l (Int.toNat i) default))) (V.c (I.lo (List.getD l (Int.toNat i) default))) (.sl 1 false false (List.map strP (V.pre (I.lo (List.getD l (Int.toNat i) default))))) (I.lopen (List.getD l (Int.toNat i) default)) (V.a (I.hi (List.getD l (Int.toNat i) default))) (V.b (I.hi (List.getD l (Int.toNat i) default))) (V.c (I.hi (List.getD l (Int.toNat i) default))) (.sl 1 false false (List.map strP (V.pre (I.hi (List.getD l (Int.toNat i) default))))) (I.hopen (List.getD l (Int.toNat i) default)) (I.less (List.getD l (Int.toNat i) default))] [[row0, row0, row0, row0, row0, ⟨g + (4 : Nat) + (4 : Nat), .box (.agg [.pv (.lit (.int .u32 (V.a (I.lo (List.getD l (Int.toNat i) default))))), .pv (.lit (.int .u32 (V.b (I.lo (List.getD l (Int.toNat i) default))))), .pv (.lit (.int .u32 (V.c (I.lo (List.getD l (Int.toNat i) default))))), .msl 0 20 (g + (4 : Nat) + (6 : Nat) + (4 : Nat)) 0 (List.length (List.map strP (V.pre (I.lo (List.getD l (Int.toNat i) default))))) false, bolA (I.lopen (List.getD l (Int.toNat i) default)), .pv (.lit (.int .u32 (V.a (I.hi (List.getD l (Int.toNat i) default))))), .pv (.lit (.int .u32 (V.b (I.hi (List.getD l (Int.toNat i) default))))), .pv (.lit (.int .u32 (V.c (I.hi (List.getD l (Int.toNat i) default))))), .msl 0 28 (g + (4 : Nat) + (6 : Nat) + (9 : Nat) + (4 : Nat)) 0 (List.length (List.map strP (V.pre (I.hi (List.getD l (Int.toNat i) default))))) false, bolA (I.hopen (List.getD l (Int.toNat i) default)), bolA (I.less (List.getD l (Int.toNat i) default))]) false⟩, row0, row0, row0, row0, row0, row0, row0, row0, row0, row0, row0, row0, row0, row0, ⟨g + (4 : Nat) + (6 : Nat) + (4 : Nat), .row 1 9 (List.map strP (V.pre (I.lo (List.getD l (Int.toNat i) default)))) true⟩, row0, row0, row0, row0, row0, row0, row0, ⟨g + (4 : Nat) + (6 : Nat) + (9 : Nat) + (4 : Nat), .row 1 9 (List.map strP (V.pre (I.hi (List.getD l (Int.toNat i) default)))) true⟩, row0, row0, row0, row0, row0, jr (34 : Nat), row0, row0]] (.lit (.lit (.mask [1, 5, 6, 7, 8, 9, 10, 11, 12, 13, 14, 15, 16, 17, 18, 19, 20, 21, 22, 23, 24, 25, 26, 27, 28, 29, 30, 31, 32, 33, 34, 35] [5, 20, 28, 34]))))))))) (.hole 0)) (law08_twin_S0 l k nl full i j jr g) =
  (((decide (i < (↑(List.length (List.map I.p l)) : Int))) = true →
   (((0 : Int) ≤ i) ∧ ((nl = false) ∧ (k = 11))) ∧
   (((List.map I.p l)[Int.toNat i]?) = some (I.p (List.getD l (Int.toNat i) default))) ∧
   ((g + (4 : Nat) + (4 : Nat)) = g + (4 : Nat) + (4 : Nat)) ∧
   ((g + (4 : Nat) + (4 : Nat)) = g + (4 : Nat) + (4 : Nat)) ∧
   ((((V.nl (I.lo (List.getD l (Int.toNat i) default))) = true → (List.map strP (V.pre (I.lo (List.getD l (Int.toNat i) default)))) = [])) ∧ (((V.nl (I.lo (List.getD l (Int.toNat i) default))) = false → (V.k (I.lo (List.getD l (Int.toNat i) default))) = 1))) ∧
   ((List.isEmpty (List.map strP (V.pre (I.lo (List.getD l (Int.toNat i) default))))) = true →
    ((g + (4 : Nat) + (4 : Nat)) = g + (4 : Nat) + (4 : Nat)) ∧
    ((g + (4 : Nat) + (4 : Nat)) = g + (4 : Nat) + (4 : Nat)) ∧
    ((((V.nl (I.hi (List.getD l (Int.toNat i) default))) = true → (List.map strP (V.pre (I.hi (List.getD l (Int.toNat i) default)))) = [])) ∧ (((V.nl (I.hi (List.getD l (Int.toNat i) default))) = false → (V.k (I.hi (List.getD l (Int.toNat i) default))) = 1))) ∧
    ((List.isEmpty (List.map strP (V.pre (I.hi (List.getD l (Int.toNat i) default))))) = true →
     ((g + (4 : Nat) + (4 : Nat)) = g + (4 : Nat) + (4 : Nat)) ∧
     ((g + (4 : Nat) + (4 : Nat)) = g + (4 : Nat) + (4 : Nat)) ∧
     ((g + (4 : Nat) + (6 : Nat) + (9 : Nat) + (9 : Nat) + (2 : Nat)) = g + (4 : Nat) + (6 : Nat) + (9 : Nat) + (9 : Nat) + (2 : Nat)) ∧
     (((11 : Nat) = 11) ∧ ((1 : Nat) ≤ (1 : Nat))) ∧
     (((0 : Nat) = 0) ∧ (true = true)) ∧
     (∀ (j' : Nat → AV) (jr' : Nat → Row) (g' : Nat), LoopAt E1 Tryz.f11 r 0 (law08_twin_S1 l k nl full (IntKind.wrap IntKind.i64 (i + (1 : Int))) (g + (4 : Nat) + (6 : Nat) + (9 : Nat) + (9 : Nat) + (3 : Nat)) 1 [itvP (V.a (I.lo (List.getD l (Int.toNat i) default))) (V.b (I.lo (List.getD l (Int.toNat i) default))) (V.c (I.lo (List.getD l (Int.toNat i) default))) (.sl 0 true true []) (I.lopen (List.getD l (Int.toNat i) default)) (V.a (I.hi (List.getD l (Int.toNat i) default))) (V.b (I.hi (List.getD l (Int.toNat i) default))) (V.c (I.hi (List.getD l (Int.toNat i) default))) (.sl 0 true true []) (I.hopen (List.getD l (Int.toNat i) default)) (I.less (List.getD l (Int.toNat i) default))] j' jr' g'))) ∧
    ((List.isEmpty (List.map strP (V.pre (I.hi (List.getD l (Int.toNat i) default))))) = false →
     (((0 : Nat) = 0) ∧ ((fitsRow (List.length (List.map strP (V.pre (I.hi (List.getD l (Int.toNat i) default))))) (16 : Nat)) = true)) ∧
     ((g + (4 : Nat) + (4 : Nat)) = g + (4 : Nat) + (4 : Nat)) ∧
     ((g + (4 : Nat) + (4 : Nat)) = g + (4 : Nat) + (4 : Nat)) ∧
     (frzs frzDepth [.agg [.pv (.lit (.int .u32 (V.a (I.lo (List.getD l (Int.toNat i) default))))), .pv (.lit (.int .u32 (V.b (I.lo (List.getD l (Int.toNat i) default))))), .pv (.lit (.int .u32 (V.c (I.lo (List.getD l (Int.toNat i) default))))), .pv (.sl 0 true true []), bolA (I.lopen (List.getD l (Int.toNat i) default)), .pv (.lit (.int .u32 (V.a (I.hi (List.getD l (Int.toNat i) default))))), .pv (.lit (.int .u32 (V.b (I.hi (List.getD l (Int.toNat i) default))))), .pv (.lit (.int .u32 (V.c (I.hi (List.getD l (Int.toNat i) default))))), .msl 0 28 (g + (4 : Nat) + (6 : Nat) + (9 : Nat) + (4 : Nat)) 0 (List.length (List.map strP (V.pre (I.hi (List.getD l (Int.toNat i) default))))) false, bolA (I.hopen (List.getD l (Int.toNat i) default)), bolA (I.less (List.getD l (Int.toNat i) default))]] [[row0, row0, row0, row0, row0, ⟨g + (4 : Nat) + (4 : Nat), .box (.agg [.pv (.lit (.int .u32 (V.a (I.lo (List.getD l (Int.toNat i) default))))), .pv (.lit (.int .u32 (V.b (I.lo (List.getD l (Int.toNat i) default))))), .pv (.lit (.int .u32 (V.c (I.lo (List.getD l (Int.toNat i) default))))), .pv (.sl 0 true true []), bolA (I.lopen (List.getD l (Int.toNat i) default)), .pv (.lit (.int .u32 (V.a (I.hi (List.getD l (Int.toNat i) default))))), .pv (.lit (.int .u32 (V.b (I.hi (List.getD l (Int.toNat i) default))))), .pv (.lit (.int .u32 (V.c (I.hi (List.getD l (Int.toNat i) default))))), .msl 0 28 (g + (4 : Nat) + (6 : Nat) + (9 : Nat) + (4 : Nat)) 0 (List.length (List.map strP (V.pre (I.hi (List.getD l (Int.toNat i) default))))) false, bolA (I.hopen (List.getD l (Int.toNat i) default)), bolA (I.less (List.getD l (Int.toNat i) default))]) false⟩, row0, row0, row0, row0, row0, row0, row0, row0, row0, row0, row0, row0, row0, row0, jr (20 : Nat), row0, row0, row0, row0, row0, row0, row0, ⟨g + (4 : Nat) + (6 : Nat) + (9 : Nat) + (4 : Nat), .row 1 9 (List.map strP (V.pre (I.hi (List.getD l (Int.toNat i) default)))) false⟩, row0, row0, row0, row0, row0, jr (34 : Nat), row0, row0]] = some ([itvP (V.a (I.lo (List.getD l (Int.toNat i) default))) (V.b (I.lo (List.getD l (Int.toNat i) default))) (V.c (I.lo (List.getD l (Int.toNat i) default))) (.sl 0 true true []) (I.lopen (List.getD l (Int.toNat i) default)) (V.a (I.hi (List.getD l (Int.toNat i) default))) (V.b (I.hi (List.getD l (Int.toNat i) default))) (V.c (I.hi (List.getD l (Int.toNat i) default))) (.sl 1 false false (List.map strP (V.pre (I.hi (List.getD l (Int.toNat i) default))))) (I.hopen (List.getD l (Int.toNat i) default)) (I.less (List.getD l (Int.toNat i) default))], [[row0, row0, row0, row0, row0, ⟨g + (4 : Nat) + (4 : Nat), .box (.agg [.pv (.lit (.int .u32 (V.a (I.lo (List.getD l (Int.toNat i) default))))), .pv (.lit (.int .u32 (V.b (I.lo (List.getD l (Int.toNat i) default))))), .pv (.lit (.int .u32 (V.c (I.lo (List.getD l (Int.toNat i) default))))), .pv (.sl 0 true true []), bolA (I.lopen (List.getD l (Int.toNat i) default)), .pv (.lit (.int .u32 (V.a (I.hi (List.getD l (Int.toNat i) default))))), .pv (.lit (.int .u32 (V.b (I.hi (List.getD l (Int.toNat i) default))))), .pv (.lit (.int .u32 (V.c (I.hi (List.getD l (Int.toNat i) default))))), .msl 0 28 (g + (4 : Nat) + (6 : Nat) + (9 : Nat) + (4 : Nat)) 0 (List.length (List.map strP (V.pre (I.hi (List.getD l (Int.toNat i) default))))) false, bolA (I.hopen (List.getD l (Int.toNat i) default)), bolA (I.less (List.getD l (Int.toNat i) default))]) false⟩, row0, row0, row0, row0, row0, row0, row0, row0, row0, row0, row0, row0, row0, row0, jr (20 : Nat), row0, row0, row0, row0, row0, row0, row0, ⟨g + (4 : Nat) + (6 : Nat) + (9 : Nat) + (4 : Nat), .row 1 9 (List.map strP (V.pre (I.hi (List.getD l (Int.toNat i) default)))) true⟩, row0, row0, row0, row0, row0, jr (34 : Nat), row0, row0]])) ∧
     ((g + (4 : Nat) + (6 : Nat) + (9 : Nat) + (9 : Nat) + (2 : Nat)) = g + (4 : Nat) + (6 : Nat) + (9 : Nat) + (9 : Nat) + (2 : Nat)) ∧
     (((11 : Nat) = 11) ∧ ((1 : Nat) ≤ (1 : Nat))) ∧
     (((0 : Nat) = 0) ∧ (true = true)) ∧
     (∀ (j' : Nat → AV) (jr' : Nat → Row) (g' : Nat), LoopAt E1 Tryz.f11 r 0 (law08_twin_S1 l k nl full (IntKind.wrap IntKind.i64 (i + (1 : Int))) (g + (4 : Nat) + (6 : Nat) + (9 : Nat) + (9 : Nat) + (3 : Nat)) 1 [itvP (V.a (I.lo (List.getD l (Int.toNat i) default))) (V.b (I.lo (List.getD l (Int.toNat i) default))) (V.c (I.lo (List.getD l (Int.toNat i) default))) (.sl 0 true true []) (I.lopen (List.getD l (Int.toNat i) default)) (V.a (I.hi (List.getD l (Int.toNat i) default))) (V.b (I.hi (List.getD l (Int.toNat i) default))) (V.c (I.hi (List.getD l (Int.toNat i) default))) (.sl 1 false false (List.map strP (V.pre (I.hi (List.getD l (Int.toNat i) default))))) (I.hopen (List.getD l (Int.toNat i) default)) (I.less (List.getD l (Int.toNat i) default))] j' jr' g')))) ∧
   ((List.isEmpty (List.map strP (V.pre (I.lo (List.getD l (Int.toNat i) default))))) = false →
    (((0 : Nat) = 0) ∧ ((fitsRow (List.length (List.map strP (V.pre (I.lo (List.getD l (Int.toNat i) default))))) (16 : Nat)) = true)) ∧
    ((g + (4 : Nat) + (4 : Nat)) = g + (4 : Nat) + (4 : Nat)) ∧
    ((g + (4 : Nat) + (4 : Nat)) = g + (4 : Nat) + (4 : Nat)) ∧
    ((((V.nl (I.hi (List.getD l (Int.toNat i) default))) = true → (List.map strP (V.pre (I.hi (List.getD l (Int.toNat i) default)))) = [])) ∧ (((V.nl (I.hi (List.getD l (Int.toNat i) default))) = false → (V.k (I.hi (List.getD l (Int.toNat i) default))) = 1))) ∧
    ((List.isEmpty (List.map strP (V.pre (I.hi (List.getD l (Int.toNat i) default))))) = true →
     ((g + (4 : Nat) + (4 : Nat)) = g + (4 : Nat) + (4 : Nat)) ∧
     ((g + (4 : Nat) + (4 : Nat)) = g + (4 : Nat) + (4 : Nat)) ∧
     (frzs frzDepth [.agg [.pv (.lit (.int .u32 (V.a (I.lo (List.getD l (Int.toNat i) default))))), .pv (.lit (.int .u32 (V.b (I.lo (List.getD l (Int.toNat i) default))))), .pv (.lit (.int .u32 (V.c (I.lo (List.getD l (Int.toNat i) default))))), .msl 0 20 (g + (4 : Nat) + (6 : Nat) + (4 : Nat)) 0 (List.length (List.map strP (V.pre (I.lo (List.getD l (Int.toNat i) default))))) false, bolA (I.lopen (List.getD l (Int.toNat i) default)), .pv (.lit (.int .u32 (V.a (I.hi (List.getD l (Int.toNat i) default))))), .pv (.lit (.int .u32 (V.b (I.hi (List.getD l (Int.toNat i) default))))), .pv (.lit (.int .u32 (V.c (I.hi (List.getD l (Int.toNat i) default))))), .pv (.sl 0 true true []), bolA (I.hopen (List.getD l (Int.toNat i) default)), bolA (I.less (List.getD l (Int.toNat i) default))]] [[row0, row0, row0, row0, row0, ⟨g + (4 : Nat) + (4 : Nat), .box (.agg [.pv (.lit (.int .u32 (V.a (I.lo (List.getD l (Int.toNat i) default))))), .pv (.lit (.int .u32 (V.b (I.lo (List.getD l (Int.toNat i) default))))), .pv (.lit (.int .u32 (V.c (I.lo (List.getD l (Int.toNat i) default))))), .msl 0 20 (g + (4 : Nat) + (6 : Nat) + (4 : Nat)) 0 (List.length (List.map strP (V.pre (I.lo (List.getD l (Int.toNat i) default))))) false, bolA (I.lopen (List.getD l (Int.toNat i) default)), .pv (.lit (.int .u32 (V.a (I.hi (List.getD l (Int.toNat i) default))))), .pv (.lit (.int .u32 (V.b (I.hi (List.getD l (Int.toNat i) default))))), .pv (.lit (.int .u32 (V.c (I.hi (List.getD l (Int.toNat i) default))))), .pv (.sl 0 true true []), bolA (I.hopen (List.getD l (Int.toNat i) default)), bolA (I.less (List.getD l (Int.toNat i) default))]) false⟩, row0, row0, row0, row0, row0, row0, row0, row0, row0, row0, row0, row0, row0, row0, ⟨g + (4 : Nat) + (6 : Nat) + (4 : Nat), .row 1 9 (List.map strP (V.pre (I.lo (List.getD l (Int.toNat i) default)))) false⟩, row0, row0, row0, row0, row0, row0, row0, jr (28 : Nat), row0, row0, row0, row0, row0, jr (34 : Nat), row0, row0]] = some ([itvP (V.a (I.lo (List.getD l (Int.toNat i) default))) (V.b (I.lo (List.getD l (Int.toNat i) default))) (V.c (I.lo (List.getD l (Int.toNat i) default))) (.sl 1 false false (List.map strP (V.pre (I.lo (List.getD l (Int.toNat i) default))))) (I.lopen (List.getD l (Int.toNat i) default)) (V.a (I.hi (List.getD l (Int.toNat i) default))) (V.b (I.hi (List.getD l (Int.toNat i) default))) (V.c (I.hi (List.getD l (Int.toNat i) default))) (.sl 0 true true []) (I.hopen (List.getD l (Int.toNat i) default)) (I.less (List.getD l (Int.toNat i) default))], [[row0, row0, row0, row0, row0, ⟨g + (4 : Nat) + (4 : Nat), .box (.agg [.pv (.lit (.int .u32 (V.a (I.lo (List.getD l (Int.toNat i) default))))), .pv (.lit (.int .u32 (V.b (I.lo (List.getD l (Int.toNat i) default))))), .pv (.lit (.int .u32 (V.c (I.lo (List.getD l (Int.toNat i) default))))), .msl 0 20 (g + (4 : Nat) + (6 : Nat) + (4 : Nat)) 0 (List.length (List.map strP (V.pre (I.lo (List.getD l (Int.toNat i) default))))) false, bolA (I.lopen (List.getD l (Int.toNat i) default)), .pv (.lit (.int .u32 (V.a (I.hi (List.getD l (Int.toNat i) default))))), .pv (.lit (.int .u32 (V.b (I.hi (List.getD l (Int.toNat i) default))))), .pv (.lit (.int .u32 (V.c (I.hi (List.getD l (Int.toNat i) default))))), .pv (.sl 0 true true []), bolA (I.hopen (List.getD l (Int.toNat i) default)), bolA (I.less (List.getD l (Int.toNat i) default))]) false⟩, row0, row0, row0, row0, row0, row0, row0, row0, row0, row0, row0, row0, row0, row0, ⟨g + (4 : Nat) + (6 : Nat) + (4 : Nat), .row 1 9 (List.map strP (V.pre (I.lo (List.getD l (Int.toNat i) default)))) true⟩, row0, row0, row0, row0, row0, row0, row0, jr (28 : Nat), row0, row0, row0, row0, row0, jr (34 : Nat), row0, row0]])) ∧
     ((g + (4 : Nat) + (6 : Nat) + (9 : Nat) + (9 : Nat) + (2 : Nat)) = g + (4 : Nat) + (6 : Nat) + (9 : Nat) + (9 : Nat) + (2 : Nat)) ∧
     (((11 : Nat) = 11) ∧ ((1 : Nat) ≤ (1 : Nat))) ∧
     (((0 : Nat) = 0) ∧ (true = true)) ∧
     (∀ (j' : Nat → AV) (jr' : Nat → Row) (g' : Nat), LoopAt E1 Tryz.f11 r 0 (law08_twin_S1 l k nl full (IntKind.wrap IntKind.i64 (i + (1 : Int))) (g + (4 : Nat) + (6 : Nat) + (9 : Nat) + (9 : Nat) + (3 : Nat)) 1 [itvP (V.a (I.lo (List.getD l (Int.toNat i) default))) (V.b (I.lo (List.getD l (Int.toNat i) default))) (V.c (I.lo (List.getD l (Int.toNat i) default))) (.sl 1 false false (List.map strP (V.pre (I.lo (List.getD l (Int.toNat i) default))))) (I.lopen (List.getD l (Int.toNat i) default)) (V.a (I.hi (List.getD l (Int.toNat i) default))) (V.b (I.hi (List.getD l (Int.toNat i) default))) (V.c (I.hi (List.getD l (Int.toNat i) default))) (.sl 0 true true []) (I.hopen (List.getD l (Int.toNat i) default)) (I.less (List.getD l (Int.toNat i) default))] j' jr' g'))) ∧
    ((List.isEmpty (List.map strP (V.pre (I.hi (List.getD l (Int.toNat i) default))))) = false →
     (((0 : Nat) = 0) ∧ ((fitsRow (List.length (List.map strP (V.pre (I.hi (List.getD l (Int.toNat i) default))))) (16 : Nat)) = true)) ∧
     ((g + (4 : Nat) + (4 : Nat)) = g + (4 : Nat) + (4 : Nat)) ∧
     ((g + (4 : Nat) + (4 : Nat)) = g + (4 : Nat) + (4 : Nat)) ∧
     (frzs frzDepth [.agg [.pv (.lit (.int .u32 (V.a (I.lo (List.getD l (Int.toNat i) default))))), .pv (.lit (.int .u32 (V.b (I.lo (List.getD l (Int.toNat i) default))))), .pv (.lit (.int .u32 (V.c (I.lo (List.getD l (Int.toNat i) default))))), .msl 0 20 (g + (4 : Nat) + (6 : Nat) + (4 : Nat)) 0 (List.length (List.map strP (V.pre (I.lo (List.getD l (Int.toNat i) default))))) false, bolA (I.lopen (List.getD l (Int.toNat i) default)), .pv (.lit (.int .u32 (V.a (I.hi (List.getD l (Int.toNat i) default))))), .pv (.lit (.int .u32 (V.b (I.hi (List.getD l (Int.toNat i) default))))), .pv (.lit (.int .u32 (V.c (I.hi (List.getD l (Int.toNat i) default))))), .msl 0 28 (g + (4 : Nat) + (6 : Nat) + (9 : Nat) + (4 : Nat)) 0 (List.length (List.map strP (V.pre (I.hi (List.getD l (Int.toNat i) default))))) false, bolA (I.hopen (List.getD l (Int.toNat i) default)), bolA (I.less (List.getD l (Int.toNat i) default))]] [[row0, row0, row0, row0, row0, ⟨g + (4 : Nat) + (4 : Nat), .box (.agg [.pv (.lit (.int .u32 (V.a (I.lo (List.getD l (Int.toNat i) default))))), .pv (.lit (.int .u32 (V.b (I.lo (List.getD l (Int.toNat i) default))))), .pv (.lit (.int .u32 (V.c (I.lo (List.getD l (Int.toNat i) default))))), .msl 0 20 (g + (4 : Nat) + (6 : Nat) + (4 : Nat)) 0 (List.length (List.map strP (V.pre (I.lo (List.getD l (Int.toNat i) default))))) false, bolA (I.lopen (List.getD l (Int.toNat i) default)), .pv (.lit (.int .u32 (V.a (I.hi (List.getD l (Int.toNat i) default))))), .pv (.lit (.int .u32 (V.b (I.hi (List.getD l (Int.toNat i) default))))), .pv (.lit (.int .u32 (V.c (I.hi (List.getD l (Int.toNat i) default))))), .msl 0 28 (g + (4 : Nat) + (6 : Nat) + (9 : Nat) + (4 : Nat)) 0 (List.length (List.map strP (V.pre (I.hi (List.getD l (Int.toNat i) default))))) false, bolA (I.hopen (List.getD l (Int.toNat i) default)), bolA (I.less (List.getD l (Int.toNat i) default))]) false⟩, row0, row0, row0, row0, row0, row0, row0, row0, row0, row0, row0, row0, row0, row0, ⟨g + (4 : Nat) + (6 : Nat) + (4 : Nat), .row 1 9 (List.map strP (V.pre (I.lo (List.getD l (Int.toNat i) default)))) false⟩, row0, row0, row0, row0, row0, row0, row0, ⟨g + (4 : Nat) + (6 : Nat) + (9 : Nat) + (4 : Nat), .row 1 9 (List.map strP (V.pre (I.hi (List.getD l (Int.toNat i) default)))) false⟩, row0, row0, row0, row0, row0, jr (34 : Nat), row0, row0]] = some ([itvP (V.a (I.lo (List.getD l (Int.toNat i) default))) (V.b (I.lo (List.getD l (Int.toNat i) default))) (V.c (I.lo (List.getD l (Int.toNat i) default))) (.sl 1 false false (List.map strP (V.pre (I.lo (List.getD l (Int.toNat i) default))))) (I.lopen (List.getD l (Int.toNat i) default)) (V.a (I.hi (List.getD l (Int.toNat i) default))) (V.b (I.hi (List.getD l (Int.toNat i) default))) (V.c (I.hi (List.getD l (Int.toNat i) default))) (.sl 1 false false (List.map strP (V.pre (I.hi (List.getD l (Int.toNat i) default))))) (I.hopen (List.getD l (Int.toNat i) default)) (I.less (List.getD l (Int.toNat i) default))], [[row0, row0, row0, row0, row0, ⟨g + (4 : Nat) + (4 : Nat), .box (.agg [.pv (.lit (.int .u32 (V.a (I.lo (List.getD l (Int.toNat i) default))))), .pv (.lit (.int .u32 (V.b (I.lo (List.getD l (Int.toNat i) default))))), .pv (.lit (.int .u32 (V.c (I.lo (List.getD l (Int.toNat i) default))))), .msl 0 20 (g + (4 : Nat) + (6 : Nat) + (4 : Nat)) 0 (List.length (List.map strP (V.pre (I.lo (List.getD l (Int.toNat i) default))))) false, bolA (I.lopen (List.getD l (Int.toNat i) default)), .pv (.lit (.int .u32 (V.a (I.hi (List.getD l (Int.toNat i) default))))), .pv (.lit (.int .u32 (V.b (I.hi (List.getD l (Int.toNat i) default))))), .pv (.lit (.int .u32 (V.c (I.hi (List.getD l (Int.toNat i) default))))), .msl 0 28 (g + (4 : Nat) + (6 : Nat) + (9 : Nat) + (4 : Nat)) 0 (List.length (List.map strP (V.pre (I.hi (List.getD l (Int.toNat i) default))))) false, bolA (I.hopen (List.getD l (Int.toNat i) default)), bolA (I.less (List.getD l (Int.toNat i) default))]) false⟩, row0, row0, row0, row0, row0, row0, row0, row0, row0, row0, row0, row0, row0, row0, ⟨g + (4 : Nat) + (6 : Nat) + (4 : Nat), .row 1 9 (List.map strP (V.pre (I.lo (List.getD l (Int.toNat i) default)))) true⟩, row0, row0, row0, row0, row0, row0, row0, ⟨g + (4 : Nat) + (6 : Nat) + (9 : Nat) + (4 : Nat), .row 1 9 (List.map strP (V.pre (I.hi (List.getD l (Int.toNat i) default)))) true⟩, row0, row0, row0, row0, row0, jr (34 : Nat), row0, row0]])) ∧
     ((g + (4 : Nat) + (6 : Nat) + (9 : Nat) + (9 : Nat) + (2 : Nat)) = g + (4 : Nat) + (6 : Nat) + (9 : Nat) + (9 : Nat) + (2 : Nat)) ∧
     (((11 : Nat) = 11) ∧ ((1 : Nat) ≤ (1 : Nat))) ∧
     (((0 : Nat) = 0) ∧ (true = true)) ∧
     (∀ (j' : Nat → AV) (jr' : Nat → Row) (g' : Nat), LoopAt E1 Tryz.f11 r 0 (law08_twin_S1 l k nl full (IntKind.wrap IntKind.i64 (i + (1 : Int))) (g + (4 : Nat) + (6 : Nat) + (9 : Nat) + (9 : Nat) + (3 : Nat)) 1 [itvP (V.a (I.lo (List.getD l (Int.toNat i) default))) (V.b (I.lo (List.getD l (Int.toNat i) default))) (V.c (I.lo (List.getD l (Int.toNat i) default))) (.sl 1 false false (List.map strP (V.pre (I.lo (List.getD l (Int.toNat i) default))))) (I.lopen (List.getD l (Int.toNat i) default)) (V.a (I.hi (List.getD l (Int.toNat i) default))) (V.b (I.hi (List.getD l (Int.toNat i) default))) (V.c (I.hi (List.getD l (Int.toNat i) default))) (.sl 1 false false (List.map strP (V.pre (I.hi (List.getD l (Int.toNat i) default))))) (I.hopen (List.getD l (Int.toNat i) default)) (I.less (List.getD l (Int.toNat i) default))] j' jr' g'))))) ∧
  ((decide (i < (↑(List.length (List.map I.p l)) : Int))) = false →
   ((.sl 0 true true []) : PV) = r)) := by kernel_rfl
theorem law08_twin_go_S1 (l : List I) (k : Nat) (nl : Bool) (full : Bool) (i : Int) (gm : Nat) (n : Nat) (xs : List PV) (j : Nat → AV) (jr : Nat → Row) (g : Nat) (r : PV) : LoopGo E1 Tryz.f11 r 0 2000 (.fork (.val (I.p (List.getD l (Int.toNat i) default)) (.fork (.fork (.lit (.mask [1, 5, 6, 7, 8, 9, 10, 11, 12, 13, 14, 15, 16, 17, 18, 19, 20, 21, 22, 23, 24, 25, 26, 27, 28, 29, 30, 31, 32, 33, 34, 35] [5, 20, 28, 34])) (.lit (.frz [itvP (V.a (I.lo (List.getD l (Int.toNat i) default))) (V.b (I.lo (List.getD l (Int.toNat i) default))) (V.c (I.lo (List.getD l (Int.toNat i) default))) (.sl 0 true true []) (I.lopen (List.getD l (Int.toNat i) default)) (V.a (I.hi (List.getD l (Int.toNat i) default))) (V.b (I.hi (List.getD l (Int.toNat i) default))) (V.c (I.hi (List.getD l (Int.toNat i) default))) (.sl 1 false false (List.map strP (V.pre (I.hi (List.getD l (Int.toNat i) default))))) (I.hopen (List.getD l (Int.toNat i) default)) (I.less (List.getD l (Int.toNat i) default))] [[row0, row0, row0, row0, row0, ⟨g + (4 : Nat) + (4 : Nat), .box (.agg [.pv (.lit (.int .u32 (V.a (I.lo (List.getD l (Int.toNat i) default))))), .pv (.lit (.int .u32 (V.b (I.lo (List.getD l (Int.toNat i) default))))), .pv (.lit (.int .u32 (V.c (I.lo (List.getD l (Int.toNat i) default))))), .pv (.sl 0 true true []), bolA (I.lopen (List.getD l (Int.toNat i) default)), .pv (.lit (.int .u32 (V.a (I.hi (List.getD l (Int.toNat i) default))))), .pv (.lit (.int .u32 (V.b (I.hi (List.getD l (Int.toNat i) default))))), .pv (.lit (.int .u32 (V.c (I.hi (List.getD l (Int.toNat i) default))))), .msl 0 28 (g + (4 : Nat) + (6 : Nat) + (9 : Nat) + (4 : Nat)) 0 (List.length (List.map strP (V.pre (I.hi (List.getD l (Int.toNat i) default))))) false, bolA (I.hopen (List.getD l (Int.toNat i) default)), bolA (I.less (List.getD l (Int.toNat i) default))]) false⟩, row0, row0, row0, row0, row0, row0, row0, row0, row0, row0, row0, row0, row0, row0, jr (20 : Nat), row0, row0, row0, row0, row0, row0, row0, ⟨g + (4 : Nat) + (6 : Nat) + (9 : Nat) + (4 : Nat), .row 1 9 (List.map strP (V.pre (I.hi (List.getD l (Int.toNat i) default)))) true⟩, row0, row0, row0, row0, row0, jr (34 : Nat), ⟨gm, .row 11 63 xs false⟩, row0]] (.lit (.mask [1, 5, 6, 7, 8, 9, 10, 11, 12, 13, 14, 15, 16, 17, 18, 19, 20, 21, 22, 23, 24, 25, 26, 27, 28, 29, 30, 31, 32, 33, 34, 35] [5, 20, 28, 34]))))) (.lit (.fork (.frz [itvP (V.a (I.lo (List.getD l (Int.toNat i) default))) (V.b (I.lo (List.getD l (Int.toNat i) default))) (V.c (I.lo (List.getD l (Int.toNat i) default))) (.sl 1 false false (List.map strP (V.pre (I.lo (List.getD l (Int.toNat i) default))))) (I.lopen (List.getD l (Int.toNat i) default)) (V.a (I.hi (List.getD l (Int.toNat i) default))) (V.b (I.hi (List.getD l (Int.toNat i) default))) (V.c (I.hi (List.getD l (Int.toNat i) default))) (.sl 0 true true []) (I.hopen (List.getD l (Int.toNat i) default)) (I.less (List.getD l (Int.toNat i) default))] [[row0, row0, row0, row0, row0, ⟨g + (4 : Nat) + (4 : Nat), .box (.agg [.pv (.lit (.int .u32 (V.a (I.lo (List.getD l (Int.toNat i) default))))), .pv (.lit (.int .u32 (V.b (I.lo (List.getD l (Int.toNat i) default))))), .pv (.lit (.int .u32 (V.c (I.lo (List.getD l (Int.toNat i) default))))), .msl 0 20 (g + (4 : Nat) + (6 : Nat) + (4 : Nat)) 0 (List.length (List.map strP (V.pre (I.lo (List.getD l (Int.toNat i) default))))) false, bolA (I.lopen (List.getD l (Int.toNat i) default)), .pv (.lit (.int .u32 (V.a (I.hi (List.getD l (Int.toNat i) default))))), .pv (.lit (.int .u32 (V.b (I.hi (List.getD l (Int.toNat i) default))))), .pv (.lit (.int .u32 (V.c (I.hi (List.getD l (Int.toNat i) default))))), .pv (.sl 0 true true []), bolA (I.hopen (List.getD l (Int.toNat i) default)), bolA (I.less (List.getD l (Int.toNat i) default))]) false⟩, row0, row0, row0, row0, row0, row0, row0, row0, row0, row0, row0, row0, row0, row0, ⟨g + (4 : Nat) + (6 : Nat) + (4 : Nat), .row 1 9 (List.map strP (V.pre (I.lo (List.getD l (Int.toNat i) default)))) true⟩, row0, row0, row0, row0, row0, row0, row0, jr (28 : Nat), row0, row0, row0, row0, row0, jr (34 : Nat), ⟨gm, .row 11 63 xs false⟩, row0]] (.lit (.mask [1, 5, 6, 7, 8, 9, 10, 11, 12, 13, 14, 15, 16, 17, 18, 19, 20, 21, 22, 23, 24, 25, 26, 27, 28, 29, 30, 31, 32, 33, 34, 35] [5, 20, 28, 34]))) (.lit (.frz [itvP (V.a (I.lo (List.getD l (Int.toNat i) default))) (V.b (I.lo (List.getD l (Int.toNat i) default))) (V.c (I.lo (List.getD l (Int.toNat i) default))) (.sl 1 false false (List.map strP (V.pre (I.lo (List.getD l (Int.toNat i) default))))) (I.lopen (List.getD l (Int.toNat i) default)) (V.a (I.hi (List.getD l (Int.toNat i) default))) (V.b (I.hi (List.getD l (Int.toNat i) default))) (V.c (I.hi (List.getD l (Int.toNat i) default))) (.sl 1 false false (List.map strP (V.pre (I.hi (List.getD l (Int.toNat i) default))))) (I.hopen (List.getD l (Int.toNat i) default)) (I.less (List.getD l (Int.toNat i) default))] [[row0, row0, row0, row0, row0, ⟨g + (4 : Nat) + (4 : Nat), .box (.agg [.pv (.lit (.int .u32 (V.a (I.lo (List.getD l (Int.toNat i) default))))), .pv (.lit (.int .u32 (V.b (I.lo (List.getD l (Int.toNat i) default))))), .pv (.lit (.int .u32 (V.c (I.lo (List.getD l (Int.toNat i) default))))), .msl 0 20 (g + (4 : Nat) + (6 : Nat) + (4 : Nat)) 0 (List.length (List.map strP (V.pre (I.lo (List.getD l (Int.toNat i) default))))) false, bolA (I.lopen (List.getD l (Int.toNat i) default)), .pv (.lit (.int .u32 (V.a (I.hi (List.getD l (Int.toNat i) default))))), .pv (.lit (.int .u32 (V.b (I.hi (List.getD l (Int.toNat i) default))))), .pv (.lit (.int .u32 (V.c (I.hi (List.getD l (Int.toNat i) default))))), .msl 0 28 (g + (4 : Nat) + (6 : Nat) + (9 : Nat) + (4 : Nat)) 0 (List.length (List.map strP (V.pre (I.hi (List.getD l (Int.toNat i) default))))) false, bolA (I.hopen (List.getD l (Int.toNat i) default)), bolA (I.less (List.getD l (Int.toNat i) default))]) false⟩, row0, row0, row0, row0, row0, row0, row0, row0, row0, row0, row0, row0, row0, row0, ⟨g + (4 : Nat) + (6 : Nat) + (4 : Nat), .row 1 9 (List.map strP (V.pre (I.lo (List.getD l (Int.toNat i) default)))) true⟩, row0, row0, row0, row0, row0, row0, row0, ⟨g + (4 : Nat) + (6 : Nat) + (9 : Nat) + (4 : Nat), .row 1 9 (List.map strP (V.pre (I.hi (List.getD l (Int.toNat i) default)))) true⟩, row0, row0, row0, row0, row0, jr (34 : Nat), ⟨gm, .row 11 63 xs false⟩, row0]] (.lit (.mask [1, 5, 6, 7, 8, 9, 10, 11, 12, 13, 14, 15, 16, 17, 18, 19, 20, 21, 22, 23, 24, 25, 26, 27, 28, 29, 30, 31, 32, 33, 34, 35] [5, 20, 28, 34])))))))) (.hole 0)) (law08_twin_S1 l k nl full i gm n xs j jr g) =
  (((decide (i < (↑(List.length (List.map I.p l)) : Int))) = true →
   (((0 : Int) ≤ i) ∧ ((nl = false) ∧ (k = 11))) ∧
   (((List.map I.p l)[Int.toNat i]?) = some (I.p (List.getD l (Int.toNat i) default))) ∧
   ((g + (4 : Nat) + (4 : Nat)) = g + (4 : Nat) + (4 : Nat)) ∧
   ((g + (4 : Nat) + (4 : Nat)) = g + (4 : Nat) + (4 : Nat)) ∧
   ((((V.nl (I.lo (List.getD l (Int.toNat i) default))) = true → (List.map strP (V.pre (I.lo (List.getD l (Int.toNat i) default)))) = [])) ∧ (((V.nl (I.lo (List.getD l (Int.toNat i) default))) = false → (V.k (I.lo (List.getD l (Int.toNat i) default))) = 1))) ∧
   ((List.isEmpty (List.map strP (V.pre (I.lo (List.getD l (Int.toNat i) default))))) = true →
    ((g + (4 : Nat) + (4 : Nat)) = g + (4 : Nat) + (4 : Nat)) ∧
    ((g + (4 : Nat) + (4 : Nat)) = g + (4 : Nat) + (4 : Nat)) ∧
    ((((V.nl (I.hi (List.getD l (Int.toNat i) default))) = true → (List.map strP (V.pre (I.hi (List.getD l (Int.toNat i) default)))) = [])) ∧ (((V.nl (I.hi (List.getD l (Int.toNat i) default))) = false → (V.k (I.hi (List.getD l (Int.toNat i) default))) = 1))) ∧
    ((List.isEmpty (List.map strP (V.pre (I.hi (List.getD l (Int.toNat i) default))))) = true →
     ((g + (4 : Nat) + (4 : Nat)) = g + (4 : Nat) + (4 : Nat)) ∧
     ((g + (4 : Nat) + (4 : Nat)) = g + (4 : Nat) + (4 : Nat)) ∧
     ((g + (4 : Nat) + (6 : Nat) + (9 : Nat) + (9 : Nat) + (2 : Nat)) = g + (4 : Nat) + (6 : Nat) + (9 : Nat) + (9 : Nat) + (2 : Nat)) ∧
     (((11 : Nat) = 11) ∧ ((1 : Nat) ≤ (1 : Nat))) ∧
     (gm = gm) ∧
     ((false = false) ∧ (((11 : Nat) = 11) ∧ (((63 : Nat) = 63) ∧ ((((0 : Nat) + n) = List.length xs) ∧ ((fitsRow (n + (1 : Nat)) (104 : Nat)) = true))))) ∧
     (∀ (j' : Nat → AV) (jr' : Nat → Row) (g' : Nat), LoopAt E1 Tryz.f11 r 0 (law08_twin_S1 l k nl full (IntKind.wrap IntKind.i64 (i + (1 : Int))) (g + (4 : Nat) + (6 : Nat) + (9 : Nat) + (9 : Nat) + (3 : Nat)) (n + (1 : Nat)) (List.drop (0 : Nat) xs ++ List.take (1 : Nat) (List.drop (0 : Nat) [PV.agg [PV.lit (Value.int IntKind.u32 (V.a (I.lo (List.getD l (Int.toNat i) default)))), PV.lit (Value.int IntKind.u32 (V.b (I.lo (List.getD l (Int.toNat i) default)))), PV.lit (Value.int IntKind.u32 (V.c (I.lo (List.getD l (Int.toNat i) default)))), PV.sl (0 : Nat) true true [], PV.lit (Value.bool (I.lopen (List.getD l (Int.toNat i) default))), PV.lit (Value.int IntKind.u32 (V.a (I.hi (List.getD l (Int.toNat i) default)))), PV.lit (Value.int IntKind.u32 (V.b (I.hi (List.getD l (Int.toNat i) default)))), PV.lit (Value.int IntKind.u32 (V.c (I.hi (List.getD l (Int.toNat i) default)))), PV.sl (0 : Nat) true true [], PV.lit (Value.bool (I.hopen (List.getD l (Int.toNat i) default))), PV.lit (Value.bool (I.less (List.getD l (Int.toNat i) default)))]])) j' jr' g'))) ∧
    ((List.isEmpty (List.map strP (V.pre (I.hi (List.getD l (Int.toNat i) default))))) = false →
     (((0 : Nat) = 0) ∧ ((fitsRow (List.length (List.map strP (V.pre (I.hi (List.getD l (Int.toNat i) default))))) (16 : Nat)) = true)) ∧
     ((g + (4 : Nat) + (4 : Nat)) = g + (4 : Nat) + (4 : Nat)) ∧
     ((g + (4 : Nat) + (4 : Nat)) = g + (4 : Nat) + (4 : Nat)) ∧
     (frzs frzDepth [.agg [.pv (.lit (.int .u32 (V.a (I.lo (List.getD l (Int.toNat i) default))))), .pv (.lit (.int .u32 (V.b (I.lo (List.getD l (Int.toNat i) default))))), .pv (.lit (.int .u32 (V.c (I.lo (List.getD l (Int.toNat i) default))))), .pv (.sl 0 true true []), bolA (I.lopen (List.getD l (Int.toNat i) default)), .pv (.lit (.int .u32 (V.a (I.hi (List.getD l (Int.toNat i) default))))), .pv (.lit (.int .u32 (V.b (I.hi (List.getD l (Int.toNat i) default))))), .pv (.lit (.int .u32 (V.c (I.hi (List.getD l (Int.toNat i) default))))), .msl 0 28 (g + (4 : Nat) + (6 : Nat) + (9 : Nat) + (4 : Nat)) 0 (List.length (List.map strP (V.pre (I.hi (List.getD l (Int.toNat i) default))))) false, bolA (I.hopen (List.getD l (Int.toNat i) default)), bolA (I.less (List.getD l (Int.toNat i) default))]] [[row0, row0, row0, row0, row0, ⟨g + (4 : Nat) + (4 : Nat), .box (.agg [.pv (.lit (.int .u32 (V.a (I.lo (List.getD l (Int.toNat i) default))))), .pv (.lit (.int .u32 (V.b (I.lo (List.getD l (Int.toNat i) default))))), .pv (.lit (.int .u32 (V.c (I.lo (List.getD l (Int.toNat i) default))))), .pv (.sl 0 true true []), bolA (I.lopen (List.getD l (Int.toNat i) default)), .pv (.lit (.int .u32 (V.a (I.hi (List.getD l (Int.toNat i) default))))), .pv (.lit (.int .u32 (V.b (I.hi (List.getD l (Int.toNat i) default))))), .pv (.lit (.int .u32 (V.c (I.hi (List.getD l (Int.toNat i) default))))), .msl 0 28 (g + (4 : Nat) + (6 : Nat) + (9 : Nat) + (4 : Nat)) 0 (List.length (List.map strP (V.pre (I.hi (List.getD l (Int.toNat i) default))))) false, bolA (I.hopen (List.getD l (Int.toNat i) default)), bolA (I.less (List.getD l (Int.toNat i) default))]) false⟩, row0, row0, row0, row0, row0, row0, row0, row0, row0, row0, row0, row0, row0, row0, jr (20 : Nat), row0, row0, row0, row0, row0, row0, row0, ⟨g + (4 : Nat) + (6 : Nat) + (9 : Nat) + (4 : Nat), .row 1 9 (List.map strP (V.pre (I.hi (List.getD l (Int.toNat i) default)))) false⟩, row0, row0, row0, row0, row0, jr (34 : Nat), ⟨gm, .row 11 63 xs false⟩, row0]] = some ([itvP (V.a (I.lo (List.getD l (Int.toNat i) default))) (V.b (I.lo (List.getD l (Int.toNat i) default))) (V.c (I.lo (List.getD l (Int.toNat i) default))) (.sl 0 true true []) (I.lopen (List.getD l (Int.toNat i) default)) (V.a (I.hi (List.getD l (Int.toNat i) default))) (V.b (I.hi (List.getD l (Int.toNat i) default))) (V.c (I.hi (List.getD l (Int.toNat i) default))) (.sl 1 false false (List.map strP (V.pre (I.hi (List.getD l (Int.toNat i) default))))) (I.hopen (List.getD l (Int.toNat i) default)) (I.less (List.getD l (Int.toNat i) default))], [[row0, row0, row0, row0, row0, ⟨g + (4 : Nat) + (4 : Nat), .box (.agg [.pv (.lit (.int .u32 (V.a (I.lo (List.getD l (Int.toNat i) default))))), .pv (.lit (.int .u32 (V.b (I.lo (List.getD l (Int.toNat i) default))))), .pv (.lit (.int .u32 (V.c (I.lo (List.getD l (Int.toNat i) default))))), .pv (.sl 0 true true []), bolA (I.lopen (List.getD l (Int.toNat i) default)), .pv (.lit (.int .u32 (V.a (I.hi (List.getD l (Int.toNat i) default))))), .pv (.lit (.int .u32 (V.b (I.hi (List.getD l (Int.toNat i) default))))), .pv (.lit (.int .u32 (V.c (I.hi (List.getD l (Int.toNat i) default))))), .msl 0 28 (g + (4 : Nat) + (6 : Nat) + (9 : Nat) + (4 : Nat)) 0 (List.length (List.map strP (V.pre (I.hi (List.getD l (Int.toNat i) default))))) false, bolA (I.hopen (List.getD l (Int.toNat i) default)), bolA (I.less (List.getD l (Int.toNat i) default))]) false⟩, row0, row0, row0, row0, row0, row0, row0, row0, row0, row0, row0, row0, row0, row0, jr (20 : Nat), row0, row0, row0, row0, row0, row0, row0, ⟨g + (4 : Nat) + (6 : Nat) + (9 : Nat) + (4 : Nat), .row 1 9 (List.map strP (V.pre (I.hi (List.getD l (Int.toNat i) default)))) true⟩, row0, row0, row0, row0, row0, jr (34 : Nat), ⟨gm, .row 11 63 xs false⟩, row0]])) ∧
     ((g + (4 : Nat) + (6 : Nat) + (9 : Nat) + (9 : Nat) + (2 : Nat)) = g + (4 : Nat) + (6 : Nat) + (9 : Nat) + (9 : Nat) + (2 : Nat)) ∧
     (((11 : Nat) = 11) ∧ ((1 : Nat) ≤ (1 : Nat))) ∧
     (gm = gm) ∧
     ((false = false) ∧ (((11 : Nat) = 11) ∧ (((63 : Nat) = 63) ∧ ((((0 : Nat) + n) = List.length xs) ∧ ((fitsRow (n + (1 : Nat)) (104 : Nat)) = true))))) ∧
     (∀ (j' : Nat → AV) (jr' : Nat → Row) (g' : Nat), LoopAt E1 Tryz.f11 r 0 (law08_twin_S1 l k nl full (IntKind.wrap IntKind.i64 (i + (1 : Int))) (g + (4 : Nat) + (6 : Nat) + (9 : Nat) + (9 : Nat) + (3 : Nat)) (n + (1 : Nat)) (List.drop (0 : Nat) xs ++ List.take (1 : Nat) (List.drop (0 : Nat) [PV.agg [PV.lit (Value.int IntKind.u32 (V.a (I.lo (List.getD l (Int.toNat i) default)))), PV.lit (Value.int IntKind.u32 (V.b (I.lo (List.getD l (Int.toNat i) default)))), PV.lit (Value.int IntKind.u32 (V.c (I.lo (List.getD l (Int.toNat i) default)))), PV.sl (0 : Nat) true true [], PV.lit (Value.bool (I.lopen (List.getD l (Int.toNat i) default))), PV.lit (Value.int IntKind.u32 (V.a (I.hi (List.getD l (Int.toNat i) default)))), PV.lit (Value.int IntKind.u32 (V.b (I.hi (List.getD l (Int.toNat i) default)))), PV.lit (Value.int IntKind.u32 (V.c (I.hi (List.getD l (Int.toNat i) default)))), PV.sl (1 : Nat) false false (List.map strP (V.pre (I.hi (List.getD l (Int.toNat i) default)))), PV.lit (Value.bool (I.hopen (List.getD l (Int.toNat i) default))), PV.lit (Value.bool (I.less (List.getD l (Int.toNat i) default)))]])) j' jr' g')))) ∧
   ((List.isEmpty (List.map strP (V.pre (I.lo (List.getD l (Int.toNat i) default))))) = false →
    (((0 : Nat) = 0) ∧ ((fitsRow (List.length (List.map strP (V.pre (I.lo (List.getD l (Int.toNat i) default))))) (16 : Nat)) = true)) ∧
    ((g + (4 : Nat) + (4 : Nat)) = g + (4 : Nat) + (4 : Nat)) ∧
    ((g + (4 : Nat) + (4 : Nat)) = g + (4 : Nat) + (4 : Nat)) ∧
    ((((V.nl (I.hi (List.getD l (Int.toNat i) default))) = true → (List.map strP (V.pre (I.hi (List.getD l (Int.toNat i) default)))) = [])) ∧ (((V.nl (I.hi (List.getD l (Int.toNat i) default))) = false → (V.k (I.hi (List.getD l (Int.toNat i) default))) = 1))) ∧
    ((List.isEmpty (List.map strP (V.pre (I.hi (List.getD l (Int.toNat i) default))))) = true →
     ((g + (4 : Nat) + (4 : Nat)) = g + (4 : Nat) + (4 : Nat)) ∧
     ((g + (4 : Nat) + (4 : Nat)) = g + (4 : Nat) + (4 : Nat)) ∧
     (frzs frzDepth [.agg [.pv (.lit (.int .u32 (V.a (I.lo (List.getD l (Int.toNat i) default))))), .pv (.lit (.int .u32 (V.b (I.lo (List.getD l (Int.toNat i) default))))), .pv (.lit (.int .u32 (V.c (I.lo (List.getD l (Int.toNat i) default))))), .msl 0 20 (g + (4 : Nat) + (6 : Nat) + (4 : Nat)) 0 (List.length (List.map strP (V.pre (I.lo (List.getD l (Int.toNat i) default))))) false, bolA (I.lopen (List.getD l (Int.toNat i) default)), .pv (.lit (.int .u32 (V.a (I.hi (List.getD l (Int.toNat i) default))))), .pv (.lit (.int .u32 (V.b (I.hi (List.getD l (Int.toNat i) default))))), .pv (.lit (.int .u32 (V.c (I.hi (List.getD l (Int.toNat i) default))))), .pv (.sl 0 true true []), bolA (I.hopen (List.getD l (Int.toNat i) default)), bolA (I.less (List.getD l (Int.toNat i) default))]] [[row0, row0, row0, row0, row0, ⟨g + (4 : Nat) + (4 : Nat), .box (.agg [.pv (.lit (.int .u32 (V.a (I.lo (List.getD l (Int.toNat i) default))))), .pv (.lit (.int .u32 (V.b (I.lo (List.getD l (Int.toNat i) default))))), .pv (.lit (.int .u32 (V.c (I.lo (List.getD l (Int.toNat i) default))))), .msl 0 20 (g + (4 : Nat) + (6 : Nat) + (4 : Nat)) 0 (List.length (List.map strP (V.pre (I.lo (List.getD l (Int.toNat i) default))))) false, bolA (I.lopen (List.getD l (Int.toNat i) default)), .pv (.lit (.int .u32 (V.a (I.hi (List.getD l (Int.toNat i) default))))), .pv (.lit (.int .u32 (V.b (I.hi (List.getD l (Int.toNat i) default))))), .pv (.lit (.int .u32 (V.c (I.hi (List.getD l (Int.toNat i) default))))), .pv (.sl 0 true true []), bolA (I.hopen (List.getD l (Int.toNat i) default)), bolA (I.less (List.getD l (Int.toNat i) default))]) false⟩, row0, row0, row0, row0, row0, row0, row0, row0, row0, row0, row0, row0, row0, row0, ⟨g + (4 : Nat) + (6 : Nat) + (4 : Nat), .row 1 9 (List.map strP (V.pre (I.lo (List.getD l (Int.toNat i) default)))) false⟩, row0, row0, row0, row0, row0, row0, row0, jr (28 : Nat), row0, row0, row0, row0, row0, jr (34 : Nat), ⟨gm, .row 11 63 xs false⟩, row0]] = some ([itvP (V.a (I.lo (List.getD l (Int.toNat i) default))) (V.b (I.lo (List.getD l (Int.toNat i) default))) (V.c (I.lo (List.getD l (Int.toNat i) default))) (.sl 1 false false (List.map strP (V.pre (I.lo (List.getD l (Int.toNat i) default))))) (I.lopen (List.getD l (Int.toNat i) default)) (V.a (I.hi (List.getD l (Int.toNat i) default))) (V.b (I.hi (List.getD l (Int.toNat i) default))) (V.c (I.hi (List.getD l (Int.toNat i) default))) (.sl 0 true true []) (I.hopen (List.getD l (Int.toNat i) default)) (I.less (List.getD l (Int.toNat i) default))], [[row0, row0, row0, row0, row0, ⟨g + (4 : Nat) + (4 : Nat), .box (.agg [.pv (.lit (.int .u32 (V.a (I.lo (List.getD l (Int.toNat i) default))))), .pv (.lit (.int .u32 (V.b (I.lo (List.getD l (Int.toNat i) default))))), .pv (.lit (.int .u32 (V.c (I.lo (List.getD l (Int.toNat i) default))))), .msl 0 20 (g + (4 : Nat) + (6 : Nat) + (4 : Nat)) 0 (List.length (List.map strP (V.pre (I.lo (List.getD l (Int.toNat i) default))))) false, bolA (I.lopen (List.getD l (Int.toNat i) default)), .pv (.lit (.int .u32 (V.a (I.hi (List.getD l (Int.toNat i) default))))), .pv (.lit (.int .u32 (V.b (I.hi (List.getD l (Int.toNat i) default))))), .pv (.lit (.int .u32 (V.c (I.hi (List.getD l (Int.toNat i) default))))), .pv (.sl 0 true true []), bolA (I.hopen (List.getD l (Int.toNat i) default)), bolA (I.less (List.getD l (Int.toNat i) default))]) false⟩, row0, row0, row0, row0, row0, row0, row0, row0, row0, row0, row0, row0, row0, row0, ⟨g + (4 : Nat) + (6 : Nat) + (4 : Nat), .row 1 9 (List.map strP (V.pre (I.lo (List.getD l (Int.toNat i) default)))) true⟩, row0, row0, row0, row0, row0, row0, row0, jr (28 : Nat), row0, row0, row0, row0, row0, jr (34 : Nat), ⟨gm, .row 11 63 xs false⟩, row0]])) ∧
     ((g + (4 : Nat) + (6 : Nat) + (9 : Nat) + (9 : Nat) + (2 : Nat)) = g + (4 : Nat) + (6 : Nat) + (9 : Nat) + (9 : Nat) + (2 : Nat)) ∧
     (((11 : Nat) = 11) ∧ ((1 : Nat) ≤ (1 : Nat))) ∧
     (gm = gm) ∧
     ((false = false) ∧ (((11 : Nat) = 11) ∧ (((63 : Nat) = 63) ∧ ((((0 : Nat) + n) = List.length xs) ∧ ((fitsRow (n + (1 : Nat)) (104 : Nat)) = true))))) ∧
     (∀ (j' : Nat → AV) (jr' : Nat → Row) (g' : Nat), LoopAt E1 Tryz.f11 r 0 (law08_twin_S1 l k nl full (IntKind.wrap IntKind.i64 (i + (1 : Int))) (g + (4 : Nat) + (6 : Nat) + (9 : Nat) + (9 : Nat) + (3 : Nat)) (n + (1 : Nat)) (List.drop (0 : Nat) xs ++ List.take (1 : Nat) (List.drop (0 : Nat) [PV.agg [PV.lit (Value.int IntKind.u32 (V.a (I.lo (List.getD l (Int.toNat i) default)))), PV.lit (Value.int IntKind.u32 (V.b (I.lo (List.getD l (Int.toNat i) default)))), PV.lit (Value.int IntKind.u32 (V.c (I.lo (List.getD l (Int.toNat i) default)))), PV.sl (1 : Nat) false false (List.map strP (V.pre (I.lo (List.getD l (Int.toNat i) default)))), PV.lit (Value.bool (I.lopen (List.getD l (Int.toNat i) default))), PV.lit (Value.int IntKind.u32 (V.a (I.hi (List.getD l (Int.toNat i) default)))), PV.lit (Value.int IntKind.u32 (V.b (I.hi (List.getD l (Int.toNat i) default)))), PV.lit (Value.int IntKind.u32 (V.c (I.hi (List.getD l (Int.toNat i) default)))), PV.sl (0 : Nat) true true [], PV.lit (Value.bool (I.hopen (List.getD l (Int.toNat i) default))), PV.lit (Value.bool (I.less (List.getD l (Int.toNat i) default)))]])) j' jr' g'))) ∧
    ((List.isEmpty (List.map strP (V.pre (I.hi (List.getD l (Int.toNat i) default))))) = false →
     (((0 : Nat) = 0) ∧ ((fitsRow (List.length (List.map strP (V.pre (I.hi (List.getD l (Int.toNat i) default))))) (16 : Nat)) = true)) ∧
     ((g + (4 : Nat) + (4 : Nat)) = g + (4 : Nat) + (4 : Nat)) ∧
     ((g + (4 : Nat) + (4 : Nat)) = g + (4 : Nat) + (4 : Nat)) ∧
     (frzs frzDepth [.agg [.pv (.lit (.int .u32 (V.a (I.lo (List.getD l (Int.toNat i) default))))), .pv (.lit (.int .u32 (V.b (I.lo (List.getD l (Int.toNat i) default))))), .pv (.lit (.int .u32 (V.c (I.lo (List.getD l (Int.toNat i) default))))), .msl 0 20 (g + (4 : Nat) + (6 : Nat) + (4 : Nat)) 0 (List.length (List.map strP (V.pre (I.lo (List.getD l (Int.toNat i) default))))) false, bolA (I.lopen (List.getD l (Int.toNat i) default)), .pv (.lit (.int .u32 (V.a (I.hi (List.getD l (Int.toNat i) default))))), .pv (.lit (.int .u32 (V.b (I.hi (List.getD l (Int.toNat i) default))))), .pv (.lit (.int .u32 (V.c (I.hi (List.getD l (Int.toNat i) default))))), .msl 0 28 (g + (4 : Nat) + (6 : Nat) + (9 : Nat) + (4 : Nat)) 0 (List.length (List.map strP (V.pre (I.hi (List.getD l (Int.toNat i) default))))) false, bolA (I.hopen (List.getD l (Int.toNat i) default)), bolA (I.less (List.getD l (Int.toNat i) default))]] [[row0, row0, row0, row0, row0, ⟨g + (4 : Nat) + (4 : Nat), .box (.agg [.pv (.lit (.int .u32 (V.a (I.lo (List.getD l (Int.toNat i) default))))), .pv (.lit (.int .u32 (V.b (I.lo (List.getD l (Int.toNat i) default))))), .pv (.lit (.int .u32 (V.c (I.lo (List.getD l (Int.toNat i) default))))), .msl 0 20 (g + (4 : Nat) + (6 : Nat) + (4 : Nat)) 0 (List.length (List.map strP (V.pre (I.lo (List.getD l (Int.toNat i) default))))) false, bolA (I.lopen (List.getD l (Int.toNat i) default)), .pv (.lit (.int .u32 (V.a (I.hi (List.getD l (Int.toNat i) default))))), .pv (.lit (.int .u32 (V.b (I.hi (List.getD l (Int.toNat i) default))))), .pv (.lit (.int .u32 (V.c (I.hi (List.getD l (Int.toNat i) default))))), .msl 0 28 (g + (4 : Nat) + (6 : Nat) + (9 : Nat) + (4 : Nat)) 0 (List.length (List.map strP (V.pre (I.hi (List.getD l (Int.toNat i) default))))) false, bolA (I.hopen (List.getD l (Int.toNat i) default)), bolA (I.less (List.getD l (Int.toNat i) default))]) false⟩, row0, row0, row0, row0, row0, row0, row0, row0, row0, row0, row0, row0, row0, row0, ⟨g + (4 : Nat) + (6 : Nat) + (4 : Nat), .row 1 9 (List.map strP (V.pre (I.lo (List.getD l (Int.toNat i) default)))) false⟩, row0, row0, row0, row0, row0, row0, row0, ⟨g + (4 : Nat) + (6 : Nat) + (9 : Nat) + (4 : Nat), .row 1 9 (List.map strP (V.pre (I.hi (List.getD l (Int.toNat i) default)))) false⟩, row0, row0, row0, row0, row0, jr (34 : Nat), ⟨gm, .row 11 63 xs false⟩, row0]] = some ([itvP (V.a (I.lo (List.getD l (Int.toNat i) default))) (V.b (I.lo (List.getD l (Int.toNat i) default))) (V.c (I.lo (List.getD l (Int.toNat i) default))) (.sl 1 false false (List.map strP (V.pre (I.lo (List.getD l (Int.toNat i) default))))) (I.lopen (List.getD l (Int.toNat i) default)) (V.a (I.hi (List.getD l (Int.toNat i) default))) (V.b (I.hi (List.getD l (Int.toNat i) default))) (V.c (I.hi (List.getD l (Int.toNat i) default))) (.sl 1 false false (List.map strP (V.pre (I.hi (List.getD l (Int.toNat i) default))))) (I.hopen (List.getD l (Int.toNat i) default)) (I.less (List.getD l (Int.toNat i) default))], [[row0, row0, row0, row0, row0, ⟨g + (4 : Nat) + (4 : Nat), .box (.agg [.pv (.lit (.int .u32 (V.a (I.lo (List.getD l (Int.toNat i) default))))), .pv (.lit (.int .u32 (V.b (I.lo (List.getD l (Int.toNat i) default))))), .pv (.lit (.int .u32 (V.c (I.lo (List.getD l (Int.toNat i) default))))), .msl 0 20 (g + (4 : Nat) + (6 : Nat) + (4 : Nat)) 0 (List.length (List.map strP (V.pre (I.lo (List.getD l (Int.toNat i) default))))) false, bolA (I.lopen (List.getD l (Int.toNat i) default)), .pv (.lit (.int .u32 (V.a (I.hi (List.getD l (Int.toNat i) default))))), .pv (.lit (.int .u32 (V.b (I.hi (List.getD l (Int.toNat i) default))))), .pv (.lit (.int .u32 (V.c (I.hi (List.getD l (Int.toNat i) default))))), .msl 0 28 (g + (4 : Nat) + (6 : Nat) + (9 : Nat) + (4 : Nat)) 0 (List.length (List.map strP (V.pre (I.hi (List.getD l (Int.toNat i) default))))) false, bolA (I.hopen (List.getD l (Int.toNat i) default)), bolA (I.less (List.getD l (Int.toNat i) default))]) false⟩, row0, row0, row0, row0, row0, row0, row0, row0, row0, row0, row0, row0, row0, row0, ⟨g + (4 : Nat) + (6 : Nat) + (4 : Nat), .row 1 9 (List.map strP (V.pre (I.lo (List.getD l (Int.toNat i) default)))) true⟩, row0, row0, row0, row0, row0, row0, row0, ⟨g + (4 : Nat) + (6 : Nat) + (9 : Nat) + (4 : Nat), .row 1 9 (List.map strP (V.pre (I.hi (List.getD l (Int.toNat i) default)))) true⟩, row0, row0, row0, row0, row0, jr (34 : Nat), ⟨gm, .row 11 63 xs false⟩, row0]])) ∧
     ((g + (4 : Nat) + (6 : Nat) + (9 : Nat) + (9 : Nat) + (2 : Nat)) = g + (4 : Nat) + (6 : Nat) + (9 : Nat) + (9 : Nat) + (2 : Nat)) ∧
     (((11 : Nat) = 11) ∧ ((1 : Nat) ≤ (1 : Nat))) ∧
     (gm = gm) ∧
     ((false = false) ∧ (((11 : Nat) = 11) ∧ (((63 : Nat) = 63) ∧ ((((0 : Nat) + n) = List.length xs) ∧ ((fitsRow (n + (1 : Nat)) (104 : Nat)) = true))))) ∧
     (∀ (j' : Nat → AV) (jr' : Nat → Row) (g' : Nat), LoopAt E1 Tryz.f11 r 0 (law08_twin_S1 l k nl full (IntKind.wrap IntKind.i64 (i + (1 : Int))) (g + (4 : Nat) + (6 : Nat) + (9 : Nat) + (9 : Nat) + (3 : Nat)) (n + (1 : Nat)) (List.drop (0 : Nat) xs ++ List.take (1 : Nat) (List.drop (0 : Nat) [PV.agg [PV.lit (Value.int IntKind.u32 (V.a (I.lo (List.getD l (Int.toNat i) default)))), PV.lit (Value.int IntKind.u32 (V.b (I.lo (List.getD l (Int.toNat i) default)))), PV.lit (Value.int IntKind.u32 (V.c (I.lo (List.getD l (Int.toNat i) default)))), PV.sl (1 : Nat) false false (List.map strP (V.pre (I.lo (List.getD l (Int.toNat i) default)))), PV.lit (Value.bool (I.lopen (List.getD l (Int.toNat i) default))), PV.lit (Value.int IntKind.u32 (V.a (I.hi (List.getD l (Int.toNat i) default)))), PV.lit (Value.int IntKind.u32 (V.b (I.hi (List.getD l (Int.toNat i) default)))), PV.lit (Value.int IntKind.u32 (V.c (I.hi (List.getD l (Int.toNat i) default)))), PV.sl (1 : Nat) false false (List.map strP (V.pre (I.hi (List.getD l (Int.toNat i) default)))), PV.lit (Value.bool (I.hopen (List.getD l (Int.toNat i) default))), PV.lit (Value.bool (I.less (List.getD l (Int.toNat i) default)))]])) j' jr' g'))))) ∧
  ((decide (i < (↑(List.length (List.map I.p l)) : Int))) = false →
   ∃ hp, frz frzDepth (.msl 0 35 gm 0 n false) [[row0, row0, row0, row0, row0, jr (5 : Nat), row0, row0, row0, row0, row0, row0, row0, row0, row0, row0, row0, row0, row0, row0, jr (20 : Nat), row0, row0, row0, row0, row0, row0, row0, jr (28 : Nat), row0, row0, row0, row0, row0, jr (34 : Nat), ⟨gm, .row 11 63 xs false⟩, row0]] = some (r, hp))) := by kernel_rfl
end Go.Proofs.YtlhfgonjcpapnaaGreatDoor.Abs

/- Copies of spans, beside the spans: the functions. -/
set_option linter.unusedVariables false
set_option linter.unusedSimpArgs false
namespace Go.Proofs.YtlhfgonjcpapnaaGreatDoor.Abs
open Go Go.Proofs

theorem bnot_beq {a b : Bool} : (!a == b) = true ↔ (a == b) = false := by cases a <;> cases b <;> simp
theorem bnot_beq' {a b : Bool} : (!a == b) = false ↔ (a == b) = true := by cases a <;> cases b <;> simp
theorem den_same (l m : List I) (k k' : Nat) (nl full nl' full' : Bool) (hl : slOk 11 k nl l.length) (hm : slOk 11 k' nl' m.length) (hol : ∀ x ∈ l, x.ok) (hom : ∀ x ∈ m, x.ok) (hsm : small l.length) :
    Den E1 16 [listP k nl full l, listP k' nl' full' m] (bolP (sameLs l m)) := by
  refine den1 2000 _ rfl (by kernel_rfl) rfl rfl rfl (Eq.mpr (law08_same_go l m k k' nl full nl' full' _) ?_)
  have hne : ∀ l m : List I, l.length ≠ m.length → sameLs l m = false := by
    intro l
    induction l with
    | nil => intro m h; cases m <;> simp [sameLs] at h ⊢
    | cons x l ih => intro m h; cases m with
      | nil => simp [sameLs]
      | cons y m => simp only [sameLs, ih m (by simpa using h), Bool.and_false]
  refine ⟨fun h => ?_, fun h j jr g => ?_⟩
  · simp only [List.length_map, bne_iff_ne, ne_eq] at h
    rw [hne l m (by omega)]
  simp only [List.length_map, bne_eq_false_iff_eq] at h
  have hlen : l.length = m.length := by omega
  have H : ∀ (n i : Nat) j jr g, i + n = l.length → sameLs l m = sameLs (l.drop i) (m.drop i) → LoopAt E1 Tryz.f16 (bolP (sameLs l m)) 0 (law08_same_S0 l m k k' nl full nl' full' i j jr g) := by
    intro n
    induction n with
    | zero =>
      intro i j jr g hi hd
      refine loop_go 2000 _ (Eq.mpr (law08_same_go_S0 l m k k' nl full nl' full' i j jr g _) ⟨fun h => ?_, fun h => ?_⟩)
      · simp at h; omega
      · rw [hd, drop_nil (by omega), drop_nil (by omega)]; rfl
    | succ n ih =>
      intro i j jr g hi hd
      have h1 : i < l.length := by omega
      have h2 : i < m.length := by omega
      rw [List.drop_eq_getElem_cons h1, List.drop_eq_getElem_cons h2, sameLs] at hd
      have hw : IntKind.wrap IntKind.i64 ((i : Int) + 1) = ((i + 1 : Nat) : Int) := wrap_i64 _ (by omega) (by unfold small at hsm; omega)
      refine loop_go 2000 _ (Eq.mpr (law08_same_go_S0 l m k k' nl full nl' full' i j jr g _) ⟨fun h => ?_, fun h => ?_⟩)
      · simp only [Int.toNat_natCast, getD_lt h1, getD_lt h2, hw]
        have hm1 := mapI_get h1
        have hm2 := mapI_get h2
        have o1 := hol l[i] (by simp)
        have o2 := hom m[i] (by simp)
        generalize l[i] = x at hd hm1 o1 ⊢
        generalize m[i] = y at hd hm2 o2 ⊢
        have c1 : (0 : Int) ≤ i ∧ nl = false ∧ k = 11 := ⟨by omega, sl_at hl h1⟩
        have c2 : (0 : Int) ≤ i ∧ nl' = false ∧ k' = 11 := ⟨by omega, sl_at hm h2⟩
        refine ⟨c1, hm1, c2, hm2, fun h => ?_, fun ha => ⟨c1, hm1, c2, hm2, fun h => ?_, fun hb => ⟨c1, hm1, c2, hm2, fun h => ?_, fun hc => ⟨c1, hm1, c2, hm2, den_Same _ _ o1.lo o2.lo, fun h => ?_, fun hd2 => ⟨c1, hm1, c2, hm2, den_Same _ _ o1.hi o2.hi, fun h => ?_, fun he j jr g => ?_⟩⟩⟩⟩⟩
        · rw [hd]; rw [bnot_beq] at h; simp [sameI, h]
        · rw [hd]; rw [bnot_beq] at h; simp [sameI, h]
        · rw [hd]; rw [bnot_beq] at h; simp [sameI, h]
        · rw [hd]; simp only [Bool.not_eq_true'] at h; simp [sameI, h]
        · rw [hd]; simp only [Bool.not_eq_true'] at h; simp [sameI, h]
        · rw [bnot_beq'] at ha hb hc
          simp only [Bool.not_eq_false'] at hd2 he
          refine ih (i + 1) j jr g (by omega) ?_
          rw [hd]; simp [sameI, ha, hb, hc, hd2, he]
      · rw [decide_eq_false_iff_not, List.length_map] at h; omega
  have h0 := H l.length 0 j jr g (by omega) rfl
  rw [Int.natCast_zero] at h0
  exact h0
theorem sameV_tw (v : V) : sameV (twV v) v = true := by
  unfold twV sameV
  split
  · rename_i h
    have : v.pre = [] := List.length_eq_zero_iff.1 h
    simp [this]
  · simp
theorem same_tw : ∀ l : List I, sameLs (l.map twI) l = true
  | [] => rfl
  | x :: l => by simp [sameLs, sameI, twI, sameV_tw, same_tw l]

theorem pk_msl {h : Heap} {d s g n m k : Nat} {full fz : Bool} {e : TypeId} {xs : List PV} (hb : hget h d s = ⟨g, .row k e xs fz⟩) (hn : xs.length = n) : pk h (m + 1) (.msl d s g 0 n full) = some (.sl k false full xs, [(d, s)]) := by
  have hl : live h d s g = .row k e xs fz := by unfold live; rw [hb]; simp
  simp only [pk, hl]
  rw [if_pos (by omega), ← hn]
  simp
theorem frz_itv {h h1 : Heap} {a b c a' b' c' : Int} {o o' e : Bool} {x y : AV} {px py : PV} {kx ky : List Key} (hx : pk h 7 x = some (px, kx)) (hy : pk h 7 y = some (py, ky)) (hm : marks (kx ++ ky) h = h1) :
    frzs frzDepth [.agg [.pv (.lit (.int .u32 a)), .pv (.lit (.int .u32 b)), .pv (.lit (.int .u32 c)), x, bolA o, .pv (.lit (.int .u32 a')), .pv (.lit (.int .u32 b')), .pv (.lit (.int .u32 c')), y, bolA o', bolA e]] h =
      some ([itvP a b c px o a' b' c' py o' e], h1) := by
  have hp : ∀ (p : PV) n, pk h (n + 1) (.pv p) = some (p, []) := fun _ _ => rfl
  have ha : ∀ (l : List AV) n, pk h (n + 1) (.agg l) = (pks (pk h n) l).map fun (ps, ks) => (.agg ps, ks) := fun _ _ => rfl
  simp only [frzs, frzDepth, pks, ha, hp, hx, hy, Option.bind_some, Option.map_some, List.nil_append, List.append_nil]
  rw [hm]
def fitV (v : V) : Prop := v.pre.length * 16 ≤ 140737488355328
theorem fitV_row {v : V} (h : fitV v) : fitsRow (List.map strP v.pre).length 16 = true := by
  unfold fitV at h
  have h2 : (List.map strP v.pre).length ≤ maxInt := by rw [List.length_map]; unfold maxInt; omega
  have h1 : (List.map strP v.pre).length * 16 ≤ room47 := by rw [List.length_map]; unfold room47; omega
  simp only [fitsRow, h1, h2, decide_true, Bool.and_self]
theorem fit_104 {n : Nat} (h : n ≤ 1000) : fitsRow n 104 = true := by
  have h1 : n * 104 ≤ room47 := by unfold room47; omega
  have h2 : n ≤ maxInt := by unfold maxInt; omega
  simp [fitsRow, h1, h2]
theorem pre_nl {v : V} (hv : v.ok) : (v.nl = true → List.map strP v.pre = []) ∧ (v.nl = false → v.k = 1) :=
  ⟨fun h => by have := List.length_eq_zero_iff.1 (hv.sl.1 h); rw [this]; rfl, hv.sl.2⟩
theorem pre_emp {v : V} (h : (List.map strP v.pre).isEmpty = true) : v.pre = [] := by simpa using h
theorem pre_nemp {v : V} (h : (List.map strP v.pre).isEmpty = false) : v.pre.length ≠ 0 := by
  intro e
  have := List.length_eq_zero_iff.1 e
  rw [this] at h; simp at h
theorem tw_emp {v : V} (h : v.pre = []) : twV v = ⟨v.a, v.b, v.c, 0, true, true, []⟩ := by simp [twV, h]
theorem tw_nemp {v : V} (h : v.pre.length ≠ 0) : twV v = ⟨v.a, v.b, v.c, 1, false, false, v.pre⟩ := by simp [twV, h]
theorem frz_msl {h : Heap} {d s g n k : Nat} {full fz : Bool} {e : TypeId} {xs : List PV} {p : PV} (hb : hget h d s = ⟨g, .row k e xs fz⟩) (hn : xs.length = n) (hp : p = .sl k false full xs) : ∃ h1, frz frzDepth (.msl d s g 0 n full) h = some (p, h1) := by
  refine ⟨marks [(d, s)] h, ?_⟩
  unfold frz
  rw [frzDepth, pk_msl hb hn, hp]
  rfl
def twP (l : List I) : PV := if l.length = 0 then .sl 0 true true [] else listP 11 false false (l.map twI)
theorem den_twin (l : List I) (k : Nat) (nl full : Bool) (hsl : slOk 11 k nl l.length) (hok : ∀ x ∈ l, x.ok) (hfit : ∀ x ∈ l, fitV x.lo ∧ fitV x.hi) (hl : l.length ≤ 40) :
    Den E1 11 [listP k nl full l] (twP l) := by
  refine den1 2000 _ rfl (by kernel_rfl) rfl rfl rfl (Eq.mpr (law08_twin_go l k nl full _) fun j jr g => ?_)
  have H1 : ∀ (n i gm : Nat) (xs : List PV) j jr g, i + n = l.length → 1 ≤ i → xs = (l.take i).map (fun x => (twI x).p) → LoopAt E1 Tryz.f11 (twP l) 0 (law08_twin_S1 l k nl full i gm i xs j jr g) := by
    intro n
    induction n with
    | zero =>
      intro i gm xs j jr g hi h0 hx
      have hxl : xs.length = i := by rw [hx]; simp; omega
      refine loop_go 2000 _ (Eq.mpr (law08_twin_go_S1 l k nl full i gm i xs j jr g _) ⟨fun h => ?_, fun h2 => ?_⟩)
      · rw [decide_eq_true_eq, List.length_map] at h; omega
      · have : twP l = .sl 11 false false xs := by
          rw [twP, if_neg (by omega), hx, List.take_of_length_le (by omega)]
          simp only [listP, List.map_map]; rfl
        exact frz_msl rfl hxl this
    | succ n ih =>
      intro i gm xs j jr g hi h0 hx
      have h2 : i < l.length := by omega
      have hxl : xs.length = i := by rw [hx]; simp; omega
      have hx' : l[i].ok := hok _ (by simp)
      have hf' := hfit l[i] (by simp)
      have hw : IntKind.wrap IntKind.i64 ((i : Int) + 1) = ((i + 1 : Nat) : Int) := wrap_i64 _ (by omega) (by omega)
      refine loop_go 2000 _ (Eq.mpr (law08_twin_go_S1 l k nl full i gm i xs j jr g _) ⟨fun h => ?_, fun h => ?_⟩)
      · simp only [Int.toNat_natCast, getD_lt h2, hw]
        have hm := mapI_get h2
        have htk : l.take (i + 1) = l.take i ++ [l[i]] := List.take_succ_eq_append_getElem h2
        generalize l[i] = x at hm hx' hf' htk ⊢
        have fin : ∀ y : PV, y = (twI x).p → xs ++ [y] = (l.take (i + 1)).map (fun x => (twI x).p) := fun y hy => by rw [htk, hx, hy]; simp
        have hf104 := fit_104 (n := i + 1) (by omega)
        refine ⟨⟨by omega, sl_at hsl h2⟩, hm, trivial, trivial, pre_nl hx'.lo, fun e1 => ⟨trivial, trivial, pre_nl hx'.hi, fun e2 => ?_, fun e2 => ?_⟩, fun e1 => ⟨⟨trivial, fitV_row hf'.1⟩, trivial, trivial, pre_nl hx'.hi, fun e2 => ?_, fun e2 => ?_⟩⟩
        · refine ⟨trivial, trivial, trivial, ⟨trivial, by omega⟩, trivial, ⟨trivial, trivial, trivial, by omega, hf104⟩, fun j jr g => ?_⟩
          refine ih (i + 1) _ _ j jr g (by omega) (by omega) (fin _ ?_)
          simp only [twI, tw_emp (pre_emp e1), tw_emp (pre_emp e2)]; rfl
        · refine ⟨⟨trivial, fitV_row hf'.2⟩, trivial, trivial, frz_itv rfl (pk_msl rfl rfl) rfl, trivial, ⟨trivial, by omega⟩, trivial, ⟨trivial, trivial, trivial, by omega, hf104⟩, fun j jr g => ?_⟩
          refine ih (i + 1) _ _ j jr g (by omega) (by omega) (fin _ ?_)
          simp only [twI, tw_emp (pre_emp e1), tw_nemp (pre_nemp e2)]; rfl
        · refine ⟨trivial, trivial, frz_itv (pk_msl rfl rfl) rfl rfl, trivial, ⟨trivial, by omega⟩, trivial, ⟨trivial, trivial, trivial, by omega, hf104⟩, fun j jr g => ?_⟩
          refine ih (i + 1) _ _ j jr g (by omega) (by omega) (fin _ ?_)
          simp only [twI, tw_nemp (pre_nemp e1), tw_emp (pre_emp e2)]; rfl
        · refine ⟨⟨trivial, fitV_row hf'.2⟩, trivial, trivial, frz_itv (pk_msl rfl rfl) (pk_msl rfl rfl) rfl, trivial, ⟨trivial, by omega⟩, trivial, ⟨trivial, trivial, trivial, by omega, hf104⟩, fun j jr g => ?_⟩
          refine ih (i + 1) _ _ j jr g (by omega) (by omega) (fin _ ?_)
          simp only [twI, tw_nemp (pre_nemp e1), tw_nemp (pre_nemp e2)]
      · rw [decide_eq_false_iff_not, List.length_map] at h; omega
  have hw : IntKind.wrap IntKind.i64 ((0 : Int) + 1) = ((1 : Nat) : Int) := rfl
  refine loop_go 2000 _ (Eq.mpr (law08_twin_go_S0 l k nl full 0 j jr g _) ⟨fun h => ?_, fun h => ?_⟩)
  · have h2 : 0 < l.length := by rw [decide_eq_true_eq, List.length_map] at h; omega
    have h0 : (0 : Int).toNat = 0 := rfl
    have hx' : l[0].ok := hok _ (by simp)
    have hf' := hfit l[0] (by simp)
    simp only [h0, getD_lt h2, hw]
    have hm := mapI_get h2
    have htk : l.take 1 = [l[0]] := by cases l with
      | nil => exact absurd h2 (Nat.lt_irrefl _)
      | cons y m => rfl
    have fin : ∀ y : PV, y = (twI l[0]).p → [y] = (l.take 1).map (fun x => (twI x).p) := fun y hy => by rw [htk, hy]; rfl
    generalize l[0] = x at hm hx' hf' fin ⊢
    refine ⟨⟨by omega, sl_at hsl h2⟩, hm, trivial, trivial, pre_nl hx'.lo, fun e1 => ⟨trivial, trivial, pre_nl hx'.hi, fun e2 => ?_, fun e2 => ?_⟩, fun e1 => ⟨⟨trivial, fitV_row hf'.1⟩, trivial, trivial, pre_nl hx'.hi, fun e2 => ?_, fun e2 => ?_⟩⟩
    · refine ⟨trivial, trivial, trivial, ⟨trivial, by omega⟩, ⟨trivial, trivial⟩, fun j jr g => ?_⟩
      refine H1 (l.length - 1) 1 _ _ j jr g (by omega) (by omega) (fin _ ?_)
      simp only [twI, tw_emp (pre_emp e1), tw_emp (pre_emp e2)]; rfl
    · refine ⟨⟨trivial, fitV_row hf'.2⟩, trivial, trivial, frz_itv rfl (pk_msl rfl rfl) rfl, trivial, ⟨trivial, by omega⟩, ⟨trivial, trivial⟩, fun j jr g => ?_⟩
      refine H1 (l.length - 1) 1 _ _ j jr g (by omega) (by omega) (fin _ ?_)
      simp only [twI, tw_emp (pre_emp e1), tw_nemp (pre_nemp e2)]; rfl
    · refine ⟨trivial, trivial, frz_itv (pk_msl rfl rfl) rfl rfl, trivial, ⟨trivial, by omega⟩, ⟨trivial, trivial⟩, fun j jr g => ?_⟩
      refine H1 (l.length - 1) 1 _ _ j jr g (by omega) (by omega) (fin _ ?_)
      simp only [twI, tw_nemp (pre_nemp e1), tw_emp (pre_emp e2)]; rfl
    · refine ⟨⟨trivial, fitV_row hf'.2⟩, trivial, trivial, frz_itv (pk_msl rfl rfl) (pk_msl rfl rfl) rfl, trivial, ⟨trivial, by omega⟩, ⟨trivial, trivial⟩, fun j jr g => ?_⟩
      refine H1 (l.length - 1) 1 _ _ j jr g (by omega) (by omega) (fin _ ?_)
      simp only [twI, tw_nemp (pre_nemp e1), tw_nemp (pre_nemp e2)]
  · rw [decide_eq_false_iff_not, List.length_map] at h
    rw [twP, if_pos (by omega)]
end Go.Proofs.YtlhfgonjcpapnaaGreatDoor.Abs

/- The copies of spans read as the spans: every function of their values. -/
set_option linter.unusedVariables false
set_option linter.unusedSimpArgs false
namespace Go.Proofs.YtlhfgonjcpapnaaGreatDoor.Abs
open Go Go.Proofs

def twK (l : List I) : Nat := if l.length = 0 then 0 else 11
def twN (l : List I) : Bool := decide (l.length = 0)
def txS (l : List I) : List UInt8 × Int := textOf (mayR l) (l.map wordsR)
theorem twP_eq (l : List I) : twP l = listP (twK l) (twN l) (twN l) (l.map twI) := by
  unfold twP twK twN
  split
  · rename_i h
    have : l = [] := List.length_eq_zero_iff.1 h
    subst this; rfl
  · rename_i h
    simp [h]
theorem tw_a (v : V) : (twV v).a = v.a := by unfold twV; split <;> rfl
theorem tw_b (v : V) : (twV v).b = v.b := by unfold twV; split <;> rfl
theorem tw_c (v : V) : (twV v).c = v.c := by unfold twV; split <;> rfl
theorem tw_pre (v : V) : (twV v).pre = v.pre := by
  unfold twV; split
  · rename_i h; exact (List.length_eq_zero_iff.1 h).symm
  · rfl
theorem tw_mayV (v : V) : mayV (twV v) = mayV v := by simp only [mayV, tw_a, tw_b, tw_c, tw_pre]
theorem tw_cmpN (v w : V) : cmpN (twV v) (twV w) = cmpN v w := by simp only [cmpN, tw_a, tw_b, tw_c]
theorem tw_cmpV (v w : V) : cmpV (twV v) (twV w) = cmpV v w := by simp only [cmpV, tw_cmpN, tw_pre]
theorem tw_cmpV1 (v w : V) : cmpV (twV v) w = cmpV v w := by
  unfold cmpV cmpN
  rw [tw_a, tw_b, tw_c, tw_pre]
theorem tw_zeroB (v : V) : zeroB (twV v) = zeroB v := by simp only [zeroB, tw_a, tw_b, tw_c, tw_pre]
theorem tw_rightI (x : I) : rightI (twI x) = rightI x := by simp only [rightI, twI, tw_mayV, tw_zeroB]
theorem tw_emptyI (x : I) : emptyI (twI x) = emptyI x := by simp only [emptyI, twI, tw_cmpV]
theorem tw_touchI (x y : I) : touchI (twI x) (twI y) = touchI x y := by simp only [touchI, twI, tw_cmpV]
theorem tw_lowB (x y : I) : lowB (twI x).lb (twI y).lb = lowB x.lb y.lb := by
  unfold lowB I.lb twI
  rw [tw_cmpV]
theorem tw_verL (v : V) : verL (twV v) = verL v := by simp only [verL, tw_a, tw_b, tw_c, tw_pre]
theorem tw_zeroR (x : I) : zeroR (twI x) = zeroR x := by simp only [zeroR, twI, tw_cmpV1]
theorem tw_leastR (x : I) : leastR (twI x) = leastR x := by simp only [leastR, tw_zeroR]; rfl
theorem tw_wordsR (x : I) : wordsR (twI x) = wordsR x := by
  unfold wordsR
  rw [tw_leastR]
  simp only [twI, tw_cmpV, tw_verL]
  rfl
theorem tw_pairsS : ∀ l : List I, pairsS (l.map twI) = pairsS l
  | [] => rfl
  | [x] => rfl
  | x :: y :: l => by
    have h := tw_pairsS (y :: l)
    simp only [List.map_cons, pairsS] at h ⊢
    first
    | rw [h, tw_lowB, tw_touchI]
    | simp only [h, tw_lowB, tw_touchI]
theorem tw_mayR (l : List I) : mayR (l.map twI) = mayR l := by
  simp only [mayR, List.length_map, tw_pairsS, List.all_map]
  congr 2
  congr 1
  funext x
  simp only [Function.comp, tw_rightI, tw_emptyI]
theorem tw_txS (l : List I) : txS (l.map twI) = txS l := by
  unfold txS
  rw [tw_mayR]
  congr 1
  simp only [List.map_map]
  congr 1
  funext x
  exact tw_wordsR x
theorem tw_okV {v : V} (h : v.ok) : (twV v).ok := by
  unfold twV
  split
  · exact ⟨h.a, h.b, h.c, ⟨fun _ => rfl, fun e => Bool.noConfusion e⟩, by unfold small; simp, fun s hs => absurd hs (List.not_mem_nil)⟩
  · exact ⟨h.a, h.b, h.c, ⟨fun e => Bool.noConfusion e, fun _ => rfl⟩, h.len, h.str⟩
theorem tw_okI {x : I} (h : x.ok) : (twI x).ok := ⟨tw_okV h.lo, tw_okV h.hi⟩
theorem tw_ok {l : List I} (h : ∀ x ∈ l, x.ok) : ∀ x ∈ l.map twI, x.ok := by
  intro x hx
  obtain ⟨y, hy, rfl⟩ := List.mem_map.1 hx
  exact tw_okI (h y hy)
theorem tw_slOk (l : List I) : slOk 11 (twK l) (twN l) (l.map twI).length := by
  unfold twK twN
  refine ⟨fun h => by simpa using h, fun h => ?_⟩
  have : ¬ l.length = 0 := by simpa using h
  rw [if_neg this]
end Go.Proofs.YtlhfgonjcpapnaaGreatDoor.Abs

/- Conditions of functions and their loops, printed by a program and checked by computing. -/
set_option linter.unusedVariables false
namespace Go.Proofs.YtlhfgonjcpapnaaGreatDoor.Abs
open Go Go.Proofs

theorem law08_SpanTexts_go (l : List I) (k : Nat) (nl : Bool) (full : Bool) (r : PV) : FnGo E1 Tryz.f3 [.sl k nl full (List.map I.p l)] r 2000 (.fork (.res (bolP true) (.hole 0)) (.res (.sl (twK l) (twN l) (twN l) (List.map I.p (List.map twI l))) (.res (intP (errS (mayR (List.map twI l)))) (.res (.tup [.lit (.string (bs (Prod.fst (txS (List.map twI l))))), intP (Prod.snd (txS (List.map twI l)))]) (.res (.tup [.lit (.string (bs (Prod.fst (txS l)))), intP (Prod.snd (txS l))]) (.res (bolP (mayR l)) (.fork (.lit (.lit (.lit (.fork (.lit (.lit (.lit (.lit (.lit (.lit (.lit (.lit (.lit (.lit (.fork (.lit (.lit (.lit (.lit (.fork (.lit (.lit (.lit (.res (bolP (sameLs (List.map twI l) l)) (.lit (.fork (.lit (.res (bolP true) (.lit (.hole 0)))) (.lit (.lit (.hole 0))))))))) (.lit (.lit (.lit (.lit (.lit (.lit (.lit (.hole 0))))))))))))) (.lit (.lit (.lit (.lit (.lit (.lit (.lit (.lit (.lit (.lit (.lit (.lit (.hole 0)))))))))))))))))))))))) (.lit (.lit (.lit (.lit (.lit (.fork (.lit (.lit (.lit (.lit (.fork (.lit (.lit (.lit (.lit (.fork (.lit (.lit (.lit (.res (bolP (sameLs (List.map twI l) l)) (.lit (.fork (.lit (.res (bolP true) (.lit (.hole 0)))) (.lit (.lit (.hole 0))))))))) (.lit (.lit (.lit (.lit (.lit (.lit (.lit (.hole 0))))))))))))) (.lit (.lit (.lit (.lit (.lit (.lit (.lit (.lit (.lit (.lit (.lit (.lit (.hole 0)))))))))))))))))) (.lit (.lit (.lit (.lit (.lit (.lit (.lit (.lit (.lit (.lit (.lit (.lit (.lit (.lit (.lit (.lit (.lit (.hole 0)))))))))))))))))))))))))))) (.lit (.lit (.lit (.lit (.lit (.lit (.lit (.lit (.lit (.lit (.lit (.lit (.lit (.lit (.lit (.lit (.lit (.lit (.lit (.lit (.lit (.lit (.lit (.hole 0))))))))))))))))))))))))))))))) =
  (((decide ((↑(List.length (List.map I.p l)) : Int) > (40 : Int))) = true →
   (Den E1 10 [] (bolP true)) ∧
   (bolP true) = r) ∧
  ((decide ((↑(List.length (List.map I.p l)) : Int) > (40 : Int))) = false →
   (Den E1 11 [.sl k nl full (List.map I.p l)] (.sl (twK l) (twN l) (twN l) (List.map I.p (List.map twI l)))) ∧
   (Den E1 12 [.sl (twK l) (twN l) (twN l) (List.map I.p (List.map twI l))] (intP (errS (mayR (List.map twI l))))) ∧
   (Den E1 13 [.sl (twK l) (twN l) (twN l) (List.map I.p (List.map twI l))] (.tup [.lit (.string (bs (Prod.fst (txS (List.map twI l))))), intP (Prod.snd (txS (List.map twI l)))])) ∧
   (Den E1 14 [.sl k nl full (List.map I.p l)] (.tup [.lit (.string (bs (Prod.fst (txS l)))), intP (Prod.snd (txS l))])) ∧
   (Den E1 15 [.sl k nl full (List.map I.p l)] (bolP (mayR l))) ∧
   (((errS (mayR (List.map twI l)) == (0 : Int)) == mayR l) = true →
    ((errS (mayR (List.map twI l)) == (0 : Int)) = true →
     ((ByteArray.toList (bs (Prod.fst (txS (List.map twI l)))) == ByteArray.toList (bs (Prod.fst (txS l)))) = true →
      ((Prod.snd (txS (List.map twI l)) == Prod.snd (txS l)) = true →
       (Den E1 16 [.sl (twK l) (twN l) (twN l) (List.map I.p (List.map twI l)), .sl k nl full (List.map I.p l)] (bolP (sameLs (List.map twI l) l))) ∧
       ((sameLs (List.map twI l) l) = true →
        (Den E1 10 [] (bolP true)) ∧
        (bolP true) = r) ∧
       ((sameLs (List.map twI l) l) = false →
        (bolP false) = r)) ∧
      ((Prod.snd (txS (List.map twI l)) == Prod.snd (txS l)) = false →
       (bolP false) = r)) ∧
     ((ByteArray.toList (bs (Prod.fst (txS (List.map twI l)))) == ByteArray.toList (bs (Prod.fst (txS l)))) = false →
      (bolP false) = r)) ∧
    ((errS (mayR (List.map twI l)) == (0 : Int)) = false →
     ((errS (mayR (List.map twI l)) == (80 : Int)) = true →
      ((ByteArray.toList (bs (Prod.fst (txS (List.map twI l)))) == ByteArray.toList (bs (Prod.fst (txS l)))) = true →
       ((Prod.snd (txS (List.map twI l)) == Prod.snd (txS l)) = true →
        (Den E1 16 [.sl (twK l) (twN l) (twN l) (List.map I.p (List.map twI l)), .sl k nl full (List.map I.p l)] (bolP (sameLs (List.map twI l) l))) ∧
        ((sameLs (List.map twI l) l) = true →
         (Den E1 10 [] (bolP true)) ∧
         (bolP true) = r) ∧
        ((sameLs (List.map twI l) l) = false →
         (bolP false) = r)) ∧
       ((Prod.snd (txS (List.map twI l)) == Prod.snd (txS l)) = false →
        (bolP false) = r)) ∧
      ((ByteArray.toList (bs (Prod.fst (txS (List.map twI l)))) == ByteArray.toList (bs (Prod.fst (txS l)))) = false →
       (bolP false) = r)) ∧
     ((errS (mayR (List.map twI l)) == (80 : Int)) = false →
      (bolP false) = r))) ∧
   (((errS (mayR (List.map twI l)) == (0 : Int)) == mayR l) = false →
    (bolP false) = r))) := by kernel_rfl
end Go.Proofs.YtlhfgonjcpapnaaGreatDoor.Abs

/- SpanTexts says true, as a function of values. -/
set_option linter.unusedVariables false
set_option linter.unusedSimpArgs false
namespace Go.Proofs.YtlhfgonjcpapnaaGreatDoor.Abs
open Go Go.Proofs
theorem den_alive : Den E1 10 [] (bolP true) := den_intr (F := aliveP) rfl rfl
theorem den_SpanTexts (l : List I) (k : Nat) (nl full : Bool) (hsl : slOk 11 k nl l.length) (hok : ∀ x ∈ l, x.ok) (hfit : ∀ x ∈ l, fitV x.lo ∧ fitV x.hi) :
    Den E1 3 [listP k nl full l] (bolP true) := by
  refine den1 2000 _ rfl (by kernel_rfl) rfl rfl rfl (Eq.mpr (law08_SpanTexts_go l k nl full _) ⟨fun h => ⟨den_alive, rfl⟩, fun h => ?_⟩)
  have hl : l.length ≤ 40 := by rw [decide_eq_false_iff_not, List.length_map] at h; omega
  have c12 := den_span_May (l.map twI) (twK l) (twN l) (twN l) (tw_slOk l) (tw_ok hok)
  have c13 := den_span_Text (l.map twI) (twK l) (twN l) (twN l) (tw_slOk l) (tw_ok hok)
  have c11 := den_twin l k nl full hsl hok hfit hl
  rw [may_same] at c12
  rw [text_same] at c13
  rw [twP_eq] at c11
  have e1 : (errS (mayR (l.map twI)) == (0 : Int)) = mayR l := by rw [tw_mayR]; cases mayR l <;> rfl
  have e2 : (errS (mayR (l.map twI)) == (80 : Int)) = !mayR l := by rw [tw_mayR]; cases mayR l <;> rfl
  rw [e1, e2, tw_txS, same_tw]
  have c16 := den_same (l.map twI) l (twK l) k (twN l) (twN l) nl full (tw_slOk l) hsl (tw_ok hok) hok (by rw [List.length_map]; unfold small; omega)
  rw [same_tw] at c16
  have t1 : (txS l).1 = (txS l).1 := rfl
  have last : (∀ r : PV, (bolP true) = r → ((true : Bool) = true → Den E1 10 [] (bolP true) ∧ (bolP true) = r) ∧ ((true : Bool) = false → bolP false = r)) :=
    fun r hr => ⟨fun _ => ⟨den_alive, hr⟩, fun e => Bool.noConfusion e⟩
  refine ⟨c11, c12, ?_, den_ref08_Text l k nl full hsl hok, den_ref08_May l k nl full hsl hok, fun _ => ⟨fun hm => ⟨fun _ => ⟨fun _ => ⟨c16, last _ rfl⟩, fun e => ?_⟩, fun e => ?_⟩, fun hm => ⟨fun _ => ⟨fun _ => ⟨fun _ => ⟨c16, last _ rfl⟩, fun e => ?_⟩, fun e => ?_⟩, fun e => ?_⟩⟩, fun e => ?_⟩
  · have := tw_txS l
    unfold txS at this ⊢
    rw [← this]
    exact c13
  all_goals simp_all
end Go.Proofs.YtlhfgonjcpapnaaGreatDoor.Abs

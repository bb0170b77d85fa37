/-
  Further functions of spans as functions of values. Conditions: the values are of their types.
-/
import Derived.Test.YtlhfgonjcpapnaaGreatDoorMg

set_option linter.all false
set_option linter.unnecessarySimpa false

/- Joins and meets of intervals, as the document's answer has them: what the functions compute. -/
set_option linter.unusedVariables false
set_option linter.unusedSimpArgs false
namespace Go.Proofs.YtlhfgonjcpapnaaGreatDoor.Abs
open Go Go.Proofs

/-- which of two upper ends is lower -/
def highI (x y : I) : Int :=
  if x.less then (if y.less then 0 else 1) else if y.less then -1
  else if cmpV x.hi y.hi != 0 then cmpV x.hi y.hi else if x.hopen == y.hopen then cmpV x.hi y.hi else if x.hopen then -1 else 1
def insPos (s : List I) (x : I) : Nat → Nat
  | 0 => 0
  | k + 1 => if lowB (s.getD k default).lb x.lb > 0 then insPos s x k else k + 1
def insR (s : List I) (x : I) : List I := s.take (insPos s x s.length) ++ x :: s.drop (insPos s x s.length)
def sortR (l s : List I) : List I := l.foldl (fun s x => if emptyI x then s else insR s x) s
def upR (y x : I) : I := { y with hi := x.hi, hopen := x.hopen, less := x.less }
def stepR (out : List I) (x : I) : List I :=
  if out.isEmpty then [x]
  else if touchI (out.getD (out.length - 1) default) x then
    (if highI (out.getD (out.length - 1) default) x < 0 then out.set (out.length - 1) (upR (out.getD (out.length - 1) default) x) else out)
  else out ++ [x]
def joinR (l : List I) : List I := (sortR l []).foldl stepR []
/-- a slice that append has made, or nil -/
abbrev resL (l : List I) : PV := listP (twK l) (twN l) (twN l) l
def meet1 (x y : I) : I := 
  let x := if lowB x.lb y.lb < 0 then { x with lo := y.lo, lopen := y.lopen } else x
  if highI y x < 0 then upR x y else x
def meetR (a b : List I) : List I := joinR (a.flatMap fun x => b.map fun y => meet1 x y)
end Go.Proofs.YtlhfgonjcpapnaaGreatDoor.Abs

/- Conditions of functions and their loops, printed by a program and checked by computing. -/
set_option linter.unusedVariables false
namespace Go.Proofs.YtlhfgonjcpapnaaGreatDoor.Abs
open Go Go.Proofs

theorem ref08_high_go (x : I) (y : I) (r : PV) : FnGo E1 Tryz.f100 [I.p x, I.p y] r 2000 (.fork (.lit (.lit (.lit (.lit (.br true (.lit (.lit (.lit (.fork (.hole 0) (.br true (.hole 0))))))))))) (.lit (.lit (.lit (.fork (.br false (.lit (.lit (.lit (.lit (.br false (.hole 0))))))) (.res (intP (cmpV (I.hi x) (I.hi y))) (.fork (.lit (.lit (.lit (.lit (.lit (.lit (.lit (.lit (.lit (.hole 0)))))))))) (.lit (.lit (.lit (.lit (.lit (.lit (.lit (.lit (.fork (.hole 0) (.fork (.hole 0) (.hole 0)))))))))))))))))) =
  (((0 : Nat) = 0) ∧
  ((I.less x) = true →
   ((0 : Nat) = 0) ∧
   ((I.less x) = true) ∧
   ((1 : Nat) = 1) ∧
   ((I.less y) = true →
    (intP 0) = r) ∧
   ((I.less y) = false →
    ((0 : Nat) = 0) ∧
    ((I.less x) = true) ∧
    (intP 1) = r)) ∧
  ((I.less x) = false →
   ((1 : Nat) = 1) ∧
   ((I.less y) = true →
    ((0 : Nat) = 0) ∧
    ((I.less x) = false) ∧
    ((0 : Nat) = 0) ∧
    ((I.less x) = false) ∧
    (intP (-1)) = r) ∧
   ((I.less y) = false →
    ((0 : Nat) = 0) ∧
    ((1 : Nat) = 1) ∧
    (Den E1 80 [V.p (I.hi x), V.p (I.hi y)] (intP (cmpV (I.hi x) (I.hi y)))) ∧
    ((cmpV (I.hi x) (I.hi y) != (0 : Int)) = true →
     (intP (cmpV (I.hi x) (I.hi y))) = r) ∧
    ((cmpV (I.hi x) (I.hi y) != (0 : Int)) = false →
     ((0 : Nat) = 0) ∧
     ((1 : Nat) = 1) ∧
     ((I.hopen x == I.hopen y) = true →
      (intP (cmpV (I.hi x) (I.hi y))) = r) ∧
     ((I.hopen x == I.hopen y) = false →
      ((0 : Nat) = 0) ∧
      ((I.hopen x) = true →
       (intP (-1)) = r) ∧
      ((I.hopen x) = false →
       (intP 1) = r)))))) := by kernel_rfl

def ref08_join_S0 (l : List I) (k : Nat) (nl : Bool) (full : Bool) (i : Int) (j : Nat → AV) (jr : Nat → Row) (g : Nat) : St :=
  { t := [.pv (.sl k nl full (List.map I.p l)), j (1 : Nat), j (2 : Nat), .pv (.sl 0 true true []), intA i, j (5 : Nat), j (6 : Nat), j (7 : Nat), j (8 : Nat), j (9 : Nat), j (10 : Nat), j (11 : Nat), j (12 : Nat), j (13 : Nat), j (14 : Nat), j (15 : Nat), j (16 : Nat), j (17 : Nat), j (18 : Nat), j (19 : Nat), j (20 : Nat), j (21 : Nat), j (22 : Nat), j (23 : Nat), j (24 : Nat), j (25 : Nat), j (26 : Nat), j (27 : Nat), j (28 : Nat), j (29 : Nat), j (30 : Nat), j (31 : Nat), j (32 : Nat), j (33 : Nat), j (34 : Nat), j (35 : Nat), j (36 : Nat), j (37 : Nat), j (38 : Nat), j (39 : Nat), j (40 : Nat), j (41 : Nat), j (42 : Nat), j (43 : Nat), j (44 : Nat), j (45 : Nat), j (46 : Nat), j (47 : Nat), j (48 : Nat), j (49 : Nat), j (50 : Nat), j (51 : Nat), j (52 : Nat), j (53 : Nat), j (54 : Nat), j (55 : Nat), j (56 : Nat), j (57 : Nat), j (58 : Nat), j (59 : Nat), j (60 : Nat), j (61 : Nat), j (62 : Nat), j (63 : Nat), j (64 : Nat), j (65 : Nat), j (66 : Nat), j (67 : Nat), j (68 : Nat), j (69 : Nat), j (70 : Nat), j (71 : Nat), j (72 : Nat), j (73 : Nat), j (74 : Nat), j (75 : Nat), j (76 : Nat), j (77 : Nat), j (78 : Nat), j (79 : Nat), j (80 : Nat), j (81 : Nat), j (82 : Nat), j (83 : Nat), j (84 : Nat), j (85 : Nat), j (86 : Nat), j (87 : Nat), j (88 : Nat), j (89 : Nat), j (90 : Nat), j (91 : Nat), j (92 : Nat), j (93 : Nat), j (94 : Nat), j (95 : Nat), j (96 : Nat), j (97 : Nat), j (98 : Nat), j (99 : Nat), j (100 : Nat), j (101 : Nat), j (102 : Nat), j (103 : Nat), j (104 : Nat), j (105 : Nat), j (106 : Nat), j (107 : Nat), j (108 : Nat), j (109 : Nat), j (110 : Nat), j (111 : Nat), j (112 : Nat), j (113 : Nat), j (114 : Nat), j (115 : Nat), j (116 : Nat), j (117 : Nat), j (118 : Nat), j (119 : Nat), j (120 : Nat), j (121 : Nat), j (122 : Nat), j (123 : Nat), j (124 : Nat), j (125 : Nat), j (126 : Nat), j (127 : Nat), j (128 : Nat), j (129 : Nat)], h := [[row0, row0, row0, row0, row0, row0, row0, row0, row0, row0, row0, row0, row0, row0, row0, row0, row0, row0, row0, row0, row0, row0, row0, row0, row0, row0, row0, row0, row0, row0, row0, row0, row0, row0, row0, row0, row0, row0, row0, row0, row0, row0, row0, row0, jr (44 : Nat), row0, row0, row0, row0, row0, row0, row0, row0, row0, row0, row0, row0, row0, row0, row0, row0, row0, row0, row0, row0, row0, row0, row0, row0, row0, row0, row0, row0, row0, row0, row0, row0, row0, row0, row0, row0, row0, row0, row0, row0, row0, row0, row0, row0, row0, row0, row0, row0, row0, row0, row0, row0, row0, row0, row0, row0, row0, row0, row0, row0, row0, row0, row0, row0, row0, row0, row0, row0, row0, row0, row0, row0, row0, row0, row0, row0, row0, row0, row0, row0, row0, row0, jr (127 : Nat), jr (128 : Nat), row0]], g := g }
def ref08_join_S1 (l : List I) (k : Nat) (nl : Bool) (full : Bool) (i : Int) (j : Nat → AV) (jr : Nat → Row) (g : Nat) : St :=
  { t := [.pv (.sl k nl full (List.map I.p l)), j (1 : Nat), j (2 : Nat), .pv (.sl 0 true true []), intA i, intA 0, j (6 : Nat), j (7 : Nat), j (8 : Nat), j (9 : Nat), j (10 : Nat), j (11 : Nat), j (12 : Nat), j (13 : Nat), j (14 : Nat), j (15 : Nat), j (16 : Nat), j (17 : Nat), j (18 : Nat), j (19 : Nat), j (20 : Nat), j (21 : Nat), j (22 : Nat), j (23 : Nat), j (24 : Nat), j (25 : Nat), j (26 : Nat), j (27 : Nat), j (28 : Nat), j (29 : Nat), j (30 : Nat), j (31 : Nat), j (32 : Nat), j (33 : Nat), j (34 : Nat), j (35 : Nat), j (36 : Nat), j (37 : Nat), j (38 : Nat), j (39 : Nat), j (40 : Nat), j (41 : Nat), j (42 : Nat), j (43 : Nat), j (44 : Nat), j (45 : Nat), j (46 : Nat), j (47 : Nat), j (48 : Nat), j (49 : Nat), j (50 : Nat), j (51 : Nat), j (52 : Nat), j (53 : Nat), j (54 : Nat), j (55 : Nat), j (56 : Nat), j (57 : Nat), j (58 : Nat), j (59 : Nat), j (60 : Nat), j (61 : Nat), j (62 : Nat), j (63 : Nat), j (64 : Nat), j (65 : Nat), j (66 : Nat), j (67 : Nat), j (68 : Nat), j (69 : Nat), j (70 : Nat), j (71 : Nat), j (72 : Nat), j (73 : Nat), j (74 : Nat), j (75 : Nat), j (76 : Nat), j (77 : Nat), j (78 : Nat), j (79 : Nat), j (80 : Nat), j (81 : Nat), j (82 : Nat), j (83 : Nat), j (84 : Nat), j (85 : Nat), j (86 : Nat), j (87 : Nat), j (88 : Nat), j (89 : Nat), j (90 : Nat), j (91 : Nat), j (92 : Nat), j (93 : Nat), j (94 : Nat), j (95 : Nat), j (96 : Nat), j (97 : Nat), j (98 : Nat), j (99 : Nat), j (100 : Nat), j (101 : Nat), j (102 : Nat), j (103 : Nat), j (104 : Nat), j (105 : Nat), j (106 : Nat), j (107 : Nat), j (108 : Nat), j (109 : Nat), j (110 : Nat), j (111 : Nat), j (112 : Nat), j (113 : Nat), j (114 : Nat), j (115 : Nat), j (116 : Nat), j (117 : Nat), j (118 : Nat), j (119 : Nat), j (120 : Nat), j (121 : Nat), j (122 : Nat), j (123 : Nat), j (124 : Nat), j (125 : Nat), j (126 : Nat), j (127 : Nat), j (128 : Nat), j (129 : Nat)], h := [[row0, row0, row0, row0, row0, row0, row0, row0, row0, row0, row0, row0, row0, row0, row0, row0, row0, row0, row0, row0, row0, row0, row0, row0, row0, row0, row0, row0, row0, row0, row0, row0, row0, row0, row0, row0, row0, row0, row0, row0, row0, row0, row0, row0, jr (44 : Nat), row0, row0, row0, row0, row0, row0, row0, row0, row0, row0, row0, row0, row0, row0, row0, row0, row0, row0, row0, row0, row0, row0, row0, row0, row0, row0, row0, row0, row0, row0, row0, row0, row0, row0, row0, row0, row0, row0, row0, row0, row0, row0, row0, row0, row0, row0, row0, row0, row0, row0, row0, row0, row0, row0, row0, row0, row0, row0, row0, row0, row0, row0, row0, row0, row0, row0, row0, row0, row0, row0, row0, row0, row0, row0, row0, row0, row0, row0, row0, row0, row0, row0, jr (127 : Nat), jr (128 : Nat), row0]], g := g }
def ref08_join_S2 (l : List I) (k : Nat) (nl : Bool) (full : Bool) (i : Int) (p : Int) (q : Int) (gm : Nat) (n : Nat) (xsI : List PV) (j : Nat → AV) (jr : Nat → Row) (g : Nat) : St :=
  { t := [.pv (.sl k nl full (List.map I.p l)), j (1 : Nat), j (2 : Nat), .msl 0 45 gm 0 n false, intA i, intA p, intA q, j (7 : Nat), j (8 : Nat), j (9 : Nat), j (10 : Nat), j (11 : Nat), j (12 : Nat), j (13 : Nat), j (14 : Nat), j (15 : Nat), j (16 : Nat), j (17 : Nat), j (18 : Nat), j (19 : Nat), j (20 : Nat), j (21 : Nat), j (22 : Nat), j (23 : Nat), j (24 : Nat), j (25 : Nat), j (26 : Nat), j (27 : Nat), j (28 : Nat), j (29 : Nat), j (30 : Nat), j (31 : Nat), j (32 : Nat), j (33 : Nat), j (34 : Nat), j (35 : Nat), j (36 : Nat), j (37 : Nat), j (38 : Nat), j (39 : Nat), j (40 : Nat), j (41 : Nat), j (42 : Nat), j (43 : Nat), j (44 : Nat), j (45 : Nat), j (46 : Nat), j (47 : Nat), j (48 : Nat), j (49 : Nat), j (50 : Nat), j (51 : Nat), j (52 : Nat), j (53 : Nat), j (54 : Nat), j (55 : Nat), j (56 : Nat), j (57 : Nat), j (58 : Nat), j (59 : Nat), j (60 : Nat), j (61 : Nat), j (62 : Nat), j (63 : Nat), j (64 : Nat), j (65 : Nat), j (66 : Nat), j (67 : Nat), j (68 : Nat), j (69 : Nat), j (70 : Nat), j (71 : Nat), j (72 : Nat), j (73 : Nat), j (74 : Nat), j (75 : Nat), j (76 : Nat), j (77 : Nat), j (78 : Nat), j (79 : Nat), j (80 : Nat), j (81 : Nat), j (82 : Nat), j (83 : Nat), j (84 : Nat), j (85 : Nat), j (86 : Nat), j (87 : Nat), j (88 : Nat), j (89 : Nat), j (90 : Nat), j (91 : Nat), j (92 : Nat), j (93 : Nat), j (94 : Nat), j (95 : Nat), j (96 : Nat), j (97 : Nat), j (98 : Nat), j (99 : Nat), j (100 : Nat), j (101 : Nat), j (102 : Nat), j (103 : Nat), j (104 : Nat), j (105 : Nat), j (106 : Nat), j (107 : Nat), j (108 : Nat), j (109 : Nat), j (110 : Nat), j (111 : Nat), j (112 : Nat), j (113 : Nat), j (114 : Nat), j (115 : Nat), j (116 : Nat), j (117 : Nat), j (118 : Nat), j (119 : Nat), j (120 : Nat), j (121 : Nat), j (122 : Nat), j (123 : Nat), j (124 : Nat), j (125 : Nat), j (126 : Nat), j (127 : Nat), j (128 : Nat), j (129 : Nat)], h := [[row0, row0, row0, row0, row0, row0, row0, row0, row0, row0, row0, row0, row0, row0, row0, row0, row0, row0, row0, row0, row0, row0, row0, row0, row0, row0, row0, row0, row0, row0, row0, row0, row0, row0, row0, row0, row0, row0, row0, row0, row0, row0, row0, row0, jr (44 : Nat), ⟨gm, .row 11 63 xsI false⟩, row0, row0, row0, row0, row0, row0, row0, row0, row0, row0, row0, row0, row0, row0, row0, row0, row0, row0, row0, row0, row0, row0, row0, row0, row0, row0, row0, row0, row0, row0, row0, row0, row0, row0, row0, row0, row0, row0, row0, row0, row0, row0, row0, row0, row0, row0, row0, row0, row0, row0, row0, row0, row0, row0, row0, row0, row0, row0, row0, row0, row0, row0, row0, row0, row0, row0, row0, row0, row0, row0, row0, row0, row0, row0, row0, row0, row0, row0, row0, row0, row0, jr (127 : Nat), jr (128 : Nat), row0]], g := g }
def ref08_join_S3 (l : List I) (k : Nat) (nl : Bool) (full : Bool) (i : Int) (gm : Nat) (n : Nat) (xsI : List PV) (j : Nat → AV) (jr : Nat → Row) (g : Nat) : St :=
  { t := [.pv (.sl k nl full (List.map I.p l)), j (1 : Nat), j (2 : Nat), .msl 0 45 gm 0 n false, intA i, j (5 : Nat), j (6 : Nat), j (7 : Nat), j (8 : Nat), j (9 : Nat), j (10 : Nat), j (11 : Nat), j (12 : Nat), j (13 : Nat), j (14 : Nat), j (15 : Nat), j (16 : Nat), j (17 : Nat), j (18 : Nat), j (19 : Nat), j (20 : Nat), j (21 : Nat), j (22 : Nat), j (23 : Nat), j (24 : Nat), j (25 : Nat), j (26 : Nat), j (27 : Nat), j (28 : Nat), j (29 : Nat), j (30 : Nat), j (31 : Nat), j (32 : Nat), j (33 : Nat), j (34 : Nat), j (35 : Nat), j (36 : Nat), j (37 : Nat), j (38 : Nat), j (39 : Nat), j (40 : Nat), j (41 : Nat), j (42 : Nat), j (43 : Nat), j (44 : Nat), j (45 : Nat), j (46 : Nat), j (47 : Nat), j (48 : Nat), j (49 : Nat), j (50 : Nat), j (51 : Nat), j (52 : Nat), j (53 : Nat), j (54 : Nat), j (55 : Nat), j (56 : Nat), j (57 : Nat), j (58 : Nat), j (59 : Nat), j (60 : Nat), j (61 : Nat), j (62 : Nat), j (63 : Nat), j (64 : Nat), j (65 : Nat), j (66 : Nat), j (67 : Nat), j (68 : Nat), j (69 : Nat), j (70 : Nat), j (71 : Nat), j (72 : Nat), j (73 : Nat), j (74 : Nat), j (75 : Nat), j (76 : Nat), j (77 : Nat), j (78 : Nat), j (79 : Nat), j (80 : Nat), j (81 : Nat), j (82 : Nat), j (83 : Nat), j (84 : Nat), j (85 : Nat), j (86 : Nat), j (87 : Nat), j (88 : Nat), j (89 : Nat), j (90 : Nat), j (91 : Nat), j (92 : Nat), j (93 : Nat), j (94 : Nat), j (95 : Nat), j (96 : Nat), j (97 : Nat), j (98 : Nat), j (99 : Nat), j (100 : Nat), j (101 : Nat), j (102 : Nat), j (103 : Nat), j (104 : Nat), j (105 : Nat), j (106 : Nat), j (107 : Nat), j (108 : Nat), j (109 : Nat), j (110 : Nat), j (111 : Nat), j (112 : Nat), j (113 : Nat), j (114 : Nat), j (115 : Nat), j (116 : Nat), j (117 : Nat), j (118 : Nat), j (119 : Nat), j (120 : Nat), j (121 : Nat), j (122 : Nat), j (123 : Nat), j (124 : Nat), j (125 : Nat), j (126 : Nat), j (127 : Nat), j (128 : Nat), j (129 : Nat)], h := [[row0, row0, row0, row0, row0, row0, row0, row0, row0, row0, row0, row0, row0, row0, row0, row0, row0, row0, row0, row0, row0, row0, row0, row0, row0, row0, row0, row0, row0, row0, row0, row0, row0, row0, row0, row0, row0, row0, row0, row0, row0, row0, row0, row0, jr (44 : Nat), ⟨gm, .row 11 63 xsI false⟩, row0, row0, row0, row0, row0, row0, row0, row0, row0, row0, row0, row0, row0, row0, row0, row0, row0, row0, row0, row0, row0, row0, row0, row0, row0, row0, row0, row0, row0, row0, row0, row0, row0, row0, row0, row0, row0, row0, row0, row0, row0, row0, row0, row0, row0, row0, row0, row0, row0, row0, row0, row0, row0, row0, row0, row0, row0, row0, row0, row0, row0, row0, row0, row0, row0, row0, row0, row0, row0, row0, row0, row0, row0, row0, row0, row0, row0, row0, row0, row0, row0, jr (127 : Nat), jr (128 : Nat), row0]], g := g }
def ref08_join_S4 (l : List I) (k : Nat) (nl : Bool) (full : Bool) (i : Int) (p : Int) (gm : Nat) (n : Nat) (xsI : List PV) (j : Nat → AV) (jr : Nat → Row) (g : Nat) : St :=
  { t := [.pv (.sl k nl full (List.map I.p l)), j (1 : Nat), j (2 : Nat), .msl 0 45 gm 0 n false, intA i, intA p, j (6 : Nat), j (7 : Nat), j (8 : Nat), j (9 : Nat), j (10 : Nat), j (11 : Nat), j (12 : Nat), j (13 : Nat), j (14 : Nat), j (15 : Nat), j (16 : Nat), j (17 : Nat), j (18 : Nat), j (19 : Nat), j (20 : Nat), j (21 : Nat), j (22 : Nat), j (23 : Nat), j (24 : Nat), j (25 : Nat), j (26 : Nat), j (27 : Nat), j (28 : Nat), j (29 : Nat), j (30 : Nat), j (31 : Nat), j (32 : Nat), j (33 : Nat), j (34 : Nat), j (35 : Nat), j (36 : Nat), j (37 : Nat), j (38 : Nat), j (39 : Nat), j (40 : Nat), j (41 : Nat), j (42 : Nat), j (43 : Nat), j (44 : Nat), j (45 : Nat), j (46 : Nat), j (47 : Nat), j (48 : Nat), j (49 : Nat), j (50 : Nat), j (51 : Nat), j (52 : Nat), j (53 : Nat), j (54 : Nat), j (55 : Nat), j (56 : Nat), j (57 : Nat), j (58 : Nat), j (59 : Nat), j (60 : Nat), j (61 : Nat), j (62 : Nat), j (63 : Nat), j (64 : Nat), j (65 : Nat), j (66 : Nat), j (67 : Nat), j (68 : Nat), j (69 : Nat), j (70 : Nat), j (71 : Nat), j (72 : Nat), j (73 : Nat), j (74 : Nat), j (75 : Nat), j (76 : Nat), j (77 : Nat), j (78 : Nat), j (79 : Nat), j (80 : Nat), j (81 : Nat), j (82 : Nat), j (83 : Nat), j (84 : Nat), j (85 : Nat), j (86 : Nat), j (87 : Nat), j (88 : Nat), j (89 : Nat), j (90 : Nat), j (91 : Nat), j (92 : Nat), j (93 : Nat), j (94 : Nat), j (95 : Nat), j (96 : Nat), j (97 : Nat), j (98 : Nat), j (99 : Nat), j (100 : Nat), j (101 : Nat), j (102 : Nat), j (103 : Nat), j (104 : Nat), j (105 : Nat), j (106 : Nat), j (107 : Nat), j (108 : Nat), j (109 : Nat), j (110 : Nat), j (111 : Nat), j (112 : Nat), j (113 : Nat), j (114 : Nat), j (115 : Nat), j (116 : Nat), j (117 : Nat), j (118 : Nat), j (119 : Nat), j (120 : Nat), j (121 : Nat), j (122 : Nat), j (123 : Nat), j (124 : Nat), j (125 : Nat), j (126 : Nat), j (127 : Nat), j (128 : Nat), j (129 : Nat)], h := [[row0, row0, row0, row0, row0, row0, row0, row0, row0, row0, row0, row0, row0, row0, row0, row0, row0, row0, row0, row0, row0, row0, row0, row0, row0, row0, row0, row0, row0, row0, row0, row0, row0, row0, row0, row0, row0, row0, row0, row0, row0, row0, row0, row0, jr (44 : Nat), ⟨gm, .row 11 63 xsI false⟩, row0, row0, row0, row0, row0, row0, row0, row0, row0, row0, row0, row0, row0, row0, row0, row0, row0, row0, row0, row0, row0, row0, row0, row0, row0, row0, row0, row0, row0, row0, row0, row0, row0, row0, row0, row0, row0, row0, row0, row0, row0, row0, row0, row0, row0, row0, row0, row0, row0, row0, row0, row0, row0, row0, row0, row0, row0, row0, row0, row0, row0, row0, row0, row0, row0, row0, row0, row0, row0, row0, row0, row0, row0, row0, row0, row0, row0, row0, row0, row0, row0, jr (127 : Nat), jr (128 : Nat), row0]], g := g }
def ref08_join_S5 (l : List I) (k : Nat) (nl : Bool) (full : Bool) (z : Row) (j : Nat → AV) (jr : Nat → Row) (g : Nat) : St :=
  { t := [j (0 : Nat), j (1 : Nat), j (2 : Nat), .pv (.sl 0 true true []), j (4 : Nat), j (5 : Nat), j (6 : Nat), .pv (.sl 0 true true []), intA 0, j (9 : Nat), j (10 : Nat), j (11 : Nat), j (12 : Nat), j (13 : Nat), j (14 : Nat), j (15 : Nat), j (16 : Nat), j (17 : Nat), j (18 : Nat), j (19 : Nat), j (20 : Nat), j (21 : Nat), j (22 : Nat), j (23 : Nat), j (24 : Nat), j (25 : Nat), j (26 : Nat), j (27 : Nat), j (28 : Nat), j (29 : Nat), j (30 : Nat), j (31 : Nat), j (32 : Nat), j (33 : Nat), j (34 : Nat), j (35 : Nat), j (36 : Nat), j (37 : Nat), j (38 : Nat), j (39 : Nat), j (40 : Nat), j (41 : Nat), j (42 : Nat), j (43 : Nat), j (44 : Nat), j (45 : Nat), j (46 : Nat), j (47 : Nat), j (48 : Nat), j (49 : Nat), j (50 : Nat), j (51 : Nat), j (52 : Nat), j (53 : Nat), j (54 : Nat), j (55 : Nat), j (56 : Nat), j (57 : Nat), j (58 : Nat), j (59 : Nat), j (60 : Nat), j (61 : Nat), j (62 : Nat), j (63 : Nat), j (64 : Nat), j (65 : Nat), j (66 : Nat), j (67 : Nat), j (68 : Nat), j (69 : Nat), j (70 : Nat), j (71 : Nat), j (72 : Nat), j (73 : Nat), j (74 : Nat), j (75 : Nat), j (76 : Nat), j (77 : Nat), j (78 : Nat), j (79 : Nat), j (80 : Nat), j (81 : Nat), j (82 : Nat), j (83 : Nat), j (84 : Nat), j (85 : Nat), j (86 : Nat), j (87 : Nat), j (88 : Nat), j (89 : Nat), j (90 : Nat), j (91 : Nat), j (92 : Nat), j (93 : Nat), j (94 : Nat), j (95 : Nat), j (96 : Nat), j (97 : Nat), j (98 : Nat), j (99 : Nat), j (100 : Nat), j (101 : Nat), j (102 : Nat), j (103 : Nat), j (104 : Nat), j (105 : Nat), j (106 : Nat), j (107 : Nat), j (108 : Nat), j (109 : Nat), j (110 : Nat), j (111 : Nat), j (112 : Nat), j (113 : Nat), j (114 : Nat), j (115 : Nat), j (116 : Nat), j (117 : Nat), j (118 : Nat), j (119 : Nat), j (120 : Nat), j (121 : Nat), j (122 : Nat), j (123 : Nat), j (124 : Nat), j (125 : Nat), j (126 : Nat), j (127 : Nat), j (128 : Nat), j (129 : Nat)], h := [[row0, row0, row0, row0, row0, row0, row0, row0, row0, row0, row0, row0, row0, row0, row0, row0, row0, row0, row0, row0, row0, row0, row0, row0, row0, row0, row0, row0, row0, row0, row0, row0, row0, row0, row0, row0, row0, row0, row0, row0, row0, row0, row0, row0, jr (44 : Nat), row0, row0, row0, row0, row0, row0, row0, row0, row0, row0, row0, row0, row0, row0, row0, row0, row0, row0, row0, row0, row0, row0, row0, row0, row0, row0, row0, row0, row0, row0, row0, row0, row0, row0, row0, row0, row0, row0, row0, row0, row0, row0, row0, row0, row0, row0, row0, row0, row0, row0, row0, row0, row0, row0, row0, row0, row0, row0, row0, row0, row0, row0, row0, row0, row0, row0, row0, row0, row0, row0, row0, row0, row0, row0, row0, row0, row0, row0, row0, row0, row0, row0, jr (127 : Nat), z, row0]], g := g }
def ref08_join_S6 (l : List I) (k : Nat) (nl : Bool) (full : Bool) (i : Int) (gm : Nat) (n : Nat) (xsI : List PV) (z : Row) (j : Nat → AV) (jr : Nat → Row) (g : Nat) : St :=
  { t := [j (0 : Nat), j (1 : Nat), j (2 : Nat), .msl 0 45 gm 0 n false, j (4 : Nat), j (5 : Nat), j (6 : Nat), .pv (.sl 0 true true []), intA i, j (9 : Nat), j (10 : Nat), j (11 : Nat), j (12 : Nat), j (13 : Nat), j (14 : Nat), j (15 : Nat), j (16 : Nat), j (17 : Nat), j (18 : Nat), j (19 : Nat), j (20 : Nat), j (21 : Nat), j (22 : Nat), j (23 : Nat), j (24 : Nat), j (25 : Nat), j (26 : Nat), j (27 : Nat), j (28 : Nat), j (29 : Nat), j (30 : Nat), j (31 : Nat), j (32 : Nat), j (33 : Nat), j (34 : Nat), j (35 : Nat), j (36 : Nat), j (37 : Nat), j (38 : Nat), j (39 : Nat), j (40 : Nat), j (41 : Nat), j (42 : Nat), j (43 : Nat), j (44 : Nat), j (45 : Nat), j (46 : Nat), j (47 : Nat), j (48 : Nat), j (49 : Nat), j (50 : Nat), j (51 : Nat), j (52 : Nat), j (53 : Nat), j (54 : Nat), j (55 : Nat), j (56 : Nat), j (57 : Nat), j (58 : Nat), j (59 : Nat), j (60 : Nat), j (61 : Nat), j (62 : Nat), j (63 : Nat), j (64 : Nat), j (65 : Nat), j (66 : Nat), j (67 : Nat), j (68 : Nat), j (69 : Nat), j (70 : Nat), j (71 : Nat), j (72 : Nat), j (73 : Nat), j (74 : Nat), j (75 : Nat), j (76 : Nat), j (77 : Nat), j (78 : Nat), j (79 : Nat), j (80 : Nat), j (81 : Nat), j (82 : Nat), j (83 : Nat), j (84 : Nat), j (85 : Nat), j (86 : Nat), j (87 : Nat), j (88 : Nat), j (89 : Nat), j (90 : Nat), j (91 : Nat), j (92 : Nat), j (93 : Nat), j (94 : Nat), j (95 : Nat), j (96 : Nat), j (97 : Nat), j (98 : Nat), j (99 : Nat), j (100 : Nat), j (101 : Nat), j (102 : Nat), j (103 : Nat), j (104 : Nat), j (105 : Nat), j (106 : Nat), j (107 : Nat), j (108 : Nat), j (109 : Nat), j (110 : Nat), j (111 : Nat), j (112 : Nat), j (113 : Nat), j (114 : Nat), j (115 : Nat), j (116 : Nat), j (117 : Nat), j (118 : Nat), j (119 : Nat), j (120 : Nat), j (121 : Nat), j (122 : Nat), j (123 : Nat), j (124 : Nat), j (125 : Nat), j (126 : Nat), j (127 : Nat), j (128 : Nat), j (129 : Nat)], h := [[row0, row0, row0, row0, row0, row0, row0, row0, row0, row0, row0, row0, row0, row0, row0, row0, row0, row0, row0, row0, row0, row0, row0, row0, row0, row0, row0, row0, row0, row0, row0, row0, row0, row0, row0, row0, row0, row0, row0, row0, row0, row0, row0, row0, jr (44 : Nat), ⟨gm, .row 11 63 xsI false⟩, row0, row0, row0, row0, row0, row0, row0, row0, row0, row0, row0, row0, row0, row0, row0, row0, row0, row0, row0, row0, row0, row0, row0, row0, row0, row0, row0, row0, row0, row0, row0, row0, row0, row0, row0, row0, row0, row0, row0, row0, row0, row0, row0, row0, row0, row0, row0, row0, row0, row0, row0, row0, row0, row0, row0, row0, row0, row0, row0, row0, row0, row0, row0, row0, row0, row0, row0, row0, row0, row0, row0, row0, row0, row0, row0, row0, row0, row0, row0, row0, row0, jr (127 : Nat), z, row0]], g := g }
def ref08_join_S7 (l : List I) (k : Nat) (nl : Bool) (full : Bool) (i : Int) (gm : Nat) (n : Nat) (go : Nat) (m : Nat) (xsI : List PV) (ysI : List PV) (j : Nat → AV) (jr : Nat → Row) (g : Nat) : St :=
  { t := [j (0 : Nat), j (1 : Nat), j (2 : Nat), .msl 0 45 gm 0 n false, j (4 : Nat), j (5 : Nat), j (6 : Nat), .msl 0 128 go 0 m false, intA i, j (9 : Nat), j (10 : Nat), j (11 : Nat), j (12 : Nat), j (13 : Nat), j (14 : Nat), j (15 : Nat), j (16 : Nat), j (17 : Nat), j (18 : Nat), j (19 : Nat), j (20 : Nat), j (21 : Nat), j (22 : Nat), j (23 : Nat), j (24 : Nat), j (25 : Nat), j (26 : Nat), j (27 : Nat), j (28 : Nat), j (29 : Nat), j (30 : Nat), j (31 : Nat), j (32 : Nat), j (33 : Nat), j (34 : Nat), j (35 : Nat), j (36 : Nat), j (37 : Nat), j (38 : Nat), j (39 : Nat), j (40 : Nat), j (41 : Nat), j (42 : Nat), j (43 : Nat), j (44 : Nat), j (45 : Nat), j (46 : Nat), j (47 : Nat), j (48 : Nat), j (49 : Nat), j (50 : Nat), j (51 : Nat), j (52 : Nat), j (53 : Nat), j (54 : Nat), j (55 : Nat), j (56 : Nat), j (57 : Nat), j (58 : Nat), j (59 : Nat), j (60 : Nat), j (61 : Nat), j (62 : Nat), j (63 : Nat), j (64 : Nat), j (65 : Nat), j (66 : Nat), j (67 : Nat), j (68 : Nat), j (69 : Nat), j (70 : Nat), j (71 : Nat), j (72 : Nat), j (73 : Nat), j (74 : Nat), j (75 : Nat), j (76 : Nat), j (77 : Nat), j (78 : Nat), j (79 : Nat), j (80 : Nat), j (81 : Nat), j (82 : Nat), j (83 : Nat), j (84 : Nat), j (85 : Nat), j (86 : Nat), j (87 : Nat), j (88 : Nat), j (89 : Nat), j (90 : Nat), j (91 : Nat), j (92 : Nat), j (93 : Nat), j (94 : Nat), j (95 : Nat), j (96 : Nat), j (97 : Nat), j (98 : Nat), j (99 : Nat), j (100 : Nat), j (101 : Nat), j (102 : Nat), j (103 : Nat), j (104 : Nat), j (105 : Nat), j (106 : Nat), j (107 : Nat), j (108 : Nat), j (109 : Nat), j (110 : Nat), j (111 : Nat), j (112 : Nat), j (113 : Nat), j (114 : Nat), j (115 : Nat), j (116 : Nat), j (117 : Nat), j (118 : Nat), j (119 : Nat), j (120 : Nat), j (121 : Nat), j (122 : Nat), j (123 : Nat), j (124 : Nat), j (125 : Nat), j (126 : Nat), j (127 : Nat), j (128 : Nat), j (129 : Nat)], h := [[row0, row0, row0, row0, row0, row0, row0, row0, row0, row0, row0, row0, row0, row0, row0, row0, row0, row0, row0, row0, row0, row0, row0, row0, row0, row0, row0, row0, row0, row0, row0, row0, row0, row0, row0, row0, row0, row0, row0, row0, row0, row0, row0, row0, jr (44 : Nat), ⟨gm, .row 11 63 xsI false⟩, row0, row0, row0, row0, row0, row0, row0, row0, row0, row0, row0, row0, row0, row0, row0, row0, row0, row0, row0, row0, row0, row0, row0, row0, row0, row0, row0, row0, row0, row0, row0, row0, row0, row0, row0, row0, row0, row0, row0, row0, row0, row0, row0, row0, row0, row0, row0, row0, row0, row0, row0, row0, row0, row0, row0, row0, row0, row0, row0, row0, row0, row0, row0, row0, row0, row0, row0, row0, row0, row0, row0, row0, row0, row0, row0, row0, row0, row0, row0, row0, row0, jr (127 : Nat), ⟨go, .row 11 63 ysI false⟩, row0]], g := g }
theorem ref08_join_go (l : List I) (k : Nat) (nl : Bool) (full : Bool) (r : PV) : FnGo E1 Tryz.f58 [.sl k nl full (List.map I.p l)] r 2000 (.mask [1, 2, 5, 6, 7, 8, 9, 10, 11, 12, 13, 14, 15, 16, 17, 18, 19, 20, 21, 22, 23, 24, 25, 26, 27, 28, 29, 30, 31, 32, 33, 34, 35, 36, 37, 38, 39, 40, 41, 42, 43, 44, 45, 46, 47, 48, 49, 50, 51, 52, 53, 54, 55, 56, 57, 58, 59, 60, 61, 62, 63, 64, 65, 66, 67, 68, 69, 70, 71, 72, 73, 74, 75, 76, 77, 78, 79, 80, 81, 82, 83, 84, 85, 86, 87, 88, 89, 90, 91, 92, 93, 94, 95, 96, 97, 98, 99, 100, 101, 102, 103, 104, 105, 106, 107, 108, 109, 110, 111, 112, 113, 114, 115, 116, 117, 118, 119, 120, 121, 122, 123, 124, 125, 126, 127, 128, 129] [44, 127, 128]) =
  (∀ (j' : Nat → AV) (jr' : Nat → Row) (g' : Nat), LoopAt E1 Tryz.f58 r 0 (ref08_join_S0 l k nl full 0 j' jr' g')) := by kernel_rfl
theorem ref08_join_go_S0 (l : List I) (k : Nat) (nl : Bool) (full : Bool) (i : Int) (j : Nat → AV) (jr : Nat → Row) (g : Nat) (r : PV) : LoopGo E1 Tryz.f58 r 0 2000 (.fork (.val (I.p (List.getD l (Int.toNat i) default)) (.res (bolP (emptyI (List.getD l (Int.toNat i) default))) (.fork (.mask [1, 2, 5, 6, 7, 8, 9, 10, 11, 12, 13, 14, 15, 16, 17, 18, 19, 20, 21, 22, 23, 24, 25, 26, 27, 28, 29, 30, 31, 32, 33, 34, 35, 36, 37, 38, 39, 40, 41, 42, 43, 44, 45, 46, 47, 48, 49, 50, 51, 52, 53, 54, 55, 56, 57, 58, 59, 60, 61, 62, 63, 64, 65, 66, 67, 68, 69, 70, 71, 72, 73, 74, 75, 76, 77, 78, 79, 80, 81, 82, 83, 84, 85, 86, 87, 88, 89, 90, 91, 92, 93, 94, 95, 96, 97, 98, 99, 100, 101, 102, 103, 104, 105, 106, 107, 108, 109, 110, 111, 112, 113, 114, 115, 116, 117, 118, 119, 120, 121, 122, 123, 124, 125, 126, 127, 128, 129] [44, 127, 128]) (.mask [1, 2, 6, 7, 8, 9, 10, 11, 12, 13, 14, 15, 16, 17, 18, 19, 20, 21, 22, 23, 24, 25, 26, 27, 28, 29, 30, 31, 32, 33, 34, 35, 36, 37, 38, 39, 40, 41, 42, 43, 44, 45, 46, 47, 48, 49, 50, 51, 52, 53, 54, 55, 56, 57, 58, 59, 60, 61, 62, 63, 64, 65, 66, 67, 68, 69, 70, 71, 72, 73, 74, 75, 76, 77, 78, 79, 80, 81, 82, 83, 84, 85, 86, 87, 88, 89, 90, 91, 92, 93, 94, 95, 96, 97, 98, 99, 100, 101, 102, 103, 104, 105, 106, 107, 108, 109, 110, 111, 112, 113, 114, 115, 116, 117, 118, 119, 120, 121, 122, 123, 124, 125, 126, 127, 128, 129] [44, 127, 128])))) (.mask [0, 1, 2, 4, 5, 6, 9, 10, 11, 12, 13, 14, 15, 16, 17, 18, 19, 20, 21, 22, 23, 24, 25, 26, 27, 28, 29, 30, 31, 32, 33, 34, 35, 36, 37, 38, 39, 40, 41, 42, 43, 44, 45, 46, 47, 48, 49, 50, 51, 52, 53, 54, 55, 56, 57, 58, 59, 60, 61, 62, 63, 64, 65, 66, 67, 68, 69, 70, 71, 72, 73, 74, 75, 76, 77, 78, 79, 80, 81, 82, 83, 84, 85, 86, 87, 88, 89, 90, 91, 92, 93, 94, 95, 96, 97, 98, 99, 100, 101, 102, 103, 104, 105, 106, 107, 108, 109, 110, 111, 112, 113, 114, 115, 116, 117, 118, 119, 120, 121, 122, 123, 124, 125, 126, 127, 128, 129] [44, 127])) (ref08_join_S0 l k nl full i j jr g) =
  (((decide (i < (↑(List.length (List.map I.p l)) : Int))) = true →
   (((0 : Int) ≤ i) ∧ ((nl = false) ∧ (k = 11))) ∧
   (((List.map I.p l)[Int.toNat i]?) = some (I.p (List.getD l (Int.toNat i) default))) ∧
   (Den E1 43 [I.p (List.getD l (Int.toNat i) default)] (bolP (emptyI (List.getD l (Int.toNat i) default)))) ∧
   ((emptyI (List.getD l (Int.toNat i) default)) = true →
    ∀ (j' : Nat → AV) (jr' : Nat → Row) (g' : Nat), LoopAt E1 Tryz.f58 r 0 (ref08_join_S0 l k nl full (IntKind.wrap IntKind.i64 (i + (1 : Int))) j' jr' g')) ∧
   ((emptyI (List.getD l (Int.toNat i) default)) = false →
    ∀ (j' : Nat → AV) (jr' : Nat → Row) (g' : Nat), LoopAt E1 Tryz.f58 r 1 (ref08_join_S1 l k nl full i j' jr' g'))) ∧
  ((decide (i < (↑(List.length (List.map I.p l)) : Int))) = false →
   ∀ (j' : Nat → AV) (jr' : Nat → Row) (g' : Nat), LoopAt E1 Tryz.f58 r 3 (ref08_join_S5 l k nl full (jr (128 : Nat)) j' jr' g'))) := by kernel_rfl
theorem ref08_join_go_S1 (l : List I) (k : Nat) (nl : Bool) (full : Bool) (i : Int) (j : Nat → AV) (jr : Nat → Row) (g : Nat) (r : PV) : LoopGo E1 Tryz.f58 r 1 2000 (.lit (.lit (.lit (.lit (.lit (.lit (.lit (.lit (.lit (.lit (.lit (.lit (.lit (.lit (.lit (.lit (.lit (.lit (.mask [1, 2, 7, 8, 9, 10, 11, 12, 13, 14, 15, 16, 17, 18, 19, 20, 21, 22, 23, 24, 25, 26, 27, 28, 29, 30, 31, 32, 33, 34, 35, 36, 37, 38, 39, 40, 41, 42, 43, 44, 45, 46, 47, 48, 49, 50, 51, 52, 53, 54, 55, 56, 57, 58, 59, 60, 61, 62, 63, 64, 65, 66, 67, 68, 69, 70, 71, 72, 73, 74, 75, 76, 77, 78, 79, 80, 81, 82, 83, 84, 85, 86, 87, 88, 89, 90, 91, 92, 93, 94, 95, 96, 97, 98, 99, 100, 101, 102, 103, 104, 105, 106, 107, 108, 109, 110, 111, 112, 113, 114, 115, 116, 117, 118, 119, 120, 121, 122, 123, 124, 125, 126, 127, 128, 129] [44, 127, 128]))))))))))))))))))) (ref08_join_S1 l k nl full i j jr g) =
  (((g + (17 : Nat) + (2 : Nat)) = g + (17 : Nat) + (2 : Nat)) ∧
  (((11 : Nat) = 11) ∧ ((1 : Nat) ≤ (1 : Nat))) ∧
  (((0 : Nat) = 0) ∧ (true = true)) ∧
  (∀ (j' : Nat → AV) (jr' : Nat → Row) (g' : Nat), LoopAt E1 Tryz.f58 r 2 (ref08_join_S2 l k nl full i 0 0 (g + (17 : Nat) + (3 : Nat)) 1 [itvP 0 0 0 (.sl 0 true true []) false 0 0 0 (.sl 0 true true []) false false] j' jr' g'))) := by kernel_rfl
theorem ref08_join_go_S2 (l : List I) (k : Nat) (nl : Bool) (full : Bool) (i : Int) (p : Int) (q : Int) (gm : Nat) (n : Nat) (xs : List I) (j : Nat → AV) (jr : Nat → Row) (g : Nat) (r : PV) : LoopGo E1 Tryz.f58 r 2 2000 (.fork (.val (I.p (List.getD xs ((0 : Nat) + Int.toNat (IntKind.wrap IntKind.i64 (q - (1 : Int)))) default)) (.val (I.p (List.getD xs ((0 : Nat) + Int.toNat q) default)) (.mask [1, 2, 7, 8, 9, 10, 11, 12, 13, 14, 15, 16, 17, 18, 19, 20, 21, 22, 23, 24, 25, 26, 27, 28, 29, 30, 31, 32, 33, 34, 35, 36, 37, 38, 39, 40, 41, 42, 43, 44, 45, 46, 47, 48, 49, 50, 51, 52, 53, 54, 55, 56, 57, 58, 59, 60, 61, 62, 63, 64, 65, 66, 67, 68, 69, 70, 71, 72, 73, 74, 75, 76, 77, 78, 79, 80, 81, 82, 83, 84, 85, 86, 87, 88, 89, 90, 91, 92, 93, 94, 95, 96, 97, 98, 99, 100, 101, 102, 103, 104, 105, 106, 107, 108, 109, 110, 111, 112, 113, 114, 115, 116, 117, 118, 119, 120, 121, 122, 123, 124, 125, 126, 127, 128, 129] [44, 127, 128]))) (.val (I.p (List.getD l (Int.toNat i) default)) (.val (I.p (List.getD xs ((0 : Nat) + Int.toNat p) default)) (.mask [1, 2, 5, 6, 7, 8, 9, 10, 11, 12, 13, 14, 15, 16, 17, 18, 19, 20, 21, 22, 23, 24, 25, 26, 27, 28, 29, 30, 31, 32, 33, 34, 35, 36, 37, 38, 39, 40, 41, 42, 43, 44, 45, 46, 47, 48, 49, 50, 51, 52, 53, 54, 55, 56, 57, 58, 59, 60, 61, 62, 63, 64, 65, 66, 67, 68, 69, 70, 71, 72, 73, 74, 75, 76, 77, 78, 79, 80, 81, 82, 83, 84, 85, 86, 87, 88, 89, 90, 91, 92, 93, 94, 95, 96, 97, 98, 99, 100, 101, 102, 103, 104, 105, 106, 107, 108, 109, 110, 111, 112, 113, 114, 115, 116, 117, 118, 119, 120, 121, 122, 123, 124, 125, 126, 127, 128, 129] [44, 127, 128])))) (ref08_join_S2 l k nl full i p q gm n (List.map I.p xs) j jr g) =
  (((decide (q > p)) = true →
   (gm = gm) ∧
   (((0 : Int) ≤ IntKind.wrap IntKind.i64 (q - (1 : Int))) ∧ ((IntKind.wrap IntKind.i64 (q - (1 : Int)) < (↑n : Int)) ∧ ((11 : Nat) = 11))) ∧
   (gm = gm) ∧
   (((List.map I.p xs)[(0 : Nat) + Int.toNat (IntKind.wrap IntKind.i64 (q - (1 : Int)))]?) = some (I.p (List.getD xs ((0 : Nat) + Int.toNat (IntKind.wrap IntKind.i64 (q - (1 : Int)))) default))) ∧
   (gm = gm) ∧
   (((0 : Int) ≤ q) ∧ ((q < (↑n : Int)) ∧ ((11 : Nat) = 11))) ∧
   (gm = gm) ∧
   (gm = gm) ∧
   (((List.map I.p xs)[(0 : Nat) + Int.toNat q]?) = some (I.p (List.getD xs ((0 : Nat) + Int.toNat q) default))) ∧
   (∀ (j' : Nat → AV) (jr' : Nat → Row) (g' : Nat), LoopAt E1 Tryz.f58 r 2 (ref08_join_S2 l k nl full i p (IntKind.wrap IntKind.i64 (q - (1 : Int))) gm n (List.set (List.map I.p xs) ((0 : Nat) + Int.toNat q) (PV.agg [PV.lit (Value.int IntKind.u32 (V.a (I.lo (List.getD xs ((0 : Nat) + Int.toNat (IntKind.wrap IntKind.i64 (q - (1 : Int)))) default)))), PV.lit (Value.int IntKind.u32 (V.b (I.lo (List.getD xs ((0 : Nat) + Int.toNat (IntKind.wrap IntKind.i64 (q - (1 : Int)))) default)))), PV.lit (Value.int IntKind.u32 (V.c (I.lo (List.getD xs ((0 : Nat) + Int.toNat (IntKind.wrap IntKind.i64 (q - (1 : Int)))) default)))), PV.sl (V.k (I.lo (List.getD xs ((0 : Nat) + Int.toNat (IntKind.wrap IntKind.i64 (q - (1 : Int)))) default))) (V.nl (I.lo (List.getD xs ((0 : Nat) + Int.toNat (IntKind.wrap IntKind.i64 (q - (1 : Int)))) default))) (V.full (I.lo (List.getD xs ((0 : Nat) + Int.toNat (IntKind.wrap IntKind.i64 (q - (1 : Int)))) default))) (List.map strP (V.pre (I.lo (List.getD xs ((0 : Nat) + Int.toNat (IntKind.wrap IntKind.i64 (q - (1 : Int)))) default)))), PV.lit (Value.bool (I.lopen (List.getD xs ((0 : Nat) + Int.toNat (IntKind.wrap IntKind.i64 (q - (1 : Int)))) default))), PV.lit (Value.int IntKind.u32 (V.a (I.hi (List.getD xs ((0 : Nat) + Int.toNat (IntKind.wrap IntKind.i64 (q - (1 : Int)))) default)))), PV.lit (Value.int IntKind.u32 (V.b (I.hi (List.getD xs ((0 : Nat) + Int.toNat (IntKind.wrap IntKind.i64 (q - (1 : Int)))) default)))), PV.lit (Value.int IntKind.u32 (V.c (I.hi (List.getD xs ((0 : Nat) + Int.toNat (IntKind.wrap IntKind.i64 (q - (1 : Int)))) default)))), PV.sl (V.k (I.hi (List.getD xs ((0 : Nat) + Int.toNat (IntKind.wrap IntKind.i64 (q - (1 : Int)))) default))) (V.nl (I.hi (List.getD xs ((0 : Nat) + Int.toNat (IntKind.wrap IntKind.i64 (q - (1 : Int)))) default))) (V.full (I.hi (List.getD xs ((0 : Nat) + Int.toNat (IntKind.wrap IntKind.i64 (q - (1 : Int)))) default))) (List.map strP (V.pre (I.hi (List.getD xs ((0 : Nat) + Int.toNat (IntKind.wrap IntKind.i64 (q - (1 : Int)))) default)))), PV.lit (Value.bool (I.hopen (List.getD xs ((0 : Nat) + Int.toNat (IntKind.wrap IntKind.i64 (q - (1 : Int)))) default))), PV.lit (Value.bool (I.less (List.getD xs ((0 : Nat) + Int.toNat (IntKind.wrap IntKind.i64 (q - (1 : Int)))) default)))])) j' jr' g'))) ∧
  ((decide (q > p)) = false →
   (((0 : Int) ≤ i) ∧ ((nl = false) ∧ (k = 11))) ∧
   (((List.map I.p l)[Int.toNat i]?) = some (I.p (List.getD l (Int.toNat i) default))) ∧
   (gm = gm) ∧
   (((0 : Int) ≤ p) ∧ ((p < (↑n : Int)) ∧ ((11 : Nat) = 11))) ∧
   (gm = gm) ∧
   (gm = gm) ∧
   (((List.map I.p xs)[(0 : Nat) + Int.toNat p]?) = some (I.p (List.getD xs ((0 : Nat) + Int.toNat p) default))) ∧
   (∀ (j' : Nat → AV) (jr' : Nat → Row) (g' : Nat), LoopAt E1 Tryz.f58 r 0 (ref08_join_S3 l k nl full (IntKind.wrap IntKind.i64 (i + (1 : Int))) gm n (List.set (List.map I.p xs) ((0 : Nat) + Int.toNat p) (PV.agg [PV.lit (Value.int IntKind.u32 (V.a (I.lo (List.getD l (Int.toNat i) default)))), PV.lit (Value.int IntKind.u32 (V.b (I.lo (List.getD l (Int.toNat i) default)))), PV.lit (Value.int IntKind.u32 (V.c (I.lo (List.getD l (Int.toNat i) default)))), PV.sl (V.k (I.lo (List.getD l (Int.toNat i) default))) (V.nl (I.lo (List.getD l (Int.toNat i) default))) (V.full (I.lo (List.getD l (Int.toNat i) default))) (List.map strP (V.pre (I.lo (List.getD l (Int.toNat i) default)))), PV.lit (Value.bool (I.lopen (List.getD l (Int.toNat i) default))), PV.lit (Value.int IntKind.u32 (V.a (I.hi (List.getD l (Int.toNat i) default)))), PV.lit (Value.int IntKind.u32 (V.b (I.hi (List.getD l (Int.toNat i) default)))), PV.lit (Value.int IntKind.u32 (V.c (I.hi (List.getD l (Int.toNat i) default)))), PV.sl (V.k (I.hi (List.getD l (Int.toNat i) default))) (V.nl (I.hi (List.getD l (Int.toNat i) default))) (V.full (I.hi (List.getD l (Int.toNat i) default))) (List.map strP (V.pre (I.hi (List.getD l (Int.toNat i) default)))), PV.lit (Value.bool (I.hopen (List.getD l (Int.toNat i) default))), PV.lit (Value.bool (I.less (List.getD l (Int.toNat i) default)))])) j' jr' g')))) := by kernel_rfl
theorem ref08_join_go_S3 (l : List I) (k : Nat) (nl : Bool) (full : Bool) (i : Int) (gm : Nat) (n : Nat) (xs : List I) (j : Nat → AV) (jr : Nat → Row) (g : Nat) (r : PV) : LoopGo E1 Tryz.f58 r 0 2000 (.fork (.val (I.p (List.getD l (Int.toNat i) default)) (.res (bolP (emptyI (List.getD l (Int.toNat i) default))) (.fork (.mask [1, 2, 5, 6, 7, 8, 9, 10, 11, 12, 13, 14, 15, 16, 17, 18, 19, 20, 21, 22, 23, 24, 25, 26, 27, 28, 29, 30, 31, 32, 33, 34, 35, 36, 37, 38, 39, 40, 41, 42, 43, 44, 45, 46, 47, 48, 49, 50, 51, 52, 53, 54, 55, 56, 57, 58, 59, 60, 61, 62, 63, 64, 65, 66, 67, 68, 69, 70, 71, 72, 73, 74, 75, 76, 77, 78, 79, 80, 81, 82, 83, 84, 85, 86, 87, 88, 89, 90, 91, 92, 93, 94, 95, 96, 97, 98, 99, 100, 101, 102, 103, 104, 105, 106, 107, 108, 109, 110, 111, 112, 113, 114, 115, 116, 117, 118, 119, 120, 121, 122, 123, 124, 125, 126, 127, 128, 129] [44, 127, 128]) (.mask [1, 2, 6, 7, 8, 9, 10, 11, 12, 13, 14, 15, 16, 17, 18, 19, 20, 21, 22, 23, 24, 25, 26, 27, 28, 29, 30, 31, 32, 33, 34, 35, 36, 37, 38, 39, 40, 41, 42, 43, 44, 45, 46, 47, 48, 49, 50, 51, 52, 53, 54, 55, 56, 57, 58, 59, 60, 61, 62, 63, 64, 65, 66, 67, 68, 69, 70, 71, 72, 73, 74, 75, 76, 77, 78, 79, 80, 81, 82, 83, 84, 85, 86, 87, 88, 89, 90, 91, 92, 93, 94, 95, 96, 97, 98, 99, 100, 101, 102, 103, 104, 105, 106, 107, 108, 109, 110, 111, 112, 113, 114, 115, 116, 117, 118, 119, 120, 121, 122, 123, 124, 125, 126, 127, 128, 129] [44, 127, 128])))) (.mask [0, 1, 2, 4, 5, 6, 9, 10, 11, 12, 13, 14, 15, 16, 17, 18, 19, 20, 21, 22, 23, 24, 25, 26, 27, 28, 29, 30, 31, 32, 33, 34, 35, 36, 37, 38, 39, 40, 41, 42, 43, 44, 45, 46, 47, 48, 49, 50, 51, 52, 53, 54, 55, 56, 57, 58, 59, 60, 61, 62, 63, 64, 65, 66, 67, 68, 69, 70, 71, 72, 73, 74, 75, 76, 77, 78, 79, 80, 81, 82, 83, 84, 85, 86, 87, 88, 89, 90, 91, 92, 93, 94, 95, 96, 97, 98, 99, 100, 101, 102, 103, 104, 105, 106, 107, 108, 109, 110, 111, 112, 113, 114, 115, 116, 117, 118, 119, 120, 121, 122, 123, 124, 125, 126, 127, 128, 129] [44, 127])) (ref08_join_S3 l k nl full i gm n (List.map I.p xs) j jr g) =
  (((decide (i < (↑(List.length (List.map I.p l)) : Int))) = true →
   (((0 : Int) ≤ i) ∧ ((nl = false) ∧ (k = 11))) ∧
   (((List.map I.p l)[Int.toNat i]?) = some (I.p (List.getD l (Int.toNat i) default))) ∧
   (Den E1 43 [I.p (List.getD l (Int.toNat i) default)] (bolP (emptyI (List.getD l (Int.toNat i) default)))) ∧
   ((emptyI (List.getD l (Int.toNat i) default)) = true →
    ∀ (j' : Nat → AV) (jr' : Nat → Row) (g' : Nat), LoopAt E1 Tryz.f58 r 0 (ref08_join_S3 l k nl full (IntKind.wrap IntKind.i64 (i + (1 : Int))) gm n (List.map I.p xs) j' jr' g')) ∧
   ((emptyI (List.getD l (Int.toNat i) default)) = false →
    ∀ (j' : Nat → AV) (jr' : Nat → Row) (g' : Nat), LoopAt E1 Tryz.f58 r 1 (ref08_join_S4 l k nl full i ((↑n : Int)) gm n (List.map I.p xs) j' jr' g'))) ∧
  ((decide (i < (↑(List.length (List.map I.p l)) : Int))) = false →
   ∀ (j' : Nat → AV) (jr' : Nat → Row) (g' : Nat), LoopAt E1 Tryz.f58 r 3 (ref08_join_S6 l k nl full 0 gm n (List.map I.p xs) (jr (128 : Nat)) j' jr' g'))) := by kernel_rfl
theorem ref08_join_go_S4 (l : List I) (k : Nat) (nl : Bool) (full : Bool) (i : Int) (p : Int) (gm : Nat) (n : Nat) (xs : List I) (j : Nat → AV) (jr : Nat → Row) (g : Nat) (r : PV) : LoopGo E1 Tryz.f58 r 1 2000 (.fork (.lit (.lit (.lit (.lit (.lit (.lit (.val (I.p (List.getD xs ((0 : Nat) + Int.toNat (IntKind.wrap IntKind.i64 (p - (1 : Int)))) default)) (.lit (.lit (.lit (.val (I.p (List.getD l (Int.toNat i) default)) (.lit (.lit (.lit (.res (intP (lowB { v := I.lo (List.getD xs ((0 : Nat) + Int.toNat (IntKind.wrap IntKind.i64 (p - (1 : Int)))) default), op := I.lopen (List.getD xs ((0 : Nat) + Int.toNat (IntKind.wrap IntKind.i64 (p - (1 : Int)))) default) } { v := I.lo (List.getD l (Int.toNat i) default), op := I.lopen (List.getD l (Int.toNat i) default) })) (.lit (.lit (.fork (.mask [1, 2, 6, 7, 8, 9, 10, 11, 12, 13, 14, 15, 16, 17, 18, 19, 20, 21, 22, 23, 24, 25, 26, 27, 28, 29, 30, 31, 32, 33, 34, 35, 36, 37, 38, 39, 40, 41, 42, 43, 44, 45, 46, 47, 48, 49, 50, 51, 52, 53, 54, 55, 56, 57, 58, 59, 60, 61, 62, 63, 64, 65, 66, 67, 68, 69, 70, 71, 72, 73, 74, 75, 76, 77, 78, 79, 80, 81, 82, 83, 84, 85, 86, 87, 88, 89, 90, 91, 92, 93, 94, 95, 96, 97, 98, 99, 100, 101, 102, 103, 104, 105, 106, 107, 108, 109, 110, 111, 112, 113, 114, 115, 116, 117, 118, 119, 120, 121, 122, 123, 124, 125, 126, 127, 128, 129] [44, 127, 128]) (.lit (.mask [1, 2, 7, 8, 9, 10, 11, 12, 13, 14, 15, 16, 17, 18, 19, 20, 21, 22, 23, 24, 25, 26, 27, 28, 29, 30, 31, 32, 33, 34, 35, 36, 37, 38, 39, 40, 41, 42, 43, 44, 45, 46, 47, 48, 49, 50, 51, 52, 53, 54, 55, 56, 57, 58, 59, 60, 61, 62, 63, 64, 65, 66, 67, 68, 69, 70, 71, 72, 73, 74, 75, 76, 77, 78, 79, 80, 81, 82, 83, 84, 85, 86, 87, 88, 89, 90, 91, 92, 93, 94, 95, 96, 97, 98, 99, 100, 101, 102, 103, 104, 105, 106, 107, 108, 109, 110, 111, 112, 113, 114, 115, 116, 117, 118, 119, 120, 121, 122, 123, 124, 125, 126, 127, 128, 129] [44, 127, 128])))))))))))))))))))) (.lit (.lit (.lit (.lit (.lit (.lit (.lit (.lit (.lit (.lit (.lit (.lit (.lit (.lit (.lit (.lit (.mask [1, 2, 7, 8, 9, 10, 11, 12, 13, 14, 15, 16, 17, 18, 19, 20, 21, 22, 23, 24, 25, 26, 27, 28, 29, 30, 31, 32, 33, 34, 35, 36, 37, 38, 39, 40, 41, 42, 43, 44, 45, 46, 47, 48, 49, 50, 51, 52, 53, 54, 55, 56, 57, 58, 59, 60, 61, 62, 63, 64, 65, 66, 67, 68, 69, 70, 71, 72, 73, 74, 75, 76, 77, 78, 79, 80, 81, 82, 83, 84, 85, 86, 87, 88, 89, 90, 91, 92, 93, 94, 95, 96, 97, 98, 99, 100, 101, 102, 103, 104, 105, 106, 107, 108, 109, 110, 111, 112, 113, 114, 115, 116, 117, 118, 119, 120, 121, 122, 123, 124, 125, 126, 127, 128, 129] [44, 127, 128])))))))))))))))))) (ref08_join_S4 l k nl full i p gm n (List.map I.p xs) j jr g) =
  (((decide (p > (0 : Int))) = true →
   (gm = gm) ∧
   (((0 : Int) ≤ IntKind.wrap IntKind.i64 (p - (1 : Int))) ∧ ((IntKind.wrap IntKind.i64 (p - (1 : Int)) < (↑n : Int)) ∧ ((11 : Nat) = 11))) ∧
   (gm = gm) ∧
   (((List.map I.p xs)[(0 : Nat) + Int.toNat (IntKind.wrap IntKind.i64 (p - (1 : Int)))]?) = some (I.p (List.getD xs ((0 : Nat) + Int.toNat (IntKind.wrap IntKind.i64 (p - (1 : Int)))) default))) ∧
   (((0 : Int) ≤ i) ∧ ((nl = false) ∧ (k = 11))) ∧
   (((List.map I.p l)[Int.toNat i]?) = some (I.p (List.getD l (Int.toNat i) default))) ∧
   (Den E1 44 [bndP (V.a (I.lo (List.getD xs ((0 : Nat) + Int.toNat (IntKind.wrap IntKind.i64 (p - (1 : Int)))) default))) (V.b (I.lo (List.getD xs ((0 : Nat) + Int.toNat (IntKind.wrap IntKind.i64 (p - (1 : Int)))) default))) (V.c (I.lo (List.getD xs ((0 : Nat) + Int.toNat (IntKind.wrap IntKind.i64 (p - (1 : Int)))) default))) (.sl (V.k (I.lo (List.getD xs ((0 : Nat) + Int.toNat (IntKind.wrap IntKind.i64 (p - (1 : Int)))) default))) (V.nl (I.lo (List.getD xs ((0 : Nat) + Int.toNat (IntKind.wrap IntKind.i64 (p - (1 : Int)))) default))) (V.full (I.lo (List.getD xs ((0 : Nat) + Int.toNat (IntKind.wrap IntKind.i64 (p - (1 : Int)))) default))) (List.map strP (V.pre (I.lo (List.getD xs ((0 : Nat) + Int.toNat (IntKind.wrap IntKind.i64 (p - (1 : Int)))) default))))) (I.lopen (List.getD xs ((0 : Nat) + Int.toNat (IntKind.wrap IntKind.i64 (p - (1 : Int)))) default)), bndP (V.a (I.lo (List.getD l (Int.toNat i) default))) (V.b (I.lo (List.getD l (Int.toNat i) default))) (V.c (I.lo (List.getD l (Int.toNat i) default))) (.sl (V.k (I.lo (List.getD l (Int.toNat i) default))) (V.nl (I.lo (List.getD l (Int.toNat i) default))) (V.full (I.lo (List.getD l (Int.toNat i) default))) (List.map strP (V.pre (I.lo (List.getD l (Int.toNat i) default))))) (I.lopen (List.getD l (Int.toNat i) default))] (intP (lowB { v := I.lo (List.getD xs ((0 : Nat) + Int.toNat (IntKind.wrap IntKind.i64 (p - (1 : Int)))) default), op := I.lopen (List.getD xs ((0 : Nat) + Int.toNat (IntKind.wrap IntKind.i64 (p - (1 : Int)))) default) } { v := I.lo (List.getD l (Int.toNat i) default), op := I.lopen (List.getD l (Int.toNat i) default) }))) ∧
   ((decide (lowB { v := I.lo (List.getD xs ((0 : Nat) + Int.toNat (IntKind.wrap IntKind.i64 (p - (1 : Int)))) default), op := I.lopen (List.getD xs ((0 : Nat) + Int.toNat (IntKind.wrap IntKind.i64 (p - (1 : Int)))) default) } { v := I.lo (List.getD l (Int.toNat i) default), op := I.lopen (List.getD l (Int.toNat i) default) } > (0 : Int))) = true →
    ∀ (j' : Nat → AV) (jr' : Nat → Row) (g' : Nat), LoopAt E1 Tryz.f58 r 1 (ref08_join_S4 l k nl full i (IntKind.wrap IntKind.i64 (p - (1 : Int))) gm n (List.map I.p xs) j' jr' g')) ∧
   ((decide (lowB { v := I.lo (List.getD xs ((0 : Nat) + Int.toNat (IntKind.wrap IntKind.i64 (p - (1 : Int)))) default), op := I.lopen (List.getD xs ((0 : Nat) + Int.toNat (IntKind.wrap IntKind.i64 (p - (1 : Int)))) default) } { v := I.lo (List.getD l (Int.toNat i) default), op := I.lopen (List.getD l (Int.toNat i) default) } > (0 : Int))) = false →
    ((g + (17 : Nat) + (2 : Nat)) = g + (17 : Nat) + (2 : Nat)) ∧
    (((11 : Nat) = 11) ∧ ((1 : Nat) ≤ (1 : Nat))) ∧
    (gm = gm) ∧
    ((false = false) ∧ (((11 : Nat) = 11) ∧ (((63 : Nat) = 63) ∧ ((((0 : Nat) + n) = List.length (List.map I.p xs)) ∧ ((fitsRow (n + (1 : Nat)) (104 : Nat)) = true))))) ∧
    (∀ (j' : Nat → AV) (jr' : Nat → Row) (g' : Nat), LoopAt E1 Tryz.f58 r 2 (ref08_join_S2 l k nl full i p (IntKind.wrap IntKind.i64 ((↑(n + (1 : Nat)) : Int) - (1 : Int))) (g + (17 : Nat) + (3 : Nat)) (n + (1 : Nat)) (List.drop (0 : Nat) (List.map I.p xs) ++ List.take (1 : Nat) (List.drop (0 : Nat) [PV.agg [PV.lit (Value.int IntKind.u32 (0 : Int)), PV.lit (Value.int IntKind.u32 (0 : Int)), PV.lit (Value.int IntKind.u32 (0 : Int)), PV.sl (0 : Nat) true true [], PV.lit (Value.bool false), PV.lit (Value.int IntKind.u32 (0 : Int)), PV.lit (Value.int IntKind.u32 (0 : Int)), PV.lit (Value.int IntKind.u32 (0 : Int)), PV.sl (0 : Nat) true true [], PV.lit (Value.bool false), PV.lit (Value.bool false)]])) j' jr' g')))) ∧
  ((decide (p > (0 : Int))) = false →
   ((g + (17 : Nat) + (2 : Nat)) = g + (17 : Nat) + (2 : Nat)) ∧
   (((11 : Nat) = 11) ∧ ((1 : Nat) ≤ (1 : Nat))) ∧
   (gm = gm) ∧
   ((false = false) ∧ (((11 : Nat) = 11) ∧ (((63 : Nat) = 63) ∧ ((((0 : Nat) + n) = List.length (List.map I.p xs)) ∧ ((fitsRow (n + (1 : Nat)) (104 : Nat)) = true))))) ∧
   (∀ (j' : Nat → AV) (jr' : Nat → Row) (g' : Nat), LoopAt E1 Tryz.f58 r 2 (ref08_join_S2 l k nl full i p (IntKind.wrap IntKind.i64 ((↑(n + (1 : Nat)) : Int) - (1 : Int))) (g + (17 : Nat) + (3 : Nat)) (n + (1 : Nat)) (List.drop (0 : Nat) (List.map I.p xs) ++ List.take (1 : Nat) (List.drop (0 : Nat) [PV.agg [PV.lit (Value.int IntKind.u32 (0 : Int)), PV.lit (Value.int IntKind.u32 (0 : Int)), PV.lit (Value.int IntKind.u32 (0 : Int)), PV.sl (0 : Nat) true true [], PV.lit (Value.bool false), PV.lit (Value.int IntKind.u32 (0 : Int)), PV.lit (Value.int IntKind.u32 (0 : Int)), PV.lit (Value.int IntKind.u32 (0 : Int)), PV.sl (0 : Nat) true true [], PV.lit (Value.bool false), PV.lit (Value.bool false)]])) j' jr' g')))) := by kernel_rfl
theorem ref08_join_go_S5 (l : List I) (k : Nat) (nl : Bool) (full : Bool) (z : Row) (j : Nat → AV) (jr : Nat → Row) (g : Nat) (r : PV) : LoopGo E1 Tryz.f58 r 3 2000 (.lit (.hole 0)) (ref08_join_S5 l k nl full z j jr g) =
  (((.sl 0 true true []) : PV) = r) := by kernel_rfl
theorem ref08_join_go_S6 (l : List I) (k : Nat) (nl : Bool) (full : Bool) (i : Int) (gm : Nat) (n : Nat) (xs : List I) (z : Row) (j : Nat → AV) (jr : Nat → Row) (g : Nat) (r : PV) : LoopGo E1 Tryz.f58 r 3 2000 (.fork (.lit (.lit (.lit (.lit (.lit (.lit (.lit (.lit (.lit (.lit (.lit (.lit (.lit (.val (I.p (List.getD xs ((0 : Nat) + Int.toNat i) default)) (.lit (.lit (.mask [0, 1, 2, 4, 5, 6, 9, 10, 11, 12, 13, 14, 15, 16, 17, 18, 19, 20, 21, 22, 23, 24, 25, 26, 27, 28, 29, 30, 31, 32, 33, 34, 35, 36, 37, 38, 39, 40, 41, 42, 43, 44, 45, 46, 47, 48, 49, 50, 51, 52, 53, 54, 55, 56, 57, 58, 59, 60, 61, 62, 63, 64, 65, 66, 67, 68, 69, 70, 71, 72, 73, 74, 75, 76, 77, 78, 79, 80, 81, 82, 83, 84, 85, 86, 87, 88, 89, 90, 91, 92, 93, 94, 95, 96, 97, 98, 99, 100, 101, 102, 103, 104, 105, 106, 107, 108, 109, 110, 111, 112, 113, 114, 115, 116, 117, 118, 119, 120, 121, 122, 123, 124, 125, 126, 127, 128, 129] [44, 127]))))))))))))))))) (.hole 0)) (ref08_join_S6 l k nl full i gm n (List.map I.p xs) z j jr g) =
  (((decide (i < (↑n : Int))) = true →
   (gm = gm) ∧
   (((0 : Int) ≤ i) ∧ ((i < (↑n : Int)) ∧ ((11 : Nat) = 11))) ∧
   (gm = gm) ∧
   (((List.map I.p xs)[(0 : Nat) + Int.toNat i]?) = some (I.p (List.getD xs ((0 : Nat) + Int.toNat i) default))) ∧
   ((g + (4 : Nat) + (3 : Nat) + (14 : Nat) + (5 : Nat)) = g + (4 : Nat) + (3 : Nat) + (14 : Nat) + (5 : Nat)) ∧
   (((11 : Nat) = 11) ∧ ((1 : Nat) ≤ (1 : Nat))) ∧
   (((0 : Nat) = 0) ∧ (true = true)) ∧
   (∀ (j' : Nat → AV) (jr' : Nat → Row) (g' : Nat), LoopAt E1 Tryz.f58 r 3 (ref08_join_S7 l k nl full (IntKind.wrap IntKind.i64 (i + (1 : Int))) gm n (g + (4 : Nat) + (3 : Nat) + (14 : Nat) + (6 : Nat)) 1 (List.map I.p xs) [I.p (List.getD xs ((0 : Nat) + Int.toNat i) default)] j' jr' g'))) ∧
  ((decide (i < (↑n : Int))) = false →
   ((.sl 0 true true []) : PV) = r)) := by kernel_rfl
theorem ref08_join_go_S7 (l : List I) (k : Nat) (nl : Bool) (full : Bool) (i : Int) (gm : Nat) (n : Nat) (go : Nat) (m : Nat) (xs : List I) (ys : List I) (j : Nat → AV) (jr : Nat → Row) (g : Nat) (r : PV) : LoopGo E1 Tryz.f58 r 3 2000 (.fork (.fork (.lit (.lit (.lit (.lit (.lit (.val (I.p (List.getD ys ((0 : Nat) + Int.toNat (IntKind.wrap IntKind.i64 ((↑m : Int) - (1 : Int)))) default)) (.lit (.lit (.lit (.lit (.val (I.p (List.getD xs ((0 : Nat) + Int.toNat i) default)) (.lit (.res (bolP (touchI (List.getD ys ((0 : Nat) + Int.toNat (IntKind.wrap IntKind.i64 ((↑m : Int) - (1 : Int)))) default) (List.getD xs ((0 : Nat) + Int.toNat i) default))) (.lit (.fork (.val (I.p (List.getD ys ((0 : Nat) + Int.toNat (IntKind.wrap IntKind.i64 ((↑m : Int) - (1 : Int)))) default)) (.val (I.p (List.getD xs ((0 : Nat) + Int.toNat i) default)) (.res (intP (highI (List.getD ys ((0 : Nat) + Int.toNat (IntKind.wrap IntKind.i64 ((↑m : Int) - (1 : Int)))) default) (List.getD xs ((0 : Nat) + Int.toNat i) default))) (.fork (.val (I.p (List.getD xs ((0 : Nat) + Int.toNat i) default)) (.val (I.p (List.getD ys ((0 : Nat) + Int.toNat (IntKind.wrap IntKind.i64 ((↑m : Int) - (1 : Int)))) default)) (.val (I.p (List.getD xs ((0 : Nat) + Int.toNat i) default)) (.val (itvP (V.a (I.lo (List.getD ys ((0 : Nat) + Int.toNat (IntKind.wrap IntKind.i64 ((↑m : Int) - (1 : Int)))) default))) (V.b (I.lo (List.getD ys ((0 : Nat) + Int.toNat (IntKind.wrap IntKind.i64 ((↑m : Int) - (1 : Int)))) default))) (V.c (I.lo (List.getD ys ((0 : Nat) + Int.toNat (IntKind.wrap IntKind.i64 ((↑m : Int) - (1 : Int)))) default))) (.sl (V.k (I.lo (List.getD ys ((0 : Nat) + Int.toNat (IntKind.wrap IntKind.i64 ((↑m : Int) - (1 : Int)))) default))) (V.nl (I.lo (List.getD ys ((0 : Nat) + Int.toNat (IntKind.wrap IntKind.i64 ((↑m : Int) - (1 : Int)))) default))) (V.full (I.lo (List.getD ys ((0 : Nat) + Int.toNat (IntKind.wrap IntKind.i64 ((↑m : Int) - (1 : Int)))) default))) (List.map strP (V.pre (I.lo (List.getD ys ((0 : Nat) + Int.toNat (IntKind.wrap IntKind.i64 ((↑m : Int) - (1 : Int)))) default))))) (I.lopen (List.getD ys ((0 : Nat) + Int.toNat (IntKind.wrap IntKind.i64 ((↑m : Int) - (1 : Int)))) default)) (V.a (I.hi (List.getD xs ((0 : Nat) + Int.toNat i) default))) (V.b (I.hi (List.getD xs ((0 : Nat) + Int.toNat i) default))) (V.c (I.hi (List.getD xs ((0 : Nat) + Int.toNat i) default))) (.sl (V.k (I.hi (List.getD xs ((0 : Nat) + Int.toNat i) default))) (V.nl (I.hi (List.getD xs ((0 : Nat) + Int.toNat i) default))) (V.full (I.hi (List.getD xs ((0 : Nat) + Int.toNat i) default))) (List.map strP (V.pre (I.hi (List.getD xs ((0 : Nat) + Int.toNat i) default))))) (I.hopen (List.getD xs ((0 : Nat) + Int.toNat i) default)) (I.less (List.getD ys ((0 : Nat) + Int.toNat (IntKind.wrap IntKind.i64 ((↑m : Int) - (1 : Int)))) default))) (.mask [0, 1, 2, 4, 5, 6, 9, 10, 11, 12, 13, 14, 15, 16, 17, 18, 19, 20, 21, 22, 23, 24, 25, 26, 27, 28, 29, 30, 31, 32, 33, 34, 35, 36, 37, 38, 39, 40, 41, 42, 43, 44, 45, 46, 47, 48, 49, 50, 51, 52, 53, 54, 55, 56, 57, 58, 59, 60, 61, 62, 63, 64, 65, 66, 67, 68, 69, 70, 71, 72, 73, 74, 75, 76, 77, 78, 79, 80, 81, 82, 83, 84, 85, 86, 87, 88, 89, 90, 91, 92, 93, 94, 95, 96, 97, 98, 99, 100, 101, 102, 103, 104, 105, 106, 107, 108, 109, 110, 111, 112, 113, 114, 115, 116, 117, 118, 119, 120, 121, 122, 123, 124, 125, 126, 127, 128, 129] [44, 127]))))) (.mask [0, 1, 2, 4, 5, 6, 9, 10, 11, 12, 13, 14, 15, 16, 17, 18, 19, 20, 21, 22, 23, 24, 25, 26, 27, 28, 29, 30, 31, 32, 33, 34, 35, 36, 37, 38, 39, 40, 41, 42, 43, 44, 45, 46, 47, 48, 49, 50, 51, 52, 53, 54, 55, 56, 57, 58, 59, 60, 61, 62, 63, 64, 65, 66, 67, 68, 69, 70, 71, 72, 73, 74, 75, 76, 77, 78, 79, 80, 81, 82, 83, 84, 85, 86, 87, 88, 89, 90, 91, 92, 93, 94, 95, 96, 97, 98, 99, 100, 101, 102, 103, 104, 105, 106, 107, 108, 109, 110, 111, 112, 113, 114, 115, 116, 117, 118, 119, 120, 121, 122, 123, 124, 125, 126, 127, 128, 129] [44, 127]))))) (.val (I.p (List.getD xs ((0 : Nat) + Int.toNat i) default)) (.lit (.mask [0, 1, 2, 4, 5, 6, 9, 10, 11, 12, 13, 14, 15, 16, 17, 18, 19, 20, 21, 22, 23, 24, 25, 26, 27, 28, 29, 30, 31, 32, 33, 34, 35, 36, 37, 38, 39, 40, 41, 42, 43, 44, 45, 46, 47, 48, 49, 50, 51, 52, 53, 54, 55, 56, 57, 58, 59, 60, 61, 62, 63, 64, 65, 66, 67, 68, 69, 70, 71, 72, 73, 74, 75, 76, 77, 78, 79, 80, 81, 82, 83, 84, 85, 86, 87, 88, 89, 90, 91, 92, 93, 94, 95, 96, 97, 98, 99, 100, 101, 102, 103, 104, 105, 106, 107, 108, 109, 110, 111, 112, 113, 114, 115, 116, 117, 118, 119, 120, 121, 122, 123, 124, 125, 126, 127, 128, 129] [44, 127])))))))))))))))))) (.lit (.lit (.lit (.lit (.lit (.lit (.lit (.lit (.lit (.lit (.lit (.lit (.val (I.p (List.getD xs ((0 : Nat) + Int.toNat i) default)) (.lit (.mask [0, 1, 2, 4, 5, 6, 9, 10, 11, 12, 13, 14, 15, 16, 17, 18, 19, 20, 21, 22, 23, 24, 25, 26, 27, 28, 29, 30, 31, 32, 33, 34, 35, 36, 37, 38, 39, 40, 41, 42, 43, 44, 45, 46, 47, 48, 49, 50, 51, 52, 53, 54, 55, 56, 57, 58, 59, 60, 61, 62, 63, 64, 65, 66, 67, 68, 69, 70, 71, 72, 73, 74, 75, 76, 77, 78, 79, 80, 81, 82, 83, 84, 85, 86, 87, 88, 89, 90, 91, 92, 93, 94, 95, 96, 97, 98, 99, 100, 101, 102, 103, 104, 105, 106, 107, 108, 109, 110, 111, 112, 113, 114, 115, 116, 117, 118, 119, 120, 121, 122, 123, 124, 125, 126, 127, 128, 129] [44, 127])))))))))))))))) (.hole 0)) (ref08_join_S7 l k nl full i gm n go m (List.map I.p xs) (List.map I.p ys) j jr g) =
  (((decide (i < (↑n : Int))) = true →
   ((decide ((↑m : Int) > (0 : Int))) = true →
    (go = go) ∧
    (((0 : Int) ≤ IntKind.wrap IntKind.i64 ((↑m : Int) - (1 : Int))) ∧ ((IntKind.wrap IntKind.i64 ((↑m : Int) - (1 : Int)) < (↑m : Int)) ∧ ((11 : Nat) = 11))) ∧
    (go = go) ∧
    (((List.map I.p ys)[(0 : Nat) + Int.toNat (IntKind.wrap IntKind.i64 ((↑m : Int) - (1 : Int)))]?) = some (I.p (List.getD ys ((0 : Nat) + Int.toNat (IntKind.wrap IntKind.i64 ((↑m : Int) - (1 : Int)))) default))) ∧
    (gm = gm) ∧
    (((0 : Int) ≤ i) ∧ ((i < (↑n : Int)) ∧ ((11 : Nat) = 11))) ∧
    (gm = gm) ∧
    (((List.map I.p xs)[(0 : Nat) + Int.toNat i]?) = some (I.p (List.getD xs ((0 : Nat) + Int.toNat i) default))) ∧
    (Den E1 45 [I.p (List.getD ys ((0 : Nat) + Int.toNat (IntKind.wrap IntKind.i64 ((↑m : Int) - (1 : Int)))) default), I.p (List.getD xs ((0 : Nat) + Int.toNat i) default)] (bolP (touchI (List.getD ys ((0 : Nat) + Int.toNat (IntKind.wrap IntKind.i64 ((↑m : Int) - (1 : Int)))) default) (List.getD xs ((0 : Nat) + Int.toNat i) default)))) ∧
    ((touchI (List.getD ys ((0 : Nat) + Int.toNat (IntKind.wrap IntKind.i64 ((↑m : Int) - (1 : Int)))) default) (List.getD xs ((0 : Nat) + Int.toNat i) default)) = true →
     (go = go) ∧
     (((0 : Int) ≤ IntKind.wrap IntKind.i64 ((↑m : Int) - (1 : Int))) ∧ ((IntKind.wrap IntKind.i64 ((↑m : Int) - (1 : Int)) < (↑m : Int)) ∧ ((11 : Nat) = 11))) ∧
     (go = go) ∧
     (((List.map I.p ys)[(0 : Nat) + Int.toNat (IntKind.wrap IntKind.i64 ((↑m : Int) - (1 : Int)))]?) = some (I.p (List.getD ys ((0 : Nat) + Int.toNat (IntKind.wrap IntKind.i64 ((↑m : Int) - (1 : Int)))) default))) ∧
     (gm = gm) ∧
     (((0 : Int) ≤ i) ∧ ((i < (↑n : Int)) ∧ ((11 : Nat) = 11))) ∧
     (gm = gm) ∧
     (((List.map I.p xs)[(0 : Nat) + Int.toNat i]?) = some (I.p (List.getD xs ((0 : Nat) + Int.toNat i) default))) ∧
     (Den E1 100 [I.p (List.getD ys ((0 : Nat) + Int.toNat (IntKind.wrap IntKind.i64 ((↑m : Int) - (1 : Int)))) default), I.p (List.getD xs ((0 : Nat) + Int.toNat i) default)] (intP (highI (List.getD ys ((0 : Nat) + Int.toNat (IntKind.wrap IntKind.i64 ((↑m : Int) - (1 : Int)))) default) (List.getD xs ((0 : Nat) + Int.toNat i) default)))) ∧
     ((decide (highI (List.getD ys ((0 : Nat) + Int.toNat (IntKind.wrap IntKind.i64 ((↑m : Int) - (1 : Int)))) default) (List.getD xs ((0 : Nat) + Int.toNat i) default) < (0 : Int))) = true →
      (gm = gm) ∧
      (((0 : Int) ≤ i) ∧ ((i < (↑n : Int)) ∧ ((11 : Nat) = 11))) ∧
      (gm = gm) ∧
      (((List.map I.p xs)[(0 : Nat) + Int.toNat i]?) = some (I.p (List.getD xs ((0 : Nat) + Int.toNat i) default))) ∧
      (go = go) ∧
      (((0 : Int) ≤ IntKind.wrap IntKind.i64 ((↑m : Int) - (1 : Int))) ∧ ((IntKind.wrap IntKind.i64 ((↑m : Int) - (1 : Int)) < (↑m : Int)) ∧ ((11 : Nat) = 11))) ∧
      (go = go) ∧
      (go = go) ∧
      (((List.map I.p ys)[(0 : Nat) + Int.toNat (IntKind.wrap IntKind.i64 ((↑m : Int) - (1 : Int)))]?) = some (I.p (List.getD ys ((0 : Nat) + Int.toNat (IntKind.wrap IntKind.i64 ((↑m : Int) - (1 : Int)))) default))) ∧
      (gm = gm) ∧
      (((0 : Int) ≤ i) ∧ ((i < (↑n : Int)) ∧ ((11 : Nat) = 11))) ∧
      (gm = gm) ∧
      (((List.map I.p xs)[(0 : Nat) + Int.toNat i]?) = some (I.p (List.getD xs ((0 : Nat) + Int.toNat i) default))) ∧
      (go = go) ∧
      (((0 : Int) ≤ IntKind.wrap IntKind.i64 ((↑m : Int) - (1 : Int))) ∧ ((IntKind.wrap IntKind.i64 ((↑m : Int) - (1 : Int)) < (↑m : Int)) ∧ ((11 : Nat) = 11))) ∧
      (go = go) ∧
      (go = go) ∧
      (((List.set (List.map I.p ys) ((0 : Nat) + Int.toNat (IntKind.wrap IntKind.i64 ((↑m : Int) - (1 : Int)))) (PV.agg [PV.lit (Value.int IntKind.u32 (V.a (I.lo (List.getD ys ((0 : Nat) + Int.toNat (IntKind.wrap IntKind.i64 ((↑m : Int) - (1 : Int)))) default)))), PV.lit (Value.int IntKind.u32 (V.b (I.lo (List.getD ys ((0 : Nat) + Int.toNat (IntKind.wrap IntKind.i64 ((↑m : Int) - (1 : Int)))) default)))), PV.lit (Value.int IntKind.u32 (V.c (I.lo (List.getD ys ((0 : Nat) + Int.toNat (IntKind.wrap IntKind.i64 ((↑m : Int) - (1 : Int)))) default)))), PV.sl (V.k (I.lo (List.getD ys ((0 : Nat) + Int.toNat (IntKind.wrap IntKind.i64 ((↑m : Int) - (1 : Int)))) default))) (V.nl (I.lo (List.getD ys ((0 : Nat) + Int.toNat (IntKind.wrap IntKind.i64 ((↑m : Int) - (1 : Int)))) default))) (V.full (I.lo (List.getD ys ((0 : Nat) + Int.toNat (IntKind.wrap IntKind.i64 ((↑m : Int) - (1 : Int)))) default))) (List.map strP (V.pre (I.lo (List.getD ys ((0 : Nat) + Int.toNat (IntKind.wrap IntKind.i64 ((↑m : Int) - (1 : Int)))) default)))), PV.lit (Value.bool (I.lopen (List.getD ys ((0 : Nat) + Int.toNat (IntKind.wrap IntKind.i64 ((↑m : Int) - (1 : Int)))) default))), PV.lit (Value.int IntKind.u32 (V.a (I.hi (List.getD xs ((0 : Nat) + Int.toNat i) default)))), PV.lit (Value.int IntKind.u32 (V.b (I.hi (List.getD xs ((0 : Nat) + Int.toNat i) default)))), PV.lit (Value.int IntKind.u32 (V.c (I.hi (List.getD xs ((0 : Nat) + Int.toNat i) default)))), PV.sl (V.k (I.hi (List.getD xs ((0 : Nat) + Int.toNat i) default))) (V.nl (I.hi (List.getD xs ((0 : Nat) + Int.toNat i) default))) (V.full (I.hi (List.getD xs ((0 : Nat) + Int.toNat i) default))) (List.map strP (V.pre (I.hi (List.getD xs ((0 : Nat) + Int.toNat i) default)))), PV.lit (Value.bool (I.hopen (List.getD xs ((0 : Nat) + Int.toNat i) default))), PV.lit (Value.bool (I.less (List.getD ys ((0 : Nat) + Int.toNat (IntKind.wrap IntKind.i64 ((↑m : Int) - (1 : Int)))) default)))]))[(0 : Nat) + Int.toNat (IntKind.wrap IntKind.i64 ((↑m : Int) - (1 : Int)))]?) = some (itvP (V.a (I.lo (List.getD ys ((0 : Nat) + Int.toNat (IntKind.wrap IntKind.i64 ((↑m : Int) - (1 : Int)))) default))) (V.b (I.lo (List.getD ys ((0 : Nat) + Int.toNat (IntKind.wrap IntKind.i64 ((↑m : Int) - (1 : Int)))) default))) (V.c (I.lo (List.getD ys ((0 : Nat) + Int.toNat (IntKind.wrap IntKind.i64 ((↑m : Int) - (1 : Int)))) default))) (.sl (V.k (I.lo (List.getD ys ((0 : Nat) + Int.toNat (IntKind.wrap IntKind.i64 ((↑m : Int) - (1 : Int)))) default))) (V.nl (I.lo (List.getD ys ((0 : Nat) + Int.toNat (IntKind.wrap IntKind.i64 ((↑m : Int) - (1 : Int)))) default))) (V.full (I.lo (List.getD ys ((0 : Nat) + Int.toNat (IntKind.wrap IntKind.i64 ((↑m : Int) - (1 : Int)))) default))) (List.map strP (V.pre (I.lo (List.getD ys ((0 : Nat) + Int.toNat (IntKind.wrap IntKind.i64 ((↑m : Int) - (1 : Int)))) default))))) (I.lopen (List.getD ys ((0 : Nat) + Int.toNat (IntKind.wrap IntKind.i64 ((↑m : Int) - (1 : Int)))) default)) (V.a (I.hi (List.getD xs ((0 : Nat) + Int.toNat i) default))) (V.b (I.hi (List.getD xs ((0 : Nat) + Int.toNat i) default))) (V.c (I.hi (List.getD xs ((0 : Nat) + Int.toNat i) default))) (.sl (V.k (I.hi (List.getD xs ((0 : Nat) + Int.toNat i) default))) (V.nl (I.hi (List.getD xs ((0 : Nat) + Int.toNat i) default))) (V.full (I.hi (List.getD xs ((0 : Nat) + Int.toNat i) default))) (List.map strP (V.pre (I.hi (List.getD xs ((0 : Nat) + Int.toNat i) default))))) (I.hopen (List.getD xs ((0 : Nat) + Int.toNat i) default)) (I.less (List.getD ys ((0 : Nat) + Int.toNat (IntKind.wrap IntKind.i64 ((↑m : Int) - (1 : Int)))) default)))) ∧
      (∀ (j' : Nat → AV) (jr' : Nat → Row) (g' : Nat), LoopAt E1 Tryz.f58 r 3 (ref08_join_S7 l k nl full (IntKind.wrap IntKind.i64 (i + (1 : Int))) gm n go m (List.map I.p xs) (List.set (List.set (List.map I.p ys) ((0 : Nat) + Int.toNat (IntKind.wrap IntKind.i64 ((↑m : Int) - (1 : Int)))) (PV.agg [PV.lit (Value.int IntKind.u32 (V.a (I.lo (List.getD ys ((0 : Nat) + Int.toNat (IntKind.wrap IntKind.i64 ((↑m : Int) - (1 : Int)))) default)))), PV.lit (Value.int IntKind.u32 (V.b (I.lo (List.getD ys ((0 : Nat) + Int.toNat (IntKind.wrap IntKind.i64 ((↑m : Int) - (1 : Int)))) default)))), PV.lit (Value.int IntKind.u32 (V.c (I.lo (List.getD ys ((0 : Nat) + Int.toNat (IntKind.wrap IntKind.i64 ((↑m : Int) - (1 : Int)))) default)))), PV.sl (V.k (I.lo (List.getD ys ((0 : Nat) + Int.toNat (IntKind.wrap IntKind.i64 ((↑m : Int) - (1 : Int)))) default))) (V.nl (I.lo (List.getD ys ((0 : Nat) + Int.toNat (IntKind.wrap IntKind.i64 ((↑m : Int) - (1 : Int)))) default))) (V.full (I.lo (List.getD ys ((0 : Nat) + Int.toNat (IntKind.wrap IntKind.i64 ((↑m : Int) - (1 : Int)))) default))) (List.map strP (V.pre (I.lo (List.getD ys ((0 : Nat) + Int.toNat (IntKind.wrap IntKind.i64 ((↑m : Int) - (1 : Int)))) default)))), PV.lit (Value.bool (I.lopen (List.getD ys ((0 : Nat) + Int.toNat (IntKind.wrap IntKind.i64 ((↑m : Int) - (1 : Int)))) default))), PV.lit (Value.int IntKind.u32 (V.a (I.hi (List.getD xs ((0 : Nat) + Int.toNat i) default)))), PV.lit (Value.int IntKind.u32 (V.b (I.hi (List.getD xs ((0 : Nat) + Int.toNat i) default)))), PV.lit (Value.int IntKind.u32 (V.c (I.hi (List.getD xs ((0 : Nat) + Int.toNat i) default)))), PV.sl (V.k (I.hi (List.getD xs ((0 : Nat) + Int.toNat i) default))) (V.nl (I.hi (List.getD xs ((0 : Nat) + Int.toNat i) default))) (V.full (I.hi (List.getD xs ((0 : Nat) + Int.toNat i) default))) (List.map strP (V.pre (I.hi (List.getD xs ((0 : Nat) + Int.toNat i) default)))), PV.lit (Value.bool (I.hopen (List.getD xs ((0 : Nat) + Int.toNat i) default))), PV.lit (Value.bool (I.less (List.getD ys ((0 : Nat) + Int.toNat (IntKind.wrap IntKind.i64 ((↑m : Int) - (1 : Int)))) default)))])) ((0 : Nat) + Int.toNat (IntKind.wrap IntKind.i64 ((↑m : Int) - (1 : Int)))) (PV.agg [PV.lit (Value.int IntKind.u32 (V.a (I.lo (List.getD ys ((0 : Nat) + Int.toNat (IntKind.wrap IntKind.i64 ((↑m : Int) - (1 : Int)))) default)))), PV.lit (Value.int IntKind.u32 (V.b (I.lo (List.getD ys ((0 : Nat) + Int.toNat (IntKind.wrap IntKind.i64 ((↑m : Int) - (1 : Int)))) default)))), PV.lit (Value.int IntKind.u32 (V.c (I.lo (List.getD ys ((0 : Nat) + Int.toNat (IntKind.wrap IntKind.i64 ((↑m : Int) - (1 : Int)))) default)))), PV.sl (V.k (I.lo (List.getD ys ((0 : Nat) + Int.toNat (IntKind.wrap IntKind.i64 ((↑m : Int) - (1 : Int)))) default))) (V.nl (I.lo (List.getD ys ((0 : Nat) + Int.toNat (IntKind.wrap IntKind.i64 ((↑m : Int) - (1 : Int)))) default))) (V.full (I.lo (List.getD ys ((0 : Nat) + Int.toNat (IntKind.wrap IntKind.i64 ((↑m : Int) - (1 : Int)))) default))) (List.map strP (V.pre (I.lo (List.getD ys ((0 : Nat) + Int.toNat (IntKind.wrap IntKind.i64 ((↑m : Int) - (1 : Int)))) default)))), PV.lit (Value.bool (I.lopen (List.getD ys ((0 : Nat) + Int.toNat (IntKind.wrap IntKind.i64 ((↑m : Int) - (1 : Int)))) default))), PV.lit (Value.int IntKind.u32 (V.a (I.hi (List.getD xs ((0 : Nat) + Int.toNat i) default)))), PV.lit (Value.int IntKind.u32 (V.b (I.hi (List.getD xs ((0 : Nat) + Int.toNat i) default)))), PV.lit (Value.int IntKind.u32 (V.c (I.hi (List.getD xs ((0 : Nat) + Int.toNat i) default)))), PV.sl (V.k (I.hi (List.getD xs ((0 : Nat) + Int.toNat i) default))) (V.nl (I.hi (List.getD xs ((0 : Nat) + Int.toNat i) default))) (V.full (I.hi (List.getD xs ((0 : Nat) + Int.toNat i) default))) (List.map strP (V.pre (I.hi (List.getD xs ((0 : Nat) + Int.toNat i) default)))), PV.lit (Value.bool (I.hopen (List.getD xs ((0 : Nat) + Int.toNat i) default))), PV.lit (Value.bool (I.less (List.getD xs ((0 : Nat) + Int.toNat i) default)))])) j' jr' g'))) ∧
     ((decide (highI (List.getD ys ((0 : Nat) + Int.toNat (IntKind.wrap IntKind.i64 ((↑m : Int) - (1 : Int)))) default) (List.getD xs ((0 : Nat) + Int.toNat i) default) < (0 : Int))) = false →
      ∀ (j' : Nat → AV) (jr' : Nat → Row) (g' : Nat), LoopAt E1 Tryz.f58 r 3 (ref08_join_S7 l k nl full (IntKind.wrap IntKind.i64 (i + (1 : Int))) gm n go m (List.map I.p xs) (List.map I.p ys) j' jr' g'))) ∧
    ((touchI (List.getD ys ((0 : Nat) + Int.toNat (IntKind.wrap IntKind.i64 ((↑m : Int) - (1 : Int)))) default) (List.getD xs ((0 : Nat) + Int.toNat i) default)) = false →
     (gm = gm) ∧
     (((0 : Int) ≤ i) ∧ ((i < (↑n : Int)) ∧ ((11 : Nat) = 11))) ∧
     (gm = gm) ∧
     (((List.map I.p xs)[(0 : Nat) + Int.toNat i]?) = some (I.p (List.getD xs ((0 : Nat) + Int.toNat i) default))) ∧
     ((g + (4 : Nat) + (3 : Nat) + (14 : Nat) + (5 : Nat)) = g + (4 : Nat) + (3 : Nat) + (14 : Nat) + (5 : Nat)) ∧
     (((11 : Nat) = 11) ∧ ((1 : Nat) ≤ (1 : Nat))) ∧
     (go = go) ∧
     ((false = false) ∧ (((11 : Nat) = 11) ∧ (((63 : Nat) = 63) ∧ ((((0 : Nat) + m) = List.length (List.map I.p ys)) ∧ ((fitsRow (m + (1 : Nat)) (104 : Nat)) = true))))) ∧
     (∀ (j' : Nat → AV) (jr' : Nat → Row) (g' : Nat), LoopAt E1 Tryz.f58 r 3 (ref08_join_S7 l k nl full (IntKind.wrap IntKind.i64 (i + (1 : Int))) gm n (g + (4 : Nat) + (3 : Nat) + (14 : Nat) + (6 : Nat)) (m + (1 : Nat)) (List.map I.p xs) (List.drop (0 : Nat) (List.map I.p ys) ++ List.take (1 : Nat) (List.drop (0 : Nat) [PV.agg [PV.lit (Value.int IntKind.u32 (V.a (I.lo (List.getD xs ((0 : Nat) + Int.toNat i) default)))), PV.lit (Value.int IntKind.u32 (V.b (I.lo (List.getD xs ((0 : Nat) + Int.toNat i) default)))), PV.lit (Value.int IntKind.u32 (V.c (I.lo (List.getD xs ((0 : Nat) + Int.toNat i) default)))), PV.sl (V.k (I.lo (List.getD xs ((0 : Nat) + Int.toNat i) default))) (V.nl (I.lo (List.getD xs ((0 : Nat) + Int.toNat i) default))) (V.full (I.lo (List.getD xs ((0 : Nat) + Int.toNat i) default))) (List.map strP (V.pre (I.lo (List.getD xs ((0 : Nat) + Int.toNat i) default)))), PV.lit (Value.bool (I.lopen (List.getD xs ((0 : Nat) + Int.toNat i) default))), PV.lit (Value.int IntKind.u32 (V.a (I.hi (List.getD xs ((0 : Nat) + Int.toNat i) default)))), PV.lit (Value.int IntKind.u32 (V.b (I.hi (List.getD xs ((0 : Nat) + Int.toNat i) default)))), PV.lit (Value.int IntKind.u32 (V.c (I.hi (List.getD xs ((0 : Nat) + Int.toNat i) default)))), PV.sl (V.k (I.hi (List.getD xs ((0 : Nat) + Int.toNat i) default))) (V.nl (I.hi (List.getD xs ((0 : Nat) + Int.toNat i) default))) (V.full (I.hi (List.getD xs ((0 : Nat) + Int.toNat i) default))) (List.map strP (V.pre (I.hi (List.getD xs ((0 : Nat) + Int.toNat i) default)))), PV.lit (Value.bool (I.hopen (List.getD xs ((0 : Nat) + Int.toNat i) default))), PV.lit (Value.bool (I.less (List.getD xs ((0 : Nat) + Int.toNat i) default)))]])) j' jr' g')))) ∧
   ((decide ((↑m : Int) > (0 : Int))) = false →
    (gm = gm) ∧
    (((0 : Int) ≤ i) ∧ ((i < (↑n : Int)) ∧ ((11 : Nat) = 11))) ∧
    (gm = gm) ∧
    (((List.map I.p xs)[(0 : Nat) + Int.toNat i]?) = some (I.p (List.getD xs ((0 : Nat) + Int.toNat i) default))) ∧
    ((g + (4 : Nat) + (3 : Nat) + (14 : Nat) + (5 : Nat)) = g + (4 : Nat) + (3 : Nat) + (14 : Nat) + (5 : Nat)) ∧
    (((11 : Nat) = 11) ∧ ((1 : Nat) ≤ (1 : Nat))) ∧
    (go = go) ∧
    ((false = false) ∧ (((11 : Nat) = 11) ∧ (((63 : Nat) = 63) ∧ ((((0 : Nat) + m) = List.length (List.map I.p ys)) ∧ ((fitsRow (m + (1 : Nat)) (104 : Nat)) = true))))) ∧
    (∀ (j' : Nat → AV) (jr' : Nat → Row) (g' : Nat), LoopAt E1 Tryz.f58 r 3 (ref08_join_S7 l k nl full (IntKind.wrap IntKind.i64 (i + (1 : Int))) gm n (g + (4 : Nat) + (3 : Nat) + (14 : Nat) + (6 : Nat)) (m + (1 : Nat)) (List.map I.p xs) (List.drop (0 : Nat) (List.map I.p ys) ++ List.take (1 : Nat) (List.drop (0 : Nat) [PV.agg [PV.lit (Value.int IntKind.u32 (V.a (I.lo (List.getD xs ((0 : Nat) + Int.toNat i) default)))), PV.lit (Value.int IntKind.u32 (V.b (I.lo (List.getD xs ((0 : Nat) + Int.toNat i) default)))), PV.lit (Value.int IntKind.u32 (V.c (I.lo (List.getD xs ((0 : Nat) + Int.toNat i) default)))), PV.sl (V.k (I.lo (List.getD xs ((0 : Nat) + Int.toNat i) default))) (V.nl (I.lo (List.getD xs ((0 : Nat) + Int.toNat i) default))) (V.full (I.lo (List.getD xs ((0 : Nat) + Int.toNat i) default))) (List.map strP (V.pre (I.lo (List.getD xs ((0 : Nat) + Int.toNat i) default)))), PV.lit (Value.bool (I.lopen (List.getD xs ((0 : Nat) + Int.toNat i) default))), PV.lit (Value.int IntKind.u32 (V.a (I.hi (List.getD xs ((0 : Nat) + Int.toNat i) default)))), PV.lit (Value.int IntKind.u32 (V.b (I.hi (List.getD xs ((0 : Nat) + Int.toNat i) default)))), PV.lit (Value.int IntKind.u32 (V.c (I.hi (List.getD xs ((0 : Nat) + Int.toNat i) default)))), PV.sl (V.k (I.hi (List.getD xs ((0 : Nat) + Int.toNat i) default))) (V.nl (I.hi (List.getD xs ((0 : Nat) + Int.toNat i) default))) (V.full (I.hi (List.getD xs ((0 : Nat) + Int.toNat i) default))) (List.map strP (V.pre (I.hi (List.getD xs ((0 : Nat) + Int.toNat i) default)))), PV.lit (Value.bool (I.hopen (List.getD xs ((0 : Nat) + Int.toNat i) default))), PV.lit (Value.bool (I.less (List.getD xs ((0 : Nat) + Int.toNat i) default)))]])) j' jr' g')))) ∧
  ((decide (i < (↑n : Int))) = false →
   ∃ hp, frz frzDepth (.msl 0 128 go 0 m false) [[row0, row0, row0, row0, row0, row0, row0, row0, row0, row0, row0, row0, row0, row0, row0, row0, row0, row0, row0, row0, row0, row0, row0, row0, row0, row0, row0, row0, row0, row0, row0, row0, row0, row0, row0, row0, row0, row0, row0, row0, row0, row0, row0, row0, jr (44 : Nat), ⟨gm, .row 11 63 (List.map I.p xs) false⟩, row0, row0, row0, row0, row0, row0, row0, row0, row0, row0, row0, row0, row0, row0, row0, row0, row0, row0, row0, row0, row0, row0, row0, row0, row0, row0, row0, row0, row0, row0, row0, row0, row0, row0, row0, row0, row0, row0, row0, row0, row0, row0, row0, row0, row0, row0, row0, row0, row0, row0, row0, row0, row0, row0, row0, row0, row0, row0, row0, row0, row0, row0, row0, row0, row0, row0, row0, row0, row0, row0, row0, row0, row0, row0, row0, row0, row0, row0, row0, row0, row0, jr (127 : Nat), ⟨go, .row 11 63 (List.map I.p ys) false⟩, row0]] = some (r, hp))) := by kernel_rfl
end Go.Proofs.YtlhfgonjcpapnaaGreatDoor.Abs

/- Joins of intervals, as the document's answer has them: the function computes them. -/
set_option linter.unusedVariables false
set_option linter.unusedSimpArgs false
namespace Go.Proofs.YtlhfgonjcpapnaaGreatDoor.Abs
open Go Go.Proofs

structure good (x : I) : Prop where
  ok : x.ok
  lo : mayV x.lo = true
  hi : mayV x.hi = true
def goods (l : List I) : Prop := ∀ x ∈ l, good x

theorem den_ref08_high (x y : I) (hx : good x) (hy : good y) : Den E1 100 [x.p, y.p] (intP (highI x y)) := by
  refine den1 2000 _ rfl (by kernel_rfl) rfl rfl rfl (Eq.mpr (ref08_high_go x y _) ?_)
  refine ⟨rfl, fun h => ⟨rfl, h, rfl, fun h2 => ?_, fun h2 => ⟨rfl, h, ?_⟩⟩, fun h => ⟨rfl, fun h2 => ⟨rfl, h, rfl, h, ?_⟩, fun h2 => ⟨rfl, rfl, den_ref07_Cmp _ _ hx.ok.hi hy.ok.hi (may_len hx.hi) (may_len hy.hi), fun h3 => ?_, fun h3 => ⟨rfl, rfl, fun h4 => ?_, fun h4 => ⟨rfl, fun h5 => ?_, fun h5 => ?_⟩⟩⟩⟩⟩
  · simp [highI, h, h2]
  · simp [highI, h, h2]
  · simp [highI, h, h2]
  · simp only [highI, h, h2, h3]; rfl
  · simp only [highI, h, h2, h3, h4]; rfl
  · rw [h5] at h4; simp only [highI, h, h2, h3, h4, h5]; rfl
  · rw [h5] at h4; simp only [highI, h, h2, h3, h4, h5]; rfl

theorem getI {l : List I} {i : Nat} (h : i < l.length) : (List.map I.p l)[i]? = some (I.p (l.getD i default)) := by
  simp [h]
theorem goods_get {l : List I} {i : Nat} (h : goods l) (hi : i < l.length) : good (l.getD i default) := by
  rw [getD_lt hi]; exact h _ (by simp)
theorem drop_get {l : List I} {i : Nat} (h : i < l.length) : l.drop i = l.getD i default :: l.drop (i + 1) := by
  rw [List.drop_eq_getElem_cons h, getD_lt h]
theorem set_map {l : List I} {i : Nat} (x : I) : List.set (List.map I.p l) i (I.p x) = List.map I.p (l.set i x) := by
  rw [List.map_set]
theorem goods_set {l : List I} {i : Nat} {x : I} (h : goods l) (hx : good x) : goods (l.set i x) := by
  intro y hy
  rcases List.mem_or_eq_of_mem_set hy with h1 | rfl
  · exact h y h1
  · exact hx
theorem goods_snoc {l : List I} {x : I} (h : goods l) (hx : good x) : goods (l ++ [x]) := by
  intro y hy
  rcases List.mem_append.1 hy with h1 | h1
  · exact h y h1
  · simp at h1; subst h1; exact hx
theorem good_up {y x : I} (hy : good y) (hx : good x) : good (upR y x) := ⟨⟨hy.ok.lo, hx.ok.hi⟩, hy.lo, hx.hi⟩
theorem fits_104 {n : Nat} (h : n ≤ 1000000) : fitsRow n 104 = true := by
  unfold fitsRow room47 maxInt
  simp only [Bool.and_eq_true, decide_eq_true_eq]
  omega
theorem resL_cons {l : List I} (h : l ≠ []) : resL l = .sl 11 false false (List.map I.p l) := by
  have : l.length ≠ 0 := fun e => h (List.length_eq_zero_iff.1 e)
  simp [resL, listP, twK, twN, this]
theorem resL_nil : resL [] = .sl 0 true true [] := rfl

theorem shift_back {s xs : List I} {q : Nat} (h0 : 0 < q) (hq : q ≤ s.length) (hx : ∀ x, xs.set q x = s.take q ++ x :: s.drop q) (x : I) : (xs.set q (xs.getD (q - 1) default)).set (q - 1) x = s.take (q - 1) ++ x :: s.drop (q - 1) := by
  obtain ⟨q, rfl⟩ : ∃ n, q = n + 1 := ⟨q - 1, by omega⟩
  simp only [Nat.add_sub_cancel]
  have hql : q < s.length := by omega
  have ha : xs.getD q default = s.getD q default := by
    have h1 : (xs.set (q + 1) default)[q]? = (s.take (q + 1) ++ default :: s.drop (q + 1))[q]? := by rw [hx]
    rw [List.getElem?_set_ne (by omega), List.getElem?_append_left (by simp; omega), List.getElem?_take, if_pos (by omega)] at h1
    simp only [List.getD_eq_getElem?_getD, h1]
  have ht : s.take (q + 1) = s.take q ++ [s.getD q default] := by rw [List.take_succ_eq_append_getElem hql, getD_lt hql]
  rw [ha, hx, ht, List.append_assoc, List.set_append_right _ _ (by simp; omega)]
  have e : q - (s.take q).length = 0 := by simp; omega
  rw [e, drop_get hql]
  rfl
section
variable (l : List I) (k : Nat) (nl full : Bool)
/-- the second loop, with something in its result -/
theorem join_S7 (xs : List I) (hgx : goods xs) (hlx : xs.length < 1000000) : ∀ (n i : Nat) (ys : List I) (gm go : Nat) j jr g, i + n = xs.length → ys ≠ [] → ys.length ≤ i → goods ys →
    LoopAt E1 Tryz.f58 (resL ((xs.drop i).foldl stepR ys)) 3 (ref08_join_S7 l k nl full i gm xs.length go ys.length (List.map I.p xs) (List.map I.p ys) j jr g) := by
  intro n
  induction n with
  | zero =>
    intro i ys gm go j jr g hi hy hle hgy
    refine loop_go 2000 _ (Eq.mpr (ref08_join_go_S7 l k nl full i gm xs.length go ys.length xs ys j jr g _) ⟨fun h => ?_, fun h => ?_⟩)
    · simp only [decide_eq_true_eq] at h; omega
    · rw [List.drop_eq_nil_of_le (by omega), List.foldl_nil]
      exact frz_msl rfl (by simp) (resL_cons hy)
  | succ n ih =>
    intro i ys gm go j0 jr0 g0 hi hy hle hgy
    have hix : i < xs.length := by omega
    have hyl : 1 ≤ ys.length := List.length_pos_iff.2 hy
    have hw1 : IntKind.wrap IntKind.i64 ((ys.length : Int) - 1) = ((ys.length - 1 : Nat) : Int) := by rw [wrap_i64 _ (by omega) (by omega)]; omega
    have hw2 : IntKind.wrap IntKind.i64 ((i : Int) + 1) = ((i + 1 : Nat) : Int) := wrap_i64 _ (by omega) (by omega)
    have hgx' := goods_get hgx hix
    have hgy' := goods_get hgy (show ys.length - 1 < ys.length by omega)
    have hdy := getI (l := ys) (show ys.length - 1 < ys.length by omega)
    have hdx := getI (l := xs) hix
    have hne : ys.isEmpty = false := by simpa using hy
    rw [drop_get hix, List.foldl_cons]
    have hst : stepR ys (xs.getD i default) = if touchI (ys.getD (ys.length - 1) default) (xs.getD i default) then
        (if highI (ys.getD (ys.length - 1) default) (xs.getD i default) < 0 then ys.set (ys.length - 1) (upR (ys.getD (ys.length - 1) default) (xs.getD i default)) else ys) else ys ++ [xs.getD i default] := by
      unfold stepR; rw [hne]; rfl
    refine loop_go 2000 _ (Eq.mpr (ref08_join_go_S7 l k nl full i gm xs.length go ys.length xs ys j0 jr0 g0 _) ⟨fun h => ?_, fun h => ?_⟩)
    · simp only [hw1, hw2, Int.toNat_natCast, Nat.zero_add, eq_self, true_and, and_true]
      refine ⟨fun _ => ⟨by omega, hdy, by omega, hdx, den_touch _ _ hgy'.ok hgx'.ok hgy'.hi hgx'.lo, fun ht => ⟨by omega, hdy, by omega, hdx, den_ref08_high _ _ hgy' hgx', fun hh => ⟨by omega, hdx, by omega, hdy, by omega, hdx, by omega, ?_, fun j jr g => ?_⟩, fun hh j jr g => ?_⟩, fun ht => ⟨by omega, hdx, by omega, ?_, fun j jr g => ?_⟩⟩, fun h0 => ?_⟩
      · rw [List.getElem?_set_self (by simp; omega)]
      · have e : stepR ys (xs.getD i default) = ys.set (ys.length - 1) (upR (ys.getD (ys.length - 1) default) (xs.getD i default)) := by
          rw [hst, if_pos ht, if_pos (by simpa using hh)]
        rw [e]
        have hs2 : ∀ v : PV, List.set (List.set (List.map I.p ys) (ys.length - 1) v) (ys.length - 1) (I.p (upR (ys.getD (ys.length - 1) default) (xs.getD i default))) = List.map I.p (ys.set (ys.length - 1) (upR (ys.getD (ys.length - 1) default) (xs.getD i default))) := by
          intro v; rw [List.set_set, set_map]
        have := ih (i + 1) (ys.set (ys.length - 1) (upR (ys.getD (ys.length - 1) default) (xs.getD i default))) gm go j jr g (by omega) (by simpa using hy) (by simp; omega) (goods_set hgy (good_up hgy' hgx'))
        rw [List.length_set] at this
        rw [← hs2] at this
        exact this
      · have e : stepR ys (xs.getD i default) = ys := by
          rw [hst, if_pos ht, if_neg (by simpa using hh)]
        rw [e]
        exact ih (i + 1) ys gm go j jr g (by omega) hy (by omega) hgy
      · exact ⟨by simp, fits_104 (by omega)⟩
      · have e : stepR ys (xs.getD i default) = ys ++ [xs.getD i default] := by
          rw [hst, ht]; rfl
        rw [e]
        have := ih (i + 1) (ys ++ [xs.getD i default]) gm (g0 + 4 + 3 + 14 + 6) j jr g (by omega) (by simp) (by simp; omega) (goods_snoc hgy hgx')
        rw [List.length_append, List.map_append] at this
        exact this
      · simp only [decide_eq_false_iff_not] at h0; omega
    · simp only [decide_eq_false_iff_not] at h; omega
/-- the second loop, at its start -/
theorem join_S6 (xs : List I) (hgx : goods xs) (hlx : xs.length < 1000000) (h0 : xs ≠ []) (gm : Nat) (z : Row) (j0 : Nat → AV) (jr0 : Nat → Row) (g0 : Nat) :
    LoopAt E1 Tryz.f58 (resL (xs.foldl stepR [])) 3 (ref08_join_S6 l k nl full 0 gm xs.length (List.map I.p xs) z j0 jr0 g0) := by
  have hix : 0 < xs.length := List.length_pos_iff.2 h0
  have hw2 : IntKind.wrap IntKind.i64 ((0 : Int) + 1) = ((1 : Nat) : Int) := rfl
  have hz : Int.toNat 0 = 0 := rfl
  refine loop_go 2000 _ (Eq.mpr (ref08_join_go_S6 l k nl full 0 gm xs.length xs z j0 jr0 g0 _) ⟨fun h => ?_, fun h => ?_⟩)
  · simp only [hw2, hz, Nat.zero_add, eq_self, true_and, and_true]
    refine ⟨by omega, getI hix, by omega, fun j jr g => ?_⟩
    have := join_S7 l k nl full xs hgx hlx (xs.length - 1) 1 [xs.getD 0 default] gm (g0 + 4 + 3 + 14 + 6) j jr g (by omega) (by simp) (by simp) (fun y hy => by simp at hy; subst hy; rw [← List.getD_eq_getElem?_getD]; exact goods_get hgx hix)
    have e : xs.foldl stepR [] = (xs.drop 1).foldl stepR [xs.getD 0 default] := by
      cases xs with
      | nil => exact absurd rfl h0
      | cons x xs => rfl
    rw [e]
    exact this
  · simp only [decide_eq_false_iff_not] at h; omega
/-- the element that is to come in is put where it belongs -/
theorem join_S2 (i : Nat) (hll : l.length < 1000000) (hil : i < l.length) (hsl : slOk 11 k nl l.length) {r : PV} {s : List I} {p : Nat} (hp : p ≤ s.length) (hls : s.length < 1000000)
    (next : ∀ gm j jr g, LoopAt E1 Tryz.f58 r 0 (ref08_join_S3 l k nl full (i + 1 : Nat) gm (s.length + 1) (List.map I.p (s.take p ++ l.getD i default :: s.drop p)) j jr g)) :
    ∀ (n q : Nat) (xs : List I) (gm : Nat) j jr g, p + n = q → q ≤ s.length → xs.length = s.length + 1 → (∀ x, xs.set q x = s.take q ++ x :: s.drop q) →
    LoopAt E1 Tryz.f58 r 2 (ref08_join_S2 l k nl full i p q gm (s.length + 1) (List.map I.p xs) j jr g) := by
  have hw1 : IntKind.wrap IntKind.i64 ((i : Int) + 1) = ((i + 1 : Nat) : Int) := wrap_i64 _ (by omega) (by omega)
  intro n
  induction n with
  | zero =>
    intro q xs gm j jr g hq hqs hxl hx
    have hpq : p = q := by omega
    subst hpq
    refine loop_go 2000 _ (Eq.mpr (ref08_join_go_S2 l k nl full i p p gm (s.length + 1) xs j jr g _) ⟨fun h => ?_, fun h => ?_⟩)
    · simp at h
    · simp only [hw1, Int.toNat_natCast, Nat.zero_add, eq_self, true_and, and_true]
      refine ⟨⟨by omega, sl_at hsl hil⟩, getI hil, by omega, getI (by omega), fun j jr g => ?_⟩
      have := next gm j jr g
      rw [← hx, List.map_set] at this
      exact this
  | succ n ih =>
    intro q xs gm j jr g hq hqs hxl hx
    have hw2 : IntKind.wrap IntKind.i64 ((q : Int) - 1) = ((q - 1 : Nat) : Int) := by rw [wrap_i64 _ (by omega) (by omega)]; omega
    refine loop_go 2000 _ (Eq.mpr (ref08_join_go_S2 l k nl full i p q gm (s.length + 1) xs j jr g _) ⟨fun h => ?_, fun h => ?_⟩)
    · simp only [hw2, Int.toNat_natCast, Nat.zero_add, eq_self, true_and, and_true]
      refine ⟨by omega, getI (by omega), by omega, getI (by omega), fun j jr g => ?_⟩
      have := ih (q - 1) (xs.set q (xs.getD (q - 1) default)) gm j jr g (by omega) (by omega) (by simpa using hxl) fun x => ?_
      · rw [List.map_set] at this
        exact this
      · exact shift_back (by omega) hqs hx x
    · simp only [decide_eq_false_iff_not] at h; omega
theorem insPos_le (s : List I) (x : I) : ∀ p, insPos s x p ≤ p
  | 0 => Nat.le_refl _
  | p + 1 => by
    unfold insPos
    split
    · exact Nat.le_succ_of_le (insPos_le s x p)
    · exact Nat.le_refl _
theorem insR_len (s : List I) (x : I) : (insR s x).length = s.length + 1 := by
  have := insPos_le s x s.length
  unfold insR
  simp
  omega
theorem goods_ins {s : List I} {x : I} (hs : goods s) (hx : good x) : goods (insR s x) := by
  intro y hy
  unfold insR at hy
  rcases List.mem_append.1 hy with h | h
  · exact hs y (List.mem_of_mem_take h)
  · rcases List.mem_cons.1 h with rfl | h
    · exact hx
    · exact hs y (List.mem_of_mem_drop h)
def zI : I := ⟨⟨0, 0, 0, 0, true, true, []⟩, false, ⟨0, 0, 0, 0, true, true, []⟩, false, false⟩
theorem snoc_set (s : List I) (x : I) : (s ++ [zI]).set s.length x = s.take s.length ++ x :: s.drop s.length := by
  simp
/-- where it belongs is looked for -/
theorem join_S4 (i : Nat) (hll : l.length < 1000000) (hil : i < l.length) (hsl : slOk 11 k nl l.length) (hgl : goods l) {r : PV} {s : List I} (hgs : goods s) (hls : s.length < 1000000) : ∀ (p : Nat) (gm : Nat) j jr g, p ≤ s.length →
    (∀ gm j jr g, LoopAt E1 Tryz.f58 r 0 (ref08_join_S3 l k nl full (i + 1 : Nat) gm (s.length + 1) (List.map I.p (s.take (insPos s (l.getD i default) p) ++ l.getD i default :: s.drop (insPos s (l.getD i default) p))) j jr g)) →
    LoopAt E1 Tryz.f58 r 1 (ref08_join_S4 l k nl full i p gm s.length (List.map I.p s) j jr g) := by
  have hx := goods_get hgl hil
  have hwn : IntKind.wrap IntKind.i64 (((s.length + 1 : Nat) : Int) - 1) = (s.length : Int) := by rw [wrap_i64 _ (by omega) (by omega)]; omega
  intro p
  induction p with
  | zero =>
    intro gm j0 jr0 g0 hp next
    refine loop_go 2000 _ (Eq.mpr (ref08_join_go_S4 l k nl full i (0 : Nat) gm s.length s j0 jr0 g0 _) ⟨fun h => ?_, fun h => ?_⟩)
    · simp at h
    · simp only [hwn, Nat.zero_add, eq_self, true_and, and_true]
      refine ⟨by omega, ⟨by simp, fits_104 (by omega)⟩, fun j jr g => ?_⟩
      have := join_S2 l k nl full i hll hil hsl (r := r) (s := s) (p := 0) hp hls next s.length s.length (s ++ [zI]) (g0 + 17 + 3) j jr g (by omega) (Nat.le_refl _) (by simp) (snoc_set s)
      rw [List.map_append] at this
      exact this
  | succ p ih =>
    intro gm j0 jr0 g0 hp next
    have hw2 : IntKind.wrap IntKind.i64 (((p + 1 : Nat) : Int) - 1) = (p : Int) := by rw [wrap_i64 _ (by omega) (by omega)]; omega
    have hs := goods_get hgs (show p < s.length by omega)
    unfold insPos at next
    refine loop_go 2000 _ (Eq.mpr (ref08_join_go_S4 l k nl full i (p + 1 : Nat) gm s.length s j0 jr0 g0 _) ⟨fun h => ?_, fun h => ?_⟩)
    · simp only [hw2, hwn, Int.toNat_natCast, Nat.zero_add, eq_self, true_and, and_true]
      refine ⟨by omega, getI (by omega), ⟨by omega, sl_at hsl hil⟩, getI hil, den_ref08_low ⟨_, _⟩ ⟨_, _⟩ hs.ok.lo hx.ok.lo hs.lo hx.lo, fun hh j jr g => ?_, fun hh => ⟨by omega, ⟨by simp, fits_104 (by omega)⟩, fun j jr g => ?_⟩⟩
      · rw [if_pos (by simpa [I.lb] using hh)] at next
        exact ih gm j jr g (by omega) next
      · rw [if_neg (by simpa [I.lb] using hh)] at next
        have := join_S2 l k nl full i hll hil hsl (r := r) (s := s) (p := p + 1) hp hls next (s.length - (p + 1)) s.length (s ++ [zI]) (g0 + 17 + 3) j jr g (by omega) (Nat.le_refl _) (by simp) (snoc_set s)
        rw [List.map_append] at this
        exact this
    · simp only [decide_eq_false_iff_not] at h; omega
/-- the first loop, with something in its row -/
theorem join_S3 (hll : l.length < 1000000) (hsl : slOk 11 k nl l.length) (hgl : goods l) : ∀ (n i : Nat) (s : List I) (gm : Nat) j jr g, i + n = l.length → s ≠ [] → s.length ≤ i → goods s →
    LoopAt E1 Tryz.f58 (resL ((sortR (l.drop i) s).foldl stepR [])) 0 (ref08_join_S3 l k nl full i gm s.length (List.map I.p s) j jr g) := by
  intro n
  induction n with
  | zero =>
    intro i s gm j0 jr0 g0 hi h0 hs hgs
    refine loop_go 2000 _ (Eq.mpr (ref08_join_go_S3 l k nl full i gm s.length s j0 jr0 g0 _) ⟨fun h => ?_, fun h j jr g => ?_⟩)
    · simp only [decide_eq_true_eq, List.length_map] at h; omega
    · rw [List.drop_eq_nil_of_le (by omega)]
      exact join_S6 l k nl full s hgs (by omega) h0 gm _ j jr g
  | succ n ih =>
    intro i s gm j0 jr0 g0 hi h0 hs hgs
    have hil : i < l.length := by omega
    have hx := goods_get hgl hil
    have hw1 : IntKind.wrap IntKind.i64 ((i : Int) + 1) = ((i + 1 : Nat) : Int) := wrap_i64 _ (by omega) (by omega)
    have hst : sortR (l.drop i) s = sortR (l.drop (i + 1)) (if emptyI (l.getD i default) then s else insR s (l.getD i default)) := by
      rw [drop_get hil]; rfl
    rw [hst]
    refine loop_go 2000 _ (Eq.mpr (ref08_join_go_S3 l k nl full i gm s.length s j0 jr0 g0 _) ⟨fun h => ?_, fun h => ?_⟩)
    · simp only [hw1, Int.toNat_natCast]
      refine ⟨⟨by omega, sl_at hsl hil⟩, getI hil, den_empty _ hx.ok hx.lo hx.hi, fun he j jr g => ?_, fun he j jr g => ?_⟩
      · rw [if_pos he]
        exact ih (i + 1) s gm j jr g (by omega) h0 (by omega) hgs
      · rw [he]
        refine join_S4 l k nl full i hll hil hsl hgl hgs (by omega) s.length gm j jr g (Nat.le_refl _) fun gm j jr g => ?_
        have := ih (i + 1) (insR s (l.getD i default)) gm j jr g (by omega) (by unfold insR; simp) (by rw [insR_len]; omega) (goods_ins hgs hx)
        rw [insR_len] at this
        exact this
    · simp only [decide_eq_false_iff_not, List.length_map] at h; omega
theorem join_S0 (hll : l.length < 1000000) (hsl : slOk 11 k nl l.length) (hgl : goods l) : ∀ (n i : Nat) j jr g, i + n = l.length →
    LoopAt E1 Tryz.f58 (resL ((sortR (l.drop i) []).foldl stepR [])) 0 (ref08_join_S0 l k nl full i j jr g) := by
  intro n
  induction n with
  | zero =>
    intro i j0 jr0 g0 hi
    refine loop_go 2000 _ (Eq.mpr (ref08_join_go_S0 l k nl full i j0 jr0 g0 _) ⟨fun h => ?_, fun h j jr g => ?_⟩)
    · simp only [decide_eq_true_eq, List.length_map] at h; omega
    · rw [List.drop_eq_nil_of_le (by omega)]
      exact loop_go 2000 _ (Eq.mpr (ref08_join_go_S5 l k nl full _ j jr g _) rfl)
  | succ n ih =>
    intro i j0 jr0 g0 hi
    have hil : i < l.length := by omega
    have hx := goods_get hgl hil
    have hw1 : IntKind.wrap IntKind.i64 ((i : Int) + 1) = ((i + 1 : Nat) : Int) := wrap_i64 _ (by omega) (by omega)
    have hst : sortR (l.drop i) [] = sortR (l.drop (i + 1)) (if emptyI (l.getD i default) then [] else [l.getD i default]) := by
      rw [drop_get hil]; rfl
    rw [hst]
    refine loop_go 2000 _ (Eq.mpr (ref08_join_go_S0 l k nl full i j0 jr0 g0 _) ⟨fun h => ?_, fun h => ?_⟩)
    · simp only [hw1, Int.toNat_natCast]
      refine ⟨⟨by omega, sl_at hsl hil⟩, getI hil, den_empty _ hx.ok hx.lo hx.hi, fun he j jr g => ?_, fun he j jr g => ?_⟩
      · rw [if_pos he]
        exact ih (i + 1) j jr g (by omega)
      · rw [he]
        refine loop_go 2000 _ (Eq.mpr (ref08_join_go_S1 l k nl full i j jr g _) ⟨rfl, ⟨rfl, Nat.le_refl _⟩, ⟨rfl, rfl⟩, fun j jr g1 => ?_⟩)
        refine join_S2 l k nl full i hll hil hsl (s := []) (p := 0) (Nat.le_refl _) (by simp) (fun gm j jr g => ?_) 0 0 [zI] _ j jr g1 rfl (Nat.le_refl _) rfl (fun x => rfl)
        exact join_S3 l k nl full hll hsl hgl n (i + 1) [l.getD i default] gm j jr g (by omega) (by simp) (by simp) (fun y hy => by simp at hy; subst hy; rw [← List.getD_eq_getElem?_getD]; exact hx)
    · simp only [decide_eq_false_iff_not, List.length_map] at h; omega
theorem den_ref08_join (hll : l.length < 1000000) (hsl : slOk 11 k nl l.length) (hgl : goods l) : Den E1 58 [listP k nl full l] (resL (joinR l)) :=
  den1 2000 _ rfl (by kernel_rfl) rfl rfl rfl (Eq.mpr (ref08_join_go l k nl full _) fun j jr g => join_S0 l k nl full hll hsl hgl l.length 0 j jr g (by omega))
end
end Go.Proofs.YtlhfgonjcpapnaaGreatDoor.Abs

/- Is a version in a span: what the functions compute. -/
set_option linter.unusedVariables false
set_option linter.unusedSimpArgs false
namespace Go.Proofs.YtlhfgonjcpapnaaGreatDoor.Abs
open Go Go.Proofs

def inI (x : I) (v : V) : Bool := decide (befE x.low ⟨v, false, false⟩ ≤ 0) && decide (befE ⟨v, true, false⟩ x.high ≤ 0)
def idxI (p : I → Bool) (l : List I) : Int := if l.findIdx p < l.length then (l.findIdx p : Int) else -1
def hasS (l : List I) (v : V) : Bool × Int := if mayR l then (if mayV v then (l.any fun x => inI x v, 0) else (false, 70)) else (false, 80)
def hasR (l : List I) (v : V) : Bool := !(meetR l [⟨v, false, v, false, false⟩]).isEmpty
end Go.Proofs.YtlhfgonjcpapnaaGreatDoor.Abs

/- Conditions of functions and their loops, printed by a program and checked by computing. -/
set_option linter.unusedVariables false
namespace Go.Proofs.YtlhfgonjcpapnaaGreatDoor.Abs
open Go Go.Proofs

def ref08_meet_S0 (l : List I) (m : List I) (k : Nat) (k' : Nat) (nl : Bool) (full : Bool) (nl' : Bool) (full' : Bool) (i : Int) (j : Nat → AV) (jr : Nat → Row) (g : Nat) : St :=
  { t := [.pv (.sl k nl full (List.map I.p l)), .pv (.sl k' nl' full' (List.map I.p m)), j (2 : Nat), j (3 : Nat), j (4 : Nat), .pv (.sl 0 true true []), intA i, j (7 : Nat), j (8 : Nat), j (9 : Nat), j (10 : Nat), j (11 : Nat), j (12 : Nat), j (13 : Nat), j (14 : Nat), j (15 : Nat), j (16 : Nat), j (17 : Nat), j (18 : Nat), j (19 : Nat), j (20 : Nat), j (21 : Nat), j (22 : Nat), j (23 : Nat), j (24 : Nat), j (25 : Nat), j (26 : Nat), j (27 : Nat), j (28 : Nat), j (29 : Nat), j (30 : Nat), j (31 : Nat), j (32 : Nat), j (33 : Nat), j (34 : Nat), j (35 : Nat), j (36 : Nat), j (37 : Nat), j (38 : Nat), j (39 : Nat), j (40 : Nat), j (41 : Nat), j (42 : Nat), j (43 : Nat), j (44 : Nat), j (45 : Nat), j (46 : Nat), j (47 : Nat), j (48 : Nat), j (49 : Nat), j (50 : Nat), j (51 : Nat), j (52 : Nat), j (53 : Nat), j (54 : Nat), j (55 : Nat), j (56 : Nat), j (57 : Nat), j (58 : Nat), j (59 : Nat), j (60 : Nat), j (61 : Nat), j (62 : Nat), j (63 : Nat), j (64 : Nat)], h := [[row0, row0, row0, row0, row0, row0, row0, row0, jr (8 : Nat), row0, row0, row0, row0, row0, row0, row0, row0, row0, row0, row0, row0, row0, row0, row0, row0, row0, row0, row0, row0, row0, row0, row0, row0, row0, row0, row0, row0, row0, row0, row0, row0, row0, row0, row0, row0, row0, row0, row0, row0, row0, row0, row0, row0, row0, row0, row0, row0, row0, row0, row0, row0, jr (61 : Nat), row0, row0, row0]], g := g }
def ref08_meet_S1 (l : List I) (m : List I) (k : Nat) (k' : Nat) (nl : Bool) (full : Bool) (nl' : Bool) (full' : Bool) (i : Int) (q : Int) (j : Nat → AV) (jr : Nat → Row) (g : Nat) : St :=
  { t := [.pv (.sl k nl full (List.map I.p l)), .pv (.sl k' nl' full' (List.map I.p m)), j (2 : Nat), j (3 : Nat), j (4 : Nat), .pv (.sl 0 true true []), intA i, intA q, j (8 : Nat), j (9 : Nat), j (10 : Nat), j (11 : Nat), j (12 : Nat), j (13 : Nat), j (14 : Nat), j (15 : Nat), j (16 : Nat), j (17 : Nat), j (18 : Nat), j (19 : Nat), j (20 : Nat), j (21 : Nat), j (22 : Nat), j (23 : Nat), j (24 : Nat), j (25 : Nat), j (26 : Nat), j (27 : Nat), j (28 : Nat), j (29 : Nat), j (30 : Nat), j (31 : Nat), j (32 : Nat), j (33 : Nat), j (34 : Nat), j (35 : Nat), j (36 : Nat), j (37 : Nat), j (38 : Nat), j (39 : Nat), j (40 : Nat), j (41 : Nat), j (42 : Nat), j (43 : Nat), j (44 : Nat), j (45 : Nat), j (46 : Nat), j (47 : Nat), j (48 : Nat), j (49 : Nat), j (50 : Nat), j (51 : Nat), j (52 : Nat), j (53 : Nat), j (54 : Nat), j (55 : Nat), j (56 : Nat), j (57 : Nat), j (58 : Nat), j (59 : Nat), j (60 : Nat), j (61 : Nat), j (62 : Nat), j (63 : Nat), j (64 : Nat)], h := [[row0, row0, row0, row0, row0, row0, row0, row0, jr (8 : Nat), row0, row0, row0, row0, row0, row0, row0, row0, row0, row0, row0, row0, row0, row0, row0, row0, row0, row0, row0, row0, row0, row0, row0, row0, row0, row0, row0, row0, row0, row0, row0, row0, row0, row0, row0, row0, row0, row0, row0, row0, row0, row0, row0, row0, row0, row0, row0, row0, row0, row0, row0, row0, jr (61 : Nat), row0, row0, row0]], g := g }
def ref08_meet_S2 (l : List I) (m : List I) (k : Nat) (k' : Nat) (nl : Bool) (full : Bool) (nl' : Bool) (full' : Bool) (i : Int) (q : Int) (gm : Nat) (n : Nat) (xsI : List PV) (j : Nat → AV) (jr : Nat → Row) (g : Nat) : St :=
  { t := [.pv (.sl k nl full (List.map I.p l)), .pv (.sl k' nl' full' (List.map I.p m)), j (2 : Nat), j (3 : Nat), j (4 : Nat), .msl 0 62 gm 0 n false, intA i, intA q, j (8 : Nat), j (9 : Nat), j (10 : Nat), j (11 : Nat), j (12 : Nat), j (13 : Nat), j (14 : Nat), j (15 : Nat), j (16 : Nat), j (17 : Nat), j (18 : Nat), j (19 : Nat), j (20 : Nat), j (21 : Nat), j (22 : Nat), j (23 : Nat), j (24 : Nat), j (25 : Nat), j (26 : Nat), j (27 : Nat), j (28 : Nat), j (29 : Nat), j (30 : Nat), j (31 : Nat), j (32 : Nat), j (33 : Nat), j (34 : Nat), j (35 : Nat), j (36 : Nat), j (37 : Nat), j (38 : Nat), j (39 : Nat), j (40 : Nat), j (41 : Nat), j (42 : Nat), j (43 : Nat), j (44 : Nat), j (45 : Nat), j (46 : Nat), j (47 : Nat), j (48 : Nat), j (49 : Nat), j (50 : Nat), j (51 : Nat), j (52 : Nat), j (53 : Nat), j (54 : Nat), j (55 : Nat), j (56 : Nat), j (57 : Nat), j (58 : Nat), j (59 : Nat), j (60 : Nat), j (61 : Nat), j (62 : Nat), j (63 : Nat), j (64 : Nat)], h := [[row0, row0, row0, row0, row0, row0, row0, row0, jr (8 : Nat), row0, row0, row0, row0, row0, row0, row0, row0, row0, row0, row0, row0, row0, row0, row0, row0, row0, row0, row0, row0, row0, row0, row0, row0, row0, row0, row0, row0, row0, row0, row0, row0, row0, row0, row0, row0, row0, row0, row0, row0, row0, row0, row0, row0, row0, row0, row0, row0, row0, row0, row0, row0, jr (61 : Nat), ⟨gm, .row 11 63 xsI false⟩, row0, row0]], g := g }
def ref08_meet_S3 (l : List I) (m : List I) (k : Nat) (k' : Nat) (nl : Bool) (full : Bool) (nl' : Bool) (full' : Bool) (i : Int) (gm : Nat) (n : Nat) (xsI : List PV) (j : Nat → AV) (jr : Nat → Row) (g : Nat) : St :=
  { t := [.pv (.sl k nl full (List.map I.p l)), .pv (.sl k' nl' full' (List.map I.p m)), j (2 : Nat), j (3 : Nat), j (4 : Nat), .msl 0 62 gm 0 n false, intA i, j (7 : Nat), j (8 : Nat), j (9 : Nat), j (10 : Nat), j (11 : Nat), j (12 : Nat), j (13 : Nat), j (14 : Nat), j (15 : Nat), j (16 : Nat), j (17 : Nat), j (18 : Nat), j (19 : Nat), j (20 : Nat), j (21 : Nat), j (22 : Nat), j (23 : Nat), j (24 : Nat), j (25 : Nat), j (26 : Nat), j (27 : Nat), j (28 : Nat), j (29 : Nat), j (30 : Nat), j (31 : Nat), j (32 : Nat), j (33 : Nat), j (34 : Nat), j (35 : Nat), j (36 : Nat), j (37 : Nat), j (38 : Nat), j (39 : Nat), j (40 : Nat), j (41 : Nat), j (42 : Nat), j (43 : Nat), j (44 : Nat), j (45 : Nat), j (46 : Nat), j (47 : Nat), j (48 : Nat), j (49 : Nat), j (50 : Nat), j (51 : Nat), j (52 : Nat), j (53 : Nat), j (54 : Nat), j (55 : Nat), j (56 : Nat), j (57 : Nat), j (58 : Nat), j (59 : Nat), j (60 : Nat), j (61 : Nat), j (62 : Nat), j (63 : Nat), j (64 : Nat)], h := [[row0, row0, row0, row0, row0, row0, row0, row0, jr (8 : Nat), row0, row0, row0, row0, row0, row0, row0, row0, row0, row0, row0, row0, row0, row0, row0, row0, row0, row0, row0, row0, row0, row0, row0, row0, row0, row0, row0, row0, row0, row0, row0, row0, row0, row0, row0, row0, row0, row0, row0, row0, row0, row0, row0, row0, row0, row0, row0, row0, row0, row0, row0, row0, jr (61 : Nat), ⟨gm, .row 11 63 xsI false⟩, row0, row0]], g := g }
theorem ref08_meet_go (l : List I) (m : List I) (k : Nat) (k' : Nat) (nl : Bool) (full : Bool) (nl' : Bool) (full' : Bool) (r : PV) : FnGo E1 Tryz.f61 [.sl k nl full (List.map I.p l), .sl k' nl' full' (List.map I.p m)] r 2000 (.mask [2, 3, 4, 7, 8, 9, 10, 11, 12, 13, 14, 15, 16, 17, 18, 19, 20, 21, 22, 23, 24, 25, 26, 27, 28, 29, 30, 31, 32, 33, 34, 35, 36, 37, 38, 39, 40, 41, 42, 43, 44, 45, 46, 47, 48, 49, 50, 51, 52, 53, 54, 55, 56, 57, 58, 59, 60, 61, 62, 63, 64] [8, 61]) =
  (∀ (j' : Nat → AV) (jr' : Nat → Row) (g' : Nat), LoopAt E1 Tryz.f61 r 0 (ref08_meet_S0 l m k k' nl full nl' full' 0 j' jr' g')) := by kernel_rfl
theorem ref08_meet_go_S0 (l : List I) (m : List I) (k : Nat) (k' : Nat) (nl : Bool) (full : Bool) (nl' : Bool) (full' : Bool) (i : Int) (j : Nat → AV) (jr : Nat → Row) (g : Nat) (r : PV) : LoopGo E1 Tryz.f61 r 0 2000 (.fork (.mask [2, 3, 4, 8, 9, 10, 11, 12, 13, 14, 15, 16, 17, 18, 19, 20, 21, 22, 23, 24, 25, 26, 27, 28, 29, 30, 31, 32, 33, 34, 35, 36, 37, 38, 39, 40, 41, 42, 43, 44, 45, 46, 47, 48, 49, 50, 51, 52, 53, 54, 55, 56, 57, 58, 59, 60, 61, 62, 63, 64] [8, 61]) (.res (.sl 0 true true []) (.hole 0))) (ref08_meet_S0 l m k k' nl full nl' full' i j jr g) =
  (((decide (i < (↑(List.length (List.map I.p l)) : Int))) = true →
   ∀ (j' : Nat → AV) (jr' : Nat → Row) (g' : Nat), LoopAt E1 Tryz.f61 r 1 (ref08_meet_S1 l m k k' nl full nl' full' i 0 j' jr' g')) ∧
  ((decide (i < (↑(List.length (List.map I.p l)) : Int))) = false →
   (Den E1 58 [.sl 0 true true []] (.sl 0 true true [])) ∧
   ((.sl 0 true true []) : PV) = r)) := by kernel_rfl
theorem ref08_meet_go_S1 (l : List I) (m : List I) (k : Nat) (k' : Nat) (nl : Bool) (full : Bool) (nl' : Bool) (full' : Bool) (i : Int) (q : Int) (j : Nat → AV) (jr : Nat → Row) (g : Nat) (r : PV) : LoopGo E1 Tryz.f61 r 1 2000 (.fork (.val (I.p (List.getD l (Int.toNat i) default)) (.val (I.p (List.getD m (Int.toNat q) default)) (.res (intP (lowB { v := I.lo (List.getD l (Int.toNat i) default), op := I.lopen (List.getD l (Int.toNat i) default) } { v := I.lo (List.getD m (Int.toNat q) default), op := I.lopen (List.getD m (Int.toNat q) default) })) (.fork (.val (I.p (List.getD m (Int.toNat q) default)) (.val (I.p (List.getD m (Int.toNat q) default)) (.res (intP (highI (List.getD m (Int.toNat q) default) { lo := I.lo (List.getD m (Int.toNat q) default), lopen := I.lopen (List.getD m (Int.toNat q) default), hi := I.hi (List.getD l (Int.toNat i) default), hopen := I.hopen (List.getD l (Int.toNat i) default), less := I.less (List.getD l (Int.toNat i) default) })) (.fork (.val (I.p (List.getD m (Int.toNat q) default)) (.val (I.p (List.getD m (Int.toNat q) default)) (.lit (.lit (.mask [2, 3, 4, 8, 9, 10, 11, 12, 13, 14, 15, 16, 17, 18, 19, 20, 21, 22, 23, 24, 25, 26, 27, 28, 29, 30, 31, 32, 33, 34, 35, 36, 37, 38, 39, 40, 41, 42, 43, 44, 45, 46, 47, 48, 49, 50, 51, 52, 53, 54, 55, 56, 57, 58, 59, 60, 61, 62, 63, 64] [8, 61]))))) (.lit (.lit (.mask [2, 3, 4, 8, 9, 10, 11, 12, 13, 14, 15, 16, 17, 18, 19, 20, 21, 22, 23, 24, 25, 26, 27, 28, 29, 30, 31, 32, 33, 34, 35, 36, 37, 38, 39, 40, 41, 42, 43, 44, 45, 46, 47, 48, 49, 50, 51, 52, 53, 54, 55, 56, 57, 58, 59, 60, 61, 62, 63, 64] [8, 61]))))))) (.val (I.p (List.getD m (Int.toNat q) default)) (.res (intP (highI (List.getD m (Int.toNat q) default) (List.getD l (Int.toNat i) default))) (.fork (.val (I.p (List.getD m (Int.toNat q) default)) (.val (I.p (List.getD m (Int.toNat q) default)) (.lit (.lit (.mask [2, 3, 4, 8, 9, 10, 11, 12, 13, 14, 15, 16, 17, 18, 19, 20, 21, 22, 23, 24, 25, 26, 27, 28, 29, 30, 31, 32, 33, 34, 35, 36, 37, 38, 39, 40, 41, 42, 43, 44, 45, 46, 47, 48, 49, 50, 51, 52, 53, 54, 55, 56, 57, 58, 59, 60, 61, 62, 63, 64] [8, 61]))))) (.lit (.lit (.mask [2, 3, 4, 8, 9, 10, 11, 12, 13, 14, 15, 16, 17, 18, 19, 20, 21, 22, 23, 24, 25, 26, 27, 28, 29, 30, 31, 32, 33, 34, 35, 36, 37, 38, 39, 40, 41, 42, 43, 44, 45, 46, 47, 48, 49, 50, 51, 52, 53, 54, 55, 56, 57, 58, 59, 60, 61, 62, 63, 64] [8, 61])))))))))) (.mask [2, 3, 4, 7, 8, 9, 10, 11, 12, 13, 14, 15, 16, 17, 18, 19, 20, 21, 22, 23, 24, 25, 26, 27, 28, 29, 30, 31, 32, 33, 34, 35, 36, 37, 38, 39, 40, 41, 42, 43, 44, 45, 46, 47, 48, 49, 50, 51, 52, 53, 54, 55, 56, 57, 58, 59, 60, 61, 62, 63, 64] [8, 61])) (ref08_meet_S1 l m k k' nl full nl' full' i q j jr g) =
  (((decide (q < (↑(List.length (List.map I.p m)) : Int))) = true →
   (((0 : Int) ≤ i) ∧ ((nl = false) ∧ (k = 11))) ∧
   (((List.map I.p l)[Int.toNat i]?) = some (I.p (List.getD l (Int.toNat i) default))) ∧
   ((g + (4 : Nat) + (4 : Nat)) = g + (4 : Nat) + (4 : Nat)) ∧
   ((g + (4 : Nat) + (4 : Nat)) = g + (4 : Nat) + (4 : Nat)) ∧
   (((0 : Int) ≤ q) ∧ ((nl' = false) ∧ (k' = 11))) ∧
   (((List.map I.p m)[Int.toNat q]?) = some (I.p (List.getD m (Int.toNat q) default))) ∧
   (Den E1 44 [bndP (V.a (I.lo (List.getD l (Int.toNat i) default))) (V.b (I.lo (List.getD l (Int.toNat i) default))) (V.c (I.lo (List.getD l (Int.toNat i) default))) (.sl (V.k (I.lo (List.getD l (Int.toNat i) default))) (V.nl (I.lo (List.getD l (Int.toNat i) default))) (V.full (I.lo (List.getD l (Int.toNat i) default))) (List.map strP (V.pre (I.lo (List.getD l (Int.toNat i) default))))) (I.lopen (List.getD l (Int.toNat i) default)), bndP (V.a (I.lo (List.getD m (Int.toNat q) default))) (V.b (I.lo (List.getD m (Int.toNat q) default))) (V.c (I.lo (List.getD m (Int.toNat q) default))) (.sl (V.k (I.lo (List.getD m (Int.toNat q) default))) (V.nl (I.lo (List.getD m (Int.toNat q) default))) (V.full (I.lo (List.getD m (Int.toNat q) default))) (List.map strP (V.pre (I.lo (List.getD m (Int.toNat q) default))))) (I.lopen (List.getD m (Int.toNat q) default))] (intP (lowB { v := I.lo (List.getD l (Int.toNat i) default), op := I.lopen (List.getD l (Int.toNat i) default) } { v := I.lo (List.getD m (Int.toNat q) default), op := I.lopen (List.getD m (Int.toNat q) default) }))) ∧
   ((decide (lowB { v := I.lo (List.getD l (Int.toNat i) default), op := I.lopen (List.getD l (Int.toNat i) default) } { v := I.lo (List.getD m (Int.toNat q) default), op := I.lopen (List.getD m (Int.toNat q) default) } < (0 : Int))) = true →
    (((0 : Int) ≤ q) ∧ ((nl' = false) ∧ (k' = 11))) ∧
    (((List.map I.p m)[Int.toNat q]?) = some (I.p (List.getD m (Int.toNat q) default))) ∧
    ((g + (4 : Nat) + (4 : Nat)) = g + (4 : Nat) + (4 : Nat)) ∧
    (((0 : Int) ≤ q) ∧ ((nl' = false) ∧ (k' = 11))) ∧
    (((List.map I.p m)[Int.toNat q]?) = some (I.p (List.getD m (Int.toNat q) default))) ∧
    ((g + (4 : Nat) + (4 : Nat)) = g + (4 : Nat) + (4 : Nat)) ∧
    (Den E1 100 [I.p (List.getD m (Int.toNat q) default), itvP (V.a (I.lo (List.getD m (Int.toNat q) default))) (V.b (I.lo (List.getD m (Int.toNat q) default))) (V.c (I.lo (List.getD m (Int.toNat q) default))) (.sl (V.k (I.lo (List.getD m (Int.toNat q) default))) (V.nl (I.lo (List.getD m (Int.toNat q) default))) (V.full (I.lo (List.getD m (Int.toNat q) default))) (List.map strP (V.pre (I.lo (List.getD m (Int.toNat q) default))))) (I.lopen (List.getD m (Int.toNat q) default)) (V.a (I.hi (List.getD l (Int.toNat i) default))) (V.b (I.hi (List.getD l (Int.toNat i) default))) (V.c (I.hi (List.getD l (Int.toNat i) default))) (.sl (V.k (I.hi (List.getD l (Int.toNat i) default))) (V.nl (I.hi (List.getD l (Int.toNat i) default))) (V.full (I.hi (List.getD l (Int.toNat i) default))) (List.map strP (V.pre (I.hi (List.getD l (Int.toNat i) default))))) (I.hopen (List.getD l (Int.toNat i) default)) (I.less (List.getD l (Int.toNat i) default))] (intP (highI (List.getD m (Int.toNat q) default) { lo := I.lo (List.getD m (Int.toNat q) default), lopen := I.lopen (List.getD m (Int.toNat q) default), hi := I.hi (List.getD l (Int.toNat i) default), hopen := I.hopen (List.getD l (Int.toNat i) default), less := I.less (List.getD l (Int.toNat i) default) }))) ∧
    ((decide (highI (List.getD m (Int.toNat q) default) { lo := I.lo (List.getD m (Int.toNat q) default), lopen := I.lopen (List.getD m (Int.toNat q) default), hi := I.hi (List.getD l (Int.toNat i) default), hopen := I.hopen (List.getD l (Int.toNat i) default), less := I.less (List.getD l (Int.toNat i) default) } < (0 : Int))) = true →
     (((0 : Int) ≤ q) ∧ ((nl' = false) ∧ (k' = 11))) ∧
     (((List.map I.p m)[Int.toNat q]?) = some (I.p (List.getD m (Int.toNat q) default))) ∧
     ((g + (4 : Nat) + (4 : Nat)) = g + (4 : Nat) + (4 : Nat)) ∧
     (((0 : Int) ≤ q) ∧ ((nl' = false) ∧ (k' = 11))) ∧
     (((List.map I.p m)[Int.toNat q]?) = some (I.p (List.getD m (Int.toNat q) default))) ∧
     ((g + (4 : Nat) + (4 : Nat)) = g + (4 : Nat) + (4 : Nat)) ∧
     ((g + (4 : Nat) + (4 : Nat)) = g + (4 : Nat) + (4 : Nat)) ∧
     ((g + (4 : Nat) + (6 : Nat) + (9 : Nat) + (7 : Nat) + (7 : Nat) + (7 : Nat) + (7 : Nat) + (2 : Nat)) = g + (4 : Nat) + (6 : Nat) + (9 : Nat) + (7 : Nat) + (7 : Nat) + (7 : Nat) + (7 : Nat) + (2 : Nat)) ∧
     (((11 : Nat) = 11) ∧ ((1 : Nat) ≤ (1 : Nat))) ∧
     (((0 : Nat) = 0) ∧ (true = true)) ∧
     (∀ (j' : Nat → AV) (jr' : Nat → Row) (g' : Nat), LoopAt E1 Tryz.f61 r 1 (ref08_meet_S2 l m k k' nl full nl' full' i (IntKind.wrap IntKind.i64 (q + (1 : Int))) (g + (4 : Nat) + (6 : Nat) + (9 : Nat) + (7 : Nat) + (7 : Nat) + (7 : Nat) + (7 : Nat) + (3 : Nat)) 1 [I.p (List.getD m (Int.toNat q) default)] j' jr' g'))) ∧
    ((decide (highI (List.getD m (Int.toNat q) default) { lo := I.lo (List.getD m (Int.toNat q) default), lopen := I.lopen (List.getD m (Int.toNat q) default), hi := I.hi (List.getD l (Int.toNat i) default), hopen := I.hopen (List.getD l (Int.toNat i) default), less := I.less (List.getD l (Int.toNat i) default) } < (0 : Int))) = false →
     ((g + (4 : Nat) + (4 : Nat)) = g + (4 : Nat) + (4 : Nat)) ∧
     ((g + (4 : Nat) + (6 : Nat) + (9 : Nat) + (7 : Nat) + (7 : Nat) + (2 : Nat)) = g + (4 : Nat) + (6 : Nat) + (9 : Nat) + (7 : Nat) + (7 : Nat) + (2 : Nat)) ∧
     (((11 : Nat) = 11) ∧ ((1 : Nat) ≤ (1 : Nat))) ∧
     (((0 : Nat) = 0) ∧ (true = true)) ∧
     (∀ (j' : Nat → AV) (jr' : Nat → Row) (g' : Nat), LoopAt E1 Tryz.f61 r 1 (ref08_meet_S2 l m k k' nl full nl' full' i (IntKind.wrap IntKind.i64 (q + (1 : Int))) (g + (4 : Nat) + (6 : Nat) + (9 : Nat) + (7 : Nat) + (7 : Nat) + (3 : Nat)) 1 [itvP (V.a (I.lo (List.getD m (Int.toNat q) default))) (V.b (I.lo (List.getD m (Int.toNat q) default))) (V.c (I.lo (List.getD m (Int.toNat q) default))) (.sl (V.k (I.lo (List.getD m (Int.toNat q) default))) (V.nl (I.lo (List.getD m (Int.toNat q) default))) (V.full (I.lo (List.getD m (Int.toNat q) default))) (List.map strP (V.pre (I.lo (List.getD m (Int.toNat q) default))))) (I.lopen (List.getD m (Int.toNat q) default)) (V.a (I.hi (List.getD l (Int.toNat i) default))) (V.b (I.hi (List.getD l (Int.toNat i) default))) (V.c (I.hi (List.getD l (Int.toNat i) default))) (.sl (V.k (I.hi (List.getD l (Int.toNat i) default))) (V.nl (I.hi (List.getD l (Int.toNat i) default))) (V.full (I.hi (List.getD l (Int.toNat i) default))) (List.map strP (V.pre (I.hi (List.getD l (Int.toNat i) default))))) (I.hopen (List.getD l (Int.toNat i) default)) (I.less (List.getD l (Int.toNat i) default))] j' jr' g')))) ∧
   ((decide (lowB { v := I.lo (List.getD l (Int.toNat i) default), op := I.lopen (List.getD l (Int.toNat i) default) } { v := I.lo (List.getD m (Int.toNat q) default), op := I.lopen (List.getD m (Int.toNat q) default) } < (0 : Int))) = false →
    (((0 : Int) ≤ q) ∧ ((nl' = false) ∧ (k' = 11))) ∧
    (((List.map I.p m)[Int.toNat q]?) = some (I.p (List.getD m (Int.toNat q) default))) ∧
    ((g + (4 : Nat) + (4 : Nat)) = g + (4 : Nat) + (4 : Nat)) ∧
    (Den E1 100 [I.p (List.getD m (Int.toNat q) default), I.p (List.getD l (Int.toNat i) default)] (intP (highI (List.getD m (Int.toNat q) default) (List.getD l (Int.toNat i) default)))) ∧
    ((decide (highI (List.getD m (Int.toNat q) default) (List.getD l (Int.toNat i) default) < (0 : Int))) = true →
     (((0 : Int) ≤ q) ∧ ((nl' = false) ∧ (k' = 11))) ∧
     (((List.map I.p m)[Int.toNat q]?) = some (I.p (List.getD m (Int.toNat q) default))) ∧
     ((g + (4 : Nat) + (4 : Nat)) = g + (4 : Nat) + (4 : Nat)) ∧
     (((0 : Int) ≤ q) ∧ ((nl' = false) ∧ (k' = 11))) ∧
     (((List.map I.p m)[Int.toNat q]?) = some (I.p (List.getD m (Int.toNat q) default))) ∧
     ((g + (4 : Nat) + (4 : Nat)) = g + (4 : Nat) + (4 : Nat)) ∧
     ((g + (4 : Nat) + (4 : Nat)) = g + (4 : Nat) + (4 : Nat)) ∧
     ((g + (4 : Nat) + (6 : Nat) + (9 : Nat) + (7 : Nat) + (7 : Nat) + (7 : Nat) + (2 : Nat)) = g + (4 : Nat) + (6 : Nat) + (9 : Nat) + (7 : Nat) + (7 : Nat) + (7 : Nat) + (2 : Nat)) ∧
     (((11 : Nat) = 11) ∧ ((1 : Nat) ≤ (1 : Nat))) ∧
     (((0 : Nat) = 0) ∧ (true = true)) ∧
     (∀ (j' : Nat → AV) (jr' : Nat → Row) (g' : Nat), LoopAt E1 Tryz.f61 r 1 (ref08_meet_S2 l m k k' nl full nl' full' i (IntKind.wrap IntKind.i64 (q + (1 : Int))) (g + (4 : Nat) + (6 : Nat) + (9 : Nat) + (7 : Nat) + (7 : Nat) + (7 : Nat) + (3 : Nat)) 1 [itvP (V.a (I.lo (List.getD l (Int.toNat i) default))) (V.b (I.lo (List.getD l (Int.toNat i) default))) (V.c (I.lo (List.getD l (Int.toNat i) default))) (.sl (V.k (I.lo (List.getD l (Int.toNat i) default))) (V.nl (I.lo (List.getD l (Int.toNat i) default))) (V.full (I.lo (List.getD l (Int.toNat i) default))) (List.map strP (V.pre (I.lo (List.getD l (Int.toNat i) default))))) (I.lopen (List.getD l (Int.toNat i) default)) (V.a (I.hi (List.getD m (Int.toNat q) default))) (V.b (I.hi (List.getD m (Int.toNat q) default))) (V.c (I.hi (List.getD m (Int.toNat q) default))) (.sl (V.k (I.hi (List.getD m (Int.toNat q) default))) (V.nl (I.hi (List.getD m (Int.toNat q) default))) (V.full (I.hi (List.getD m (Int.toNat q) default))) (List.map strP (V.pre (I.hi (List.getD m (Int.toNat q) default))))) (I.hopen (List.getD m (Int.toNat q) default)) (I.less (List.getD m (Int.toNat q) default))] j' jr' g'))) ∧
    ((decide (highI (List.getD m (Int.toNat q) default) (List.getD l (Int.toNat i) default) < (0 : Int))) = false →
     ((g + (4 : Nat) + (4 : Nat)) = g + (4 : Nat) + (4 : Nat)) ∧
     ((g + (4 : Nat) + (6 : Nat) + (9 : Nat) + (7 : Nat) + (2 : Nat)) = g + (4 : Nat) + (6 : Nat) + (9 : Nat) + (7 : Nat) + (2 : Nat)) ∧
     (((11 : Nat) = 11) ∧ ((1 : Nat) ≤ (1 : Nat))) ∧
     (((0 : Nat) = 0) ∧ (true = true)) ∧
     (∀ (j' : Nat → AV) (jr' : Nat → Row) (g' : Nat), LoopAt E1 Tryz.f61 r 1 (ref08_meet_S2 l m k k' nl full nl' full' i (IntKind.wrap IntKind.i64 (q + (1 : Int))) (g + (4 : Nat) + (6 : Nat) + (9 : Nat) + (7 : Nat) + (3 : Nat)) 1 [I.p (List.getD l (Int.toNat i) default)] j' jr' g'))))) ∧
  ((decide (q < (↑(List.length (List.map I.p m)) : Int))) = false →
   ∀ (j' : Nat → AV) (jr' : Nat → Row) (g' : Nat), LoopAt E1 Tryz.f61 r 0 (ref08_meet_S0 l m k k' nl full nl' full' (IntKind.wrap IntKind.i64 (i + (1 : Int))) j' jr' g'))) := by kernel_rfl
theorem ref08_meet_go_S2 (l : List I) (m : List I) (k : Nat) (k' : Nat) (nl : Bool) (full : Bool) (nl' : Bool) (full' : Bool) (i : Int) (q : Int) (gm : Nat) (n : Nat) (xs : List I) (j : Nat → AV) (jr : Nat → Row) (g : Nat) (r : PV) : LoopGo E1 Tryz.f61 r 1 2000 (.fork (.val (I.p (List.getD l (Int.toNat i) default)) (.val (I.p (List.getD m (Int.toNat q) default)) (.res (intP (lowB { v := I.lo (List.getD l (Int.toNat i) default), op := I.lopen (List.getD l (Int.toNat i) default) } { v := I.lo (List.getD m (Int.toNat q) default), op := I.lopen (List.getD m (Int.toNat q) default) })) (.fork (.val (I.p (List.getD m (Int.toNat q) default)) (.val (I.p (List.getD m (Int.toNat q) default)) (.res (intP (highI (List.getD m (Int.toNat q) default) { lo := I.lo (List.getD m (Int.toNat q) default), lopen := I.lopen (List.getD m (Int.toNat q) default), hi := I.hi (List.getD l (Int.toNat i) default), hopen := I.hopen (List.getD l (Int.toNat i) default), less := I.less (List.getD l (Int.toNat i) default) })) (.fork (.val (I.p (List.getD m (Int.toNat q) default)) (.val (I.p (List.getD m (Int.toNat q) default)) (.lit (.mask [2, 3, 4, 8, 9, 10, 11, 12, 13, 14, 15, 16, 17, 18, 19, 20, 21, 22, 23, 24, 25, 26, 27, 28, 29, 30, 31, 32, 33, 34, 35, 36, 37, 38, 39, 40, 41, 42, 43, 44, 45, 46, 47, 48, 49, 50, 51, 52, 53, 54, 55, 56, 57, 58, 59, 60, 61, 62, 63, 64] [8, 61])))) (.lit (.mask [2, 3, 4, 8, 9, 10, 11, 12, 13, 14, 15, 16, 17, 18, 19, 20, 21, 22, 23, 24, 25, 26, 27, 28, 29, 30, 31, 32, 33, 34, 35, 36, 37, 38, 39, 40, 41, 42, 43, 44, 45, 46, 47, 48, 49, 50, 51, 52, 53, 54, 55, 56, 57, 58, 59, 60, 61, 62, 63, 64] [8, 61])))))) (.val (I.p (List.getD m (Int.toNat q) default)) (.res (intP (highI (List.getD m (Int.toNat q) default) (List.getD l (Int.toNat i) default))) (.fork (.val (I.p (List.getD m (Int.toNat q) default)) (.val (I.p (List.getD m (Int.toNat q) default)) (.lit (.mask [2, 3, 4, 8, 9, 10, 11, 12, 13, 14, 15, 16, 17, 18, 19, 20, 21, 22, 23, 24, 25, 26, 27, 28, 29, 30, 31, 32, 33, 34, 35, 36, 37, 38, 39, 40, 41, 42, 43, 44, 45, 46, 47, 48, 49, 50, 51, 52, 53, 54, 55, 56, 57, 58, 59, 60, 61, 62, 63, 64] [8, 61])))) (.lit (.mask [2, 3, 4, 8, 9, 10, 11, 12, 13, 14, 15, 16, 17, 18, 19, 20, 21, 22, 23, 24, 25, 26, 27, 28, 29, 30, 31, 32, 33, 34, 35, 36, 37, 38, 39, 40, 41, 42, 43, 44, 45, 46, 47, 48, 49, 50, 51, 52, 53, 54, 55, 56, 57, 58, 59, 60, 61, 62, 63, 64] [8, 61]))))))))) (.mask [2, 3, 4, 7, 8, 9, 10, 11, 12, 13, 14, 15, 16, 17, 18, 19, 20, 21, 22, 23, 24, 25, 26, 27, 28, 29, 30, 31, 32, 33, 34, 35, 36, 37, 38, 39, 40, 41, 42, 43, 44, 45, 46, 47, 48, 49, 50, 51, 52, 53, 54, 55, 56, 57, 58, 59, 60, 61, 62, 63, 64] [8, 61])) (ref08_meet_S2 l m k k' nl full nl' full' i q gm n (List.map I.p xs) j jr g) =
  (((decide (q < (↑(List.length (List.map I.p m)) : Int))) = true →
   (((0 : Int) ≤ i) ∧ ((nl = false) ∧ (k = 11))) ∧
   (((List.map I.p l)[Int.toNat i]?) = some (I.p (List.getD l (Int.toNat i) default))) ∧
   ((g + (4 : Nat) + (4 : Nat)) = g + (4 : Nat) + (4 : Nat)) ∧
   ((g + (4 : Nat) + (4 : Nat)) = g + (4 : Nat) + (4 : Nat)) ∧
   (((0 : Int) ≤ q) ∧ ((nl' = false) ∧ (k' = 11))) ∧
   (((List.map I.p m)[Int.toNat q]?) = some (I.p (List.getD m (Int.toNat q) default))) ∧
   (Den E1 44 [bndP (V.a (I.lo (List.getD l (Int.toNat i) default))) (V.b (I.lo (List.getD l (Int.toNat i) default))) (V.c (I.lo (List.getD l (Int.toNat i) default))) (.sl (V.k (I.lo (List.getD l (Int.toNat i) default))) (V.nl (I.lo (List.getD l (Int.toNat i) default))) (V.full (I.lo (List.getD l (Int.toNat i) default))) (List.map strP (V.pre (I.lo (List.getD l (Int.toNat i) default))))) (I.lopen (List.getD l (Int.toNat i) default)), bndP (V.a (I.lo (List.getD m (Int.toNat q) default))) (V.b (I.lo (List.getD m (Int.toNat q) default))) (V.c (I.lo (List.getD m (Int.toNat q) default))) (.sl (V.k (I.lo (List.getD m (Int.toNat q) default))) (V.nl (I.lo (List.getD m (Int.toNat q) default))) (V.full (I.lo (List.getD m (Int.toNat q) default))) (List.map strP (V.pre (I.lo (List.getD m (Int.toNat q) default))))) (I.lopen (List.getD m (Int.toNat q) default))] (intP (lowB { v := I.lo (List.getD l (Int.toNat i) default), op := I.lopen (List.getD l (Int.toNat i) default) } { v := I.lo (List.getD m (Int.toNat q) default), op := I.lopen (List.getD m (Int.toNat q) default) }))) ∧
   ((decide (lowB { v := I.lo (List.getD l (Int.toNat i) default), op := I.lopen (List.getD l (Int.toNat i) default) } { v := I.lo (List.getD m (Int.toNat q) default), op := I.lopen (List.getD m (Int.toNat q) default) } < (0 : Int))) = true →
    (((0 : Int) ≤ q) ∧ ((nl' = false) ∧ (k' = 11))) ∧
    (((List.map I.p m)[Int.toNat q]?) = some (I.p (List.getD m (Int.toNat q) default))) ∧
    ((g + (4 : Nat) + (4 : Nat)) = g + (4 : Nat) + (4 : Nat)) ∧
    (((0 : Int) ≤ q) ∧ ((nl' = false) ∧ (k' = 11))) ∧
    (((List.map I.p m)[Int.toNat q]?) = some (I.p (List.getD m (Int.toNat q) default))) ∧
    ((g + (4 : Nat) + (4 : Nat)) = g + (4 : Nat) + (4 : Nat)) ∧
    (Den E1 100 [I.p (List.getD m (Int.toNat q) default), itvP (V.a (I.lo (List.getD m (Int.toNat q) default))) (V.b (I.lo (List.getD m (Int.toNat q) default))) (V.c (I.lo (List.getD m (Int.toNat q) default))) (.sl (V.k (I.lo (List.getD m (Int.toNat q) default))) (V.nl (I.lo (List.getD m (Int.toNat q) default))) (V.full (I.lo (List.getD m (Int.toNat q) default))) (List.map strP (V.pre (I.lo (List.getD m (Int.toNat q) default))))) (I.lopen (List.getD m (Int.toNat q) default)) (V.a (I.hi (List.getD l (Int.toNat i) default))) (V.b (I.hi (List.getD l (Int.toNat i) default))) (V.c (I.hi (List.getD l (Int.toNat i) default))) (.sl (V.k (I.hi (List.getD l (Int.toNat i) default))) (V.nl (I.hi (List.getD l (Int.toNat i) default))) (V.full (I.hi (List.getD l (Int.toNat i) default))) (List.map strP (V.pre (I.hi (List.getD l (Int.toNat i) default))))) (I.hopen (List.getD l (Int.toNat i) default)) (I.less (List.getD l (Int.toNat i) default))] (intP (highI (List.getD m (Int.toNat q) default) { lo := I.lo (List.getD m (Int.toNat q) default), lopen := I.lopen (List.getD m (Int.toNat q) default), hi := I.hi (List.getD l (Int.toNat i) default), hopen := I.hopen (List.getD l (Int.toNat i) default), less := I.less (List.getD l (Int.toNat i) default) }))) ∧
    ((decide (highI (List.getD m (Int.toNat q) default) { lo := I.lo (List.getD m (Int.toNat q) default), lopen := I.lopen (List.getD m (Int.toNat q) default), hi := I.hi (List.getD l (Int.toNat i) default), hopen := I.hopen (List.getD l (Int.toNat i) default), less := I.less (List.getD l (Int.toNat i) default) } < (0 : Int))) = true →
     (((0 : Int) ≤ q) ∧ ((nl' = false) ∧ (k' = 11))) ∧
     (((List.map I.p m)[Int.toNat q]?) = some (I.p (List.getD m (Int.toNat q) default))) ∧
     ((g + (4 : Nat) + (4 : Nat)) = g + (4 : Nat) + (4 : Nat)) ∧
     (((0 : Int) ≤ q) ∧ ((nl' = false) ∧ (k' = 11))) ∧
     (((List.map I.p m)[Int.toNat q]?) = some (I.p (List.getD m (Int.toNat q) default))) ∧
     ((g + (4 : Nat) + (4 : Nat)) = g + (4 : Nat) + (4 : Nat)) ∧
     ((g + (4 : Nat) + (4 : Nat)) = g + (4 : Nat) + (4 : Nat)) ∧
     ((g + (4 : Nat) + (6 : Nat) + (9 : Nat) + (7 : Nat) + (7 : Nat) + (7 : Nat) + (7 : Nat) + (2 : Nat)) = g + (4 : Nat) + (6 : Nat) + (9 : Nat) + (7 : Nat) + (7 : Nat) + (7 : Nat) + (7 : Nat) + (2 : Nat)) ∧
     (((11 : Nat) = 11) ∧ ((1 : Nat) ≤ (1 : Nat))) ∧
     (gm = gm) ∧
     ((false = false) ∧ (((11 : Nat) = 11) ∧ (((63 : Nat) = 63) ∧ ((((0 : Nat) + n) = List.length (List.map I.p xs)) ∧ ((fitsRow (n + (1 : Nat)) (104 : Nat)) = true))))) ∧
     (∀ (j' : Nat → AV) (jr' : Nat → Row) (g' : Nat), LoopAt E1 Tryz.f61 r 1 (ref08_meet_S2 l m k k' nl full nl' full' i (IntKind.wrap IntKind.i64 (q + (1 : Int))) (g + (4 : Nat) + (6 : Nat) + (9 : Nat) + (7 : Nat) + (7 : Nat) + (7 : Nat) + (7 : Nat) + (3 : Nat)) (n + (1 : Nat)) (List.drop (0 : Nat) (List.map I.p xs) ++ List.take (1 : Nat) (List.drop (0 : Nat) [PV.agg [PV.lit (Value.int IntKind.u32 (V.a (I.lo (List.getD m (Int.toNat q) default)))), PV.lit (Value.int IntKind.u32 (V.b (I.lo (List.getD m (Int.toNat q) default)))), PV.lit (Value.int IntKind.u32 (V.c (I.lo (List.getD m (Int.toNat q) default)))), PV.sl (V.k (I.lo (List.getD m (Int.toNat q) default))) (V.nl (I.lo (List.getD m (Int.toNat q) default))) (V.full (I.lo (List.getD m (Int.toNat q) default))) (List.map strP (V.pre (I.lo (List.getD m (Int.toNat q) default)))), PV.lit (Value.bool (I.lopen (List.getD m (Int.toNat q) default))), PV.lit (Value.int IntKind.u32 (V.a (I.hi (List.getD m (Int.toNat q) default)))), PV.lit (Value.int IntKind.u32 (V.b (I.hi (List.getD m (Int.toNat q) default)))), PV.lit (Value.int IntKind.u32 (V.c (I.hi (List.getD m (Int.toNat q) default)))), PV.sl (V.k (I.hi (List.getD m (Int.toNat q) default))) (V.nl (I.hi (List.getD m (Int.toNat q) default))) (V.full (I.hi (List.getD m (Int.toNat q) default))) (List.map strP (V.pre (I.hi (List.getD m (Int.toNat q) default)))), PV.lit (Value.bool (I.hopen (List.getD m (Int.toNat q) default))), PV.lit (Value.bool (I.less (List.getD m (Int.toNat q) default)))]])) j' jr' g'))) ∧
    ((decide (highI (List.getD m (Int.toNat q) default) { lo := I.lo (List.getD m (Int.toNat q) default), lopen := I.lopen (List.getD m (Int.toNat q) default), hi := I.hi (List.getD l (Int.toNat i) default), hopen := I.hopen (List.getD l (Int.toNat i) default), less := I.less (List.getD l (Int.toNat i) default) } < (0 : Int))) = false →
     ((g + (4 : Nat) + (4 : Nat)) = g + (4 : Nat) + (4 : Nat)) ∧
     ((g + (4 : Nat) + (6 : Nat) + (9 : Nat) + (7 : Nat) + (7 : Nat) + (2 : Nat)) = g + (4 : Nat) + (6 : Nat) + (9 : Nat) + (7 : Nat) + (7 : Nat) + (2 : Nat)) ∧
     (((11 : Nat) = 11) ∧ ((1 : Nat) ≤ (1 : Nat))) ∧
     (gm = gm) ∧
     ((false = false) ∧ (((11 : Nat) = 11) ∧ (((63 : Nat) = 63) ∧ ((((0 : Nat) + n) = List.length (List.map I.p xs)) ∧ ((fitsRow (n + (1 : Nat)) (104 : Nat)) = true))))) ∧
     (∀ (j' : Nat → AV) (jr' : Nat → Row) (g' : Nat), LoopAt E1 Tryz.f61 r 1 (ref08_meet_S2 l m k k' nl full nl' full' i (IntKind.wrap IntKind.i64 (q + (1 : Int))) (g + (4 : Nat) + (6 : Nat) + (9 : Nat) + (7 : Nat) + (7 : Nat) + (3 : Nat)) (n + (1 : Nat)) (List.drop (0 : Nat) (List.map I.p xs) ++ List.take (1 : Nat) (List.drop (0 : Nat) [PV.agg [PV.lit (Value.int IntKind.u32 (V.a (I.lo (List.getD m (Int.toNat q) default)))), PV.lit (Value.int IntKind.u32 (V.b (I.lo (List.getD m (Int.toNat q) default)))), PV.lit (Value.int IntKind.u32 (V.c (I.lo (List.getD m (Int.toNat q) default)))), PV.sl (V.k (I.lo (List.getD m (Int.toNat q) default))) (V.nl (I.lo (List.getD m (Int.toNat q) default))) (V.full (I.lo (List.getD m (Int.toNat q) default))) (List.map strP (V.pre (I.lo (List.getD m (Int.toNat q) default)))), PV.lit (Value.bool (I.lopen (List.getD m (Int.toNat q) default))), PV.lit (Value.int IntKind.u32 (V.a (I.hi (List.getD l (Int.toNat i) default)))), PV.lit (Value.int IntKind.u32 (V.b (I.hi (List.getD l (Int.toNat i) default)))), PV.lit (Value.int IntKind.u32 (V.c (I.hi (List.getD l (Int.toNat i) default)))), PV.sl (V.k (I.hi (List.getD l (Int.toNat i) default))) (V.nl (I.hi (List.getD l (Int.toNat i) default))) (V.full (I.hi (List.getD l (Int.toNat i) default))) (List.map strP (V.pre (I.hi (List.getD l (Int.toNat i) default)))), PV.lit (Value.bool (I.hopen (List.getD l (Int.toNat i) default))), PV.lit (Value.bool (I.less (List.getD l (Int.toNat i) default)))]])) j' jr' g')))) ∧
   ((decide (lowB { v := I.lo (List.getD l (Int.toNat i) default), op := I.lopen (List.getD l (Int.toNat i) default) } { v := I.lo (List.getD m (Int.toNat q) default), op := I.lopen (List.getD m (Int.toNat q) default) } < (0 : Int))) = false →
    (((0 : Int) ≤ q) ∧ ((nl' = false) ∧ (k' = 11))) ∧
    (((List.map I.p m)[Int.toNat q]?) = some (I.p (List.getD m (Int.toNat q) default))) ∧
    ((g + (4 : Nat) + (4 : Nat)) = g + (4 : Nat) + (4 : Nat)) ∧
    (Den E1 100 [I.p (List.getD m (Int.toNat q) default), I.p (List.getD l (Int.toNat i) default)] (intP (highI (List.getD m (Int.toNat q) default) (List.getD l (Int.toNat i) default)))) ∧
    ((decide (highI (List.getD m (Int.toNat q) default) (List.getD l (Int.toNat i) default) < (0 : Int))) = true →
     (((0 : Int) ≤ q) ∧ ((nl' = false) ∧ (k' = 11))) ∧
     (((List.map I.p m)[Int.toNat q]?) = some (I.p (List.getD m (Int.toNat q) default))) ∧
     ((g + (4 : Nat) + (4 : Nat)) = g + (4 : Nat) + (4 : Nat)) ∧
     (((0 : Int) ≤ q) ∧ ((nl' = false) ∧ (k' = 11))) ∧
     (((List.map I.p m)[Int.toNat q]?) = some (I.p (List.getD m (Int.toNat q) default))) ∧
     ((g + (4 : Nat) + (4 : Nat)) = g + (4 : Nat) + (4 : Nat)) ∧
     ((g + (4 : Nat) + (4 : Nat)) = g + (4 : Nat) + (4 : Nat)) ∧
     ((g + (4 : Nat) + (6 : Nat) + (9 : Nat) + (7 : Nat) + (7 : Nat) + (7 : Nat) + (2 : Nat)) = g + (4 : Nat) + (6 : Nat) + (9 : Nat) + (7 : Nat) + (7 : Nat) + (7 : Nat) + (2 : Nat)) ∧
     (((11 : Nat) = 11) ∧ ((1 : Nat) ≤ (1 : Nat))) ∧
     (gm = gm) ∧
     ((false = false) ∧ (((11 : Nat) = 11) ∧ (((63 : Nat) = 63) ∧ ((((0 : Nat) + n) = List.length (List.map I.p xs)) ∧ ((fitsRow (n + (1 : Nat)) (104 : Nat)) = true))))) ∧
     (∀ (j' : Nat → AV) (jr' : Nat → Row) (g' : Nat), LoopAt E1 Tryz.f61 r 1 (ref08_meet_S2 l m k k' nl full nl' full' i (IntKind.wrap IntKind.i64 (q + (1 : Int))) (g + (4 : Nat) + (6 : Nat) + (9 : Nat) + (7 : Nat) + (7 : Nat) + (7 : Nat) + (3 : Nat)) (n + (1 : Nat)) (List.drop (0 : Nat) (List.map I.p xs) ++ List.take (1 : Nat) (List.drop (0 : Nat) [PV.agg [PV.lit (Value.int IntKind.u32 (V.a (I.lo (List.getD l (Int.toNat i) default)))), PV.lit (Value.int IntKind.u32 (V.b (I.lo (List.getD l (Int.toNat i) default)))), PV.lit (Value.int IntKind.u32 (V.c (I.lo (List.getD l (Int.toNat i) default)))), PV.sl (V.k (I.lo (List.getD l (Int.toNat i) default))) (V.nl (I.lo (List.getD l (Int.toNat i) default))) (V.full (I.lo (List.getD l (Int.toNat i) default))) (List.map strP (V.pre (I.lo (List.getD l (Int.toNat i) default)))), PV.lit (Value.bool (I.lopen (List.getD l (Int.toNat i) default))), PV.lit (Value.int IntKind.u32 (V.a (I.hi (List.getD m (Int.toNat q) default)))), PV.lit (Value.int IntKind.u32 (V.b (I.hi (List.getD m (Int.toNat q) default)))), PV.lit (Value.int IntKind.u32 (V.c (I.hi (List.getD m (Int.toNat q) default)))), PV.sl (V.k (I.hi (List.getD m (Int.toNat q) default))) (V.nl (I.hi (List.getD m (Int.toNat q) default))) (V.full (I.hi (List.getD m (Int.toNat q) default))) (List.map strP (V.pre (I.hi (List.getD m (Int.toNat q) default)))), PV.lit (Value.bool (I.hopen (List.getD m (Int.toNat q) default))), PV.lit (Value.bool (I.less (List.getD m (Int.toNat q) default)))]])) j' jr' g'))) ∧
    ((decide (highI (List.getD m (Int.toNat q) default) (List.getD l (Int.toNat i) default) < (0 : Int))) = false →
     ((g + (4 : Nat) + (4 : Nat)) = g + (4 : Nat) + (4 : Nat)) ∧
     ((g + (4 : Nat) + (6 : Nat) + (9 : Nat) + (7 : Nat) + (2 : Nat)) = g + (4 : Nat) + (6 : Nat) + (9 : Nat) + (7 : Nat) + (2 : Nat)) ∧
     (((11 : Nat) = 11) ∧ ((1 : Nat) ≤ (1 : Nat))) ∧
     (gm = gm) ∧
     ((false = false) ∧ (((11 : Nat) = 11) ∧ (((63 : Nat) = 63) ∧ ((((0 : Nat) + n) = List.length (List.map I.p xs)) ∧ ((fitsRow (n + (1 : Nat)) (104 : Nat)) = true))))) ∧
     (∀ (j' : Nat → AV) (jr' : Nat → Row) (g' : Nat), LoopAt E1 Tryz.f61 r 1 (ref08_meet_S2 l m k k' nl full nl' full' i (IntKind.wrap IntKind.i64 (q + (1 : Int))) (g + (4 : Nat) + (6 : Nat) + (9 : Nat) + (7 : Nat) + (3 : Nat)) (n + (1 : Nat)) (List.drop (0 : Nat) (List.map I.p xs) ++ List.take (1 : Nat) (List.drop (0 : Nat) [PV.agg [PV.lit (Value.int IntKind.u32 (V.a (I.lo (List.getD l (Int.toNat i) default)))), PV.lit (Value.int IntKind.u32 (V.b (I.lo (List.getD l (Int.toNat i) default)))), PV.lit (Value.int IntKind.u32 (V.c (I.lo (List.getD l (Int.toNat i) default)))), PV.sl (V.k (I.lo (List.getD l (Int.toNat i) default))) (V.nl (I.lo (List.getD l (Int.toNat i) default))) (V.full (I.lo (List.getD l (Int.toNat i) default))) (List.map strP (V.pre (I.lo (List.getD l (Int.toNat i) default)))), PV.lit (Value.bool (I.lopen (List.getD l (Int.toNat i) default))), PV.lit (Value.int IntKind.u32 (V.a (I.hi (List.getD l (Int.toNat i) default)))), PV.lit (Value.int IntKind.u32 (V.b (I.hi (List.getD l (Int.toNat i) default)))), PV.lit (Value.int IntKind.u32 (V.c (I.hi (List.getD l (Int.toNat i) default)))), PV.sl (V.k (I.hi (List.getD l (Int.toNat i) default))) (V.nl (I.hi (List.getD l (Int.toNat i) default))) (V.full (I.hi (List.getD l (Int.toNat i) default))) (List.map strP (V.pre (I.hi (List.getD l (Int.toNat i) default)))), PV.lit (Value.bool (I.hopen (List.getD l (Int.toNat i) default))), PV.lit (Value.bool (I.less (List.getD l (Int.toNat i) default)))]])) j' jr' g'))))) ∧
  ((decide (q < (↑(List.length (List.map I.p m)) : Int))) = false →
   ∀ (j' : Nat → AV) (jr' : Nat → Row) (g' : Nat), LoopAt E1 Tryz.f61 r 0 (ref08_meet_S3 l m k k' nl full nl' full' (IntKind.wrap IntKind.i64 (i + (1 : Int))) gm n (List.map I.p xs) j' jr' g'))) := by kernel_rfl
theorem ref08_meet_go_S3 (l : List I) (m : List I) (k : Nat) (k' : Nat) (nl : Bool) (full : Bool) (nl' : Bool) (full' : Bool) (i : Int) (gm : Nat) (n : Nat) (xs : List I) (j : Nat → AV) (jr : Nat → Row) (g : Nat) (r : PV) : LoopGo E1 Tryz.f61 r 0 2000 (.fork (.mask [2, 3, 4, 8, 9, 10, 11, 12, 13, 14, 15, 16, 17, 18, 19, 20, 21, 22, 23, 24, 25, 26, 27, 28, 29, 30, 31, 32, 33, 34, 35, 36, 37, 38, 39, 40, 41, 42, 43, 44, 45, 46, 47, 48, 49, 50, 51, 52, 53, 54, 55, 56, 57, 58, 59, 60, 61, 62, 63, 64] [8, 61]) (.frz [.sl 11 false false (List.map I.p xs)] [[row0, row0, row0, row0, row0, row0, row0, row0, jr (8 : Nat), row0, row0, row0, row0, row0, row0, row0, row0, row0, row0, row0, row0, row0, row0, row0, row0, row0, row0, row0, row0, row0, row0, row0, row0, row0, row0, row0, row0, row0, row0, row0, row0, row0, row0, row0, row0, row0, row0, row0, row0, row0, row0, row0, row0, row0, row0, row0, row0, row0, row0, row0, row0, jr (61 : Nat), ⟨gm, .row 11 63 (List.map I.p xs) true⟩, row0, row0]] (.res (.sl (twK (joinR xs)) (twN (joinR xs)) (twN (joinR xs)) (List.map I.p (joinR xs))) (.hole 0)))) (ref08_meet_S3 l m k k' nl full nl' full' i gm n (List.map I.p xs) j jr g) =
  (((decide (i < (↑(List.length (List.map I.p l)) : Int))) = true →
   ∀ (j' : Nat → AV) (jr' : Nat → Row) (g' : Nat), LoopAt E1 Tryz.f61 r 1 (ref08_meet_S2 l m k k' nl full nl' full' i 0 gm n (List.map I.p xs) j' jr' g')) ∧
  ((decide (i < (↑(List.length (List.map I.p l)) : Int))) = false →
   (frzs frzDepth [.msl 0 62 gm 0 n false] [[row0, row0, row0, row0, row0, row0, row0, row0, jr (8 : Nat), row0, row0, row0, row0, row0, row0, row0, row0, row0, row0, row0, row0, row0, row0, row0, row0, row0, row0, row0, row0, row0, row0, row0, row0, row0, row0, row0, row0, row0, row0, row0, row0, row0, row0, row0, row0, row0, row0, row0, row0, row0, row0, row0, row0, row0, row0, row0, row0, row0, row0, row0, row0, jr (61 : Nat), ⟨gm, .row 11 63 (List.map I.p xs) false⟩, row0, row0]] = some ([.sl 11 false false (List.map I.p xs)], [[row0, row0, row0, row0, row0, row0, row0, row0, jr (8 : Nat), row0, row0, row0, row0, row0, row0, row0, row0, row0, row0, row0, row0, row0, row0, row0, row0, row0, row0, row0, row0, row0, row0, row0, row0, row0, row0, row0, row0, row0, row0, row0, row0, row0, row0, row0, row0, row0, row0, row0, row0, row0, row0, row0, row0, row0, row0, row0, row0, row0, row0, row0, row0, jr (61 : Nat), ⟨gm, .row 11 63 (List.map I.p xs) true⟩, row0, row0]])) ∧
   (Den E1 58 [.sl 11 false false (List.map I.p xs)] (.sl (twK (joinR xs)) (twN (joinR xs)) (twN (joinR xs)) (List.map I.p (joinR xs)))) ∧
   ((.sl (twK (joinR xs)) (twN (joinR xs)) (twN (joinR xs)) (List.map I.p (joinR xs))) : PV) = r)) := by kernel_rfl

theorem ref08_Has_go (l : List I) (k : Nat) (nl : Bool) (full : Bool) (v : V) (r : PV) : FnGo E1 Tryz.f27 [.sl k nl full (List.map I.p l), V.p v] r 2000 (.ev (.res (.sl (twK (meetR l [{ lo := v, lopen := false, hi := v, hopen := false, less := false }])) (twN (meetR l [{ lo := v, lopen := false, hi := v, hopen := false, less := false }])) (twN (meetR l [{ lo := v, lopen := false, hi := v, hopen := false, less := false }])) (List.map I.p (meetR l [{ lo := v, lopen := false, hi := v, hopen := false, less := false }]))) (.hole 0))) =
  (((0 : Nat) = 0) ∧
  ((0 : Nat) = 0) ∧
  (Den E1 61 [.sl k nl full (List.map I.p l), .sl 11 false true [itvP (V.a v) (V.b v) (V.c v) (.sl (V.k v) (V.nl v) (V.full v) (List.map strP (V.pre v))) false (V.a v) (V.b v) (V.c v) (.sl (V.k v) (V.nl v) (V.full v) (List.map strP (V.pre v))) false false]] (.sl (twK (meetR l [{ lo := v, lopen := false, hi := v, hopen := false, less := false }])) (twN (meetR l [{ lo := v, lopen := false, hi := v, hopen := false, less := false }])) (twN (meetR l [{ lo := v, lopen := false, hi := v, hopen := false, less := false }])) (List.map I.p (meetR l [{ lo := v, lopen := false, hi := v, hopen := false, less := false }])))) ∧
  (bolP (decide ((↑(List.length (List.map I.p (meetR l [{ lo := v, lopen := false, hi := v, hopen := false, less := false }]))) : Int) > (0 : Int)))) = r) := by kernel_rfl

theorem span_has_1_go (x : I) (v : V) (r : PV) : FnGo E1 Tryz.f84 [I.p x, .ptr (V.p v) 0] r 2000 (.res (edgP (V.a (I.lo x)) (V.b (I.lo x)) (V.c (I.lo x)) (.sl (V.k (I.lo x)) (V.nl (I.lo x)) (V.full (I.lo x)) (List.map strP (V.pre (I.lo x)))) (I.lopen x) false) (.res (intP (befE { v := I.lo x, behind := I.lopen x, less := false } { v := v, behind := false, less := false })) (.fork (.lit (.lit (.lit (.lit (.res (edgP (V.a (I.hi x)) (V.b (I.hi x)) (V.c (I.hi x)) (.sl (V.k (I.hi x)) (V.nl (I.hi x)) (V.full (I.hi x)) (List.map strP (V.pre (I.hi x)))) (!I.hopen x) (I.less x)) (.lit (.res (intP (befE { v := v, behind := true, less := false } { v := I.hi x, behind := !I.hopen x, less := I.less x })) (.lit (.lit (.hole 0)))))))))) (.lit (.lit (.lit (.lit (.lit (.lit (.lit (.hole 0))))))))))) =
  (((0 : Nat) = 0) ∧
  (Den E1 37 [I.p x] (edgP (V.a (I.lo x)) (V.b (I.lo x)) (V.c (I.lo x)) (.sl (V.k (I.lo x)) (V.nl (I.lo x)) (V.full (I.lo x)) (List.map strP (V.pre (I.lo x)))) (I.lopen x) false)) ∧
  (Den E1 36 [edgP (V.a (I.lo x)) (V.b (I.lo x)) (V.c (I.lo x)) (.sl (V.k (I.lo x)) (V.nl (I.lo x)) (V.full (I.lo x)) (List.map strP (V.pre (I.lo x)))) (I.lopen x) false, edgP (V.a v) (V.b v) (V.c v) (.sl (V.k v) (V.nl v) (V.full v) (List.map strP (V.pre v))) false false] (intP (befE { v := I.lo x, behind := I.lopen x, less := false } { v := v, behind := false, less := false }))) ∧
  ((decide (befE { v := I.lo x, behind := I.lopen x, less := false } { v := v, behind := false, less := false } ≤ (0 : Int))) = true →
   ((0 : Nat) = 0) ∧
   (Den E1 38 [I.p x] (edgP (V.a (I.hi x)) (V.b (I.hi x)) (V.c (I.hi x)) (.sl (V.k (I.hi x)) (V.nl (I.hi x)) (V.full (I.hi x)) (List.map strP (V.pre (I.hi x)))) (!I.hopen x) (I.less x))) ∧
   (Den E1 36 [edgP (V.a v) (V.b v) (V.c v) (.sl (V.k v) (V.nl v) (V.full v) (List.map strP (V.pre v))) true false, edgP (V.a (I.hi x)) (V.b (I.hi x)) (V.c (I.hi x)) (.sl (V.k (I.hi x)) (V.nl (I.hi x)) (V.full (I.hi x)) (List.map strP (V.pre (I.hi x)))) (!I.hopen x) (I.less x)] (intP (befE { v := v, behind := true, less := false } { v := I.hi x, behind := !I.hopen x, less := I.less x }))) ∧
   (bolP (decide (befE { v := v, behind := true, less := false } { v := I.hi x, behind := !I.hopen x, less := I.less x } ≤ (0 : Int)))) = r) ∧
  ((decide (befE { v := I.lo x, behind := I.lopen x, less := false } { v := v, behind := false, less := false } ≤ (0 : Int))) = false →
   (bolP false) = r)) := by kernel_rfl

def slices_IndexFunc_api_Interval_api_Interval_S0 (l : List I) (k : Nat) (nl : Bool) (full : Bool) (v : V) (i : Int) (j : Nat → AV) (jr : Nat → Row) (g : Nat) : St :=
  { t := [.pv (.sl k nl full (List.map I.p l)), .pv (.clo (.func 84) [] [.ptr (V.p v) 0]), j (2 : Nat), j (3 : Nat), j (4 : Nat), j (5 : Nat), j (6 : Nat), intA ((↑(List.length (List.map I.p l)) : Int)), intA i, j (9 : Nat), j (10 : Nat), j (11 : Nat), j (12 : Nat), j (13 : Nat), j (14 : Nat), j (15 : Nat), j (16 : Nat), j (17 : Nat), j (18 : Nat)], h := [List.replicate 19 row0], g := g }
theorem slices_IndexFunc_api_Interval_api_Interval_go (l : List I) (k : Nat) (nl : Bool) (full : Bool) (v : V) (r : PV) : FnGo E1 Tryz.f121 [.sl k nl full (List.map I.p l), .clo (.func 84) [] [.ptr (V.p v) 0]] r 2000 (.mask [2, 3, 4, 5, 6, 9, 10, 11, 12, 13, 14, 15, 16, 17, 18] []) =
  (∀ (j' : Nat → AV) (jr' : Nat → Row) (g' : Nat), LoopAt E1 Tryz.f121 r 0 (slices_IndexFunc_api_Interval_api_Interval_S0 l k nl full v 0 j' jr' g')) := by kernel_rfl
theorem slices_IndexFunc_api_Interval_api_Interval_go_S0 (l : List I) (k : Nat) (nl : Bool) (full : Bool) (v : V) (i : Int) (j : Nat → AV) (jr : Nat → Row) (g : Nat) (r : PV) : LoopGo E1 Tryz.f121 r 0 2000 (.fork (.val (I.p (List.getD l (Int.toNat i) default)) (.res (bolP (inI (List.getD l (Int.toNat i) default) v)) (.fork (.hole 0) (.mask [2, 3, 4, 5, 6, 9, 10, 11, 12, 13, 14, 15, 16, 17, 18] [])))) (.hole 0)) (slices_IndexFunc_api_Interval_api_Interval_S0 l k nl full v i j jr g) =
  (((decide (i < (↑(List.length (List.map I.p l)) : Int))) = true →
   (((0 : Int) ≤ i) ∧ ((nl = false) ∧ (k = 11))) ∧
   (((List.map I.p l)[Int.toNat i]?) = some (I.p (List.getD l (Int.toNat i) default))) ∧
   (Den E1 84 [I.p (List.getD l (Int.toNat i) default), .ptr (V.p v) 0] (bolP (inI (List.getD l (Int.toNat i) default) v))) ∧
   ((inI (List.getD l (Int.toNat i) default) v) = true →
    (intP i) = r) ∧
   ((inI (List.getD l (Int.toNat i) default) v) = false →
    ∀ (j' : Nat → AV) (jr' : Nat → Row) (g' : Nat), LoopAt E1 Tryz.f121 r 0 (slices_IndexFunc_api_Interval_api_Interval_S0 l k nl full v (IntKind.wrap IntKind.i64 (i + (1 : Int))) j' jr' g'))) ∧
  ((decide (i < (↑(List.length (List.map I.p l)) : Int))) = false →
   (intP (-1)) = r)) := by kernel_rfl

theorem slices_ContainsFunc_api_Interval_api_Interval_go (l : List I) (k : Nat) (nl : Bool) (full : Bool) (v : V) (r : PV) : FnGo E1 Tryz.f83 [.sl k nl full (List.map I.p l), .clo (.func 84) [] [.ptr (V.p v) 0]] r 2000 (.res (intP (idxI (fun x => inI x v) l)) (.hole 0)) =
  ((Den E1 121 [.sl k nl full (List.map I.p l), .clo (.func 84) [] [.ptr (V.p v) 0]] (intP (idxI (fun x => inI x v) l))) ∧
  (bolP (decide (idxI (fun x => inI x v) l ≥ (0 : Int)))) = r) := by kernel_rfl

theorem span_has_go (l : List I) (k : Nat) (nl : Bool) (full : Bool) (v : V) (r : PV) : FnGo E1 Tryz.f47 [.sl k nl full (List.map I.p l), V.p v] r 2000 (.ev (.res (bolP (List.any l fun x => inI x v)) (.hole 0))) =
  ((Den E1 83 [.sl k nl full (List.map I.p l), .clo (.func 84) [] [.ptr (V.p v) 0]] (bolP (List.any l fun x => inI x v))) ∧
  (bolP (List.any l fun x => inI x v)) = r) := by kernel_rfl

theorem span_Has_go (l : List I) (k : Nat) (nl : Bool) (full : Bool) (v : V) (r : PV) : FnGo E1 Tryz.f25 [.sl k nl full (List.map I.p l), V.p v] r 2000 (.res (intP (errS (mayR l))) (.fork (.hole 0) (.res (intP (errV (mayV v))) (.fork (.hole 0) (.res (bolP (List.any l fun x => inI x v)) (.hole 0)))))) =
  ((Den E1 12 [.sl k nl full (List.map I.p l)] (intP (errS (mayR l)))) ∧
  ((errS (mayR l) != (0 : Int)) = true →
   ((.tup [bolP false, intP 80]) : PV) = r) ∧
  ((errS (mayR l) != (0 : Int)) = false →
   ((0 : Nat) = 0) ∧
   (Den E1 59 [V.p v] (intP (errV (mayV v)))) ∧
   ((errV (mayV v) != (0 : Int)) = true →
    ((.tup [bolP false, intP 70]) : PV) = r) ∧
   ((errV (mayV v) != (0 : Int)) = false →
    ((0 : Nat) = 0) ∧
    (Den E1 47 [.sl k nl full (List.map I.p l), V.p v] (bolP (List.any l fun x => inI x v))) ∧
    ((.tup [bolP (List.any l fun x => inI x v), intP 0]) : PV) = r))) := by kernel_rfl

theorem law08_SpanHas_go (l : List I) (k : Nat) (nl : Bool) (full : Bool) (v : V) (r : PV) : FnGo E1 Tryz.f7 [.sl k nl full (List.map I.p l), V.p v] r 2000 (.fork (.res (bolP true) (.hole 0)) (.res (.sl (twK l) (twN l) (twN l) (List.map I.p (List.map twI l))) (.res (.tup [bolP (Prod.fst (hasS (List.map twI l) v)), intP (Prod.snd (hasS (List.map twI l) v))]) (.res (bolP (mayR l)) (.fork (.fork (.lit (.lit (.lit (.fork (.lit (.res (bolP true) (.lit (.hole 0)))) (.lit (.lit (.hole 0))))))) (.lit (.lit (.lit (.lit (.lit (.lit (.hole 0)))))))) (.res (bolP (mayV v)) (.fork (.fork (.lit (.lit (.lit (.fork (.lit (.res (bolP true) (.lit (.hole 0)))) (.lit (.lit (.hole 0))))))) (.lit (.lit (.lit (.lit (.lit (.lit (.hole 0)))))))) (.res (bolP (hasR l v)) (.fork (.lit (.lit (.lit (.fork (.lit (.res (bolP true) (.lit (.hole 0)))) (.lit (.lit (.hole 0))))))) (.lit (.lit (.lit (.lit (.lit (.lit (.hole 0)))))))))))))))) =
  (((decide ((↑(List.length (List.map I.p l)) : Int) > (40 : Int))) = true →
   (Den E1 10 [] (bolP true)) ∧
   (bolP true) = r) ∧
  ((decide ((↑(List.length (List.map I.p l)) : Int) > (40 : Int))) = false →
   (Den E1 11 [.sl k nl full (List.map I.p l)] (.sl (twK l) (twN l) (twN l) (List.map I.p (List.map twI l)))) ∧
   ((0 : Nat) = 0) ∧
   (Den E1 25 [.sl (twK l) (twN l) (twN l) (List.map I.p (List.map twI l)), V.p v] (.tup [bolP (Prod.fst (hasS (List.map twI l) v)), intP (Prod.snd (hasS (List.map twI l) v))])) ∧
   (Den E1 15 [.sl k nl full (List.map I.p l)] (bolP (mayR l))) ∧
   ((!mayR l) = true →
    ((!Prod.fst (hasS (List.map twI l) v)) = true →
     ((Prod.snd (hasS (List.map twI l) v) == (80 : Int)) = true →
      (Den E1 10 [] (bolP true)) ∧
      (bolP true) = r) ∧
     ((Prod.snd (hasS (List.map twI l) v) == (80 : Int)) = false →
      (bolP false) = r)) ∧
    ((!Prod.fst (hasS (List.map twI l) v)) = false →
     (bolP false) = r)) ∧
   ((!mayR l) = false →
    ((0 : Nat) = 0) ∧
    (Den E1 26 [V.p v] (bolP (mayV v))) ∧
    ((!mayV v) = true →
     ((!Prod.fst (hasS (List.map twI l) v)) = true →
      ((Prod.snd (hasS (List.map twI l) v) == (70 : Int)) = true →
       (Den E1 10 [] (bolP true)) ∧
       (bolP true) = r) ∧
      ((Prod.snd (hasS (List.map twI l) v) == (70 : Int)) = false →
       (bolP false) = r)) ∧
     ((!Prod.fst (hasS (List.map twI l) v)) = false →
      (bolP false) = r)) ∧
    ((!mayV v) = false →
     ((0 : Nat) = 0) ∧
     (Den E1 27 [.sl k nl full (List.map I.p l), V.p v] (bolP (hasR l v))) ∧
     ((Prod.fst (hasS (List.map twI l) v) == hasR l v) = true →
      ((Prod.snd (hasS (List.map twI l) v) == (0 : Int)) = true →
       (Den E1 10 [] (bolP true)) ∧
       (bolP true) = r) ∧
      ((Prod.snd (hasS (List.map twI l) v) == (0 : Int)) = false →
       (bolP false) = r)) ∧
     ((Prod.fst (hasS (List.map twI l) v) == hasR l v) = false →
      (bolP false) = r))))) := by kernel_rfl
end Go.Proofs.YtlhfgonjcpapnaaGreatDoor.Abs

/- Meets of intervals, and whether a version is in a span: the functions compute them. -/
set_option linter.unusedVariables false
set_option linter.unusedSimpArgs false
namespace Go.Proofs.YtlhfgonjcpapnaaGreatDoor.Abs
open Go Go.Proofs

theorem frzs_msl {h h1 : Heap} {d s g n k : Nat} {full fz : Bool} {e : TypeId} {xs : List PV} (hb : hget h d s = ⟨g, .row k e xs fz⟩) (hn : xs.length = n) (hm : marks [(d, s)] h = h1) : frzs frzDepth [.msl d s g 0 n full] h = some ([.sl k false full xs], h1) := by
  have hp : pk h frzDepth (.msl d s g 0 n full) = some (.sl k false full xs, [(d, s)]) := pk_msl hb hn
  simp only [frzs, pks, hp, Option.bind_some, Option.map_some, List.append_nil]
  rw [hm]
theorem good_meet1 {x y : I} (hx : good x) (hy : good y) : good (meet1 x y) := by
  unfold meet1
  simp only []
  split
  · split
    · exact ⟨⟨hy.ok.lo, hy.ok.hi⟩, hy.lo, hy.hi⟩
    · exact ⟨⟨hy.ok.lo, hx.ok.hi⟩, hy.lo, hx.hi⟩
  · split
    · exact ⟨⟨hx.ok.lo, hy.ok.hi⟩, hx.lo, hy.hi⟩
    · exact hx
theorem goods_meet {l m : List I} (hl : goods l) (hm : goods m) : goods (l.flatMap fun x => m.map fun y => meet1 x y) := by
  intro z hz
  obtain ⟨x, hx, hz⟩ := List.mem_flatMap.1 hz
  obtain ⟨y, hy, rfl⟩ := List.mem_map.1 hz
  exact good_meet1 (hl x hx) (hm y hy)
/-- x with the lower bound of y -/
def mixL (x y : I) : I := ⟨y.lo, y.lopen, x.hi, x.hopen, x.less⟩
theorem good_mix {x y : I} (hx : good x) (hy : good y) : good (mixL x y) := ⟨⟨hy.ok.lo, hx.ok.hi⟩, hy.lo, hx.hi⟩
theorem meet1_a {x y : I} (h1 : decide (lowB x.lb y.lb < 0) = true) (h2 : decide (highI y (mixL x y) < 0) = true) : meet1 x y = y := by
  simp only [decide_eq_true_eq] at h1 h2
  unfold meet1
  simp only [h1, if_true]
  exact if_pos h2
theorem meet1_b {x y : I} (h1 : decide (lowB x.lb y.lb < 0) = true) (h2 : decide (highI y (mixL x y) < 0) = false) : meet1 x y = mixL x y := by
  simp only [decide_eq_true_eq, decide_eq_false_iff_not] at h1 h2
  unfold meet1
  simp only [h1, if_true]
  exact if_neg h2
theorem meet1_c {x y : I} (h1 : decide (lowB x.lb y.lb < 0) = false) (h2 : decide (highI y x < 0) = true) : meet1 x y = mixL y x := by
  simp only [decide_eq_true_eq, decide_eq_false_iff_not] at h1 h2
  unfold meet1
  simp only [h1, if_false]
  exact if_pos h2
theorem meet1_d {x y : I} (h1 : decide (lowB x.lb y.lb < 0) = false) (h2 : decide (highI y x < 0) = false) : meet1 x y = x := by
  simp only [decide_eq_false_iff_not] at h1 h2
  unfold meet1
  simp only [h1, if_false]
  exact if_neg h2
section
variable (l m : List I) (k k' : Nat) (nl full nl' full' : Bool)
theorem meet_S2 (hll : l.length < 1000000) (hlm : m.length < 1000000) (hsl : slOk 11 k nl l.length) (hsm : slOk 11 k' nl' m.length) (hgl : goods l) (hgm : goods m) (i : Nat) (hil : i < l.length) {r : PV} : ∀ (n q : Nat) (xs : List I) (gm : Nat) j jr g, q + n = m.length → xs.length + n < 1000000 →
    (∀ gm j jr g, LoopAt E1 Tryz.f61 r 0 (ref08_meet_S3 l m k k' nl full nl' full' (i + 1 : Nat) gm (xs.length + n) (List.map I.p (xs ++ (m.drop q).map fun y => meet1 (l.getD i default) y)) j jr g)) →
    LoopAt E1 Tryz.f61 r 1 (ref08_meet_S2 l m k k' nl full nl' full' i q gm xs.length (List.map I.p xs) j jr g) := by
  have hw1 : IntKind.wrap IntKind.i64 ((i : Int) + 1) = ((i + 1 : Nat) : Int) := wrap_i64 _ (by omega) (by omega)
  have hx := goods_get hgl hil
  have hi0 : (0 : Int) ≤ (i : Int) ∧ nl = false ∧ k = 11 := ⟨by omega, sl_at hsl hil⟩
  have hgi := getI hil
  intro n
  induction n with
  | zero =>
    intro q xs gm j0 jr0 g0 hq hb next
    refine loop_go 2000 _ (Eq.mpr (ref08_meet_go_S2 l m k k' nl full nl' full' i q gm xs.length xs j0 jr0 g0 _) ⟨fun h => ?_, fun h j jr g => ?_⟩)
    · simp only [decide_eq_true_eq, List.length_map] at h; omega
    · rw [hw1]
      have := next gm j jr g
      rw [List.drop_eq_nil_of_le (by omega), List.map_nil, List.append_nil] at this
      exact this
  | succ n ih =>
    intro q xs gm j0 jr0 g0 hq hb next
    have hql : q < m.length := by omega
    have hy := goods_get hgm hql
    have hq0 : (0 : Int) ≤ (q : Int) ∧ nl' = false ∧ k' = 11 := ⟨by omega, sl_at hsm hql⟩
    have hgq := getI hql
    have hw2 : IntKind.wrap IntKind.i64 ((q : Int) + 1) = ((q + 1 : Nat) : Int) := wrap_i64 _ (by omega) (by omega)
    have hf : xs.length = (List.map I.p xs).length ∧ fitsRow (xs.length + 1) 104 = true := ⟨by simp, fits_104 (by omega)⟩
    have fin : ∀ (z : I) gm j jr g, meet1 (l.getD i default) (m.getD q default) = z → LoopAt E1 Tryz.f61 r 1 (ref08_meet_S2 l m k k' nl full nl' full' i (q + 1 : Nat) gm (xs.length + 1) (List.map I.p xs ++ [I.p z]) j jr g) := by
      intro z gm j jr g hz
      have := ih (q + 1) (xs ++ [z]) gm j jr g (by omega) (by simp; omega) fun gm j jr g => by
        have := next gm j jr g
        rw [drop_get hql, List.map_cons, hz] at this
        have e : (xs ++ [z]).length + n = xs.length + (n + 1) := by simp; omega
        rw [e, List.append_assoc]
        exact this
      rw [List.length_append, List.map_append] at this
      exact this
    refine loop_go 2000 _ (Eq.mpr (ref08_meet_go_S2 l m k k' nl full nl' full' i q gm xs.length xs j0 jr0 g0 _) ⟨fun h => ?_, fun h => ?_⟩)
    · simp only [hw2, Int.toNat_natCast, Nat.zero_add, eq_self, true_and, and_true, Nat.le_refl]
      exact ⟨hi0, hgi, hq0, hgq, den_ref08_low ⟨_, _⟩ ⟨_, _⟩ hx.ok.lo hy.ok.lo hx.lo hy.lo, fun h1 => ⟨hq0, hgq, hq0, hgq, den_ref08_high _ (mixL (l.getD i default) (m.getD q default)) hy (good_mix hx hy), fun h2 => ⟨hq0, hgq, hq0, hgq, hf, fun j jr g => fin _ _ j jr g (meet1_a h1 h2)⟩, fun h2 => ⟨hf, fun j jr g => fin (mixL (l.getD i default) (m.getD q default)) _ j jr g (meet1_b h1 h2)⟩⟩,
        fun h1 => ⟨hq0, hgq, den_ref08_high _ _ hy hx, fun h2 => ⟨hq0, hgq, hq0, hgq, hf, fun j jr g => fin (mixL (m.getD q default) (l.getD i default)) _ j jr g (meet1_c h1 h2)⟩, fun h2 => ⟨hf, fun j jr g => fin _ _ j jr g (meet1_d h1 h2)⟩⟩⟩
    · simp only [decide_eq_false_iff_not, List.length_map] at h; omega
/-- the inner loop, with nothing yet -/
theorem meet_S1 (hll : l.length < 1000000) (hlm : m.length < 1000000) (hsl : slOk 11 k nl l.length) (hsm : slOk 11 k' nl' m.length) (hgl : goods l) (hgm : goods m) (i : Nat) (hil : i < l.length) {r : PV} (j0 : Nat → AV) (jr0 : Nat → Row) (g0 : Nat) (hm0 : 0 < m.length)
    (next : ∀ gm j jr g, LoopAt E1 Tryz.f61 r 0 (ref08_meet_S3 l m k k' nl full nl' full' (i + 1 : Nat) gm m.length (List.map I.p (m.map fun y => meet1 (l.getD i default) y)) j jr g)) :
    LoopAt E1 Tryz.f61 r 1 (ref08_meet_S1 l m k k' nl full nl' full' i 0 j0 jr0 g0) := by
  have hx := goods_get hgl hil
  have hi0 : (0 : Int) ≤ (i : Int) ∧ nl = false ∧ k = 11 := ⟨by omega, sl_at hsl hil⟩
  have hgi := getI hil
  have hy := goods_get hgm hm0
  have hq0 : (0 : Int) ≤ (0 : Int) ∧ nl' = false ∧ k' = 11 := ⟨by omega, sl_at hsm hm0⟩
  have hgq := getI hm0
  have hz : Int.toNat 0 = 0 := rfl
  have hw2 : IntKind.wrap IntKind.i64 ((0 : Int) + 1) = ((1 : Nat) : Int) := rfl
  have fin : ∀ (z : I) gm j jr g, meet1 (l.getD i default) (m.getD 0 default) = z → LoopAt E1 Tryz.f61 r 1 (ref08_meet_S2 l m k k' nl full nl' full' i (1 : Nat) gm 1 [I.p z] j jr g) := by
    intro z gm j jr g hzz
    refine meet_S2 l m k k' nl full nl' full' hll hlm hsl hsm hgl hgm i hil (m.length - 1) 1 [z] gm j jr g (by omega) (by simp; omega) fun gm j jr g => ?_
    have := next gm j jr g
    have e : m = m.getD 0 default :: m.drop 1 := by rw [← drop_get hm0]; rfl
    have e2 : (m.map fun y => meet1 (l.getD i default) y) = [z] ++ (m.drop 1).map fun y => meet1 (l.getD i default) y := by
      conv => lhs; rw [e]
      rw [List.map_cons, hzz]; rfl
    have e3 : [z].length + (m.length - 1) = m.length := by simp; omega
    rw [e2] at this
    rw [e3]
    exact this
  refine loop_go 2000 _ (Eq.mpr (ref08_meet_go_S1 l m k k' nl full nl' full' i 0 j0 jr0 g0 _) ⟨fun h => ?_, fun h => ?_⟩)
  · simp only [hw2, hz, Int.toNat_natCast, Nat.zero_add, eq_self, true_and, and_true, Nat.le_refl]
    exact ⟨hi0, hgi, hq0, hgq, den_ref08_low ⟨_, _⟩ ⟨_, _⟩ hx.ok.lo hy.ok.lo hx.lo hy.lo, fun h1 => ⟨hq0, hgq, hq0, hgq, den_ref08_high _ (mixL (l.getD i default) (m.getD 0 default)) hy (good_mix hx hy), fun h2 => ⟨hq0, hgq, hq0, hgq, fun j jr g => fin _ _ j jr g (meet1_a h1 h2)⟩, fun h2 j jr g => fin (mixL (l.getD i default) (m.getD 0 default)) _ j jr g (meet1_b h1 h2)⟩,
      fun h1 => ⟨hq0, hgq, den_ref08_high _ _ hy hx, fun h2 => ⟨hq0, hgq, hq0, hgq, fun j jr g => fin (mixL (m.getD 0 default) (l.getD i default)) _ j jr g (meet1_c h1 h2)⟩, fun h2 j jr g => fin _ _ j jr g (meet1_d h1 h2)⟩⟩
  · simp only [decide_eq_false_iff_not, List.length_map] at h; omega
/-- the outer loop, with something in its row -/
theorem meet_S3 (hll : l.length < 1000000) (hlm : m.length < 1000000) (hb : l.length * m.length < 1000000) (hsl : slOk 11 k nl l.length) (hsm : slOk 11 k' nl' m.length) (hgl : goods l) (hgm : goods m) (hm0 : 0 < m.length) : ∀ (n i : Nat) (xs : List I) (gm : Nat) j jr g, i + n = l.length → xs.length = i * m.length → goods xs →
    LoopAt E1 Tryz.f61 (resL (joinR (xs ++ (l.drop i).flatMap fun x => m.map fun y => meet1 x y))) 0 (ref08_meet_S3 l m k k' nl full nl' full' i gm xs.length (List.map I.p xs) j jr g) := by
  intro n
  induction n with
  | zero =>
    intro i xs gm j0 jr0 g0 hi hxl hgx
    have hxb : xs.length < 1000000 := by
      rw [hxl, show i = l.length by omega]; exact hb
    refine loop_go 2000 _ (Eq.mpr (ref08_meet_go_S3 l m k k' nl full nl' full' i gm xs.length xs j0 jr0 g0 _) ⟨fun h => ?_, fun h => ?_⟩)
    · simp only [decide_eq_true_eq, List.length_map] at h; omega
    · rw [List.drop_eq_nil_of_le (by omega), List.flatMap_nil, List.append_nil]
      exact ⟨frzs_msl rfl (by simp) rfl, den_ref08_join xs 11 false false hxb ⟨by simp, fun _ => rfl⟩ hgx, rfl⟩
  | succ n ih =>
    intro i xs gm j0 jr0 g0 hi hxl hgx
    have hil : i < l.length := by omega
    have hmul : (i + 1) * m.length ≤ l.length * m.length := Nat.mul_le_mul_right _ (by omega)
    rw [Nat.add_mul, Nat.one_mul] at hmul
    have hst : (l.drop i).flatMap (fun x => m.map fun y => meet1 x y) = (m.map fun y => meet1 (l.getD i default) y) ++ (l.drop (i + 1)).flatMap fun x => m.map fun y => meet1 x y := by
      rw [drop_get hil, List.flatMap_cons]
    rw [hst, ← List.append_assoc]
    refine loop_go 2000 _ (Eq.mpr (ref08_meet_go_S3 l m k k' nl full nl' full' i gm xs.length xs j0 jr0 g0 _) ⟨fun h j jr g => ?_, fun h => ?_⟩)
    · refine meet_S2 l m k k' nl full nl' full' hll hlm hsl hsm hgl hgm i hil m.length 0 xs gm j jr g (by omega) (by omega) fun gm j jr g => ?_
      have hlen : (xs ++ m.map fun y => meet1 (l.getD i default) y).length = xs.length + m.length := by simp
      have := ih (i + 1) (xs ++ m.map fun y => meet1 (l.getD i default) y) gm j jr g (by omega) (by rw [hlen, hxl, Nat.add_mul, Nat.one_mul]) (fun z hz => ?_)
      · rw [hlen] at this
        exact this
      · rcases List.mem_append.1 hz with hz | hz
        · exact hgx z hz
        · obtain ⟨y, hy, rfl⟩ := List.mem_map.1 hz
          exact good_meet1 (goods_get hgl hil) (hgm y hy)
    · simp only [decide_eq_false_iff_not, List.length_map] at h; omega
/-- the outer loop, with nothing yet -/
theorem meet_S0 (hll : l.length < 1000000) (hlm : m.length < 1000000) (hb : l.length * m.length < 1000000) (hsl : slOk 11 k nl l.length) (hsm : slOk 11 k' nl' m.length) (hgl : goods l) (hgm : goods m) : ∀ (n i : Nat) j jr g, i + n = l.length → (m.length = 0 ∨ i = 0) →
    LoopAt E1 Tryz.f61 (resL (joinR ((l.drop i).flatMap fun x => m.map fun y => meet1 x y))) 0 (ref08_meet_S0 l m k k' nl full nl' full' i j jr g) := by
  have hdj : Den E1 58 [.sl 0 true true []] (.sl 0 true true []) := den_ref08_join [] 0 true true (by simp) ⟨fun _ => rfl, fun h => by cases h⟩ (fun x hx => by simp at hx)
  intro n
  induction n with
  | zero =>
    intro i j0 jr0 g0 hi h0
    refine loop_go 2000 _ (Eq.mpr (ref08_meet_go_S0 l m k k' nl full nl' full' i j0 jr0 g0 _) ⟨fun h => ?_, fun h => ?_⟩)
    · simp only [decide_eq_true_eq, List.length_map] at h; omega
    · rw [List.drop_eq_nil_of_le (by omega)]
      exact ⟨hdj, rfl⟩
  | succ n ih =>
    intro i j0 jr0 g0 hi h0
    have hil : i < l.length := by omega
    have hw1 : IntKind.wrap IntKind.i64 ((i : Int) + 1) = ((i + 1 : Nat) : Int) := wrap_i64 _ (by omega) (by omega)
    have hst : (l.drop i).flatMap (fun x => m.map fun y => meet1 x y) = (m.map fun y => meet1 (l.getD i default) y) ++ (l.drop (i + 1)).flatMap fun x => m.map fun y => meet1 x y := by
      rw [drop_get hil, List.flatMap_cons]
    rw [hst]
    refine loop_go 2000 _ (Eq.mpr (ref08_meet_go_S0 l m k k' nl full nl' full' i j0 jr0 g0 _) ⟨fun h j jr g => ?_, fun h => ?_⟩)
    · rcases Nat.eq_zero_or_pos m.length with hm | hm
      · have hm' : m = [] := List.length_eq_zero_iff.1 hm
        refine loop_go 2000 _ (Eq.mpr (ref08_meet_go_S1 l m k k' nl full nl' full' i 0 j jr g _) ⟨fun h => ?_, fun h j jr g => ?_⟩)
        · simp only [decide_eq_true_eq, List.length_map, hm] at h; omega
        · rw [hw1, hm']
          rw [hm'] at ih
          exact ih (i + 1) j jr g (by omega) (.inl rfl)
      · have hi0 : i = 0 := by omega
        subst hi0
        refine meet_S1 l m k k' nl full nl' full' hll hlm hsl hsm hgl hgm 0 hil j jr g hm fun gm j jr g => ?_
        have hlen : (m.map fun y => meet1 (l.getD 0 default) y).length = m.length := by simp
        have := meet_S3 l m k k' nl full nl' full' hll hlm hb hsl hsm hgl hgm hm n 1 (m.map fun y => meet1 (l.getD 0 default) y) gm j jr g (by omega) (by rw [hlen, Nat.one_mul]) (fun z hz => by
          obtain ⟨y, hy, rfl⟩ := List.mem_map.1 hz
          exact good_meet1 (goods_get hgl hil) (hgm y hy))
        rw [hlen] at this
        exact this
    · simp only [decide_eq_false_iff_not, List.length_map] at h; omega
theorem den_ref08_meet (hll : l.length < 1000000) (hlm : m.length < 1000000) (hb : l.length * m.length < 1000000) (hsl : slOk 11 k nl l.length) (hsm : slOk 11 k' nl' m.length) (hgl : goods l) (hgm : goods m) :
    Den E1 61 [listP k nl full l, listP k' nl' full' m] (resL (meetR l m)) :=
  den1 2000 _ rfl (by kernel_rfl) rfl rfl rfl (Eq.mpr (ref08_meet_go l m k k' nl full nl' full' _) fun j jr g => meet_S0 l m k k' nl full nl' full' hll hlm hb hsl hsm hgl hgm l.length 0 j jr g (by omega) (.inr rfl))
end

/-! ### is a version in a span? -/
theorem den_inI (x : I) (v : V) (hx : x.ok) (hv : v.ok) : Den E1 84 [x.p, .ptr v.p 0] (bolP (inI x v)) := by
  refine den1 2000 _ rfl (by kernel_rfl) rfl rfl rfl (Eq.mpr (span_has_1_go x v _) ?_)
  refine ⟨rfl, den_low x, den_before x.low ⟨v, false, false⟩ hx.lo hv, fun h => ⟨rfl, den_high x, den_before ⟨v, true, false⟩ x.high hv hx.hi, ?_⟩, fun h => ?_⟩
  · have h' : decide (befE x.low ⟨v, false, false⟩ ≤ 0) = true := h
    simp only [inI, h']; rfl
  · have h' : decide (befE x.low ⟨v, false, false⟩ ≤ 0) = false := h
    simp only [inI, h']; rfl
theorem den_IndexFuncI (l : List I) (k : Nat) (nl full : Bool) (v : V) (hsl : slOk 11 k nl l.length) (hll : l.length < 1000000) (hok : ∀ x ∈ l, x.ok) (hv : v.ok) :
    Den E1 121 [listP k nl full l, .clo (.func 84) [] [.ptr v.p 0]] (intP (idxI (fun x => inI x v) l)) := by
  refine den1 2000 _ rfl (by kernel_rfl) rfl rfl rfl (Eq.mpr (slices_IndexFunc_api_Interval_api_Interval_go l k nl full v _) fun j jr g => ?_)
  have H : ∀ (n i : Nat) j jr g, i + n = l.length → (l.findIdx (fun x => inI x v) = i + (l.drop i).findIdx (fun x => inI x v)) → LoopAt E1 Tryz.f121 (intP (idxI (fun x => inI x v) l)) 0 (slices_IndexFunc_api_Interval_api_Interval_S0 l k nl full v i j jr g) := by
    intro n
    induction n with
    | zero =>
      intro i j jr g hi hd
      refine loop_go 2000 _ (Eq.mpr (slices_IndexFunc_api_Interval_api_Interval_go_S0 l k nl full v i j jr g _) ⟨fun h => ?_, fun h => ?_⟩)
      · simp only [decide_eq_true_eq, List.length_map] at h; omega
      · unfold idxI
        rw [if_neg (by rw [hd]; omega)]
    | succ n ih =>
      intro i j jr g hi hd
      have hil : i < l.length := by omega
      have hw1 : IntKind.wrap IntKind.i64 ((i : Int) + 1) = ((i + 1 : Nat) : Int) := wrap_i64 _ (by omega) (by omega)
      refine loop_go 2000 _ (Eq.mpr (slices_IndexFunc_api_Interval_api_Interval_go_S0 l k nl full v i j jr g _) ⟨fun h => ?_, fun h => ?_⟩)
      · simp only [hw1, Int.toNat_natCast]
        rw [drop_get hil, List.findIdx_cons] at hd
        refine ⟨⟨by omega, sl_at hsl hil⟩, getI hil, den_inI _ v (by rw [getD_lt hil]; exact hok _ (by simp)) hv, fun he => ?_, fun he j jr g => ?_⟩
        · rw [he] at hd
          have hd' : l.findIdx (fun x => inI x v) = i := hd
          unfold idxI
          rw [hd', if_pos hil]
        · rw [he] at hd
          exact ih (i + 1) j jr g (by omega) (by rw [hd]; simp only [cond_false]; omega)
      · simp only [decide_eq_false_iff_not, List.length_map] at h; omega
  exact H l.length 0 j jr g (by omega) (by simp)
theorem idx_any (p : I → Bool) (l : List I) : decide (idxI p l ≥ 0) = l.any p := by
  unfold idxI
  by_cases h : l.findIdx p < l.length
  · rw [if_pos h]
    have : l.any p = true := List.any_eq_true.2 ⟨l[l.findIdx p], by simp, List.findIdx_getElem (w := h)⟩
    rw [this]; simp
  · rw [if_neg h]
    have h2 : l.any p = false := by
      rw [List.any_eq_false]
      intro x hx hp
      exact h (List.findIdx_lt_length_of_exists ⟨x, hx, hp⟩)
    rw [h2]; rfl
theorem den_has (l : List I) (k : Nat) (nl full : Bool) (v : V) (hsl : slOk 11 k nl l.length) (hll : l.length < 1000000) (hok : ∀ x ∈ l, x.ok) (hv : v.ok) : Den E1 47 [listP k nl full l, v.p] (bolP (l.any fun x => inI x v)) := by
  refine den1 2000 _ rfl (by kernel_rfl) rfl rfl rfl (Eq.mpr (span_has_go l k nl full v _) ⟨?_, rfl⟩)
  refine den_go 2000 _ rfl (by kernel_rfl) rfl rfl rfl rfl (Eq.mpr (slices_ContainsFunc_api_Interval_api_Interval_go l k nl full v _) ⟨den_IndexFuncI l k nl full v hsl hll hok hv, ?_⟩)
  rw [idx_any]
theorem den_Has (l : List I) (k : Nat) (nl full : Bool) (v : V) (hsl : slOk 11 k nl l.length) (hll : l.length < 1000000) (hok : ∀ x ∈ l, x.ok) (hv : v.ok) : Den E1 25 [listP k nl full l, v.p] (.tup [bolP (hasS l v).1, intP (hasS l v).2]) := by
  have hmay := den_span_May l k nl full hsl hok
  rw [may_same] at hmay
  refine den1 2000 _ rfl (by kernel_rfl) rfl rfl rfl (Eq.mpr (span_Has_go l k nl full v _) ⟨hmay, fun h => ?_, fun h => ⟨rfl, den_version_May v hv, fun h2 => ?_, fun h2 => ⟨rfl, den_has l k nl full v hsl hll hok hv, ?_⟩⟩⟩)
  · have : mayR l = false := by cases hm : mayR l with
      | true => rw [hm] at h; cases h
      | false => rfl
    simp only [hasS, this]; rfl
  · have h1 : mayR l = true := by cases hm : mayR l with
      | true => rfl
      | false => rw [hm] at h; cases h
    have h3 : mayV v = false := by cases hm : mayV v with
      | true => rw [hm] at h2; cases h2
      | false => rfl
    simp only [hasS, h1, h3]; rfl
  · have h1 : mayR l = true := by cases hm : mayR l with
      | true => rfl
      | false => rw [hm] at h; cases h
    have h3 : mayV v = true := by cases hm : mayV v with
      | true => rfl
      | false => rw [hm] at h2; cases h2
    simp only [hasS, h1, h3]; rfl
theorem den_ref08_Has (l : List I) (k : Nat) (nl full : Bool) (v : V) (hsl : slOk 11 k nl l.length) (hll : l.length < 1000000) (hgl : goods l) (hv : v.ok) (hm : mayV v = true) : Den E1 27 [listP k nl full l, v.p] (bolP (hasR l v)) := by
  have hg1 : goods [(⟨v, false, v, false, false⟩ : I)] := fun x hx => by simp at hx; subst hx; exact ⟨⟨hv, hv⟩, hm, hm⟩
  refine den1 2000 _ rfl (by kernel_rfl) rfl rfl rfl (Eq.mpr (ref08_Has_go l k nl full v _) ⟨rfl, rfl, den_ref08_meet l [⟨v, false, v, false, false⟩] k 11 nl full false true hll (by simp) (by simpa using hll) hsl ⟨by simp, fun _ => rfl⟩ hgl hg1, ?_⟩)
  unfold hasR
  cases meetR l [⟨v, false, v, false, false⟩] <;> simp
end Go.Proofs.YtlhfgonjcpapnaaGreatDoor.Abs

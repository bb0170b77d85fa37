/-
  The abstract machine over the model, its soundness, walks of the program's functions and what they compute. Conditions: the values are of their types.
-/
import Derived.Test.YtlhfgonjcpapnaaGreatDoorNl

set_option linter.all false
set_option linter.unnecessarySimpa false

namespace Go.Proofs.YtlhfgonjcpapnaaGreatDoor.Abs
open Go Go.Proofs
def span_not_S0 (l : List I) (k : Nat) (nl : Bool) (full : Bool) (j : Nat → AV) (jr : Nat → Row) (g : Nat) : St :=
  { t := [j 0, j 1, j 2, .pv (.sl 0 true true []), .mptr 0 4 3 0 0, j 5, j 6, j 7, .pv (.sl k nl full (List.map I.p l)), intA ((↑(List.length (List.map I.p l)) : Int)), intA 0] ++ jj j 11 24, h := [[row0, row0, row0, row0, ⟨3, .box (.pv (edgP 0 0 0 (.sl 1 false true [strP [48]]) false false)) false⟩, row0, jr 6, row0, row0, row0, row0, row0, row0, row0, row0, row0, row0, row0, row0, jr 19, row0, row0, row0, row0, row0, row0, row0, row0, row0, row0, row0, jr 31, jr 32, row0, row0]], g := g }
def span_not_S1 (l : List I) (k : Nat) (nl : Bool) (full : Bool) (i : Int) (e : Ed) (gm : Nat) (n : Nat) (xsI : List PV) (j : Nat → AV) (jr : Nat → Row) (g : Nat) : St :=
  { t := [j 0, j 1, j 2, .msl 0 20 gm 0 n false, .mptr 0 4 3 0 0, j 5, j 6, j 7, .pv (.sl k nl full (List.map I.p l)), intA ((↑(List.length (List.map I.p l)) : Int)), intA i] ++ jj j 11 24, h := [[row0, row0, row0, row0, ⟨3, .box (.pv (Ed.p ⟨(Ed.v e), (Ed.behind e), (Ed.less e)⟩)) false⟩, row0, jr 6, row0, row0, row0, row0, row0, row0, row0, row0, row0, row0, row0, row0, jr 19, ⟨gm, .row 11 63 xsI false⟩, row0, row0, row0, row0, row0, row0, row0, row0, row0, row0, jr 31, jr 32, row0, row0]], g := g }
theorem span_not_go (l : List I) (k : Nat) (nl : Bool) (full : Bool) (r : PV) : FnGo E1 Tryz.f64 [.sl k nl full (List.map I.p l)] r 2000 (.res (edgP 0 0 0 (.sl 1 false true [strP [48]]) false false) (.mask (iv [(0, 2), (5, 7), (11, 34)]) [6, 19, 31, 32])) =
  ((Den E1 76 [] (edgP 0 0 0 (.sl 1 false true [strP [48]]) false false)) ∧
 ((3 : Nat) = 3) ∧
 (AtAll Tryz.f64 r 0 (span_not_S0 l k nl full))) := by kernel_rfl
theorem span_not_go_S0 (l : List I) (k : Nat) (nl : Bool) (full : Bool) (j : Nat → AV) (jr : Nat → Row) (g : Nat) (r : PV) : LoopGo E1 Tryz.f64 r 0 2000 (.fork (.val (I.p (List.getD l (0 : Nat) default)) (.res (Ed.p ⟨(I.lo (List.getD l (0 : Nat) default)), (I.lopen (List.getD l (0 : Nat) default)), false⟩) (.res (itvP 0 0 0 (.sl 1 false true [strP [48]]) false (V.a (I.lo (List.getD l (0 : Nat) default))) (V.b (I.lo (List.getD l (0 : Nat) default))) (V.c (I.lo (List.getD l (0 : Nat) default))) (V.q (I.lo (List.getD l (0 : Nat) default))) (if Ed.less ⟨I.lo (List.getD l (0 : Nat) default), I.lopen (List.getD l (0 : Nat) default), false⟩ = true then false else !I.lopen (List.getD l (0 : Nat) default)) false) (.lit (.lit (.res (Ed.p ⟨(I.hi (List.getD l (0 : Nat) default)), (!I.hopen (List.getD l (0 : Nat) default)), (I.less (List.getD l (0 : Nat) default))⟩) (.mask (iv [(0, 2), (5, 7), (11, 34)]) [6, 19, 31, 32]))))))) (.lit (.res (edgP 0 0 0 (.sl 0 true true []) false true) (.res (itvP 0 0 0 (.sl 1 false true [strP [48]]) false 0 0 0 (.sl 0 true true []) false true) (.lit (.lit (.frz [.sl 11 false false [itvP 0 0 0 (.sl 1 false true [strP [48]]) false 0 0 0 (.sl 0 true true []) false true]] [[row0, row0, row0, row0, ⟨3, .box (.pv (edgP 0 0 0 (.sl 1 false true [strP [48]]) false false)) false⟩, row0, jr 6, row0, row0, row0, row0, row0, row0, row0, row0, row0, row0, row0, row0, jr 19, row0, row0, row0, row0, row0, row0, row0, row0, row0, row0, row0, ⟨g + 1 + 3 + 4, .row 11 63 [itvP 0 0 0 (.sl 1 false true [strP [48]]) false 0 0 0 (.sl 0 true true []) false true] false⟩, ⟨g + 1 + 3 + 5, .row 11 63 [itvP 0 0 0 (.sl 1 false true [strP [48]]) false 0 0 0 (.sl 0 true true []) false true] true⟩, row0, row0]] (.res (.sl 11 false false [itvP 0 0 0 (.sl 1 false true [strP [48]]) false 0 0 0 (.sl 0 true true []) false true]) (.hole 0))))))))) (span_not_S0 l k nl full j jr g) =
  (((decide ((0 : Int) < (↑(List.length (List.map I.p l)) : Int))) = true →
 (((0 : Int) ≤ (0 : Int)) ∧ ((nl = false) ∧ (k = 11))) ∧
 (((List.map I.p l)[(0 : Nat)]?) = some (I.p (List.getD l (0 : Nat) default))) ∧
 ((g + 1 + 2) = g + 1 + 2) ∧
 ((3 : Nat) = 3) ∧
 ((g + 1 + 2) = g + 1 + 2) ∧
 (Den E1 37 [I.p (List.getD l (0 : Nat) default)] (Ed.p ⟨(I.lo (List.getD l (0 : Nat) default)), (I.lopen (List.getD l (0 : Nat) default)), false⟩)) ∧
 (Den E1 89 [edgP 0 0 0 (.sl 1 false true [strP [48]]) false false, Ed.p ⟨(I.lo (List.getD l (0 : Nat) default)), (I.lopen (List.getD l (0 : Nat) default)), false⟩] (itvP 0 0 0 (.sl 1 false true [strP [48]]) false (V.a (I.lo (List.getD l (0 : Nat) default))) (V.b (I.lo (List.getD l (0 : Nat) default))) (V.c (I.lo (List.getD l (0 : Nat) default))) (V.q (I.lo (List.getD l (0 : Nat) default))) (if Ed.less ⟨I.lo (List.getD l (0 : Nat) default), I.lopen (List.getD l (0 : Nat) default), false⟩ = true then false else !I.lopen (List.getD l (0 : Nat) default)) false)) ∧
 ((g + 1 + 4 + 5) = g + 1 + 4 + 5) ∧
 (((11 : Nat) = 11) ∧ ((1 : Nat) ≤ (1 : Nat))) ∧
 (((0 : Nat) = 0) ∧ (true = true)) ∧
 ((g + 1 + 2) = g + 1 + 2) ∧
 (Den E1 38 [I.p (List.getD l (0 : Nat) default)] (Ed.p ⟨(I.hi (List.getD l (0 : Nat) default)), (!I.hopen (List.getD l (0 : Nat) default)), (I.less (List.getD l (0 : Nat) default))⟩)) ∧
 ((3 : Nat) = 3) ∧
 (∀ (j' : Nat → AV) (jr' : Nat → Row) (g' : Nat), LoopAt E1 Tryz.f64 r 0 { t := [j' 0, j' 1, j' 2, .msl 0 20 (g + 1 + 4 + 6) 0 1 false, .mptr 0 4 3 0 0, j' 5, j' 6, j' 7, .pv (.sl k nl full (List.map I.p l)), intA ((↑(List.length (List.map I.p l)) : Int)), intA 1] ++ jj j' 11 24, h := [[row0, row0, row0, row0, ⟨3, .box (.pv (Ed.p ⟨(I.hi (List.getD l (0 : Nat) default)), (!I.hopen (List.getD l (0 : Nat) default)), (I.less (List.getD l (0 : Nat) default))⟩)) false⟩, row0, jr' 6, row0, row0, row0, row0, row0, row0, row0, row0, row0, row0, row0, row0, jr' 19, ⟨g + 1 + 4 + 6, .row 11 63 [itvP 0 0 0 (.sl 1 false true [strP [48]]) false (V.a (I.lo (List.getD l (0 : Nat) default))) (V.b (I.lo (List.getD l (0 : Nat) default))) (V.c (I.lo (List.getD l (0 : Nat) default))) (V.q (I.lo (List.getD l (0 : Nat) default))) (if Ed.less ⟨I.lo (List.getD l (0 : Nat) default), I.lopen (List.getD l (0 : Nat) default), false⟩ = true then false else !I.lopen (List.getD l (0 : Nat) default)) false] false⟩, row0, row0, row0, row0, row0, row0, row0, row0, row0, row0, jr' 31, jr' 32, row0, row0]], g := g' })) ∧
 ((decide ((0 : Int) < (↑(List.length (List.map I.p l)) : Int))) = false →
 ((3 : Nat) = 3) ∧
 ((3 : Nat) = 3) ∧
 (Den E1 90 [] (edgP 0 0 0 (.sl 0 true true []) false true)) ∧
 (Den E1 89 [edgP 0 0 0 (.sl 1 false true [strP [48]]) false false, edgP 0 0 0 (.sl 0 true true []) false true] (itvP 0 0 0 (.sl 1 false true [strP [48]]) false 0 0 0 (.sl 0 true true []) false true)) ∧
 ((g + 1 + 3 + 4) = g + 1 + 3 + 4) ∧
 (((11 : Nat) = 11) ∧ ((1 : Nat) ≤ (1 : Nat))) ∧
 (((0 : Nat) = 0) ∧ (true = true)) ∧
 (frzs frzDepth [.msl 0 32 (g + 1 + 3 + 5) 0 1 false] [[row0, row0, row0, row0, ⟨3, .box (.pv (edgP 0 0 0 (.sl 1 false true [strP [48]]) false false)) false⟩, row0, jr 6, row0, row0, row0, row0, row0, row0, row0, row0, row0, row0, row0, row0, jr 19, row0, row0, row0, row0, row0, row0, row0, row0, row0, row0, row0, ⟨g + 1 + 3 + 4, .row 11 63 [itvP 0 0 0 (.sl 1 false true [strP [48]]) false 0 0 0 (.sl 0 true true []) false true] false⟩, ⟨g + 1 + 3 + 5, .row 11 63 [itvP 0 0 0 (.sl 1 false true [strP [48]]) false 0 0 0 (.sl 0 true true []) false true] false⟩, row0, row0]] = some ([.sl 11 false false [itvP 0 0 0 (.sl 1 false true [strP [48]]) false 0 0 0 (.sl 0 true true []) false true]], [[row0, row0, row0, row0, ⟨3, .box (.pv (edgP 0 0 0 (.sl 1 false true [strP [48]]) false false)) false⟩, row0, jr 6, row0, row0, row0, row0, row0, row0, row0, row0, row0, row0, row0, row0, jr 19, row0, row0, row0, row0, row0, row0, row0, row0, row0, row0, row0, ⟨g + 1 + 3 + 4, .row 11 63 [itvP 0 0 0 (.sl 1 false true [strP [48]]) false 0 0 0 (.sl 0 true true []) false true] false⟩, ⟨g + 1 + 3 + 5, .row 11 63 [itvP 0 0 0 (.sl 1 false true [strP [48]]) false 0 0 0 (.sl 0 true true []) false true] true⟩, row0, row0]])) ∧
 (Den E1 54 [.sl 11 false false [itvP 0 0 0 (.sl 1 false true [strP [48]]) false 0 0 0 (.sl 0 true true []) false true]] (.sl 11 false false [itvP 0 0 0 (.sl 1 false true [strP [48]]) false 0 0 0 (.sl 0 true true []) false true])) ∧
 ((.sl 11 false false [itvP 0 0 0 (.sl 1 false true [strP [48]]) false 0 0 0 (.sl 0 true true []) false true]) : PV) = r)) := by kernel_rfl
theorem span_not_go_S1 (l : List I) (k : Nat) (nl : Bool) (full : Bool) (i : Int) (e : Ed) (gm : Nat) (n : Nat) (xs : List I) (j : Nat → AV) (jr : Nat → Row) (g : Nat) (r : PV) : LoopGo E1 Tryz.f64 r 0 2000 (.fork (.val (I.p (gI l i)) (.res (Ed.p ⟨(I.lo (gI l i)), (I.lopen (gI l i)), false⟩) (.res (I.p ⟨(Ed.v e), (Ed.behind e), (I.lo (gI l i)), (if Ed.less ⟨I.lo (gI l i), I.lopen (gI l i), false⟩ = true then false else !I.lopen (gI l i)), false⟩) (.lit (.res (Ed.p ⟨(I.hi (gI l i)), (!I.hopen (gI l i)), (I.less (gI l i))⟩) (.mask (iv [(0, 2), (5, 7), (11, 34)]) [6, 19, 31, 32])))))) (.fork (.res (edgP 0 0 0 (.sl 0 true true []) false true) (.res (itvP (V.a (Ed.v e)) (V.b (Ed.v e)) (V.c (Ed.v e)) (V.q (Ed.v e)) (Ed.behind e) 0 0 0 (.sl 0 true true []) false true) (.lit (.frz [.sl 11 false false (List.drop (0 : Nat) (List.map I.p xs) ++ List.take (1 : Nat) (List.drop (0 : Nat) [PV.agg [PV.lit (Value.int IntKind.u32 (V.a (Ed.v e))), PV.lit (Value.int IntKind.u32 (V.b (Ed.v e))), PV.lit (Value.int IntKind.u32 (V.c (Ed.v e))), V.q (Ed.v e), PV.lit (Value.bool (Ed.behind e)), PV.lit (Value.int IntKind.u32 (0 : Int)), PV.lit (Value.int IntKind.u32 (0 : Int)), PV.lit (Value.int IntKind.u32 (0 : Int)), PV.sl (0 : Nat) true true [], PV.lit (Value.bool false), PV.lit (Value.bool true)]]))] [[row0, row0, row0, row0, ⟨3, .box (.pv (Ed.p ⟨(Ed.v e), (Ed.behind e), (Ed.less e)⟩)) false⟩, row0, jr 6, row0, row0, row0, row0, row0, row0, row0, row0, row0, row0, row0, row0, jr 19, ⟨g + 1 + 3 + 5, .row 11 63 (List.drop (0 : Nat) (List.map I.p xs) ++ List.take (1 : Nat) (List.drop (0 : Nat) [PV.agg [PV.lit (Value.int IntKind.u32 (V.a (Ed.v e))), PV.lit (Value.int IntKind.u32 (V.b (Ed.v e))), PV.lit (Value.int IntKind.u32 (V.c (Ed.v e))), V.q (Ed.v e), PV.lit (Value.bool (Ed.behind e)), PV.lit (Value.int IntKind.u32 (0 : Int)), PV.lit (Value.int IntKind.u32 (0 : Int)), PV.lit (Value.int IntKind.u32 (0 : Int)), PV.sl (0 : Nat) true true [], PV.lit (Value.bool false), PV.lit (Value.bool true)]])) true⟩, row0, row0, row0, row0, row0, row0, row0, row0, row0, row0, ⟨g + 1 + 3 + 4, .row 11 63 [itvP (V.a (Ed.v e)) (V.b (Ed.v e)) (V.c (Ed.v e)) (V.q (Ed.v e)) (Ed.behind e) 0 0 0 (.sl 0 true true []) false true] false⟩, jr 32, row0, row0]] (.res (resL (joinS (xs ++ [⟨Ed.v e, Ed.behind e, zV, false, true⟩]))) (.hole 0)))))) (.frz [.sl 11 false false (List.map I.p xs)] [[row0, row0, row0, row0, ⟨3, .box (.pv (Ed.p ⟨(Ed.v e), (Ed.behind e), (Ed.less e)⟩)) false⟩, row0, jr 6, row0, row0, row0, row0, row0, row0, row0, row0, row0, row0, row0, row0, jr 19, ⟨gm, .row 11 63 (List.map I.p xs) true⟩, row0, row0, row0, row0, row0, row0, row0, row0, row0, row0, jr 31, jr 32, row0, row0]] (.res (resL (joinS xs)) (.hole 0))))) (span_not_S1 l k nl full i e gm n (List.map I.p xs) j jr g) =
  (((decide (i < (↑(List.length (List.map I.p l)) : Int))) = true →
 (((0 : Int) ≤ i) ∧ ((nl = false) ∧ (k = 11))) ∧
 (((List.map I.p l)[Int.toNat i]?) = some (I.p (gI l i))) ∧
 ((g + 1 + 2) = g + 1 + 2) ∧
 ((3 : Nat) = 3) ∧
 ((g + 1 + 2) = g + 1 + 2) ∧
 (Den E1 37 [I.p (gI l i)] (Ed.p ⟨(I.lo (gI l i)), (I.lopen (gI l i)), false⟩)) ∧
 (Den E1 89 [Ed.p ⟨(Ed.v e), (Ed.behind e), (Ed.less e)⟩, Ed.p ⟨(I.lo (gI l i)), (I.lopen (gI l i)), false⟩] (I.p ⟨(Ed.v e), (Ed.behind e), (I.lo (gI l i)), (if Ed.less ⟨I.lo (gI l i), I.lopen (gI l i), false⟩ = true then false else !I.lopen (gI l i)), false⟩)) ∧
 ((g + 1 + 4 + 5) = g + 1 + 4 + 5) ∧
 (((11 : Nat) = 11) ∧ ((1 : Nat) ≤ (1 : Nat))) ∧
 (gm = gm) ∧
 ((false = false) ∧ (((11 : Nat) = 11) ∧ (((63 : Nat) = 63) ∧ ((((0 : Nat) + n) = List.length (List.map I.p xs)) ∧ ((fitsRow (n + 1) (104 : Nat)) = true))))) ∧
 ((g + 1 + 2) = g + 1 + 2) ∧
 (Den E1 38 [I.p (gI l i)] (Ed.p ⟨(I.hi (gI l i)), (!I.hopen (gI l i)), (I.less (gI l i))⟩)) ∧
 ((3 : Nat) = 3) ∧
 (∀ (j' : Nat → AV) (jr' : Nat → Row) (g' : Nat), LoopAt E1 Tryz.f64 r 0 { t := [j' 0, j' 1, j' 2, .msl 0 20 (g + 1 + 4 + 6) 0 (n + 1) false, .mptr 0 4 3 0 0, j' 5, j' 6, j' 7, .pv (.sl k nl full (List.map I.p l)), intA ((↑(List.length (List.map I.p l)) : Int)), intA (IntKind.i64.wrap (i + (1 : Int)))] ++ jj j' 11 24, h := [[row0, row0, row0, row0, ⟨3, .box (.pv (Ed.p ⟨(I.hi (gI l i)), (!I.hopen (gI l i)), (I.less (gI l i))⟩)) false⟩, row0, jr' 6, row0, row0, row0, row0, row0, row0, row0, row0, row0, row0, row0, row0, jr' 19, ⟨g + 1 + 4 + 6, .row 11 63 (List.drop (0 : Nat) (List.map I.p xs) ++ List.take (1 : Nat) (List.drop (0 : Nat) [PV.agg [PV.lit (Value.int IntKind.u32 (V.a (Ed.v e))), PV.lit (Value.int IntKind.u32 (V.b (Ed.v e))), PV.lit (Value.int IntKind.u32 (V.c (Ed.v e))), V.q (Ed.v e), PV.lit (Value.bool (Ed.behind e)), PV.lit (Value.int IntKind.u32 (V.a (I.lo (gI l i)))), PV.lit (Value.int IntKind.u32 (V.b (I.lo (gI l i)))), PV.lit (Value.int IntKind.u32 (V.c (I.lo (gI l i)))), V.q (I.lo (gI l i)), PV.lit (Value.bool (if Ed.less ⟨I.lo (gI l i), I.lopen (gI l i), false⟩ = true then false else !I.lopen (gI l i))), PV.lit (Value.bool false)]])) false⟩, row0, row0, row0, row0, row0, row0, row0, row0, row0, row0, jr' 31, jr' 32, row0, row0]], g := g' })) ∧
 ((decide (i < (↑(List.length (List.map I.p l)) : Int))) = false →
 ((3 : Nat) = 3) ∧
 ((!Ed.less e) = true →
 ((3 : Nat) = 3) ∧
 (Den E1 90 [] (edgP 0 0 0 (.sl 0 true true []) false true)) ∧
 (Den E1 89 [Ed.p ⟨(Ed.v e), (Ed.behind e), (Ed.less e)⟩, edgP 0 0 0 (.sl 0 true true []) false true] (itvP (V.a (Ed.v e)) (V.b (Ed.v e)) (V.c (Ed.v e)) (V.q (Ed.v e)) (Ed.behind e) 0 0 0 (.sl 0 true true []) false true)) ∧
 ((g + 1 + 3 + 4) = g + 1 + 3 + 4) ∧
 (((11 : Nat) = 11) ∧ ((1 : Nat) ≤ (1 : Nat))) ∧
 (gm = gm) ∧
 ((false = false) ∧ (((11 : Nat) = 11) ∧ (((63 : Nat) = 63) ∧ ((((0 : Nat) + n) = List.length (List.map I.p xs)) ∧ ((fitsRow (n + 1) (104 : Nat)) = true))))) ∧
 (frzs frzDepth [.msl 0 20 (g + 1 + 3 + 5) 0 (n + 1) false] [[row0, row0, row0, row0, ⟨3, .box (.pv (Ed.p ⟨(Ed.v e), (Ed.behind e), (Ed.less e)⟩)) false⟩, row0, jr 6, row0, row0, row0, row0, row0, row0, row0, row0, row0, row0, row0, row0, jr 19, ⟨g + 1 + 3 + 5, .row 11 63 (List.drop (0 : Nat) (List.map I.p xs) ++ List.take (1 : Nat) (List.drop (0 : Nat) [PV.agg [PV.lit (Value.int IntKind.u32 (V.a (Ed.v e))), PV.lit (Value.int IntKind.u32 (V.b (Ed.v e))), PV.lit (Value.int IntKind.u32 (V.c (Ed.v e))), V.q (Ed.v e), PV.lit (Value.bool (Ed.behind e)), PV.lit (Value.int IntKind.u32 (0 : Int)), PV.lit (Value.int IntKind.u32 (0 : Int)), PV.lit (Value.int IntKind.u32 (0 : Int)), PV.sl (0 : Nat) true true [], PV.lit (Value.bool false), PV.lit (Value.bool true)]])) false⟩, row0, row0, row0, row0, row0, row0, row0, row0, row0, row0, ⟨g + 1 + 3 + 4, .row 11 63 [itvP (V.a (Ed.v e)) (V.b (Ed.v e)) (V.c (Ed.v e)) (V.q (Ed.v e)) (Ed.behind e) 0 0 0 (.sl 0 true true []) false true] false⟩, jr 32, row0, row0]] = some ([.sl 11 false false (List.drop (0 : Nat) (List.map I.p xs) ++ List.take (1 : Nat) (List.drop (0 : Nat) [PV.agg [PV.lit (Value.int IntKind.u32 (V.a (Ed.v e))), PV.lit (Value.int IntKind.u32 (V.b (Ed.v e))), PV.lit (Value.int IntKind.u32 (V.c (Ed.v e))), V.q (Ed.v e), PV.lit (Value.bool (Ed.behind e)), PV.lit (Value.int IntKind.u32 (0 : Int)), PV.lit (Value.int IntKind.u32 (0 : Int)), PV.lit (Value.int IntKind.u32 (0 : Int)), PV.sl (0 : Nat) true true [], PV.lit (Value.bool false), PV.lit (Value.bool true)]]))], [[row0, row0, row0, row0, ⟨3, .box (.pv (Ed.p ⟨(Ed.v e), (Ed.behind e), (Ed.less e)⟩)) false⟩, row0, jr 6, row0, row0, row0, row0, row0, row0, row0, row0, row0, row0, row0, row0, jr 19, ⟨g + 1 + 3 + 5, .row 11 63 (List.drop (0 : Nat) (List.map I.p xs) ++ List.take (1 : Nat) (List.drop (0 : Nat) [PV.agg [PV.lit (Value.int IntKind.u32 (V.a (Ed.v e))), PV.lit (Value.int IntKind.u32 (V.b (Ed.v e))), PV.lit (Value.int IntKind.u32 (V.c (Ed.v e))), V.q (Ed.v e), PV.lit (Value.bool (Ed.behind e)), PV.lit (Value.int IntKind.u32 (0 : Int)), PV.lit (Value.int IntKind.u32 (0 : Int)), PV.lit (Value.int IntKind.u32 (0 : Int)), PV.sl (0 : Nat) true true [], PV.lit (Value.bool false), PV.lit (Value.bool true)]])) true⟩, row0, row0, row0, row0, row0, row0, row0, row0, row0, row0, ⟨g + 1 + 3 + 4, .row 11 63 [itvP (V.a (Ed.v e)) (V.b (Ed.v e)) (V.c (Ed.v e)) (V.q (Ed.v e)) (Ed.behind e) 0 0 0 (.sl 0 true true []) false true] false⟩, jr 32, row0, row0]])) ∧
 (Den E1 54 [.sl 11 false false (List.drop (0 : Nat) (List.map I.p xs) ++ List.take (1 : Nat) (List.drop (0 : Nat) [PV.agg [PV.lit (Value.int IntKind.u32 (V.a (Ed.v e))), PV.lit (Value.int IntKind.u32 (V.b (Ed.v e))), PV.lit (Value.int IntKind.u32 (V.c (Ed.v e))), V.q (Ed.v e), PV.lit (Value.bool (Ed.behind e)), PV.lit (Value.int IntKind.u32 (0 : Int)), PV.lit (Value.int IntKind.u32 (0 : Int)), PV.lit (Value.int IntKind.u32 (0 : Int)), PV.sl (0 : Nat) true true [], PV.lit (Value.bool false), PV.lit (Value.bool true)]]))] (resL (joinS (xs ++ [⟨Ed.v e, Ed.behind e, zV, false, true⟩])))) ∧
 ((resL (joinS (xs ++ [⟨Ed.v e, Ed.behind e, zV, false, true⟩]))) : PV) = r) ∧
 ((!Ed.less e) = false →
 (frzs frzDepth [.msl 0 20 gm 0 n false] [[row0, row0, row0, row0, ⟨3, .box (.pv (Ed.p ⟨(Ed.v e), (Ed.behind e), (Ed.less e)⟩)) false⟩, row0, jr 6, row0, row0, row0, row0, row0, row0, row0, row0, row0, row0, row0, row0, jr 19, ⟨gm, .row 11 63 (List.map I.p xs) false⟩, row0, row0, row0, row0, row0, row0, row0, row0, row0, row0, jr 31, jr 32, row0, row0]] = some ([.sl 11 false false (List.map I.p xs)], [[row0, row0, row0, row0, ⟨3, .box (.pv (Ed.p ⟨(Ed.v e), (Ed.behind e), (Ed.less e)⟩)) false⟩, row0, jr 6, row0, row0, row0, row0, row0, row0, row0, row0, row0, row0, row0, row0, jr 19, ⟨gm, .row 11 63 (List.map I.p xs) true⟩, row0, row0, row0, row0, row0, row0, row0, row0, row0, row0, jr 31, jr 32, row0, row0]])) ∧
 (Den E1 54 [.sl 11 false false (List.map I.p xs)] (resL (joinS xs))) ∧
 ((resL (joinS xs)) : PV) = r))) := by kernel_rfl
end Go.Proofs.YtlhfgonjcpapnaaGreatDoor.Abs

namespace Go.Proofs.YtlhfgonjcpapnaaGreatDoor.Abs
open Go Go.Proofs
def ref08_Not_S0 (l : List I) (k : Nat) (nl : Bool) (full : Bool) (j : Nat → AV) (jr : Nat → Row) (g : Nat) : St :=
  { t := [.pv (.sl k nl full (List.map I.p l)), j 1, j 2, j 3, .pv (.sl 11 false true [itvP 0 0 0 (.sl 1 false true [strP [48]]) false 0 0 0 (.sl 0 true true []) false true]), intA 0] ++ jj j 6 53, h := [List.replicate 29 row0 ++ [jr 29, row0, row0, row0, row0, row0, row0, row0, row0, row0, row0, row0, row0, row0, row0, row0, row0, row0, row0, row0, row0, row0, jr 51] ++ List.replicate 7 row0], g := g }
def ref08_Not_S1 (l : List I) (k : Nat) (nl : Bool) (full : Bool) (i : Int) (c : LF) (j : Nat → AV) (jr : Nat → Row) (g : Nat) : St :=
  { t := [.pv (.sl k nl full (List.map I.p l)), j 1, j 2, j 3, .pv (LF.p c), intA i] ++ jj j 6 53, h := [List.replicate 29 row0 ++ [jr 29, row0, row0, row0, row0, row0, row0, row0, row0, row0, row0, row0, row0, row0, row0, row0, row0, row0, row0, row0, row0, row0, jr 51] ++ List.replicate 7 row0], g := g }
theorem ref08_Not_go (l : List I) (k : Nat) (nl : Bool) (full : Bool) (r : PV) : FnGo E1 Tryz.f33 [.sl k nl full (List.map I.p l)] r 2000 (.res (.sl 11 false true [itvP 0 0 0 (.sl 1 false true [strP [48]]) false 0 0 0 (.sl 0 true true []) false true]) (.mask (iv [(1, 3), (6, 58)]) [29, 51])) =
  ((Den E1 65 [] (.sl 11 false true [itvP 0 0 0 (.sl 1 false true [strP [48]]) false 0 0 0 (.sl 0 true true []) false true])) ∧
 (AtAll Tryz.f33 r 0 (ref08_Not_S0 l k nl full))) := by kernel_rfl
theorem ref08_Not_go_S1 (l : List I) (k : Nat) (nl : Bool) (full : Bool) (i : Int) (c : LF) (j : Nat → AV) (jr : Nat → Row) (g : Nat) (r : PV) : LoopGo E1 Tryz.f33 r 0 2000 (.fork (.val (I.p (gI l i)) (.val (I.p (gI l i)) (.res (resL (joinR [downI (I.lo (gI l i)) !I.lopen (gI l i)])) (.fork (.val (I.p (gI l i)) (.fork (.val (I.p (gI l i)) (.val (I.p (gI l i)) (.res (.sl 11 false true [itvP (V.a (I.hi (gI l i))) (V.b (I.hi (gI l i))) (V.c (I.hi (gI l i))) (V.q (I.hi (gI l i))) (!I.hopen (gI l i)) 0 0 0 (.sl 0 true true []) false true]) (.lit (.lit (.frz [LF.p c, .sl 11 false false [itvP (V.a (I.hi (gI l i))) (V.b (I.hi (gI l i))) (V.c (I.hi (gI l i))) (V.q (I.hi (gI l i))) (!I.hopen (gI l i)) 0 0 0 (.sl 0 true true []) false true]] [List.replicate 29 row0 ++ [jr 29, row0, row0, row0, row0, row0, row0, row0, row0, row0, row0, row0, row0, row0, row0, row0, row0, row0, row0, row0, row0, row0, ⟨g + 4 + 1 + 17 + 6 + 15, .row 11 63 [itvP (V.a (I.hi (gI l i))) (V.b (I.hi (gI l i))) (V.c (I.hi (gI l i))) (V.q (I.hi (gI l i))) (!I.hopen (gI l i)) 0 0 0 (.sl 0 true true []) false true] true⟩] ++ List.replicate 7 row0] (.res (resL (meetR (LF.l c) [⟨I.hi (gI l i), !I.hopen (gI l i), zV, false, true⟩])) (.mask (iv [(1, 3), (6, 58)]) [29, 51])))))))) (.res (resL (meetR (LF.l c) [])) (.mask (iv [(1, 3), (6, 58)]) [29, 51])))) (.lit (.val (I.p (gI l i)) (.fork (.val (I.p (gI l i)) (.val (I.p (gI l i)) (.res (.sl 11 false true [itvP (V.a (I.hi (gI l i))) (V.b (I.hi (gI l i))) (V.c (I.hi (gI l i))) (V.q (I.hi (gI l i))) (!I.hopen (gI l i)) 0 0 0 (.sl 0 true true []) false true]) (.lit (.frz [LF.p c, .sl 11 false false (List.drop (0 : Nat) (List.map I.p (joinR [downI (I.lo (gI l i)) !I.lopen (gI l i)])) ++ [PV.agg [PV.lit (Value.int IntKind.u32 (V.a (I.hi (gI l i)))), PV.lit (Value.int IntKind.u32 (V.b (I.hi (gI l i)))), PV.lit (Value.int IntKind.u32 (V.c (I.hi (gI l i)))), V.q (I.hi (gI l i)), PV.lit (Value.bool !I.hopen (gI l i)), PV.lit (Value.int IntKind.u32 (0 : Int)), PV.lit (Value.int IntKind.u32 (0 : Int)), PV.lit (Value.int IntKind.u32 (0 : Int)), PV.sl (0 : Nat) true true [], PV.lit (Value.bool false), PV.lit (Value.bool true)]])] [List.replicate 29 row0 ++ [⟨g + 4 + 1 + 17 + 6 + 15, .row 11 63 (List.drop (0 : Nat) (List.map I.p (joinR [downI (I.lo (gI l i)) !I.lopen (gI l i)])) ++ [PV.agg [PV.lit (Value.int IntKind.u32 (V.a (I.hi (gI l i)))), PV.lit (Value.int IntKind.u32 (V.b (I.hi (gI l i)))), PV.lit (Value.int IntKind.u32 (V.c (I.hi (gI l i)))), V.q (I.hi (gI l i)), PV.lit (Value.bool !I.hopen (gI l i)), PV.lit (Value.int IntKind.u32 (0 : Int)), PV.lit (Value.int IntKind.u32 (0 : Int)), PV.lit (Value.int IntKind.u32 (0 : Int)), PV.sl (0 : Nat) true true [], PV.lit (Value.bool false), PV.lit (Value.bool true)]]) true⟩, row0, row0, row0, row0, row0, row0, row0, row0, row0, row0, row0, row0, row0, row0, row0, row0, row0, row0, row0, row0, row0, jr 51] ++ List.replicate 7 row0] (.res (resL (meetR (LF.l c) (joinR [downI (I.lo (gI l i)) !I.lopen (gI l i)] ++ [⟨I.hi (gI l i), !I.hopen (gI l i), zV, false, true⟩]))) (.mask (iv [(1, 3), (6, 58)]) [29, 51]))))))) (.frz [LF.p c, .sl 11 false false (List.map I.p (joinR [downI (I.lo (gI l i)) !I.lopen (gI l i)]))] [List.replicate 29 row0 ++ [⟨g + 4 + 1 + 15, .row 11 63 (List.map I.p (joinR [downI (I.lo (gI l i)) !I.lopen (gI l i)])) true⟩, row0, row0, row0, row0, row0, row0, row0, row0, row0, row0, row0, row0, row0, row0, row0, row0, row0, row0, row0, row0, row0, jr 51] ++ List.replicate 7 row0] (.res (resL (meetR (LF.l c) (joinR [downI (I.lo (gI l i)) !I.lopen (gI l i)]))) (.mask (iv [(1, 3), (6, 58)]) [29, 51])))))))))) (.res (.tup [LF.p (Prod.fst (limR c)), intP (Prod.snd (limR c))]) (.hole 0))) (ref08_Not_S1 l k nl full i c j jr g) =
  (((decide (i < (↑(List.length (List.map I.p l)) : Int))) = true →
 (((0 : Int) ≤ i) ∧ ((nl = false) ∧ (k = 11))) ∧
 (((List.map I.p l)[Int.toNat i]?) = some (I.p (gI l i))) ∧
 (((0 : Int) ≤ i) ∧ ((nl = false) ∧ (k = 11))) ∧
 (((List.map I.p l)[Int.toNat i]?) = some (I.p (gI l i))) ∧
 (Den E1 66 [V.p (I.lo (gI l i)), bolP (!I.lopen (gI l i))] (resL (joinR [downI (I.lo (gI l i)) !I.lopen (gI l i)]))) ∧
 ((((twN (joinR [downI (I.lo (gI l i)) !I.lopen (gI l i)])) = true → (List.map I.p (joinR [downI (I.lo (gI l i)) !I.lopen (gI l i)])) = [])) ∧ (((twN (joinR [downI (I.lo (gI l i)) !I.lopen (gI l i)])) = false → (twK (joinR [downI (I.lo (gI l i)) !I.lopen (gI l i)])) = 11))) ∧
 ((List.isEmpty (List.map I.p (joinR [downI (I.lo (gI l i)) !I.lopen (gI l i)]))) = true →
 (((0 : Int) ≤ i) ∧ ((nl = false) ∧ (k = 11))) ∧
 (((List.map I.p l)[Int.toNat i]?) = some (I.p (gI l i))) ∧
 ((!I.less (gI l i)) = true →
 (((0 : Int) ≤ i) ∧ ((nl = false) ∧ (k = 11))) ∧
 (((List.map I.p l)[Int.toNat i]?) = some (I.p (gI l i))) ∧
 (((0 : Int) ≤ i) ∧ ((nl = false) ∧ (k = 11))) ∧
 (((List.map I.p l)[Int.toNat i]?) = some (I.p (gI l i))) ∧
 (Den E1 67 [V.p (I.hi (gI l i)), bolP (!I.hopen (gI l i))] (.sl 11 false true [itvP (V.a (I.hi (gI l i))) (V.b (I.hi (gI l i))) (V.c (I.hi (gI l i))) (V.q (I.hi (gI l i))) (!I.hopen (gI l i)) 0 0 0 (.sl 0 true true []) false true])) ∧
 (((false = true → [itvP (V.a (I.hi (gI l i))) (V.b (I.hi (gI l i))) (V.c (I.hi (gI l i))) (V.q (I.hi (gI l i))) (!I.hopen (gI l i)) 0 0 0 (.sl 0 true true []) false true] = [])) ∧ ((false = false → (11 : Nat) = 11))) ∧
 (((0 : Nat) = 0) ∧ (true = true)) ∧
 (frzs frzDepth [.pv (LF.p c), .msl 0 51 (g + 4 + 1 + 17 + 6 + 15) 0 1 false] [List.replicate 29 row0 ++ [jr 29, row0, row0, row0, row0, row0, row0, row0, row0, row0, row0, row0, row0, row0, row0, row0, row0, row0, row0, row0, row0, row0, ⟨g + 4 + 1 + 17 + 6 + 15, .row 11 63 [itvP (V.a (I.hi (gI l i))) (V.b (I.hi (gI l i))) (V.c (I.hi (gI l i))) (V.q (I.hi (gI l i))) (!I.hopen (gI l i)) 0 0 0 (.sl 0 true true []) false true] false⟩] ++ List.replicate 7 row0] = some ([LF.p c, .sl 11 false false [itvP (V.a (I.hi (gI l i))) (V.b (I.hi (gI l i))) (V.c (I.hi (gI l i))) (V.q (I.hi (gI l i))) (!I.hopen (gI l i)) 0 0 0 (.sl 0 true true []) false true]], [List.replicate 29 row0 ++ [jr 29, row0, row0, row0, row0, row0, row0, row0, row0, row0, row0, row0, row0, row0, row0, row0, row0, row0, row0, row0, row0, row0, ⟨g + 4 + 1 + 17 + 6 + 15, .row 11 63 [itvP (V.a (I.hi (gI l i))) (V.b (I.hi (gI l i))) (V.c (I.hi (gI l i))) (V.q (I.hi (gI l i))) (!I.hopen (gI l i)) 0 0 0 (.sl 0 true true []) false true] true⟩] ++ List.replicate 7 row0])) ∧
 (Den E1 61 [LF.p c, .sl 11 false false [itvP (V.a (I.hi (gI l i))) (V.b (I.hi (gI l i))) (V.c (I.hi (gI l i))) (V.q (I.hi (gI l i))) (!I.hopen (gI l i)) 0 0 0 (.sl 0 true true []) false true]] (resL (meetR (LF.l c) [⟨I.hi (gI l i), !I.hopen (gI l i), zV, false, true⟩]))) ∧
 (∀ (j' : Nat → AV) (jr' : Nat → Row) (g' : Nat), LoopAt E1 Tryz.f33 r 0 { t := [.pv (.sl k nl full (List.map I.p l)), j' 1, j' 2, j' 3, .pv (resL (meetR (LF.l c) [⟨I.hi (gI l i), !I.hopen (gI l i), zV, false, true⟩])), intA (IntKind.i64.wrap (i + (1 : Int)))] ++ jj j' 6 53, h := [List.replicate 29 row0 ++ [jr' 29, row0, row0, row0, row0, row0, row0, row0, row0, row0, row0, row0, row0, row0, row0, row0, row0, row0, row0, row0, row0, row0, jr' 51] ++ List.replicate 7 row0], g := g' })) ∧
 ((!I.less (gI l i)) = false →
 (Den E1 61 [LF.p c, .sl 0 true true []] (resL (meetR (LF.l c) []))) ∧
 (∀ (j' : Nat → AV) (jr' : Nat → Row) (g' : Nat), LoopAt E1 Tryz.f33 r 0 { t := [.pv (.sl k nl full (List.map I.p l)), j' 1, j' 2, j' 3, .pv (resL (meetR (LF.l c) [])), intA (IntKind.i64.wrap (i + (1 : Int)))] ++ jj j' 6 53, h := [List.replicate 29 row0 ++ [jr' 29, row0, row0, row0, row0, row0, row0, row0, row0, row0, row0, row0, row0, row0, row0, row0, row0, row0, row0, row0, row0, row0, jr' 51] ++ List.replicate 7 row0], g := g' }))) ∧
 ((List.isEmpty (List.map I.p (joinR [downI (I.lo (gI l i)) !I.lopen (gI l i)]))) = false →
 (((0 : Nat) = 0) ∧ ((fitsRow (List.length (List.map I.p (joinR [downI (I.lo (gI l i)) !I.lopen (gI l i)]))) (104 : Nat)) = true)) ∧
 (((0 : Int) ≤ i) ∧ ((nl = false) ∧ (k = 11))) ∧
 (((List.map I.p l)[Int.toNat i]?) = some (I.p (gI l i))) ∧
 ((!I.less (gI l i)) = true →
 (((0 : Int) ≤ i) ∧ ((nl = false) ∧ (k = 11))) ∧
 (((List.map I.p l)[Int.toNat i]?) = some (I.p (gI l i))) ∧
 (((0 : Int) ≤ i) ∧ ((nl = false) ∧ (k = 11))) ∧
 (((List.map I.p l)[Int.toNat i]?) = some (I.p (gI l i))) ∧
 (Den E1 67 [V.p (I.hi (gI l i)), bolP (!I.hopen (gI l i))] (.sl 11 false true [itvP (V.a (I.hi (gI l i))) (V.b (I.hi (gI l i))) (V.c (I.hi (gI l i))) (V.q (I.hi (gI l i))) (!I.hopen (gI l i)) 0 0 0 (.sl 0 true true []) false true])) ∧
 (((false = true → [itvP (V.a (I.hi (gI l i))) (V.b (I.hi (gI l i))) (V.c (I.hi (gI l i))) (V.q (I.hi (gI l i))) (!I.hopen (gI l i)) 0 0 0 (.sl 0 true true []) false true] = [])) ∧ ((false = false → (11 : Nat) = 11))) ∧
 ((g + 4 + 1 + 15) = g + 4 + 1 + 15) ∧
 ((false = false) ∧ (((11 : Nat) = 11) ∧ (((63 : Nat) = 63) ∧ ((((0 : Nat) + List.length (List.map I.p (joinR [downI (I.lo (gI l i)) !I.lopen (gI l i)]))) = List.length (List.map I.p (joinR [downI (I.lo (gI l i)) !I.lopen (gI l i)]))) ∧ ((fitsRow (List.length (List.map I.p (joinR [downI (I.lo (gI l i)) !I.lopen (gI l i)])) + 1) (104 : Nat)) = true))))) ∧
 (frzs frzDepth [.pv (LF.p c), .msl 0 29 (g + 4 + 1 + 17 + 6 + 15) 0 (List.length (List.map I.p (joinR [downI (I.lo (gI l i)) !I.lopen (gI l i)])) + 1) false] [List.replicate 29 row0 ++ [⟨g + 4 + 1 + 17 + 6 + 15, .row 11 63 (List.drop (0 : Nat) (List.map I.p (joinR [downI (I.lo (gI l i)) !I.lopen (gI l i)])) ++ [PV.agg [PV.lit (Value.int IntKind.u32 (V.a (I.hi (gI l i)))), PV.lit (Value.int IntKind.u32 (V.b (I.hi (gI l i)))), PV.lit (Value.int IntKind.u32 (V.c (I.hi (gI l i)))), V.q (I.hi (gI l i)), PV.lit (Value.bool !I.hopen (gI l i)), PV.lit (Value.int IntKind.u32 (0 : Int)), PV.lit (Value.int IntKind.u32 (0 : Int)), PV.lit (Value.int IntKind.u32 (0 : Int)), PV.sl (0 : Nat) true true [], PV.lit (Value.bool false), PV.lit (Value.bool true)]]) false⟩, row0, row0, row0, row0, row0, row0, row0, row0, row0, row0, row0, row0, row0, row0, row0, row0, row0, row0, row0, row0, row0, jr 51] ++ List.replicate 7 row0] = some ([LF.p c, .sl 11 false false (List.drop (0 : Nat) (List.map I.p (joinR [downI (I.lo (gI l i)) !I.lopen (gI l i)])) ++ [PV.agg [PV.lit (Value.int IntKind.u32 (V.a (I.hi (gI l i)))), PV.lit (Value.int IntKind.u32 (V.b (I.hi (gI l i)))), PV.lit (Value.int IntKind.u32 (V.c (I.hi (gI l i)))), V.q (I.hi (gI l i)), PV.lit (Value.bool !I.hopen (gI l i)), PV.lit (Value.int IntKind.u32 (0 : Int)), PV.lit (Value.int IntKind.u32 (0 : Int)), PV.lit (Value.int IntKind.u32 (0 : Int)), PV.sl (0 : Nat) true true [], PV.lit (Value.bool false), PV.lit (Value.bool true)]])], [List.replicate 29 row0 ++ [⟨g + 4 + 1 + 17 + 6 + 15, .row 11 63 (List.drop (0 : Nat) (List.map I.p (joinR [downI (I.lo (gI l i)) !I.lopen (gI l i)])) ++ [PV.agg [PV.lit (Value.int IntKind.u32 (V.a (I.hi (gI l i)))), PV.lit (Value.int IntKind.u32 (V.b (I.hi (gI l i)))), PV.lit (Value.int IntKind.u32 (V.c (I.hi (gI l i)))), V.q (I.hi (gI l i)), PV.lit (Value.bool !I.hopen (gI l i)), PV.lit (Value.int IntKind.u32 (0 : Int)), PV.lit (Value.int IntKind.u32 (0 : Int)), PV.lit (Value.int IntKind.u32 (0 : Int)), PV.sl (0 : Nat) true true [], PV.lit (Value.bool false), PV.lit (Value.bool true)]]) true⟩, row0, row0, row0, row0, row0, row0, row0, row0, row0, row0, row0, row0, row0, row0, row0, row0, row0, row0, row0, row0, row0, jr 51] ++ List.replicate 7 row0])) ∧
 (Den E1 61 [LF.p c, .sl 11 false false (List.drop (0 : Nat) (List.map I.p (joinR [downI (I.lo (gI l i)) !I.lopen (gI l i)])) ++ [PV.agg [PV.lit (Value.int IntKind.u32 (V.a (I.hi (gI l i)))), PV.lit (Value.int IntKind.u32 (V.b (I.hi (gI l i)))), PV.lit (Value.int IntKind.u32 (V.c (I.hi (gI l i)))), V.q (I.hi (gI l i)), PV.lit (Value.bool !I.hopen (gI l i)), PV.lit (Value.int IntKind.u32 (0 : Int)), PV.lit (Value.int IntKind.u32 (0 : Int)), PV.lit (Value.int IntKind.u32 (0 : Int)), PV.sl (0 : Nat) true true [], PV.lit (Value.bool false), PV.lit (Value.bool true)]])] (resL (meetR (LF.l c) (joinR [downI (I.lo (gI l i)) !I.lopen (gI l i)] ++ [⟨I.hi (gI l i), !I.hopen (gI l i), zV, false, true⟩])))) ∧
 (∀ (j' : Nat → AV) (jr' : Nat → Row) (g' : Nat), LoopAt E1 Tryz.f33 r 0 { t := [.pv (.sl k nl full (List.map I.p l)), j' 1, j' 2, j' 3, .pv (resL (meetR (LF.l c) (joinR [downI (I.lo (gI l i)) !I.lopen (gI l i)] ++ [⟨I.hi (gI l i), !I.hopen (gI l i), zV, false, true⟩]))), intA (IntKind.i64.wrap (i + (1 : Int)))] ++ jj j' 6 53, h := [List.replicate 29 row0 ++ [jr' 29, row0, row0, row0, row0, row0, row0, row0, row0, row0, row0, row0, row0, row0, row0, row0, row0, row0, row0, row0, row0, row0, jr' 51] ++ List.replicate 7 row0], g := g' })) ∧
 ((!I.less (gI l i)) = false →
 (frzs frzDepth [.pv (LF.p c), .msl 0 29 (g + 4 + 1 + 15) 0 (List.length (List.map I.p (joinR [downI (I.lo (gI l i)) !I.lopen (gI l i)]))) false] [List.replicate 29 row0 ++ [⟨g + 4 + 1 + 15, .row 11 63 (List.map I.p (joinR [downI (I.lo (gI l i)) !I.lopen (gI l i)])) false⟩, row0, row0, row0, row0, row0, row0, row0, row0, row0, row0, row0, row0, row0, row0, row0, row0, row0, row0, row0, row0, row0, jr 51] ++ List.replicate 7 row0] = some ([LF.p c, .sl 11 false false (List.map I.p (joinR [downI (I.lo (gI l i)) !I.lopen (gI l i)]))], [List.replicate 29 row0 ++ [⟨g + 4 + 1 + 15, .row 11 63 (List.map I.p (joinR [downI (I.lo (gI l i)) !I.lopen (gI l i)])) true⟩, row0, row0, row0, row0, row0, row0, row0, row0, row0, row0, row0, row0, row0, row0, row0, row0, row0, row0, row0, row0, row0, jr 51] ++ List.replicate 7 row0])) ∧
 (Den E1 61 [LF.p c, .sl 11 false false (List.map I.p (joinR [downI (I.lo (gI l i)) !I.lopen (gI l i)]))] (resL (meetR (LF.l c) (joinR [downI (I.lo (gI l i)) !I.lopen (gI l i)])))) ∧
 (∀ (j' : Nat → AV) (jr' : Nat → Row) (g' : Nat), LoopAt E1 Tryz.f33 r 0 { t := [.pv (.sl k nl full (List.map I.p l)), j' 1, j' 2, j' 3, .pv (resL (meetR (LF.l c) (joinR [downI (I.lo (gI l i)) !I.lopen (gI l i)]))), intA (IntKind.i64.wrap (i + (1 : Int)))] ++ jj j' 6 53, h := [List.replicate 29 row0 ++ [jr' 29, row0, row0, row0, row0, row0, row0, row0, row0, row0, row0, row0, row0, row0, row0, row0, row0, row0, row0, row0, row0, row0, jr' 51] ++ List.replicate 7 row0], g := g' })))) ∧
 ((decide (i < (↑(List.length (List.map I.p l)) : Int))) = false →
 (Den E1 57 [LF.p c] (.tup [LF.p (Prod.fst (limR c)), intP (Prod.snd (limR c))])) ∧
 ((.tup [LF.p (Prod.fst (limR c)), intP (Prod.snd (limR c))]) : PV) = r)) := by kernel_rfl
end Go.Proofs.YtlhfgonjcpapnaaGreatDoor.Abs

set_option maxRecDepth 20000
namespace Go.Proofs.YtlhfgonjcpapnaaGreatDoor.Abs
open Go Go.Proofs
section
variable (l : List I) (k : Nat) (nl full : Bool)
theorem snot_S1 (hll : l.length < 1000000) (hsl : slOk 11 k nl l.length) (ol : ∀ x ∈ l, x.ok) : ∀ (n i : Nat) (e : Ed) (gm : Nat) (xs : List I) j jr g, i + n = l.length → xs.length ≤ i →
    Den E1 54 [listP 11 false false (xs ++ gapsS e (l.drop i))] (resL (joinS (xs ++ gapsS e (l.drop i)))) →
    LoopAt E1 Tryz.f64 (resL (joinS (xs ++ gapsS e (l.drop i)))) 0 (span_not_S1 l k nl full i e gm xs.length (List.map I.p xs) j jr g) := by
  intro n
  induction n with
  | zero =>
    intro i e gm xs j jr g hi hx hj
    have hd : l.drop i = [] := List.drop_eq_nil_of_le (by omega)
    rw [hd] at hj ⊢
    refine loop_go 2000 _ (Eq.mpr (span_not_go_S1 l k nl full i e gm xs.length xs j jr g _) ⟨fun h => ?_, fun h => ⟨rfl, fun h2 => ?_, fun h2 => ?_⟩⟩)
    · simp only [decide_eq_true_eq, List.length_map] at h; omega
    · have hl : e.less = false := not_eq.1 h2
      have hg : gapsS e [] = [⟨e.v, e.behind, zV, false, true⟩] := by unfold gapsS; rw [hl]; rfl
      rw [hg] at hj ⊢
      have e3 : List.map I.p (xs ++ [⟨e.v, e.behind, zV, false, true⟩]) = List.drop 0 (List.map I.p xs) ++ List.take 1 (List.drop 0 [I.p ⟨e.v, e.behind, zV, false, true⟩]) := by simp
      have hj' := hj
      unfold listP at hj'
      rw [e3] at hj'
      exact ⟨rfl, den_top, den_between e ⟨zV, false, true⟩, rfl, ⟨rfl, Nat.le_refl _⟩, rfl, ⟨rfl, rfl, rfl, by simp, fits_104 (by omega)⟩, frzs_msl rfl (by simp) rfl, hj', rfl⟩
    · have hl : e.less = true := not_eq.2 h2
      have hg : gapsS e [] = [] := by unfold gapsS; rw [hl]; rfl
      rw [hg, List.append_nil] at hj ⊢
      exact ⟨frzs_msl rfl (by simp) rfl, hj, rfl⟩
  | succ n ih =>
    intro i e gm xs j0 jr0 g0 hi hx hj
    have hil : i < l.length := by omega
    have hw1 : IntKind.wrap IntKind.i64 ((i : Int) + 1) = ((i + 1 : Nat) : Int) := wrap_i64 _ (by omega) (by omega)
    have hd : l.drop i = l.getD i default :: l.drop (i + 1) := drop_get hil
    have ho : (l.getD i default).ok := ok_get ol hil
    rw [hd] at hj ⊢
    have hg : xs ++ gapsS e (l.getD i default :: l.drop (i + 1)) = (xs ++ [betE e ⟨(l.getD i default).lo, (l.getD i default).lopen, false⟩]) ++ gapsS ⟨(l.getD i default).hi, !(l.getD i default).hopen, (l.getD i default).less⟩ (l.drop (i + 1)) := by
      rw [gapsS]; simp
    rw [hg] at hj ⊢
    have hg0 := span_not_go_S1 l k nl full i e gm xs.length xs j0 jr0 g0 (resL (joinS ((xs ++ [betE e ⟨(l.getD i default).lo, (l.getD i default).lopen, false⟩]) ++ gapsS ⟨(l.getD i default).hi, !(l.getD i default).hopen, (l.getD i default).less⟩ (l.drop (i + 1)))))
    rw [hw1, Int.toNat_natCast, gI_nat] at hg0
    refine loop_go 2000 _ (Eq.mpr hg0 ⟨fun h => ⟨⟨by omega, sl_at hsl hil⟩, getI hil, rfl, rfl, rfl, den_low _, den_between e (l.getD i default).low, rfl, ⟨rfl, Nat.le_refl _⟩, rfl, ⟨rfl, rfl, rfl, by simp, fits_104 (by omega)⟩, rfl, den_high _, rfl, fun j jr g => ?_⟩, fun h => ?_⟩)
    · have := ih (i + 1) ⟨(l.getD i default).hi, !(l.getD i default).hopen, (l.getD i default).less⟩ (g0 + 1 + 4 + 6) (xs ++ [betE e ⟨(l.getD i default).lo, (l.getD i default).lopen, false⟩]) j jr g (by omega) (by simp; omega) hj
      rw [List.length_append, List.map_append] at this
      exact this
    · simp only [decide_eq_false_iff_not, List.length_map] at h; omega
theorem every_join : joinS [everyI] = [everyI] := by kernel_rfl
theorem den_span_not (hll : l.length < 1000000) (hsl : slOk 11 k nl l.length) (ol : ∀ x ∈ l, x.ok) (hj : Den E1 54 [listP 11 false false (gapsS bottomE l)] (resL (joinS (gapsS bottomE l)))) : Den E1 64 [listP k nl full l] (resL (notS l)) := by
  refine den1 2000 _ rfl (by kernel_rfl) rfl rfl rfl (Eq.mpr (span_not_go l k nl full _) ⟨den_bottom, rfl, fun j jr g => ?_⟩)
  by_cases h0 : l = []
  · subst h0
    have hj' : Den E1 54 [listP 11 false false [everyI]] (resL [everyI]) := by
      have : Den E1 54 [listP 11 false false [everyI]] (resL (joinS [everyI])) := hj
      rw [every_join] at this
      exact this
    have e : notS [] = [everyI] := every_join
    rw [e]
    refine loop_go 2000 _ (Eq.mpr (span_not_go_S0 [] k nl full j jr g _) ⟨fun h => ?_, fun h => ⟨rfl, rfl, den_top, den_between bottomE ⟨zV, false, true⟩, rfl, ⟨rfl, Nat.le_refl _⟩, ⟨rfl, rfl⟩, frzs_msl rfl (by simp) rfl, hj', rfl⟩⟩)
    simp at h
  · have hil := List.length_pos_iff.2 h0
    have hd := drop_get (l := l) (i := 0) hil
    rw [List.drop_zero, Nat.zero_add] at hd
    have hg : gapsS bottomE l = [betE bottomE ⟨(l.getD 0 default).lo, (l.getD 0 default).lopen, false⟩] ++ gapsS ⟨(l.getD 0 default).hi, !(l.getD 0 default).hopen, (l.getD 0 default).less⟩ (l.drop 1) := by
      conv => lhs; rw [hd]
      rw [gapsS]; rfl
    have e : notS l = joinS (gapsS bottomE l) := rfl
    rw [e]
    rw [hg] at hj ⊢
    refine loop_go 2000 _ (Eq.mpr (span_not_go_S0 l k nl full j jr g _) ⟨fun h => ⟨⟨by omega, sl_at hsl hil⟩, getI hil, rfl, rfl, rfl, den_low _, den_between bottomE (l.getD 0 default).low, rfl, ⟨rfl, Nat.le_refl _⟩, ⟨rfl, rfl⟩, rfl, den_high _, rfl, fun j jr g2 => ?_⟩, fun h => ?_⟩)
    · have := snot_S1 l k nl full hll hsl ol (l.length - 1) 1 ⟨(l.getD 0 default).hi, !(l.getD 0 default).hopen, (l.getD 0 default).less⟩ (g + 1 + 4 + 6) [betE bottomE ⟨(l.getD 0 default).lo, (l.getD 0 default).lopen, false⟩] j jr g2 (by omega) (by simp) hj
      exact this
    · simp only [decide_eq_false_iff_not, List.length_map] at h; omega
end
end Go.Proofs.YtlhfgonjcpapnaaGreatDoor.Abs

set_option maxRecDepth 20000
namespace Go.Proofs.YtlhfgonjcpapnaaGreatDoor.Abs
open Go Go.Proofs
theorem gaps_all {P : V → Prop} (hz : P zV) : ∀ {l : List I} {e : Ed}, (∀ x ∈ l, P x.lo ∧ P x.hi) → P e.v → ∀ g ∈ gapsS e l, P g.lo ∧ P g.hi
  | [], e, _, he, g, hg => by
    unfold gapsS at hg
    split at hg
    · cases hg
    · rw [List.mem_singleton.1 hg]
      exact ⟨he, hz⟩
  | x :: l, e, h, he, g, hg => by
    rw [gapsS] at hg
    rcases List.mem_cons.1 hg with rfl | hg
    · exact ⟨he, (h x (by simp)).1⟩
    · exact gaps_all hz (fun y hy => h y (List.mem_cons_of_mem _ hy)) (h x (by simp)).2 g hg
theorem gaps_len : ∀ (l : List I) (e : Ed), (gapsS e l).length ≤ l.length + 1
  | [], e => by unfold gapsS; split <;> simp
  | x :: l, e => by
    have := gaps_len l ⟨x.hi, !x.hopen, x.less⟩
    rw [gapsS]
    simp only [List.length_cons]
    omega
theorem den_span_Not (l : List I) (k : Nat) (nl full : Bool) (hsl : slOk 11 k nl l.length) (ol : ∀ x ∈ l, x.ok) (pl : mayR l = true → ∀ x ∈ l, x.np) : Den E1 30 [listP k nl full l] (.tup [(ntS0 l).1.p, intP (ntS0 l).2]) := by
  refine den1 2000 _ rfl (by kernel_rfl) rfl rfl rfl (Eq.mpr (span_Not_go l k nl full _) ⟨den_span_MayR l k nl full hsl ol, fun h => ?_, fun h => ?_⟩)
  · have e : ntS0 l = (lf0, 80) := by unfold ntS0; rw [errS_tf.1 h]; rfl
    rw [e]; rfl
  · have h := errS_tf.2 h
    have e : ntS0 l = limS (notS l) := by unfold ntS0; rw [h]; rfl
    have b1 := may_few16 h
    have r1 := may_rts h
    have g1 := gaps_len l bottomE
    have g2 := joinS_len (gapsS bottomE l)
    have g3 := delN_le (gapsS bottomE l)
    have hlen : (notS l).length ≤ 17 := by show (joinS (gapsS bottomE l)).length ≤ _; omega
    have go : ∀ x ∈ gapsS bottomE l, x.ok := fun x hx => by
      have := gaps_all (P := V.ok) zV_ok (fun y hy => ⟨(ol y hy).lo, (ol y hy).hi⟩) bottom_ok x hx
      exact ⟨this.1, this.2⟩
    have gp : ∀ x ∈ gapsS bottomE l, x.np := fun x hx => by
      have := gaps_all (P := V.np) zV_gd.np (fun y hy => ⟨(pl h y hy).lo, (pl h y hy).hi⟩) bottom_gd.np x hx
      exact ⟨this.1, this.2⟩
    have gm : ∀ x ∈ gapsS bottomE l, lo2 x := fun x hx => (gaps_all (P := fun v => mayV v = true) zV_may (fun y hy => ⟨(r1 y hy).lo, (r1 y hy).hi⟩) bottom_may x hx).1
    rw [e]
    exact ⟨den_span_not l k nl full (by omega) hsl ol (den_join40 _ 11 false false ⟨(fun h => nomatch h), fun _ => rfl⟩ (by omega) (by omega) go (fun x hx _ => gm x hx)), den_limited _ _ _ _ (tw_sl _) (by omega) (joinS_ok go) (joinS_all bet_np gp), rfl⟩
theorem frzs_pvm {h h1 : Heap} {d s g n k : Nat} {full fz : Bool} {e : TypeId} {xs : List PV} {p : PV} (hb : hget h d s = ⟨g, .row k e xs fz⟩) (hn : xs.length = n) (hm : marks [(d, s)] h = h1) : frzs frzDepth [.pv p, .msl d s g 0 n full] h = some ([p, .sl k false full xs], h1) := by
  have hp : pk h frzDepth (.msl d s g 0 n full) = some (.sl k false full xs, [(d, s)]) := pk_msl hb hn
  have hq : pk h frzDepth (.pv p) = some (p, []) := rfl
  simp only [frzs, pks, hp, hq, Option.bind_some, Option.map_some, List.append_nil, List.nil_append]
  rw [hm]
def notGo : List I → LF → LF
  | [], c => c
  | x :: l, c => notGo l (lfR (meetR c.l (sideR x)))
theorem notGo_lfR : ∀ (l X : List I), notGo l (lfR X) = lfR (l.foldl (fun c x => meetR c (sideR x)) X)
  | [], X => rfl
  | x :: l, X => by rw [notGo, List.foldl_cons]; exact notGo_lfR l _
theorem ntR_go (l : List I) : ntR0 l = limR (notGo l ⟨11, false, true, [everyI]⟩) := by
  cases l with
  | nil => rfl
  | cons x l =>
    unfold ntR0 notR
    rw [notGo, notGo_lfR, List.foldl_cons]
    rfl
theorem side_len (x : I) : (sideR x).length ≤ 2 := by
  have := joinR_len [downI x.lo (!x.lopen)]
  unfold sideR
  rw [List.length_append]
  simp only [List.length_cons, List.length_nil] at this
  split <;> simp <;> omega
theorem good_from {v : V} {o : Bool} (hv : v.ok) (hm : mayV v = true) : good (fromI v o) := ⟨from_ok hv o, hm, zV_may⟩
theorem good_down {v : V} {o : Bool} (hv : v.ok) (hm : mayV v = true) : good (downI v o) := ⟨down_ok hv o, bottom_may, hm⟩
theorem side_down {x : I} (hx : good x) : goods (joinR [downI x.lo (!x.lopen)]) := joinR_all up_good fun y hy => by rw [List.mem_singleton.1 hy]; exact good_down hx.ok.lo hx.lo
theorem side_good {x : I} (hx : good x) : goods (sideR x) := by
  intro y hy
  unfold sideR at hy
  rcases List.mem_append.1 hy with h | h
  · exact side_down hx y h
  · split at h
    · cases h
    · rw [List.mem_singleton.1 h]; exact good_from hx.ok.hi hx.hi
section
variable (l : List I) (k : Nat) (nl full : Bool)
theorem rnot_S1 (hll : l.length ≤ 16) (hsl : slOk 11 k nl l.length) (gl : goods l) : ∀ (n i : Nat) (c : LF) j jr g, i + n = l.length → c.l.length * 2 ^ n ≤ 65536 → slOk 11 c.k c.nl c.l.length → goods c.l →
    LoopAt E1 Tryz.f33 (.tup [(limR (notGo (l.drop i) c)).1.p, intP (limR (notGo (l.drop i) c)).2]) 0 (ref08_Not_S1 l k nl full i c j jr g) := by
  intro n
  induction n with
  | zero =>
    intro i c j jr g hi hb hc hg
    have hd : l.drop i = [] := List.drop_eq_nil_of_le (by omega)
    rw [hd]
    simp only [Nat.pow_zero, Nat.mul_one] at hb
    refine loop_go 2000 _ (Eq.mpr (ref08_Not_go_S1 l k nl full i c j jr g _) ⟨fun h => ?_, fun h => ⟨den_limit c (by omega), rfl⟩⟩)
    simp only [decide_eq_true_eq, List.length_map] at h; omega
  | succ n ih =>
    intro i c j0 jr0 g0 hi hb hc hg
    have hil : i < l.length := by omega
    have hw1 : IntKind.wrap IntKind.i64 ((i : Int) + 1) = ((i + 1 : Nat) : Int) := wrap_i64 _ (by omega) (by omega)
    have hd : l.drop i = l.getD i default :: l.drop (i + 1) := drop_get hil
    have hgx : good (l.getD i default) := gl _ (getD_mem hil default)
    have hbp : 1 ≤ 2 ^ n := Nat.one_le_two_pow
    have hb2 : c.l.length * 2 * 2 ^ n ≤ 65536 := by rw [Nat.pow_succ, Nat.mul_comm (2 ^ n), ← Nat.mul_assoc] at hb; exact hb
    have hb3 : c.l.length * 2 ≤ 65536 := Nat.le_trans (by have := Nat.mul_le_mul_left (c.l.length * 2) hbp; omega) hb2
    have hA := side_down hgx
    have hAl := joinR_len [downI (l.getD i default).lo (!(l.getD i default).lopen)]
    have hAs := tw_sl (joinR [downI (l.getD i default).lo (!(l.getD i default).lopen)])
    have hS := side_good hgx
    have hSl := side_len (l.getD i default)
    have hSe : sideR (l.getD i default) = joinR [downI (l.getD i default).lo (!(l.getD i default).lopen)] ++ if (l.getD i default).less then [] else [fromI (l.getD i default).hi (!(l.getD i default).hopen)] := rfl
    have dA := den_ref08_below (l.getD i default).lo (!(l.getD i default).lopen) hgx.ok.lo hgx.lo
    have meetD : ∀ (m : List I) (q : Nat) (qn qf : Bool), m = sideR (l.getD i default) → slOk 11 q qn m.length → Den E1 61 [c.p, listP q qn qf m] (resL (meetR c.l m)) := by
      intro m q qn qf hm hq
      subst hm
      have hmul : c.l.length * (sideR (l.getD i default)).length ≤ c.l.length * 2 := Nat.mul_le_mul_left _ hSl
      exact den_ref08_meet c.l (sideR (l.getD i default)) c.k q c.nl c.full qn qf (by omega) (by omega) (by omega) hc hq hg hS
    have next : ∀ m, m = sideR (l.getD i default) → ∀ j jr g, LoopAt E1 Tryz.f33 (.tup [(limR (notGo (l.drop i) c)).1.p, intP (limR (notGo (l.drop i) c)).2]) 0 (ref08_Not_S1 l k nl full (i + 1 : Nat) (lfR (meetR c.l m)) j jr g) := by
      intro m hm j jr g
      have h1 := meetR_len c.l m
      have h2 : c.l.length * m.length ≤ c.l.length * 2 := Nat.mul_le_mul_left _ (by rw [hm]; exact hSl)
      have h3 : (meetR c.l m).length * 2 ^ n ≤ 65536 := Nat.le_trans (Nat.mul_le_mul_right _ (Nat.le_trans h1 h2)) hb2
      have := ih (i + 1) (lfR (meetR c.l m)) j jr g (by omega) h3 (tw_sl _) (all_meetR up_good hg (by rw [hm]; exact hS))
      rw [hd, notGo, ← hm]
      exact this
    generalize (.tup [(limR (notGo (l.drop i) c)).1.p, intP (limR (notGo (l.drop i) c)).2] : PV) = r at next ⊢
    have hg0 := ref08_Not_go_S1 l k nl full i c j0 jr0 g0 r
    rw [hw1, Int.toNat_natCast, gI_nat] at hg0
    have hat := getI (l := l) hil
    have hi0 : (0 : Int) ≤ (i : Int) ∧ nl = false ∧ k = 11 := ⟨by omega, sl_at hsl hil⟩
    have nA := nl_nil hAs
    have d67 := den_above (l.getD i default).hi (!(l.getD i default).hopen)
    refine loop_go 2000 _ (Eq.mpr hg0 ⟨fun h => ⟨hi0, hat, hi0, hat, dA, nA, fun hA0 => ⟨hi0, hat, fun hl => ⟨hi0, hat, hi0, hat, d67, ⟨(fun h => nomatch h), fun _ => rfl⟩, ⟨rfl, rfl⟩, frzs_pvm rfl rfl rfl, ?_⟩, fun hl => ?_⟩, fun hA0 => ⟨⟨rfl, fits_104 (by simp only [List.length_map, List.length_cons, List.length_nil] at hAl ⊢; omega)⟩, hi0, hat, fun hl => ⟨hi0, hat, hi0, hat, d67, ⟨(fun h => nomatch h), fun _ => rfl⟩, rfl, ⟨rfl, rfl, rfl, by simp, fits_104 (by simp only [List.length_map, List.length_cons, List.length_nil] at hAl ⊢; omega)⟩, frzs_pvm rfl (by simp) rfl, ?_⟩, fun hl => ⟨frzs_pvm rfl (by simp) rfl, ?_⟩⟩⟩, fun h => ?_⟩)
    · have h1 : joinR [downI (l.getD i default).lo (!(l.getD i default).lopen)] = [] := by simpa using hA0
      rw [h1, not_eq.1 hl] at hSe
      have e : [fromI (l.getD i default).hi (!(l.getD i default).hopen)] = sideR (l.getD i default) := hSe.symm
      exact ⟨meetD _ 11 false false e ⟨(fun h => nomatch h), fun _ => rfl⟩, next _ e⟩
    · have h1 : joinR [downI (l.getD i default).lo (!(l.getD i default).lopen)] = [] := by simpa using hA0
      rw [h1, not_eq.2 hl] at hSe
      have e : [] = sideR (l.getD i default) := hSe.symm
      exact ⟨meetD [] 0 true true e ⟨fun _ => rfl, (fun h => nomatch h)⟩, next [] e⟩
    · rw [not_eq.1 hl] at hSe
      have e : joinR [downI (l.getD i default).lo (!(l.getD i default).lopen)] ++ [fromI (l.getD i default).hi (!(l.getD i default).hopen)] = sideR (l.getD i default) := hSe.symm
      have hd := meetD _ 11 false false e ⟨(fun h => nomatch h), fun _ => rfl⟩
      have e3 : List.map I.p (joinR [downI (l.getD i default).lo (!(l.getD i default).lopen)] ++ [fromI (l.getD i default).hi (!(l.getD i default).hopen)]) = List.drop 0 (List.map I.p (joinR [downI (l.getD i default).lo (!(l.getD i default).lopen)])) ++ [I.p (fromI (l.getD i default).hi (!(l.getD i default).hopen))] := by simp
      unfold listP at hd
      rw [e3] at hd
      exact ⟨hd, next _ e⟩
    · rw [not_eq.2 hl] at hSe
      have e : joinR [downI (l.getD i default).lo (!(l.getD i default).lopen)] = sideR (l.getD i default) := by rw [hSe]; simp
      exact ⟨meetD _ 11 false false e ⟨(fun h => nomatch h), fun _ => rfl⟩, next _ e⟩
    · simp only [decide_eq_false_iff_not, List.length_map] at h; omega
theorem den_ref08_Not (hsl : slOk 11 k nl l.length) (ol : ∀ x ∈ l, x.ok) (hm : mayR l = true) : Den E1 33 [listP k nl full l] (.tup [(ntR0 l).1.p, intP (ntR0 l).2]) := by
  have hll := may_few16 hm
  have hb : 1 * 2 ^ l.length ≤ 65536 := by
    have := Nat.pow_le_pow_right (show 0 < 2 by omega) hll
    omega
  refine den1 2000 _ rfl (by kernel_rfl) rfl rfl rfl (Eq.mpr (ref08_Not_go l k nl full _) ⟨den_Every, fun j jr g => ?_⟩)
  have := rnot_S1 l k nl full hll hsl (may_good ol hm) l.length 0 ⟨11, false, true, [everyI]⟩ j jr g (by omega) hb ⟨(fun h => nomatch h), fun _ => rfl⟩ (fun y hy => by rw [List.mem_singleton.1 hy]; exact ⟨⟨bottom_ok, zV_ok⟩, bottom_may, zV_may⟩)
  rw [List.drop_zero, ← ntR_go] at this
  exact this
end
end Go.Proofs.YtlhfgonjcpapnaaGreatDoor.Abs

set_option maxRecDepth 20000
namespace Go.Proofs.YtlhfgonjcpapnaaGreatDoor.Abs
open Go Go.Proofs
def Ed.at (e : Ed) : Bd := ⟨e.v, e.behind⟩
theorem not_cov {x : I} {c : Bd} : ¬ cov x c ↔ lowB c x.lb < 0 ∨ (x.less = false ∧ lowB x.hb c ≤ 0) := by
  have h1 := low_neg x.lb c
  have h2 := low_neg x.hb c
  unfold cov
  cases hl : x.less with
  | true =>
    constructor
    · intro h
      by_cases h3 : lowB c x.lb < 0
      · exact .inl h3
      · exact absurd ⟨by omega, .inl rfl⟩ h
    · rintro (h | ⟨h, _⟩) ⟨h3, _⟩
      · omega
      · cases h
  | false =>
    constructor
    · intro h
      by_cases h3 : lowB c x.lb < 0
      · exact .inl h3
      · by_cases h4 : lowB c x.hb < 0
        · exact absurd ⟨by omega, .inr h4⟩ h
        · exact .inr ⟨rfl, by omega⟩
    · rintro (h | ⟨_, h⟩) ⟨h3, h4⟩
      · omega
      · rcases h4 with h4 | h4
        · cases h4
        · omega
theorem cov_gap {e : Ed} {x : I} {c : Bd} : cov (betE e ⟨x.lo, x.lopen, false⟩) c ↔ lowB e.at c ≤ 0 ∧ lowB c x.lb < 0 := by
  have hb : (betE e ⟨x.lo, x.lopen, false⟩).hb = x.lb := by simp [betE, I.hb, I.lb]
  unfold cov
  rw [hb]
  constructor
  · rintro ⟨h1, h2⟩
    refine ⟨h1, ?_⟩
    rcases h2 with h2 | h2
    · exact absurd h2 (by simp [betE])
    · exact h2
  · rintro ⟨h1, h2⟩
    exact ⟨h1, .inr h2⟩
theorem cov_last {e : Ed} {c : Bd} : cov (betE e ⟨zV, false, true⟩) c ↔ lowB e.at c ≤ 0 :=
  ⟨fun h => h.1, fun h => ⟨h, .inl rfl⟩⟩
theorem gaps_cov {c : Bd} : ∀ {l : List I} {e : Ed}, Form l → (l ≠ [] → e.less = false) → (∀ x ∈ l.head?, lowB e.at x.lb ≤ 0) → (covL (gapsS e l) c ↔ e.less = false ∧ lowB e.at c ≤ 0 ∧ ¬ covL l c)
  | [], e, _, _, _ => by
    unfold gapsS
    cases he : e.less with
    | true =>
      rw [if_pos rfl]
      exact ⟨fun h => absurd h covL_nil, fun h => nomatch h.1⟩
    | false =>
      rw [if_neg (by simp), covL_cons]
      constructor
      · rintro (h | h)
        · exact ⟨rfl, cov_last.1 h, covL_nil⟩
        · exact absurd h covL_nil
      · exact fun h => .inl (cov_last.2 h.2.1)
  | x :: l, e, hf, hl, hh => by
    have he := hl (by simp)
    have hx := hh x (by simp)
    have al := (List.pairwise_cons.1 hf.ap).1
    have hne := ne_iff.1 (hf.ne x (by simp))
    have ih := gaps_cov (c := c) (l := l) (e := ⟨x.hi, !x.hopen, x.less⟩) (form_tail hf) (fun h => by
      obtain ⟨y, hy⟩ := List.exists_mem_of_ne_nil l h
      exact (al y hy).1) (fun y hy => by
      have := (al y (List.mem_of_mem_head? hy)).2
      show lowB x.hb y.lb ≤ 0
      omega)
    rw [gapsS, covL_cons, cov_gap, ih, covL_cons]
    show _ ∨ (x.less = false ∧ lowB x.hb c ≤ 0 ∧ ¬ covL l c) ↔ _
    constructor
    · rintro (⟨h1, h2⟩ | ⟨h1, h2, h3⟩)
      · refine ⟨he, h1, ?_⟩
        rintro (h | ⟨y, hy, h⟩)
        · exact not_cov.2 (.inl h2) h
        · have h5 := al y hy
          have h6 : lowB x.lb x.hb < 0 := by
            rcases hne with h | h
            · rw [h] at h5; cases h5.1
            · exact h
          have := low_tr1 (low_tr1 (low_tr1 h2 (show lowB x.lb x.hb ≤ 0 by omega)) (show lowB x.hb y.lb ≤ 0 by omega)) h.1
          rw [low_self] at this
          omega
      · have h6 : lowB x.lb x.hb < 0 := by
          rcases hne with h | h
          · rw [h] at h1; cases h1
          · exact h
        refine ⟨he, low_tr hx (low_tr (show lowB x.lb x.hb ≤ 0 by omega) h2), ?_⟩
        rintro (h | h)
        · exact not_cov.2 (.inr ⟨h1, h2⟩) h
        · exact h3 h
    · rintro ⟨_, h1, h2⟩
      have h3 : ¬ cov x c := fun h => h2 (.inl h)
      have h4 : ¬ covL l c := fun h => h2 (.inr h)
      rcases not_cov.1 h3 with h | ⟨h5, h6⟩
      · exact .inl ⟨h1, h⟩
      · exact .inr ⟨h5, h6, h4⟩
theorem bot_at {c : Bd} (hc : c.v.ok) : lowB ⟨bottomV, false⟩ c ≤ 0 := by
  have h := bot_low c.v hc c.op
  have h2 := low_neg c ⟨bottomV, false⟩
  have h3 : ¬ lowB c ⟨bottomV, false⟩ < 0 := h
  omega
theorem cov_side {x : I} {c : Bd} (hc : c.v.ok) : covL (sideR x) c ↔ ¬ cov x c := by
  have hd : cov (downI x.lo (!x.lopen)) c ↔ lowB c x.lb < 0 := by
    have hb : (downI x.lo (!x.lopen)).hb = x.lb := by simp [downI, I.hb, I.lb]
    unfold cov
    rw [hb]
    constructor
    · rintro ⟨_, h⟩
      rcases h with h | h
      · cases h
      · exact h
    · exact fun h => ⟨bot_at hc, .inr h⟩
  have hu : cov (fromI x.hi (!x.hopen)) c ↔ lowB x.hb c ≤ 0 := ⟨fun h => h.1, fun h => ⟨h, .inl rfl⟩⟩
  unfold sideR
  rw [covL_app, (join_form _).2, covL_cons, hd, not_cov]
  cases hl : x.less with
  | true =>
    rw [if_pos rfl]
    constructor
    · rintro ((h | h) | h)
      · exact .inl h
      · exact absurd h covL_nil
      · exact absurd h covL_nil
    · rintro (h | h)
      · exact .inl (.inl h)
      · cases h.1
  | false =>
    rw [if_neg (by simp), covL_cons, hu]
    constructor
    · rintro ((h | h) | h | h)
      · exact .inl h
      · exact absurd h covL_nil
      · exact .inr ⟨rfl, h⟩
      · exact absurd h covL_nil
    · rintro (h | h)
      · exact .inl (.inl h)
      · exact .inr (.inl h.2)
theorem every_form : Form [everyI] := ⟨fun x hx => by rw [List.mem_singleton.1 hx]; rfl, List.pairwise_singleton _ _⟩
theorem not_form : ∀ (l X : List I), Form X → Form (l.foldl (fun c x => meetR c (sideR x)) X) ∧ ∀ c : Bd, c.v.ok → (covL (l.foldl (fun c x => meetR c (sideR x)) X) c ↔ covL X c ∧ ¬ covL l c)
  | [], X, h => ⟨h, fun c _ => ⟨fun h => ⟨h, covL_nil⟩, fun h => h.1⟩⟩
  | x :: l, X, h => by
    obtain ⟨h1, h2⟩ := meet_form X (sideR x)
    obtain ⟨h3, h4⟩ := not_form l (meetR X (sideR x)) h1
    refine ⟨h3, fun c hc => ?_⟩
    rw [List.foldl_cons, h4 c hc, h2 c, cov_side hc, covL_cons]
    constructor
    · rintro ⟨⟨h5, h6⟩, h7⟩
      exact ⟨h5, fun h => h.elim h6 h7⟩
    · rintro ⟨h5, h6⟩
      exact ⟨⟨h5, fun h => h6 (.inl h)⟩, fun h => h6 (.inr h)⟩
theorem notR_form (l : List I) : Form (notR l) ∧ ∀ c : Bd, c.v.ok → (covL (notR l) c ↔ ¬ covL l c) := by
  obtain ⟨h1, h2⟩ := not_form l [everyI] every_form
  refine ⟨h1, fun c hc => ?_⟩
  unfold notR
  rw [h2 c hc]
  exact ⟨fun h => h.2, fun h => ⟨covL_cons.2 (.inl ⟨bot_at hc, .inl rfl⟩), h⟩⟩
def RO (x : I) : Prop := rt x ∧ x.ok
theorem up_RO (x y : I) (hx : RO x) (hy : RO y) : RO (upR x y) := ⟨rt_up hx.1 hy.1, ⟨hx.2.lo, hy.2.hi⟩⟩
theorem side_RO {x : I} (hx : RO x) : ∀ y ∈ sideR x, RO y := by
  intro y hy
  unfold sideR at hy
  rcases List.mem_append.1 hy with h | h
  · exact joinR_all up_RO (fun z hz => by rw [List.mem_singleton.1 hz]; exact ⟨⟨bottom_may, hx.1.lo, (fun h => nomatch h), (fun h => nomatch h)⟩, down_ok hx.2.lo _⟩) y h
  · split at h
    · cases h
    · rw [List.mem_singleton.1 h]
      exact ⟨⟨hx.1.hi, zV_may, fun _ => rfl, fun _ => rfl⟩, from_ok hx.2.hi _⟩
theorem every_rt : rt everyI := by
  constructor
  · exact bottom_may
  · exact zV_may
  · exact fun _ => rfl
  · exact fun _ => rfl
theorem every_RO : RO everyI := ⟨every_rt, every_ok⟩
theorem notR_RO {l : List I} (hl : ∀ x ∈ l, RO x) : ∀ y ∈ notR l, RO y := by
  have : ∀ (l X : List I), (∀ x ∈ l, RO x) → (∀ x ∈ X, RO x) → ∀ y ∈ l.foldl (fun c x => meetR c (sideR x)) X, RO y := by
    intro l
    induction l with
    | nil => intro X _ h; exact h
    | cons x l ih => intro X h1 h2; exact ih _ (fun y hy => h1 y (List.mem_cons_of_mem _ hy)) (all_meetR up_RO h2 (side_RO (h1 x (by simp))))
  exact this l [everyI] hl fun y hy => by rw [List.mem_singleton.1 hy]; exact every_RO
theorem gaps_rt : ∀ {l : List I} {e : Ed}, (∀ x ∈ l, rt x) → mayV e.v = true → ∀ g ∈ gapsS e l, rt g
  | [], e, _, he, g, hg => by
    unfold gapsS at hg
    split at hg
    · cases hg
    · rw [List.mem_singleton.1 hg]
      exact ⟨he, zV_may, fun _ => rfl, fun _ => rfl⟩
  | x :: l, e, h, he, g, hg => by
    rw [gapsS] at hg
    have hx := h x (by simp)
    rcases List.mem_cons.1 hg with rfl | hg
    · exact ⟨he, hx.lo, (fun h => nomatch h), (fun h => nomatch h)⟩
    · exact gaps_rt (fun y hy => h y (List.mem_cons_of_mem _ hy)) hx.hi g hg
theorem covL_n {l : List I} {c : Bd} : covL (l.map nI) c ↔ covL l c := by
  induction l with
  | nil => rfl
  | cons x l ih =>
    rw [List.map_cons, covL_cons, covL_cons, ih]
    exact Iff.rfl
theorem covL_same {l m : List I} (h : l.map nI = m.map nI) {c : Bd} : covL l c ↔ covL m c := by
  have h1 := covL_n (l := l) (c := c)
  rw [h] at h1
  exact h1.symm.trans covL_n
theorem not_same {l m : List I} (hm : mayR l = true) (ol : ∀ x ∈ l, x.ok) (om : ∀ x ∈ m, x.ok) (h : l.map nI = m.map nI) : (notS l).map nI = (notR m).map nI := by
  have hm' : mayR m = true := by rw [← n_mayR, ← h, n_mayR]; exact hm
  have fl := may_form hm
  have rl := may_rts hm
  have rm := may_rts hm'
  have go : ∀ x ∈ gapsS bottomE l, x.ok := fun x hx => by
    have := gaps_all (P := V.ok) zV_ok (fun y hy => ⟨(ol y hy).lo, (ol y hy).hi⟩) bottom_ok x hx
    exact ⟨this.1, this.2⟩
  have gr := gaps_rt (e := bottomE) rl bottom_may
  have e1 : (notS l).map nI = (joinR (gapsS bottomE l)).map nI := by
    have e : notS l = joinS (gapsS bottomE l) := rfl
    rw [e, rt_join gr, n_joinR]
  rw [e1]
  obtain ⟨j1, j2⟩ := join_form (gapsS bottomE l)
  obtain ⟨k1, k2⟩ := notR_form m
  refine form_unique j1 k1 (joinR_all up_RO fun x hx => ⟨gr x hx, go x hx⟩) (notR_RO fun x hx => ⟨rm x hx, om x hx⟩) fun c hc => ?_
  have eb : bottomE.at = ⟨bottomV, false⟩ := rfl
  have el : bottomE.less = false := rfl
  have hg := gaps_cov (c := c) (e := bottomE) fl (fun _ => el) (fun x hx => by rw [eb]; exact bot_at (ol x (List.mem_of_mem_head? hx)).lo)
  rw [eb, el] at hg
  rw [j2 c, k2 c hc, hg, covL_same h]
  exact ⟨fun h => h.2.2, fun h => ⟨rfl, bot_at hc, h⟩⟩
end Go.Proofs.YtlhfgonjcpapnaaGreatDoor.Abs

namespace Go.Proofs.YtlhfgonjcpapnaaGreatDoor.Abs
open Go Go.Proofs
theorem law08_SpanSets_go (l : List I) (m : List I) (k : Nat) (k' : Nat) (nl : Bool) (full : Bool) (nl' : Bool) (full' : Bool) (r : PV) : FnGo E1 Tryz.f8 [.sl k nl full (List.map I.p l), .sl k' nl' full' (List.map I.p m)] r 2000 (.fork (.lts 5 (.res (bolP true) (.hole 0))) (.lts 4 (.fork (.res (bolP true) (.hole 0)) (.res (.sl (twK l) (twN l) (twN l) (List.map I.p (List.map twI l))) (.res (.sl (twK m) (twN m) (twN m) (List.map I.p (List.map twI m))) (.res (.tup [LF.p (Prod.fst (cMtS (List.map twI l) (List.map twI m))), intP (Prod.snd (cMtS (List.map twI l) (List.map twI m)))]) (.res (.tup [LF.p (Prod.fst (cJnS (List.map twI l) (List.map twI m))), intP (Prod.snd (cJnS (List.map twI l) (List.map twI m)))]) (.res (.tup [LF.p (Prod.fst (cNtS (List.map twI l))), intP (Prod.snd (cNtS (List.map twI l)))]) (.res (bolP (cMayB l)) (.fork (.lts 5 (.fork (.lts 13 (.hole 0)) (.lts 4 (.fork (.lts 8 (.hole 0)) (.lts 3 (.fork (.lts 4 (.hole 0)) (.lts 3 (.fork (.hole 0) (.res (bolP (cMayB l)) (.br true (.fork (.lts 3 (.fork (.lts 3 (.res (bolP (cSame (List.map twI l) l)) (.lit (.fork (.lts 3 (.res (bolP (cSame (List.map twI m) m)) (.lit (.fork (.lit (.res (bolP true) (.lit (.hole 0)))) (.lit (.lit (.hole 0))))))) (.lts 7 (.hole 0)))))) (.lts 12 (.hole 0)))) (.lts 16 (.hole 0))))))))))))) (.lit (.lit (.res (bolP (cMayB m)) (.lit (.lit (.fork (.fork (.lts 13 (.hole 0)) (.lts 4 (.fork (.lts 8 (.hole 0)) (.lts 3 (.fork (.lts 4 (.hole 0)) (.lts 3 (.fork (.hole 0) (.res (bolP (cMayB l)) (.br false (.res (.tup [LF.p (Prod.fst (cNtR l)), intP (Prod.snd (cNtR l))]) (.res (bolP (cSame (LF.l (Prod.fst (cNtS (List.map twI l)))) (LF.l (Prod.fst (cNtR l))))) (.fork (.lts 4 (.fork (.lts 3 (.res (bolP (cSame (List.map twI l) l)) (.lit (.fork (.lts 3 (.res (bolP (cSame (List.map twI m) m)) (.lit (.fork (.lit (.res (bolP true) (.lit (.hole 0)))) (.lit (.lit (.hole 0))))))) (.lts 7 (.hole 0)))))) (.lts 12 (.hole 0)))) (.lts 17 (.hole 0)))))))))))))) (.res (.tup [LF.p (Prod.fst (cMtR l m)), intP (Prod.snd (cMtR l m))]) (.res (.tup [LF.p (Prod.fst (cJnR l m)), intP (Prod.snd (cJnR l m))]) (.res (bolP (cSame (LF.l (Prod.fst (cMtS (List.map twI l) (List.map twI m)))) (LF.l (Prod.fst (cMtR l m))))) (.fork (.lts 16 (.hole 0)) (.lts 4 (.fork (.lts 11 (.hole 0)) (.lts 3 (.res (bolP (cSame (LF.l (Prod.fst (cJnS (List.map twI l) (List.map twI m)))) (LF.l (Prod.fst (cJnR l m))))) (.lit (.lit (.fork (.lts 5 (.hole 0)) (.lts 4 (.fork (.hole 0) (.res (bolP (cMayB l)) (.br false (.res (.tup [LF.p (Prod.fst (cNtR l)), intP (Prod.snd (cNtR l))]) (.res (bolP (cSame (LF.l (Prod.fst (cNtS (List.map twI l)))) (LF.l (Prod.fst (cNtR l))))) (.fork (.lts 4 (.fork (.lts 3 (.res (bolP (cSame (List.map twI l) l)) (.lit (.fork (.lts 3 (.res (bolP (cSame (List.map twI m) m)) (.lit (.fork (.lit (.res (bolP true) (.lit (.hole 0)))) (.lit (.lit (.hole 0))))))) (.lts 7 (.hole 0)))))) (.lts 12 (.hole 0)))) (.lts 17 (.hole 0)))))))))))))))))))))))))))))))))))) =
  (((decide ((↑(List.length (List.map I.p l)) : Int) > (40 : Int))) = true →
 (Den E1 10 [] (bolP true)) ∧
 (bolP true) = r) ∧
 ((decide ((↑(List.length (List.map I.p l)) : Int) > (40 : Int))) = false →
 ((decide ((↑(List.length (List.map I.p m)) : Int) > (40 : Int))) = true →
 (Den E1 10 [] (bolP true)) ∧
 (bolP true) = r) ∧
 ((decide ((↑(List.length (List.map I.p m)) : Int) > (40 : Int))) = false →
 (Den E1 11 [.sl k nl full (List.map I.p l)] (.sl (twK l) (twN l) (twN l) (List.map I.p (List.map twI l)))) ∧
 (Den E1 11 [.sl k' nl' full' (List.map I.p m)] (.sl (twK m) (twN m) (twN m) (List.map I.p (List.map twI m)))) ∧
 (Den E1 28 [.sl (twK l) (twN l) (twN l) (List.map I.p (List.map twI l)), .sl (twK m) (twN m) (twN m) (List.map I.p (List.map twI m))] (.tup [LF.p (Prod.fst (cMtS (List.map twI l) (List.map twI m))), intP (Prod.snd (cMtS (List.map twI l) (List.map twI m)))])) ∧
 (Den E1 29 [.sl (twK l) (twN l) (twN l) (List.map I.p (List.map twI l)), .sl (twK m) (twN m) (twN m) (List.map I.p (List.map twI m))] (.tup [LF.p (Prod.fst (cJnS (List.map twI l) (List.map twI m))), intP (Prod.snd (cJnS (List.map twI l) (List.map twI m)))])) ∧
 (Den E1 30 [.sl (twK l) (twN l) (twN l) (List.map I.p (List.map twI l))] (.tup [LF.p (Prod.fst (cNtS (List.map twI l))), intP (Prod.snd (cNtS (List.map twI l)))])) ∧
 (Den E1 15 [.sl k nl full (List.map I.p l)] (bolP (cMayB l))) ∧
 ((!cMayB l) = true →
 ((decide ((↑(List.length (List.map I.p (LF.l (Prod.fst (cMtS (List.map twI l) (List.map twI m)))))) : Int) > (0 : Int))) = true →
 (bolP false) = r) ∧
 ((decide ((↑(List.length (List.map I.p (LF.l (Prod.fst (cMtS (List.map twI l) (List.map twI m)))))) : Int) > (0 : Int))) = false →
 ((decide ((↑(List.length (List.map I.p (LF.l (Prod.fst (cJnS (List.map twI l) (List.map twI m)))))) : Int) > (0 : Int))) = true →
 (bolP false) = r) ∧
 ((decide ((↑(List.length (List.map I.p (LF.l (Prod.fst (cJnS (List.map twI l) (List.map twI m)))))) : Int) > (0 : Int))) = false →
 ((Prod.snd (cMtS (List.map twI l) (List.map twI m)) != (80 : Int)) = true →
 (bolP false) = r) ∧
 ((Prod.snd (cMtS (List.map twI l) (List.map twI m)) != (80 : Int)) = false →
 ((Prod.snd (cJnS (List.map twI l) (List.map twI m)) != (80 : Int)) = true →
 (bolP false) = r) ∧
 ((Prod.snd (cJnS (List.map twI l) (List.map twI m)) != (80 : Int)) = false →
 (Den E1 15 [.sl k nl full (List.map I.p l)] (bolP (cMayB l))) ∧
 ((!cMayB l) = true) ∧
 (((↑(List.length (List.map I.p (LF.l (Prod.fst (cNtS (List.map twI l)))))) : Int) == (0 : Int)) = true →
 ((Prod.snd (cNtS (List.map twI l)) == (80 : Int)) = true →
 (Den E1 16 [.sl (twK l) (twN l) (twN l) (List.map I.p (List.map twI l)), .sl k nl full (List.map I.p l)] (bolP (cSame (List.map twI l) l))) ∧
 ((cSame (List.map twI l) l) = true →
 (Den E1 16 [.sl (twK m) (twN m) (twN m) (List.map I.p (List.map twI m)), .sl k' nl' full' (List.map I.p m)] (bolP (cSame (List.map twI m) m))) ∧
 ((cSame (List.map twI m) m) = true →
 (Den E1 10 [] (bolP true)) ∧
 (bolP true) = r) ∧
 ((cSame (List.map twI m) m) = false →
 (bolP false) = r)) ∧
 ((cSame (List.map twI l) l) = false →
 (bolP false) = r)) ∧
 ((Prod.snd (cNtS (List.map twI l)) == (80 : Int)) = false →
 (bolP false) = r)) ∧
 (((↑(List.length (List.map I.p (LF.l (Prod.fst (cNtS (List.map twI l)))))) : Int) == (0 : Int)) = false →
 (bolP false) = r)))))) ∧
 ((!cMayB l) = false →
 (Den E1 15 [.sl k' nl' full' (List.map I.p m)] (bolP (cMayB m))) ∧
 ((!cMayB m) = true →
 ((decide ((↑(List.length (List.map I.p (LF.l (Prod.fst (cMtS (List.map twI l) (List.map twI m)))))) : Int) > (0 : Int))) = true →
 (bolP false) = r) ∧
 ((decide ((↑(List.length (List.map I.p (LF.l (Prod.fst (cMtS (List.map twI l) (List.map twI m)))))) : Int) > (0 : Int))) = false →
 ((decide ((↑(List.length (List.map I.p (LF.l (Prod.fst (cJnS (List.map twI l) (List.map twI m)))))) : Int) > (0 : Int))) = true →
 (bolP false) = r) ∧
 ((decide ((↑(List.length (List.map I.p (LF.l (Prod.fst (cJnS (List.map twI l) (List.map twI m)))))) : Int) > (0 : Int))) = false →
 ((Prod.snd (cMtS (List.map twI l) (List.map twI m)) != (80 : Int)) = true →
 (bolP false) = r) ∧
 ((Prod.snd (cMtS (List.map twI l) (List.map twI m)) != (80 : Int)) = false →
 ((Prod.snd (cJnS (List.map twI l) (List.map twI m)) != (80 : Int)) = true →
 (bolP false) = r) ∧
 ((Prod.snd (cJnS (List.map twI l) (List.map twI m)) != (80 : Int)) = false →
 (Den E1 15 [.sl k nl full (List.map I.p l)] (bolP (cMayB l))) ∧
 ((!cMayB l) = false) ∧
 (Den E1 33 [.sl k nl full (List.map I.p l)] (.tup [LF.p (Prod.fst (cNtR l)), intP (Prod.snd (cNtR l))])) ∧
 (Den E1 16 [LF.p (Prod.fst (cNtS (List.map twI l))), LF.p (Prod.fst (cNtR l))] (bolP (cSame (LF.l (Prod.fst (cNtS (List.map twI l)))) (LF.l (Prod.fst (cNtR l)))))) ∧
 ((cSame (LF.l (Prod.fst (cNtS (List.map twI l)))) (LF.l (Prod.fst (cNtR l)))) = true →
 ((Prod.snd (cNtS (List.map twI l)) == Prod.snd (cNtR l)) = true →
 (Den E1 16 [.sl (twK l) (twN l) (twN l) (List.map I.p (List.map twI l)), .sl k nl full (List.map I.p l)] (bolP (cSame (List.map twI l) l))) ∧
 ((cSame (List.map twI l) l) = true →
 (Den E1 16 [.sl (twK m) (twN m) (twN m) (List.map I.p (List.map twI m)), .sl k' nl' full' (List.map I.p m)] (bolP (cSame (List.map twI m) m))) ∧
 ((cSame (List.map twI m) m) = true →
 (Den E1 10 [] (bolP true)) ∧
 (bolP true) = r) ∧
 ((cSame (List.map twI m) m) = false →
 (bolP false) = r)) ∧
 ((cSame (List.map twI l) l) = false →
 (bolP false) = r)) ∧
 ((Prod.snd (cNtS (List.map twI l)) == Prod.snd (cNtR l)) = false →
 (bolP false) = r)) ∧
 ((cSame (LF.l (Prod.fst (cNtS (List.map twI l)))) (LF.l (Prod.fst (cNtR l)))) = false →
 (bolP false) = r)))))) ∧
 ((!cMayB m) = false →
 (Den E1 31 [.sl k nl full (List.map I.p l), .sl k' nl' full' (List.map I.p m)] (.tup [LF.p (Prod.fst (cMtR l m)), intP (Prod.snd (cMtR l m))])) ∧
 (Den E1 32 [.sl k nl full (List.map I.p l), .sl k' nl' full' (List.map I.p m)] (.tup [LF.p (Prod.fst (cJnR l m)), intP (Prod.snd (cJnR l m))])) ∧
 (Den E1 16 [LF.p (Prod.fst (cMtS (List.map twI l) (List.map twI m))), LF.p (Prod.fst (cMtR l m))] (bolP (cSame (LF.l (Prod.fst (cMtS (List.map twI l) (List.map twI m)))) (LF.l (Prod.fst (cMtR l m)))))) ∧
 ((!cSame (LF.l (Prod.fst (cMtS (List.map twI l) (List.map twI m)))) (LF.l (Prod.fst (cMtR l m)))) = true →
 (bolP false) = r) ∧
 ((!cSame (LF.l (Prod.fst (cMtS (List.map twI l) (List.map twI m)))) (LF.l (Prod.fst (cMtR l m)))) = false →
 ((Prod.snd (cMtS (List.map twI l) (List.map twI m)) != Prod.snd (cMtR l m)) = true →
 (bolP false) = r) ∧
 ((Prod.snd (cMtS (List.map twI l) (List.map twI m)) != Prod.snd (cMtR l m)) = false →
 (Den E1 16 [LF.p (Prod.fst (cJnS (List.map twI l) (List.map twI m))), LF.p (Prod.fst (cJnR l m))] (bolP (cSame (LF.l (Prod.fst (cJnS (List.map twI l) (List.map twI m)))) (LF.l (Prod.fst (cJnR l m)))))) ∧
 ((!cSame (LF.l (Prod.fst (cJnS (List.map twI l) (List.map twI m)))) (LF.l (Prod.fst (cJnR l m)))) = true →
 (bolP false) = r) ∧
 ((!cSame (LF.l (Prod.fst (cJnS (List.map twI l) (List.map twI m)))) (LF.l (Prod.fst (cJnR l m)))) = false →
 ((Prod.snd (cJnS (List.map twI l) (List.map twI m)) != Prod.snd (cJnR l m)) = true →
 (bolP false) = r) ∧
 ((Prod.snd (cJnS (List.map twI l) (List.map twI m)) != Prod.snd (cJnR l m)) = false →
 (Den E1 15 [.sl k nl full (List.map I.p l)] (bolP (cMayB l))) ∧
 ((!cMayB l) = false) ∧
 (Den E1 33 [.sl k nl full (List.map I.p l)] (.tup [LF.p (Prod.fst (cNtR l)), intP (Prod.snd (cNtR l))])) ∧
 (Den E1 16 [LF.p (Prod.fst (cNtS (List.map twI l))), LF.p (Prod.fst (cNtR l))] (bolP (cSame (LF.l (Prod.fst (cNtS (List.map twI l)))) (LF.l (Prod.fst (cNtR l)))))) ∧
 ((cSame (LF.l (Prod.fst (cNtS (List.map twI l)))) (LF.l (Prod.fst (cNtR l)))) = true →
 ((Prod.snd (cNtS (List.map twI l)) == Prod.snd (cNtR l)) = true →
 (Den E1 16 [.sl (twK l) (twN l) (twN l) (List.map I.p (List.map twI l)), .sl k nl full (List.map I.p l)] (bolP (cSame (List.map twI l) l))) ∧
 ((cSame (List.map twI l) l) = true →
 (Den E1 16 [.sl (twK m) (twN m) (twN m) (List.map I.p (List.map twI m)), .sl k' nl' full' (List.map I.p m)] (bolP (cSame (List.map twI m) m))) ∧
 ((cSame (List.map twI m) m) = true →
 (Den E1 10 [] (bolP true)) ∧
 (bolP true) = r) ∧
 ((cSame (List.map twI m) m) = false →
 (bolP false) = r)) ∧
 ((cSame (List.map twI l) l) = false →
 (bolP false) = r)) ∧
 ((Prod.snd (cNtS (List.map twI l)) == Prod.snd (cNtR l)) = false →
 (bolP false) = r)) ∧
 ((cSame (LF.l (Prod.fst (cNtS (List.map twI l)))) (LF.l (Prod.fst (cNtR l)))) = false →
 (bolP false) = r)))))))))) := by kernel_rfl
end Go.Proofs.YtlhfgonjcpapnaaGreatDoor.Abs

set_option maxRecDepth 20000
set_option maxHeartbeats 1000000
namespace Go.Proofs.YtlhfgonjcpapnaaGreatDoor.Abs
open Go Go.Proofs
theorem tw_nV (v : V) : nV (twV v) = nV v := by
  unfold twV
  split
  · rename_i h
    have : v.pre = [] := List.length_eq_zero_iff.1 h
    simp [nV, this]
  · rfl
theorem tw_nI (x : I) : nI (twI x) = nI x := by simp only [nI, twI, tw_nV]
theorem tw_map (l : List I) : (l.map twI).map nI = l.map nI := by rw [List.map_map]; exact List.map_congr_left fun x _ => tw_nI x
theorem tw_may (l : List I) : mayR (l.map twI) = mayR l := by rw [← n_mayR, tw_map, n_mayR]
theorem tw_np {v : V} (h : mayV v = true) : (twV v).np := by
  refine ⟨fun h2 => ?_, ?_⟩
  · unfold twV at h2 ⊢
    split at h2
    · cases h2
    · rename_i h3
      rw [if_neg h3]
      exact fun h4 => h3 (by rw [h4]; rfl)
  · have := may_few h
    unfold twV
    split
    · exact Nat.zero_lt_succ _
    · exact this
theorem tw_nps {l : List I} (h : mayR (l.map twI) = true) : ∀ x ∈ l.map twI, x.np := by
  intro x hx
  obtain ⟨y, hy, rfl⟩ := List.mem_map.1 hx
  rw [tw_may] at h
  have := may_rts h y hy
  exact ⟨tw_np this.lo, tw_np this.hi⟩
theorem limR_is {c : LF} (h1 : slOk 11 c.k c.nl c.l.length) (h2 : ∀ x ∈ c.l, x.ok) : (limR c).1.is 16 := by
  unfold limR
  split
  · exact is_lf0.mono (by omega)
  · rename_i hn
    have hn' : c.l.length ≤ 16 := by omega
    exact ⟨h1, h2, hn'⟩
theorem limR_l (c : LF) : (limR c).1.l = (limR (lfR c.l)).1.l ∧ (limR c).2 = (limR (lfR c.l)).2 := by
  unfold limR lfR
  simp only []
  split <;> exact ⟨rfl, rfl⟩
theorem ite_is {b : Bool} {x : LF × Int} (h : x.1.is 16) : (if b then x else (lf0, 80)).1.is 16 := by
  cases b
  · exact is_lf0.mono (by omega)
  · exact h
section
variable {l m : List I} (ol : ∀ x ∈ l, x.ok) (om : ∀ x ∈ m, x.ok)
include ol
theorem ntS_is : (ntS0 l).1.is 16 := by
  refine ite_is (limS_is (joinS_ok fun x hx => ?_))
  have := gaps_all (P := V.ok) (e := bottomE) zV_ok (fun y hy => ⟨(ol y hy).lo, (ol y hy).hi⟩) bottom_ok x hx
  exact ⟨this.1, this.2⟩
theorem ntR_is (hm : mayR l = true) : (ntR0 l).1.is 16 := by
  unfold ntR0
  have ho : ∀ x ∈ notR l, x.ok := fun x hx => (notR_RO (fun y hy => ⟨may_rts hm y hy, ol y hy⟩) x hx).2
  split
  · exact limR_is (c := ⟨11, false, true, [everyI]⟩) ⟨(fun h => nomatch h), fun _ => rfl⟩ fun x hx => by rw [List.mem_singleton.1 hx]; exact every_ok
  · exact limR_is (tw_sl _) ho
include om
theorem mtS_is : (mtS0 l m).1.is 16 := ite_is (limS_is (meetS_ok ol om))
theorem jnS_is : (jnS0 l m).1.is 16 := ite_is (limS_is (joinS_ok fun x hx => (List.mem_append.1 hx).elim (ol x) (om x)))
theorem mtR_is (hl : mayR l = true) (hm : mayR m = true) : (mtR0 l m).1.is 16 :=
  limR_is (tw_sl _) fun x hx => (all_meetR up_good (may_good ol hl) (may_good om hm) x hx).ok
theorem jnR_is (hl : mayR l = true) (hm : mayR m = true) : (jnR0 l m).1.is 16 :=
  limR_is (tw_sl _) fun x hx => (joinR_all up_good (fun y hy => (List.mem_append.1 hy).elim (may_good ol hl y) (may_good om hm y)) x hx).ok
end
theorem mt_same {l m l' m' : List I} (hl : mayR l = true) (hm : mayR m = true) (h : l.map nI = l'.map nI) (h' : m.map nI = m'.map nI) : (mtS0 l m).1.l.map nI = (mtR0 l' m').1.l.map nI ∧ (mtS0 l m).2 = (mtR0 l' m').2 := by
  have e : mtS0 l m = limS (meetS l m) := by unfold mtS0; rw [hl, hm]; rfl
  rw [e]
  refine lim_same ?_
  rw [rt_meets (may_rts hl) (may_rts hm), h, h', n_meetR]
theorem jn_same {l m l' m' : List I} (hl : mayR l = true) (hm : mayR m = true) (h : l.map nI = l'.map nI) (h' : m.map nI = m'.map nI) : (jnS0 l m).1.l.map nI = (jnR0 l' m').1.l.map nI ∧ (jnS0 l m).2 = (jnR0 l' m').2 := by
  have e : jnS0 l m = limS (joinS (l ++ m)) := by unfold jnS0; rw [hl, hm]; rfl
  rw [e]
  refine lim_same ?_
  rw [rt_join fun x hx => (List.mem_append.1 hx).elim (may_rts hl x) (may_rts hm x), List.map_append, h, h', ← List.map_append, n_joinR]
theorem nt_same {l l' : List I} (hl : mayR l = true) (ol : ∀ x ∈ l, x.ok) (ol' : ∀ x ∈ l', x.ok) (h : l.map nI = l'.map nI) : (ntS0 l).1.l.map nI = (ntR0 l').1.l.map nI ∧ (ntS0 l).2 = (ntR0 l').2 := by
  have e : ntS0 l = limS (notS l) := by unfold ntS0; rw [hl]; rfl
  have e2 : (ntR0 l').1.l = (limR (lfR (notR l'))).1.l ∧ (ntR0 l').2 = (limR (lfR (notR l'))).2 := by
    cases l' with
    | nil => exact limR_l ⟨11, false, true, [everyI]⟩
    | cons x l => exact ⟨rfl, rfl⟩
  rw [e, e2.1, e2.2]
  exact lim_same (not_same hl ol ol' h)
end Go.Proofs.YtlhfgonjcpapnaaGreatDoor.Abs

set_option maxRecDepth 20000
set_option maxHeartbeats 1000000
namespace Go.Proofs.YtlhfgonjcpapnaaGreatDoor.Abs
open Go Go.Proofs
theorem is_small {x : LF} (h : x.is 16) : small x.l.length := by have := h.len; unfold small; omega
theorem den_SpanSets (l m : List I) (k k' : Nat) (nl full nl' full' : Bool) (hsl : slOk 11 k nl l.length) (hsm : slOk 11 k' nl' m.length) (ol : ∀ x ∈ l, x.ok) (om : ∀ x ∈ m, x.ok) (fl : ∀ x ∈ l, fitV x.lo ∧ fitV x.hi) (fm : ∀ x ∈ m, fitV x.lo ∧ fitV x.hi) :
    Den E1 8 [listP k nl full l, listP k' nl' full' m] (bolP true) := by
  refine den1 2000 _ rfl (by kernel_rfl) rfl rfl rfl (Eq.mpr (law08_SpanSets_go l m k k' nl full nl' full' _) ⟨fun _ => ⟨den_alive, rfl⟩, fun h => ⟨fun _ => ⟨den_alive, rfl⟩, fun h' => ?_⟩⟩)
  simp only [decide_eq_false_iff_not, List.length_map] at h h'
  have bl : l.length ≤ 40 := by omega
  have bm : m.length ≤ 40 := by omega
  clear h h'
  have htl := den_twin l k nl full hsl ol fl bl
  have htm := den_twin m k' nl' full' hsm om fm bm
  rw [twP_eq] at htl htm
  have otl := tw_ok ol
  have otm := tw_ok om
  have dM := den_span_Meet (l.map twI) (m.map twI) (twK l) (twK m) (twN l) (twN l) (twN m) (twN m) (tw_slOk l) (tw_slOk m) otl otm tw_nps tw_nps
  have dJ := den_span_Join (l.map twI) (m.map twI) (twK l) (twK m) (twN l) (twN l) (twN m) (twN m) (tw_slOk l) (tw_slOk m) otl otm tw_nps tw_nps (by simpa using bl) (by simpa using bm)
  have dN := den_span_Not (l.map twI) (twK l) (twN l) (twN l) (tw_slOk l) otl tw_nps
  rw [← cMtS_eq] at dM
  rw [← cJnS_eq] at dJ
  rw [← cNtS_eq] at dN
  have dl := den_ref08_May l k nl full hsl ol
  have dm := den_ref08_May m k' nl' full' hsm om
  rw [← cMayB_eq] at dl dm
  have sl : cSame (l.map twI) l = true := by rw [cSame_eq]; exact n_same (tw_map l)
  have sm : cSame (m.map twI) m = true := by rw [cSame_eq]; exact n_same (tw_map m)
  have dsl := den_same (l.map twI) l (twK l) k (twN l) (twN l) nl full (tw_slOk l) hsl otl ol (by unfold small; simp; omega)
  have dsm := den_same (m.map twI) m (twK m) k' (twN m) (twN m) nl' full' (tw_slOk m) hsm otm om (by unfold small; simp; omega)
  rw [← cSame_eq] at dsl dsm
  have iM : (cMtS (l.map twI) (m.map twI)).1.is 16 := by rw [cMtS_eq]; exact mtS_is otl otm
  have iJ : (cJnS (l.map twI) (m.map twI)).1.is 16 := by rw [cJnS_eq]; exact jnS_is otl otm
  have iN : (cNtS (l.map twI)).1.is 16 := by rw [cNtS_eq]; exact ntS_is otl
  have no : ∀ {b : Bool} {P : Prop}, b = true → b = false → P := fun h1 h2 => by rw [h1] at h2; cases h2
  have no' : ∀ {b : Bool} {P : Prop}, b = false → b = true → P := fun h1 h2 => by rw [h1] at h2; cases h2
  refine ⟨htl, htm, dM, dJ, dN, dl, fun hA => ?_, fun hA => ⟨dm, fun hB => ?_, fun hB => ?_⟩⟩
  · -- the first may not be
    have hl : mayR l = false := by rw [← cMayB_eq]; exact not_eq.1 hA
    have eM : cMtS (l.map twI) (m.map twI) = (lf0, 80) := by rw [cMtS_eq]; unfold mtS0; rw [tw_may, hl]; rfl
    have eJ : cJnS (l.map twI) (m.map twI) = (lf0, 80) := by rw [cJnS_eq]; unfold jnS0; rw [tw_may, hl]; rfl
    have eN : cNtS (l.map twI) = (lf0, 80) := by rw [cNtS_eq]; unfold ntS0; rw [tw_may, hl]; rfl
    rw [eM, eJ, eN]
    exact ⟨fun h => no' rfl h, fun _ => ⟨fun h => no' rfl h, fun _ => ⟨fun h => no' rfl h, fun _ => ⟨fun h => no' rfl h, fun _ => ⟨dl, hA, fun _ => ⟨fun _ => ⟨dsl, fun _ => ⟨dsm, fun _ => ⟨den_alive, rfl⟩, fun h => no sm h⟩, fun h => no sl h⟩, fun h => no rfl h⟩, fun h => no rfl h⟩⟩⟩⟩⟩
  · -- the second may not be
    have hl : mayR l = true := by rw [← cMayB_eq]; exact not_eq.2 hA
    have hm : mayR m = false := by rw [← cMayB_eq]; exact not_eq.1 hB
    have eM : cMtS (l.map twI) (m.map twI) = (lf0, 80) := by rw [cMtS_eq]; unfold mtS0; rw [tw_may, tw_may, hl, hm]; rfl
    have eJ : cJnS (l.map twI) (m.map twI) = (lf0, 80) := by rw [cJnS_eq]; unfold jnS0; rw [tw_may, tw_may, hl, hm]; rfl
    have dNR := den_ref08_Not l k nl full hsl ol hl
    rw [← cNtR_eq] at dNR
    have iNR : (cNtR l).1.is 16 := by rw [cNtR_eq]; exact ntR_is ol hl
    have nt := nt_same (l' := l) (by rw [tw_may]; exact hl) otl ol (tw_map l)
    rw [← cNtS_eq, ← cNtR_eq] at nt
    have sN : cSame (cNtS (l.map twI)).1.l (cNtR l).1.l = true := by rw [cSame_eq]; exact n_same nt.1
    have dsN := den_same (cNtS (l.map twI)).1.l (cNtR l).1.l _ _ _ (cNtS (l.map twI)).1.full _ (cNtR l).1.full iN.sl iNR.sl iN.ok iNR.ok (is_small iN)
    rw [← cSame_eq] at dsN
    have qN : ((cNtS (l.map twI)).2 == (cNtR l).2) = true := by rw [nt.2]; simp
    rw [eM, eJ]
    exact ⟨fun h => no' rfl h, fun _ => ⟨fun h => no' rfl h, fun _ => ⟨fun h => no' rfl h, fun _ => ⟨fun h => no' rfl h, fun _ => ⟨dl, hA, dNR, dsN, fun _ => ⟨fun _ => ⟨dsl, fun _ => ⟨dsm, fun _ => ⟨den_alive, rfl⟩, fun h => no sm h⟩, fun h => no sl h⟩, fun h => no qN h⟩, fun h => no sN h⟩⟩⟩⟩⟩
  · -- both may be
    have hl : mayR l = true := by rw [← cMayB_eq]; exact not_eq.2 hA
    have hm : mayR m = true := by rw [← cMayB_eq]; exact not_eq.2 hB
    have hl' : mayR (l.map twI) = true := by rw [tw_may]; exact hl
    have hm' : mayR (m.map twI) = true := by rw [tw_may]; exact hm
    have dNR := den_ref08_Not l k nl full hsl ol hl
    have dMR := den_ref08_Meet l m k k' nl full nl' full' hsl hsm ol om hl hm
    have dJR := den_ref08_Join l m k k' nl full nl' full' hsl hsm ol om hl hm
    rw [← cNtR_eq] at dNR
    rw [← cMtR_eq] at dMR
    rw [← cJnR_eq] at dJR
    have iNR : (cNtR l).1.is 16 := by rw [cNtR_eq]; exact ntR_is ol hl
    have iMR : (cMtR l m).1.is 16 := by rw [cMtR_eq]; exact mtR_is ol om hl hm
    have iJR : (cJnR l m).1.is 16 := by rw [cJnR_eq]; exact jnR_is ol om hl hm
    have nt := nt_same (l' := l) hl' otl ol (tw_map l)
    have mt := mt_same hl' hm' (tw_map l) (tw_map m)
    have jn := jn_same hl' hm' (tw_map l) (tw_map m)
    rw [← cNtS_eq, ← cNtR_eq] at nt
    rw [← cMtS_eq, ← cMtR_eq] at mt
    rw [← cJnS_eq, ← cJnR_eq] at jn
    have sN : cSame (cNtS (l.map twI)).1.l (cNtR l).1.l = true := by rw [cSame_eq]; exact n_same nt.1
    have sM : cSame (cMtS (l.map twI) (m.map twI)).1.l (cMtR l m).1.l = true := by rw [cSame_eq]; exact n_same mt.1
    have sJ : cSame (cJnS (l.map twI) (m.map twI)).1.l (cJnR l m).1.l = true := by rw [cSame_eq]; exact n_same jn.1
    have dsN := den_same (cNtS (l.map twI)).1.l (cNtR l).1.l _ _ _ (cNtS (l.map twI)).1.full _ (cNtR l).1.full iN.sl iNR.sl iN.ok iNR.ok (is_small iN)
    have dsM := den_same (cMtS (l.map twI) (m.map twI)).1.l (cMtR l m).1.l _ _ _ (cMtS (l.map twI) (m.map twI)).1.full _ (cMtR l m).1.full iM.sl iMR.sl iM.ok iMR.ok (is_small iM)
    have dsJ := den_same (cJnS (l.map twI) (m.map twI)).1.l (cJnR l m).1.l _ _ _ (cJnS (l.map twI) (m.map twI)).1.full _ (cJnR l m).1.full iJ.sl iJR.sl iJ.ok iJR.ok (is_small iJ)
    rw [← cSame_eq] at dsN dsM dsJ
    have qN : ((cNtS (l.map twI)).2 == (cNtR l).2) = true := by rw [nt.2]; simp
    have qM : ((cMtS (l.map twI) (m.map twI)).2 != (cMtR l m).2) = false := by rw [mt.2]; simp
    have qJ : ((cJnS (l.map twI) (m.map twI)).2 != (cJnR l m).2) = false := by rw [jn.2]; simp
    exact ⟨dMR, dJR, dsM, fun h => no sM (not_eq.1 h), fun _ => ⟨fun h => no' qM h, fun _ => ⟨dsJ, fun h => no sJ (not_eq.1 h), fun _ => ⟨fun h => no' qJ h, fun _ => ⟨dl, hA, dNR, dsN, fun _ => ⟨fun _ => ⟨dsl, fun _ => ⟨dsm, fun _ => ⟨den_alive, rfl⟩, fun h => no sm h⟩, fun h => no sl h⟩, fun h => no qN h⟩, fun h => no sN h⟩⟩⟩⟩⟩
end Go.Proofs.YtlhfgonjcpapnaaGreatDoor.Abs

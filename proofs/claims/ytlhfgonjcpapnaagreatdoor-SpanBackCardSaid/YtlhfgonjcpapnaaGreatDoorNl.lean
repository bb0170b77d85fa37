/-
  The abstract machine over the model, its soundness, walks of the program's functions and what they compute. Conditions: the values are of their types.
-/
import Derived.Test.YtlhfgonjcpapnaaGreatDoorNk

set_option linter.all false
set_option linter.unnecessarySimpa false

namespace Go.Proofs.YtlhfgonjcpapnaaGreatDoor.Abs
open Go Go.Proofs
def span_alternative_R0 (s : List UInt8) : St :=
  { t := [strA (bs s), undefA, .mptr 0 2 0 0 0, .mptr 0 3 1 0 0, .mptr 0 4 6 0 0, .mptr 0 5 13 0 0, undefA, undefA, undefA, .pv (edgP 0 0 0 (.sl 1 false true [strP [48]]) false false), .pv (edgP 0 0 0 (.sl 0 true true []) false true), .pv (itvP 0 0 0 (.sl 1 false true [strP [48]]) false 0 0 0 (.sl 0 true true []) false true), .msl 0 12 5 0 1 true, strA (bs s), bolA (ByteArray.toList (bs s) == ByteArray.toList (bs [42])), bolA (ByteArray.toList (bs s) == ByteArray.toList (bs [42])), undefA, bolA (ByteArray.toList (bs s) == ByteArray.toList (bs [33])), bolA (ByteArray.toList (bs s) == ByteArray.toList (bs [33])), strA (bs s), .clo (.func 88) [] [.mptr 1 2 17 0 0, .mptr 1 3 18 0 0], undefA, undefA, undefA, undefA, undefA, undefA, undefA, undefA, undefA, undefA, undefA, undefA, undefA, undefA, undefA, undefA, undefA, undefA], h := [[row0, row0, ⟨0, .box (.pv (.sl 0 true true [])) false⟩, ⟨1, .box (bolA false) false⟩, ⟨6, .box (.msl 0 12 5 0 1 true) false⟩, ⟨13, .box (intA 0) false⟩, row0, row0, row0, row0, row0, row0, ⟨5, .row 11 63 [itvP 0 0 0 (.sl 1 false true [strP [48]]) false 0 0 0 (.sl 0 true true []) false true] false⟩] ++ List.replicate 26 row0, [row0, row0, ⟨17, .box (strA (bs s)) false⟩, ⟨18, .box (strA (bs [32])) false⟩, row0, row0]], g := 22 }
theorem span_alternative_go (s : List UInt8) (r : PV) : FnGo E1 Tryz.f52 [strP s] r 2000 (.res (edgP 0 0 0 (.sl 1 false true [strP [48]]) false false) (.res (edgP 0 0 0 (.sl 0 true true []) false true) (.res (itvP 0 0 0 (.sl 1 false true [strP [48]]) false 0 0 0 (.sl 0 true true []) false true) (.fork (.hole 0) (.fork (.hole 0) (.resI (fun g => spV g) (fun g => spF s [32] g) 5 (.hole 0))))))) =
  ((Den E1 76 [] (edgP 0 0 0 (.sl 1 false true [strP [48]]) false false)) ∧
 (Den E1 90 [] (edgP 0 0 0 (.sl 0 true true []) false true)) ∧
 (Den E1 89 [edgP 0 0 0 (.sl 1 false true [strP [48]]) false false, edgP 0 0 0 (.sl 0 true true []) false true] (itvP 0 0 0 (.sl 1 false true [strP [48]]) false 0 0 0 (.sl 0 true true []) false true)) ∧
 ((6 : Nat) = 6) ∧
 ((ByteArray.toList (bs s) == ByteArray.toList (bs [42])) = true →
 ((6 : Nat) = 6) ∧
 ((0 : Nat) = 0) ∧
 ((1 : Nat) = 1) ∧
 ∃ hp, frz frzDepth (.tup [.msl 0 12 5 0 1 true, bolA true]) [[row0, row0, ⟨0, .box (.msl 0 12 5 0 1 true) false⟩, ⟨1, .box (bolA true) false⟩, ⟨6, .box (.msl 0 12 5 0 1 true) false⟩, row0, row0, row0, row0, row0, row0, row0, ⟨5, .row 11 63 [itvP 0 0 0 (.sl 1 false true [strP [48]]) false 0 0 0 (.sl 0 true true []) false true] false⟩] ++ List.replicate 26 row0] = some (r, hp)) ∧
 ((ByteArray.toList (bs s) == ByteArray.toList (bs [42])) = false →
 ((ByteArray.toList (bs s) == ByteArray.toList (bs [33])) = true →
 ((0 : Nat) = 0) ∧
 ((1 : Nat) = 1) ∧
 ((.tup [.sl 0 true true [], bolP true]) : PV) = r) ∧
 ((ByteArray.toList (bs s) == ByteArray.toList (bs [33])) = false →
 ((13 : Nat) = 13) ∧
 (DenI E1 51 [strP s, strP [32]] (fun g => spV g) (fun g => spF s [32] g) 5) ∧
 RangeAtF E1 Tryz.f52 r 0 { t := [strA (bs s), undefA, .mptr 0 2 0 0 0, .mptr 0 3 1 0 0, .mptr 0 4 6 0 0, .mptr 0 5 13 0 0, undefA, undefA, undefA, .pv (edgP 0 0 0 (.sl 1 false true [strP [48]]) false false), .pv (edgP 0 0 0 (.sl 0 true true []) false true), .pv (itvP 0 0 0 (.sl 1 false true [strP [48]]) false 0 0 0 (.sl 0 true true []) false true), .msl 0 12 5 0 1 true, strA (bs s), bolA (ByteArray.toList (bs s) == ByteArray.toList (bs [42])), bolA (ByteArray.toList (bs s) == ByteArray.toList (bs [42])), undefA, bolA (ByteArray.toList (bs s) == ByteArray.toList (bs [33])), bolA (ByteArray.toList (bs s) == ByteArray.toList (bs [33])), strA (bs s), .clo (.func 88) [] [.mptr 1 2 17 0 0, .mptr 1 3 18 0 0], undefA, undefA, undefA, undefA, undefA, undefA, undefA, undefA, undefA, undefA, undefA, undefA, undefA, undefA, undefA, undefA, undefA, undefA], h := [[row0, row0, ⟨0, .box (.pv (.sl 0 true true [])) false⟩, ⟨1, .box (bolA false) false⟩, ⟨6, .box (.msl 0 12 5 0 1 true) false⟩, ⟨13, .box (intA 0) false⟩, row0, row0, row0, row0, row0, row0, ⟨5, .row 11 63 [itvP 0 0 0 (.sl 1 false true [strP [48]]) false 0 0 0 (.sl 0 true true []) false true] false⟩] ++ List.replicate 26 row0, [row0, row0, ⟨17, .box (strA (bs s)) false⟩, ⟨18, .box (strA (bs [32])) false⟩, row0, row0]], g := 22 }))) := by kernel_rfl
theorem span_alternative_as0 (s : List UInt8) (p : List UInt8) (n : Int) (l : AV) (z : Row) (F1 : List Row) (FR : List Row) (gy : Nat) (g : Nat) (R : AExit → St → Prop) : AssignGo E1 Tryz.f52 0 R 2000 (.hole 0) { t := [strA (bs s), undefA, .mptr 0 2 0 0 0, .mptr 0 3 1 0 0, .mptr 0 4 6 0 0, .mptr 0 5 13 0 0, undefA, undefA, undefA, .pv (edgP 0 0 0 (.sl 1 false true [strP [48]]) false false), .pv (edgP 0 0 0 (.sl 0 true true []) false true), .pv (itvP 0 0 0 (.sl 1 false true [strP [48]]) false 0 0 0 (.sl 0 true true []) false true), .msl 0 12 5 0 1 true, strA (bs s), bolA (ByteArray.toList (bs s) == ByteArray.toList (bs [42])), bolA (ByteArray.toList (bs s) == ByteArray.toList (bs [42])), undefA, bolA (ByteArray.toList (bs s) == ByteArray.toList (bs [33])), bolA (ByteArray.toList (bs s) == ByteArray.toList (bs [33])), strA (bs s), .clo (.func 88) [] [.mptr 1 2 17 0 0, .mptr 1 3 18 0 0], strA (bs p), undefA, undefA, undefA, undefA, undefA, undefA, undefA, undefA, undefA, undefA, undefA, undefA, undefA, undefA, undefA, undefA, undefA], h := [[row0, row0, ⟨0, .box (.pv (.sl 0 true true [])) false⟩, ⟨1, .box (bolA false) false⟩, ⟨6, .box l false⟩, ⟨13, .box (intA n) false⟩, row0, row0, row0, row0, row0, row0, z, row0, row0, row0, row0, row0, row0, row0, row0, ⟨gy, .lp .ready⟩] ++ List.replicate 17 row0, F1, FR], g := g } =
  (R .normal { t := [strA (bs s), undefA, .mptr 0 2 0 0 0, .mptr 0 3 1 0 0, .mptr 0 4 6 0 0, .mptr 0 5 13 0 0, strA (bs p), undefA, undefA, .pv (edgP 0 0 0 (.sl 1 false true [strP [48]]) false false), .pv (edgP 0 0 0 (.sl 0 true true []) false true), .pv (itvP 0 0 0 (.sl 1 false true [strP [48]]) false 0 0 0 (.sl 0 true true []) false true), .msl 0 12 5 0 1 true, strA (bs s), bolA (ByteArray.toList (bs s) == ByteArray.toList (bs [42])), bolA (ByteArray.toList (bs s) == ByteArray.toList (bs [42])), undefA, bolA (ByteArray.toList (bs s) == ByteArray.toList (bs [33])), bolA (ByteArray.toList (bs s) == ByteArray.toList (bs [33])), strA (bs s), .clo (.func 88) [] [.mptr 1 2 17 0 0, .mptr 1 3 18 0 0], strA (bs p), undefA, undefA, undefA, undefA, undefA, undefA, undefA, undefA, undefA, undefA, undefA, undefA, undefA, undefA, undefA, undefA, undefA], h := [[row0, row0, ⟨0, .box (.pv (.sl 0 true true [])) false⟩, ⟨1, .box (bolA false) false⟩, ⟨6, .box l false⟩, ⟨13, .box (intA n) false⟩, row0, row0, row0, row0, row0, row0, z, row0, row0, row0, row0, row0, row0, row0, row0, ⟨gy, .lp .ready⟩] ++ List.replicate 17 row0, F1, FR], g := g + 1 }) := by kernel_rfl
theorem span_alternative_a_bd0 (s : List UInt8) (p : List UInt8) (F1 : List Row) (FR : List Row) (gy : Nat) (g : Nat) (R : AExit → St → Prop) : BodyGo E1 Tryz.f52 0 R 2000 (.res (.tup [LF.p (Prod.fst (cmprS p)), bolP (Prod.snd (cmprS p))]) (.fork (.lts 4 (.hole 0)) (.lts 4 (.ev (.res (resL (meetS [⟨bottomV, false, zV, false, true⟩] (LF.l (Prod.fst (cmprS p))))) (.hole 0)))))) { t := [strA (bs s), undefA, .mptr 0 2 0 0 0, .mptr 0 3 1 0 0, .mptr 0 4 6 0 0, .mptr 0 5 13 0 0, strA (bs p), undefA, undefA, .pv (edgP 0 0 0 (.sl 1 false true [strP [48]]) false false), .pv (edgP 0 0 0 (.sl 0 true true []) false true), .pv (itvP 0 0 0 (.sl 1 false true [strP [48]]) false 0 0 0 (.sl 0 true true []) false true), .msl 0 12 5 0 1 true, strA (bs s), bolA (ByteArray.toList (bs s) == ByteArray.toList (bs [42])), bolA (ByteArray.toList (bs s) == ByteArray.toList (bs [42])), undefA, bolA (ByteArray.toList (bs s) == ByteArray.toList (bs [33])), bolA (ByteArray.toList (bs s) == ByteArray.toList (bs [33])), strA (bs s), .clo (.func 88) [] [.mptr 1 2 17 0 0, .mptr 1 3 18 0 0], strA (bs p), undefA, undefA, undefA, undefA, undefA, undefA, undefA, undefA, undefA, undefA, undefA, undefA, undefA, undefA, undefA, undefA, undefA], h := [[row0, row0, ⟨0, .box (.pv (.sl 0 true true [])) false⟩, ⟨1, .box (bolA false) false⟩, ⟨6, .box (.msl 0 12 5 0 1 true) false⟩, ⟨13, .box (intA 0) false⟩, row0, row0, row0, row0, row0, row0, ⟨5, .row 11 63 [itvP 0 0 0 (.sl 1 false true [strP [48]]) false 0 0 0 (.sl 0 true true []) false true] false⟩, row0, row0, row0, row0, row0, row0, row0, row0, ⟨gy, .lp .busy⟩] ++ List.replicate 17 row0, F1, FR], g := g } =
  ((Den E1 91 [strP p] (.tup [LF.p (Prod.fst (cmprS p)), bolP (Prod.snd (cmprS p))])) ∧
 ((13 : Nat) = 13) ∧
 ((13 : Nat) = 13) ∧
 ((!Prod.snd (cmprS p)) = true →
 ((0 : Nat) = 0) ∧
 ((1 : Nat) = 1) ∧
 R .ret { t := [strA (bs s), undefA, .mptr 0 2 0 0 0, .mptr 0 3 1 0 0, .mptr 0 4 6 0 0, .mptr 0 5 13 0 0, strA (bs p), .pv (LF.p (Prod.fst (cmprS p))), bolA (Prod.snd (cmprS p)), .pv (edgP 0 0 0 (.sl 1 false true [strP [48]]) false false), .pv (edgP 0 0 0 (.sl 0 true true []) false true), .pv (itvP 0 0 0 (.sl 1 false true [strP [48]]) false 0 0 0 (.sl 0 true true []) false true), .msl 0 12 5 0 1 true, strA (bs s), bolA (ByteArray.toList (bs s) == ByteArray.toList (bs [42])), bolA (ByteArray.toList (bs s) == ByteArray.toList (bs [42])), undefA, bolA (ByteArray.toList (bs s) == ByteArray.toList (bs [33])), bolA (ByteArray.toList (bs s) == ByteArray.toList (bs [33])), strA (bs s), .clo (.func 88) [] [.mptr 1 2 17 0 0, .mptr 1 3 18 0 0], strA (bs p), .pv (.tup [LF.p (Prod.fst (cmprS p)), bolP (Prod.snd (cmprS p))]), strA (bs p), .pv (.tup [LF.p (Prod.fst (cmprS p)), bolP (Prod.snd (cmprS p))]), .pv (LF.p (Prod.fst (cmprS p))), bolA (Prod.snd (cmprS p)), intA 0, intA 1, bolA (Prod.snd (cmprS p)), bolA (!Prod.snd (cmprS p)), bolA true, undefA, undefA, bolA true, undefA, undefA, undefA, undefA], h := [[row0, row0, ⟨0, .box (.pv (.sl 0 true true [])) false⟩, ⟨1, .box (bolA false) false⟩, ⟨6, .box (.msl 0 12 5 0 1 true) false⟩, ⟨13, .box (intA 1) false⟩, row0, row0, row0, row0, row0, row0, ⟨5, .row 11 63 [itvP 0 0 0 (.sl 1 false true [strP [48]]) false 0 0 0 (.sl 0 true true []) false true] false⟩, row0, row0, row0, row0, row0, row0, row0, row0, ⟨gy, .lp .busy⟩] ++ List.replicate 17 row0, F1, FR], g := g + 7 + 3 + 6 + 2 }) ∧
 ((!Prod.snd (cmprS p)) = false →
 ((13 : Nat) = 13) ∧
 ((6 : Nat) = 6) ∧
 (Den E1 62 [.sl 11 false true [itvP 0 0 0 (.sl 1 false true [strP [48]]) false 0 0 0 (.sl 0 true true []) false true], LF.p (Prod.fst (cmprS p))] (resL (meetS [⟨bottomV, false, zV, false, true⟩] (LF.l (Prod.fst (cmprS p)))))) ∧
 ((6 : Nat) = 6) ∧
 R .normal { t := [strA (bs s), undefA, .mptr 0 2 0 0 0, .mptr 0 3 1 0 0, .mptr 0 4 6 0 0, .mptr 0 5 13 0 0, strA (bs p), .pv (LF.p (Prod.fst (cmprS p))), bolA (Prod.snd (cmprS p)), .pv (edgP 0 0 0 (.sl 1 false true [strP [48]]) false false), .pv (edgP 0 0 0 (.sl 0 true true []) false true), .pv (itvP 0 0 0 (.sl 1 false true [strP [48]]) false 0 0 0 (.sl 0 true true []) false true), .msl 0 12 5 0 1 true, strA (bs s), bolA (ByteArray.toList (bs s) == ByteArray.toList (bs [42])), bolA (ByteArray.toList (bs s) == ByteArray.toList (bs [42])), undefA, bolA (ByteArray.toList (bs s) == ByteArray.toList (bs [33])), bolA (ByteArray.toList (bs s) == ByteArray.toList (bs [33])), strA (bs s), .clo (.func 88) [] [.mptr 1 2 17 0 0, .mptr 1 3 18 0 0], strA (bs p), .pv (.tup [LF.p (Prod.fst (cmprS p)), bolP (Prod.snd (cmprS p))]), strA (bs p), .pv (.tup [LF.p (Prod.fst (cmprS p)), bolP (Prod.snd (cmprS p))]), .pv (LF.p (Prod.fst (cmprS p))), bolA (Prod.snd (cmprS p)), intA 0, intA 1, bolA (Prod.snd (cmprS p)), bolA (!Prod.snd (cmprS p)), bolA false, intA 1, bolA false, bolA false, .msl 0 12 5 0 1 true, .pv (LF.p (Prod.fst (cmprS p))), .pv (resL (meetS [⟨bottomV, false, zV, false, true⟩] (LF.l (Prod.fst (cmprS p))))), undefA], h := [[row0, row0, ⟨0, .box (.pv (.sl 0 true true [])) false⟩, ⟨1, .box (bolA false) false⟩, ⟨6, .box (.pv (resL (meetS [⟨bottomV, false, zV, false, true⟩] (LF.l (Prod.fst (cmprS p)))))) false⟩, ⟨13, .box (intA 1) false⟩, row0, row0, row0, row0, row0, row0, ⟨5, .row 11 63 [itvP 0 0 0 (.sl 1 false true [strP [48]]) false 0 0 0 (.sl 0 true true []) false true] true⟩, row0, row0, row0, row0, row0, row0, row0, row0, ⟨gy, .lp .busy⟩] ++ List.replicate 17 row0, F1, FR], g := g + 7 + 3 + 6 + 4 })) := by kernel_rfl
theorem span_alternative_b_bd0 (s : List UInt8) (p : List UInt8) (n : Int) (l : List I) (z : Row) (F1 : List Row) (FR : List Row) (gy : Nat) (g : Nat) (R : AExit → St → Prop) : BodyGo E1 Tryz.f52 0 R 2000 (.res (.tup [LF.p (Prod.fst (cmprS p)), bolP (Prod.snd (cmprS p))]) (.fork (.lts 4 (.hole 0)) (.lts 3 (.fork (.hole 0) (.res (resL (meetS l (LF.l (Prod.fst (cmprS p))))) (.hole 0)))))) { t := [strA (bs s), undefA, .mptr 0 2 0 0 0, .mptr 0 3 1 0 0, .mptr 0 4 6 0 0, .mptr 0 5 13 0 0, strA (bs p), undefA, undefA, .pv (edgP 0 0 0 (.sl 1 false true [strP [48]]) false false), .pv (edgP 0 0 0 (.sl 0 true true []) false true), .pv (itvP 0 0 0 (.sl 1 false true [strP [48]]) false 0 0 0 (.sl 0 true true []) false true), .msl 0 12 5 0 1 true, strA (bs s), bolA (ByteArray.toList (bs s) == ByteArray.toList (bs [42])), bolA (ByteArray.toList (bs s) == ByteArray.toList (bs [42])), undefA, bolA (ByteArray.toList (bs s) == ByteArray.toList (bs [33])), bolA (ByteArray.toList (bs s) == ByteArray.toList (bs [33])), strA (bs s), .clo (.func 88) [] [.mptr 1 2 17 0 0, .mptr 1 3 18 0 0], strA (bs p), undefA, undefA, undefA, undefA, undefA, undefA, undefA, undefA, undefA, undefA, undefA, undefA, undefA, undefA, undefA, undefA, undefA], h := [[row0, row0, ⟨0, .box (.pv (.sl 0 true true [])) false⟩, ⟨1, .box (bolA false) false⟩, ⟨6, .box (.pv (resL l)) false⟩, ⟨13, .box (intA n) false⟩, row0, row0, row0, row0, row0, row0, z, row0, row0, row0, row0, row0, row0, row0, row0, ⟨gy, .lp .busy⟩] ++ List.replicate 17 row0, F1, FR], g := g } =
  ((Den E1 91 [strP p] (.tup [LF.p (Prod.fst (cmprS p)), bolP (Prod.snd (cmprS p))])) ∧
 ((13 : Nat) = 13) ∧
 ((13 : Nat) = 13) ∧
 ((!Prod.snd (cmprS p)) = true →
 ((0 : Nat) = 0) ∧
 ((1 : Nat) = 1) ∧
 R .ret { t := [strA (bs s), undefA, .mptr 0 2 0 0 0, .mptr 0 3 1 0 0, .mptr 0 4 6 0 0, .mptr 0 5 13 0 0, strA (bs p), .pv (LF.p (Prod.fst (cmprS p))), bolA (Prod.snd (cmprS p)), .pv (edgP 0 0 0 (.sl 1 false true [strP [48]]) false false), .pv (edgP 0 0 0 (.sl 0 true true []) false true), .pv (itvP 0 0 0 (.sl 1 false true [strP [48]]) false 0 0 0 (.sl 0 true true []) false true), .msl 0 12 5 0 1 true, strA (bs s), bolA (ByteArray.toList (bs s) == ByteArray.toList (bs [42])), bolA (ByteArray.toList (bs s) == ByteArray.toList (bs [42])), undefA, bolA (ByteArray.toList (bs s) == ByteArray.toList (bs [33])), bolA (ByteArray.toList (bs s) == ByteArray.toList (bs [33])), strA (bs s), .clo (.func 88) [] [.mptr 1 2 17 0 0, .mptr 1 3 18 0 0], strA (bs p), .pv (.tup [LF.p (Prod.fst (cmprS p)), bolP (Prod.snd (cmprS p))]), strA (bs p), .pv (.tup [LF.p (Prod.fst (cmprS p)), bolP (Prod.snd (cmprS p))]), .pv (LF.p (Prod.fst (cmprS p))), bolA (Prod.snd (cmprS p)), intA n, intA (IntKind.i64.wrap (n + (1 : Int))), bolA (Prod.snd (cmprS p)), bolA (!Prod.snd (cmprS p)), bolA true, undefA, undefA, bolA true, undefA, undefA, undefA, undefA], h := [[row0, row0, ⟨0, .box (.pv (.sl 0 true true [])) false⟩, ⟨1, .box (bolA false) false⟩, ⟨6, .box (.pv (resL l)) false⟩, ⟨13, .box (intA (IntKind.i64.wrap (n + (1 : Int)))) false⟩, row0, row0, row0, row0, row0, row0, z, row0, row0, row0, row0, row0, row0, row0, row0, ⟨gy, .lp .busy⟩] ++ List.replicate 17 row0, F1, FR], g := g + 7 + 3 + 6 + 2 }) ∧
 ((!Prod.snd (cmprS p)) = false →
 ((13 : Nat) = 13) ∧
 ((decide (IntKind.i64.wrap (n + (1 : Int)) > (16 : Int))) = true →
 ((0 : Nat) = 0) ∧
 ((1 : Nat) = 1) ∧
 R .ret { t := [strA (bs s), undefA, .mptr 0 2 0 0 0, .mptr 0 3 1 0 0, .mptr 0 4 6 0 0, .mptr 0 5 13 0 0, strA (bs p), .pv (LF.p (Prod.fst (cmprS p))), bolA (Prod.snd (cmprS p)), .pv (edgP 0 0 0 (.sl 1 false true [strP [48]]) false false), .pv (edgP 0 0 0 (.sl 0 true true []) false true), .pv (itvP 0 0 0 (.sl 1 false true [strP [48]]) false 0 0 0 (.sl 0 true true []) false true), .msl 0 12 5 0 1 true, strA (bs s), bolA (ByteArray.toList (bs s) == ByteArray.toList (bs [42])), bolA (ByteArray.toList (bs s) == ByteArray.toList (bs [42])), undefA, bolA (ByteArray.toList (bs s) == ByteArray.toList (bs [33])), bolA (ByteArray.toList (bs s) == ByteArray.toList (bs [33])), strA (bs s), .clo (.func 88) [] [.mptr 1 2 17 0 0, .mptr 1 3 18 0 0], strA (bs p), .pv (.tup [LF.p (Prod.fst (cmprS p)), bolP (Prod.snd (cmprS p))]), strA (bs p), .pv (.tup [LF.p (Prod.fst (cmprS p)), bolP (Prod.snd (cmprS p))]), .pv (LF.p (Prod.fst (cmprS p))), bolA (Prod.snd (cmprS p)), intA n, intA (IntKind.i64.wrap (n + (1 : Int))), bolA (Prod.snd (cmprS p)), bolA (!Prod.snd (cmprS p)), bolA false, intA (IntKind.i64.wrap (n + (1 : Int))), bolA (decide (IntKind.i64.wrap (n + (1 : Int)) > (16 : Int))), bolA (decide (IntKind.i64.wrap (n + (1 : Int)) > (16 : Int))), undefA, undefA, undefA, undefA], h := [[row0, row0, ⟨0, .box (.pv (.sl 0 true true [])) false⟩, ⟨1, .box (bolA false) false⟩, ⟨6, .box (.pv (resL l)) false⟩, ⟨13, .box (intA (IntKind.i64.wrap (n + (1 : Int)))) false⟩, row0, row0, row0, row0, row0, row0, z, row0, row0, row0, row0, row0, row0, row0, row0, ⟨gy, .lp .busy⟩] ++ List.replicate 17 row0, F1, FR], g := g + 7 + 3 + 6 + 2 }) ∧
 ((decide (IntKind.i64.wrap (n + (1 : Int)) > (16 : Int))) = false →
 ((6 : Nat) = 6) ∧
 (Den E1 62 [resL l, LF.p (Prod.fst (cmprS p))] (resL (meetS l (LF.l (Prod.fst (cmprS p)))))) ∧
 ((6 : Nat) = 6) ∧
 R .normal { t := [strA (bs s), undefA, .mptr 0 2 0 0 0, .mptr 0 3 1 0 0, .mptr 0 4 6 0 0, .mptr 0 5 13 0 0, strA (bs p), .pv (LF.p (Prod.fst (cmprS p))), bolA (Prod.snd (cmprS p)), .pv (edgP 0 0 0 (.sl 1 false true [strP [48]]) false false), .pv (edgP 0 0 0 (.sl 0 true true []) false true), .pv (itvP 0 0 0 (.sl 1 false true [strP [48]]) false 0 0 0 (.sl 0 true true []) false true), .msl 0 12 5 0 1 true, strA (bs s), bolA (ByteArray.toList (bs s) == ByteArray.toList (bs [42])), bolA (ByteArray.toList (bs s) == ByteArray.toList (bs [42])), undefA, bolA (ByteArray.toList (bs s) == ByteArray.toList (bs [33])), bolA (ByteArray.toList (bs s) == ByteArray.toList (bs [33])), strA (bs s), .clo (.func 88) [] [.mptr 1 2 17 0 0, .mptr 1 3 18 0 0], strA (bs p), .pv (.tup [LF.p (Prod.fst (cmprS p)), bolP (Prod.snd (cmprS p))]), strA (bs p), .pv (.tup [LF.p (Prod.fst (cmprS p)), bolP (Prod.snd (cmprS p))]), .pv (LF.p (Prod.fst (cmprS p))), bolA (Prod.snd (cmprS p)), intA n, intA (IntKind.i64.wrap (n + (1 : Int))), bolA (Prod.snd (cmprS p)), bolA (!Prod.snd (cmprS p)), bolA false, intA (IntKind.i64.wrap (n + (1 : Int))), bolA (decide (IntKind.i64.wrap (n + (1 : Int)) > (16 : Int))), bolA (decide (IntKind.i64.wrap (n + (1 : Int)) > (16 : Int))), .pv (resL l), .pv (LF.p (Prod.fst (cmprS p))), .pv (resL (meetS l (LF.l (Prod.fst (cmprS p))))), undefA], h := [[row0, row0, ⟨0, .box (.pv (.sl 0 true true [])) false⟩, ⟨1, .box (bolA false) false⟩, ⟨6, .box (.pv (resL (meetS l (LF.l (Prod.fst (cmprS p)))))) false⟩, ⟨13, .box (intA (IntKind.i64.wrap (n + (1 : Int)))) false⟩, row0, row0, row0, row0, row0, row0, z, row0, row0, row0, row0, row0, row0, row0, row0, ⟨gy, .lp .busy⟩] ++ List.replicate 17 row0, F1, FR], g := g + 7 + 3 + 6 + 4 }))) := by kernel_rfl
theorem span_alternative_af0 (s : List UInt8) (n : Int) (l : List I) (z : Row) (F1 : List Row) (g : Nat) (r : PV) : AfterGo E1 Tryz.f52 r 0 2000 (.hole 0) .normal { t := [strA (bs s), undefA, .mptr 0 2 0 0 0, .mptr 0 3 1 0 0, .mptr 0 4 6 0 0, .mptr 0 5 13 0 0, undefA, undefA, undefA, .pv (edgP 0 0 0 (.sl 1 false true [strP [48]]) false false), .pv (edgP 0 0 0 (.sl 0 true true []) false true), .pv (itvP 0 0 0 (.sl 1 false true [strP [48]]) false 0 0 0 (.sl 0 true true []) false true), .msl 0 12 5 0 1 true, strA (bs s), bolA (ByteArray.toList (bs s) == ByteArray.toList (bs [42])), bolA (ByteArray.toList (bs s) == ByteArray.toList (bs [42])), undefA, bolA (ByteArray.toList (bs s) == ByteArray.toList (bs [33])), bolA (ByteArray.toList (bs s) == ByteArray.toList (bs [33])), strA (bs s), .clo (.func 88) [] [.mptr 1 2 17 0 0, .mptr 1 3 18 0 0], undefA, undefA, undefA, undefA, undefA, undefA, undefA, undefA, undefA, undefA, undefA, undefA, undefA, undefA, undefA, undefA, undefA, undefA], h := [[row0, row0, ⟨0, .box (.pv (.sl 0 true true [])) false⟩, ⟨1, .box (bolA false) false⟩, ⟨6, .box (.pv (resL l)) false⟩, ⟨13, .box (intA n) false⟩, row0, row0, row0, row0, row0, row0, z] ++ List.replicate 26 row0, F1], g := g } =
  (((6 : Nat) = 6) ∧
 ((0 : Nat) = 0) ∧
 ((1 : Nat) = 1) ∧
 ((.tup [resL l, bolP true]) : PV) = r) := by kernel_rfl
theorem span_alternative_af0r (s : List UInt8) (n : Int) (l : AV) (z : Row) (F1 : List Row) (g : Nat) (r : PV) : AfterGo E1 Tryz.f52 r 0 2000 (.hole 0) .ret { t := [strA (bs s), undefA, .mptr 0 2 0 0 0, .mptr 0 3 1 0 0, .mptr 0 4 6 0 0, .mptr 0 5 13 0 0, undefA, undefA, undefA, .pv (edgP 0 0 0 (.sl 1 false true [strP [48]]) false false), .pv (edgP 0 0 0 (.sl 0 true true []) false true), .pv (itvP 0 0 0 (.sl 1 false true [strP [48]]) false 0 0 0 (.sl 0 true true []) false true), .msl 0 12 5 0 1 true, strA (bs s), bolA (ByteArray.toList (bs s) == ByteArray.toList (bs [42])), bolA (ByteArray.toList (bs s) == ByteArray.toList (bs [42])), undefA, bolA (ByteArray.toList (bs s) == ByteArray.toList (bs [33])), bolA (ByteArray.toList (bs s) == ByteArray.toList (bs [33])), strA (bs s), .clo (.func 88) [] [.mptr 1 2 17 0 0, .mptr 1 3 18 0 0], undefA, undefA, undefA, undefA, undefA, undefA, undefA, undefA, undefA, undefA, undefA, undefA, undefA, undefA, undefA, undefA, undefA, undefA], h := [[row0, row0, ⟨0, .box (.pv (.sl 0 true true [])) false⟩, ⟨1, .box (bolA false) false⟩, ⟨6, .box l false⟩, ⟨13, .box (intA n) false⟩, row0, row0, row0, row0, row0, row0, z] ++ List.replicate 26 row0, F1], g := g } =
  (((.tup [.sl 0 true true [], bolP false]) : PV) = r) := by kernel_rfl
def span_Read_R0 (s : List UInt8) : St :=
  { t := [strA (bs s), undefA, .mptr 0 2 0 0 0, .mptr 0 3 1 0 0, .mptr 0 4 5 0 0, .mptr 0 5 6 0 0, undefA, undefA, undefA, strA (bs s), intA ((↑(ByteArray.size (bs s)) : Int)), bolA (decide ((↑(ByteArray.size (bs s)) : Int) > (128 : Int))), strA (bs s), .clo (.func 88) [] [.mptr 1 2 10 0 0, .mptr 1 3 11 0 0], undefA, undefA, undefA, undefA, undefA, undefA, undefA, undefA, undefA, undefA, undefA, undefA, undefA, undefA, undefA, undefA, undefA, undefA, undefA, undefA, undefA, undefA], h := [[row0, row0, ⟨0, .box (.pv (.sl 0 true true [])) false⟩, ⟨1, .box (intA 0) false⟩, ⟨5, .box (.pv (.sl 0 true true [])) false⟩, ⟨6, .box (intA 0) false⟩] ++ List.replicate 30 row0, [row0, row0, ⟨10, .box (strA (bs s)) false⟩, ⟨11, .box (strA (bs [32, 124, 124, 32])) false⟩, row0, row0]], g := 15 }
theorem span_Read_go (s : List UInt8) (r : PV) : FnGo E1 Tryz.f19 [strP s] r 2000 (.fork (.hole 0) (.resI (fun g => spV g) (fun g => spF s [32, 124, 124, 32] g) 5 (.hole 0))) =
  (((decide ((↑(ByteArray.size (bs s)) : Int) > (128 : Int))) = true →
 ((0 : Nat) = 0) ∧
 ((1 : Nat) = 1) ∧
 ((.tup [.sl 0 true true [], intP 80]) : PV) = r) ∧
 ((decide ((↑(ByteArray.size (bs s)) : Int) > (128 : Int))) = false →
 ((6 : Nat) = 6) ∧
 (DenI E1 51 [strP s, strP [32, 124, 124, 32]] (fun g => spV g) (fun g => spF s [32, 124, 124, 32] g) 5) ∧
 RangeAtF E1 Tryz.f19 r 0 { t := [strA (bs s), undefA, .mptr 0 2 0 0 0, .mptr 0 3 1 0 0, .mptr 0 4 5 0 0, .mptr 0 5 6 0 0, undefA, undefA, undefA, strA (bs s), intA ((↑(ByteArray.size (bs s)) : Int)), bolA (decide ((↑(ByteArray.size (bs s)) : Int) > (128 : Int))), strA (bs s), .clo (.func 88) [] [.mptr 1 2 10 0 0, .mptr 1 3 11 0 0], undefA, undefA, undefA, undefA, undefA, undefA, undefA, undefA, undefA, undefA, undefA, undefA, undefA, undefA, undefA, undefA, undefA, undefA, undefA, undefA, undefA, undefA], h := [[row0, row0, ⟨0, .box (.pv (.sl 0 true true [])) false⟩, ⟨1, .box (intA 0) false⟩, ⟨5, .box (.pv (.sl 0 true true [])) false⟩, ⟨6, .box (intA 0) false⟩] ++ List.replicate 30 row0, [row0, row0, ⟨10, .box (strA (bs s)) false⟩, ⟨11, .box (strA (bs [32, 124, 124, 32])) false⟩, row0, row0]], g := 15 })) := by kernel_rfl
theorem span_Read_as0 (s : List UInt8) (p : List UInt8) (n : Int) (l : AV) (z : Row) (F1 : List Row) (FR : List Row) (gy : Nat) (g : Nat) (R : AExit → St → Prop) : AssignGo E1 Tryz.f19 0 R 2000 (.hole 0) { t := [strA (bs s), undefA, .mptr 0 2 0 0 0, .mptr 0 3 1 0 0, .mptr 0 4 5 0 0, .mptr 0 5 6 0 0, undefA, undefA, undefA, strA (bs s), intA ((↑(ByteArray.size (bs s)) : Int)), bolA (decide ((↑(ByteArray.size (bs s)) : Int) > (128 : Int))), strA (bs s), .clo (.func 88) [] [.mptr 1 2 10 0 0, .mptr 1 3 11 0 0], strA (bs p), undefA, undefA, undefA, undefA, undefA, undefA, undefA, undefA, undefA, undefA, undefA, undefA, undefA, undefA, undefA, undefA, undefA, undefA, undefA, undefA, undefA], h := [[row0, row0, ⟨0, .box (.pv (.sl 0 true true [])) false⟩, ⟨1, .box (intA 0) false⟩, ⟨5, .box l false⟩, ⟨6, .box (intA n) false⟩, row0, row0, row0, row0, row0, row0, row0, row0, ⟨gy, .lp .ready⟩, row0, row0, row0, row0, row0, row0, row0, row0, row0, row0, row0, row0, row0, row0, row0, z] ++ List.replicate 5 row0, F1, FR], g := g } =
  (R .normal { t := [strA (bs s), undefA, .mptr 0 2 0 0 0, .mptr 0 3 1 0 0, .mptr 0 4 5 0 0, .mptr 0 5 6 0 0, strA (bs p), undefA, undefA, strA (bs s), intA ((↑(ByteArray.size (bs s)) : Int)), bolA (decide ((↑(ByteArray.size (bs s)) : Int) > (128 : Int))), strA (bs s), .clo (.func 88) [] [.mptr 1 2 10 0 0, .mptr 1 3 11 0 0], strA (bs p), undefA, undefA, undefA, undefA, undefA, undefA, undefA, undefA, undefA, undefA, undefA, undefA, undefA, undefA, undefA, undefA, undefA, undefA, undefA, undefA, undefA], h := [[row0, row0, ⟨0, .box (.pv (.sl 0 true true [])) false⟩, ⟨1, .box (intA 0) false⟩, ⟨5, .box l false⟩, ⟨6, .box (intA n) false⟩, row0, row0, row0, row0, row0, row0, row0, row0, ⟨gy, .lp .ready⟩, row0, row0, row0, row0, row0, row0, row0, row0, row0, row0, row0, row0, row0, row0, row0, z] ++ List.replicate 5 row0, F1, FR], g := g + 1 }) := by kernel_rfl
theorem span_Read_a_bd0 (s : List UInt8) (p : List UInt8) (n : Int) (z : Row) (F1 : List Row) (FR : List Row) (gy : Nat) (g : Nat) (R : AExit → St → Prop) : BodyGo E1 Tryz.f19 0 R 2000 (.res (.tup [LF.p (Prod.fst (altS p)), bolP (Prod.snd (altS p))]) (.fork (.lts 4 (.hole 0)) (.lts 3 (.fork (.hole 0) (.fork (.hole 0) (.lit (.hole 0))))))) { t := [strA (bs s), undefA, .mptr 0 2 0 0 0, .mptr 0 3 1 0 0, .mptr 0 4 5 0 0, .mptr 0 5 6 0 0, strA (bs p), undefA, undefA, strA (bs s), intA ((↑(ByteArray.size (bs s)) : Int)), bolA (decide ((↑(ByteArray.size (bs s)) : Int) > (128 : Int))), strA (bs s), .clo (.func 88) [] [.mptr 1 2 10 0 0, .mptr 1 3 11 0 0], strA (bs p), undefA, undefA, undefA, undefA, undefA, undefA, undefA, undefA, undefA, undefA, undefA, undefA, undefA, undefA, undefA, undefA, undefA, undefA, undefA, undefA, undefA], h := [[row0, row0, ⟨0, .box (.pv (.sl 0 true true [])) false⟩, ⟨1, .box (intA 0) false⟩, ⟨5, .box (.pv (.sl 0 true true [])) false⟩, ⟨6, .box (intA n) false⟩, row0, row0, row0, row0, row0, row0, row0, row0, ⟨gy, .lp .busy⟩, row0, row0, row0, row0, row0, row0, row0, row0, row0, row0, row0, row0, row0, row0, row0, z] ++ List.replicate 5 row0, F1, FR], g := g } =
  ((Den E1 52 [strP p] (.tup [LF.p (Prod.fst (altS p)), bolP (Prod.snd (altS p))])) ∧
 ((6 : Nat) = 6) ∧
 ((6 : Nat) = 6) ∧
 ((!Prod.snd (altS p)) = true →
 ((0 : Nat) = 0) ∧
 ((1 : Nat) = 1) ∧
 R .ret { t := [strA (bs s), undefA, .mptr 0 2 0 0 0, .mptr 0 3 1 0 0, .mptr 0 4 5 0 0, .mptr 0 5 6 0 0, strA (bs p), .pv (LF.p (Prod.fst (altS p))), bolA (Prod.snd (altS p)), strA (bs s), intA ((↑(ByteArray.size (bs s)) : Int)), bolA (decide ((↑(ByteArray.size (bs s)) : Int) > (128 : Int))), strA (bs s), .clo (.func 88) [] [.mptr 1 2 10 0 0, .mptr 1 3 11 0 0], strA (bs p), .pv (.tup [LF.p (Prod.fst (altS p)), bolP (Prod.snd (altS p))]), strA (bs p), .pv (.tup [LF.p (Prod.fst (altS p)), bolP (Prod.snd (altS p))]), .pv (LF.p (Prod.fst (altS p))), bolA (Prod.snd (altS p)), intA n, intA (IntKind.i64.wrap (n + (1 : Int))), bolA (Prod.snd (altS p)), bolA (!Prod.snd (altS p)), bolA true, undefA, undefA, bolA true, undefA, undefA, undefA, undefA, undefA, undefA, undefA, undefA], h := [[row0, row0, ⟨0, .box (.pv (.sl 0 true true [])) false⟩, ⟨1, .box (intA 80) false⟩, ⟨5, .box (.pv (.sl 0 true true [])) false⟩, ⟨6, .box (intA (IntKind.i64.wrap (n + (1 : Int)))) false⟩, row0, row0, row0, row0, row0, row0, row0, row0, ⟨gy, .lp .busy⟩, row0, row0, row0, row0, row0, row0, row0, row0, row0, row0, row0, row0, row0, row0, row0, z] ++ List.replicate 5 row0, F1, FR], g := g + 7 + 3 + 6 + 2 }) ∧
 ((!Prod.snd (altS p)) = false →
 ((6 : Nat) = 6) ∧
 ((decide (IntKind.i64.wrap (n + (1 : Int)) > (16 : Int))) = true →
 ((0 : Nat) = 0) ∧
 ((1 : Nat) = 1) ∧
 R .ret { t := [strA (bs s), undefA, .mptr 0 2 0 0 0, .mptr 0 3 1 0 0, .mptr 0 4 5 0 0, .mptr 0 5 6 0 0, strA (bs p), .pv (LF.p (Prod.fst (altS p))), bolA (Prod.snd (altS p)), strA (bs s), intA ((↑(ByteArray.size (bs s)) : Int)), bolA (decide ((↑(ByteArray.size (bs s)) : Int) > (128 : Int))), strA (bs s), .clo (.func 88) [] [.mptr 1 2 10 0 0, .mptr 1 3 11 0 0], strA (bs p), .pv (.tup [LF.p (Prod.fst (altS p)), bolP (Prod.snd (altS p))]), strA (bs p), .pv (.tup [LF.p (Prod.fst (altS p)), bolP (Prod.snd (altS p))]), .pv (LF.p (Prod.fst (altS p))), bolA (Prod.snd (altS p)), intA n, intA (IntKind.i64.wrap (n + (1 : Int))), bolA (Prod.snd (altS p)), bolA (!Prod.snd (altS p)), bolA false, intA (IntKind.i64.wrap (n + (1 : Int))), bolA (decide (IntKind.i64.wrap (n + (1 : Int)) > (16 : Int))), bolA (decide (IntKind.i64.wrap (n + (1 : Int)) > (16 : Int))), undefA, undefA, undefA, undefA, undefA, undefA, undefA, undefA], h := [[row0, row0, ⟨0, .box (.pv (.sl 0 true true [])) false⟩, ⟨1, .box (intA 80) false⟩, ⟨5, .box (.pv (.sl 0 true true [])) false⟩, ⟨6, .box (intA (IntKind.i64.wrap (n + (1 : Int)))) false⟩, row0, row0, row0, row0, row0, row0, row0, row0, ⟨gy, .lp .busy⟩, row0, row0, row0, row0, row0, row0, row0, row0, row0, row0, row0, row0, row0, row0, row0, z] ++ List.replicate 5 row0, F1, FR], g := g + 7 + 3 + 6 + 2 }) ∧
 ((decide (IntKind.i64.wrap (n + (1 : Int)) > (16 : Int))) = false →
 ((5 : Nat) = 5) ∧
 ((((LF.nl (Prod.fst (altS p))) = true → (List.map I.p (LF.l (Prod.fst (altS p)))) = [])) ∧ (((LF.nl (Prod.fst (altS p))) = false → (LF.k (Prod.fst (altS p))) = 11))) ∧
 ((List.isEmpty (List.map I.p (LF.l (Prod.fst (altS p))))) = true →
 ((5 : Nat) = 5) ∧
 R .normal { t := [strA (bs s), undefA, .mptr 0 2 0 0 0, .mptr 0 3 1 0 0, .mptr 0 4 5 0 0, .mptr 0 5 6 0 0, strA (bs p), .pv (LF.p (Prod.fst (altS p))), bolA (Prod.snd (altS p)), strA (bs s), intA ((↑(ByteArray.size (bs s)) : Int)), bolA (decide ((↑(ByteArray.size (bs s)) : Int) > (128 : Int))), strA (bs s), .clo (.func 88) [] [.mptr 1 2 10 0 0, .mptr 1 3 11 0 0], strA (bs p), .pv (.tup [LF.p (Prod.fst (altS p)), bolP (Prod.snd (altS p))]), strA (bs p), .pv (.tup [LF.p (Prod.fst (altS p)), bolP (Prod.snd (altS p))]), .pv (LF.p (Prod.fst (altS p))), bolA (Prod.snd (altS p)), intA n, intA (IntKind.i64.wrap (n + (1 : Int))), bolA (Prod.snd (altS p)), bolA (!Prod.snd (altS p)), bolA false, intA (IntKind.i64.wrap (n + (1 : Int))), bolA (decide (IntKind.i64.wrap (n + (1 : Int)) > (16 : Int))), bolA (decide (IntKind.i64.wrap (n + (1 : Int)) > (16 : Int))), .pv (.sl 0 true true []), .pv (LF.p (Prod.fst (altS p))), .pv (.sl 0 true true []), undefA, undefA, undefA, undefA, undefA], h := [[row0, row0, ⟨0, .box (.pv (.sl 0 true true [])) false⟩, ⟨1, .box (intA 0) false⟩, ⟨5, .box (.pv (.sl 0 true true [])) false⟩, ⟨6, .box (intA (IntKind.i64.wrap (n + (1 : Int)))) false⟩, row0, row0, row0, row0, row0, row0, row0, row0, ⟨gy, .lp .busy⟩, row0, row0, row0, row0, row0, row0, row0, row0, row0, row0, row0, row0, row0, row0, row0, z] ++ List.replicate 5 row0, F1, FR], g := g + 7 + 3 + 6 + 4 }) ∧
 ((List.isEmpty (List.map I.p (LF.l (Prod.fst (altS p))))) = false →
 (((0 : Nat) = 0) ∧ ((fitsRow (List.length (List.map I.p (LF.l (Prod.fst (altS p))))) (104 : Nat)) = true)) ∧
 ((5 : Nat) = 5) ∧
 R .normal { t := [strA (bs s), undefA, .mptr 0 2 0 0 0, .mptr 0 3 1 0 0, .mptr 0 4 5 0 0, .mptr 0 5 6 0 0, strA (bs p), .pv (LF.p (Prod.fst (altS p))), bolA (Prod.snd (altS p)), strA (bs s), intA ((↑(ByteArray.size (bs s)) : Int)), bolA (decide ((↑(ByteArray.size (bs s)) : Int) > (128 : Int))), strA (bs s), .clo (.func 88) [] [.mptr 1 2 10 0 0, .mptr 1 3 11 0 0], strA (bs p), .pv (.tup [LF.p (Prod.fst (altS p)), bolP (Prod.snd (altS p))]), strA (bs p), .pv (.tup [LF.p (Prod.fst (altS p)), bolP (Prod.snd (altS p))]), .pv (LF.p (Prod.fst (altS p))), bolA (Prod.snd (altS p)), intA n, intA (IntKind.i64.wrap (n + (1 : Int))), bolA (Prod.snd (altS p)), bolA (!Prod.snd (altS p)), bolA false, intA (IntKind.i64.wrap (n + (1 : Int))), bolA (decide (IntKind.i64.wrap (n + (1 : Int)) > (16 : Int))), bolA (decide (IntKind.i64.wrap (n + (1 : Int)) > (16 : Int))), .pv (.sl 0 true true []), .pv (LF.p (Prod.fst (altS p))), .msl 0 30 (g + 7 + 3 + 6 + 2) 0 (List.length (List.map I.p (LF.l (Prod.fst (altS p))))) false, undefA, undefA, undefA, undefA, undefA], h := [[row0, row0, ⟨0, .box (.pv (.sl 0 true true [])) false⟩, ⟨1, .box (intA 0) false⟩, ⟨5, .box (.msl 0 30 (g + 7 + 3 + 6 + 2) 0 (List.length (List.map I.p (LF.l (Prod.fst (altS p))))) false) false⟩, ⟨6, .box (intA (IntKind.i64.wrap (n + (1 : Int)))) false⟩, row0, row0, row0, row0, row0, row0, row0, row0, ⟨gy, .lp .busy⟩, row0, row0, row0, row0, row0, row0, row0, row0, row0, row0, row0, row0, row0, row0, row0, ⟨g + 7 + 3 + 6 + 2, .row 11 63 (List.map I.p (LF.l (Prod.fst (altS p)))) false⟩] ++ List.replicate 5 row0, F1, FR], g := g + 7 + 3 + 6 + 4 })))) := by kernel_rfl
theorem span_Read_a_af0 (s : List UInt8) (n : Int) (z : Row) (F1 : List Row) (g : Nat) (r : PV) : AfterGo E1 Tryz.f19 r 0 2000 (.res (.sl 0 true true []) (.res (.tup [.sl 0 true true [], intP 0]) (.hole 0))) .normal { t := [strA (bs s), undefA, .mptr 0 2 0 0 0, .mptr 0 3 1 0 0, .mptr 0 4 5 0 0, .mptr 0 5 6 0 0, undefA, undefA, undefA, strA (bs s), intA ((↑(ByteArray.size (bs s)) : Int)), bolA (decide ((↑(ByteArray.size (bs s)) : Int) > (128 : Int))), strA (bs s), .clo (.func 88) [] [.mptr 1 2 10 0 0, .mptr 1 3 11 0 0], undefA, undefA, undefA, undefA, undefA, undefA, undefA, undefA, undefA, undefA, undefA, undefA, undefA, undefA, undefA, undefA, undefA, undefA, undefA, undefA, undefA, undefA], h := [[row0, row0, ⟨0, .box (.pv (.sl 0 true true [])) false⟩, ⟨1, .box (intA 0) false⟩, ⟨5, .box (.pv (.sl 0 true true [])) false⟩, ⟨6, .box (intA n) false⟩, row0, row0, row0, row0, row0, row0, row0, row0, row0, row0, row0, row0, row0, row0, row0, row0, row0, row0, row0, row0, row0, row0, row0, row0, z] ++ List.replicate 5 row0, F1], g := g } =
  (((5 : Nat) = 5) ∧
 (Den E1 54 [.sl 0 true true []] (.sl 0 true true [])) ∧
 (Den E1 53 [.sl 0 true true []] (.tup [.sl 0 true true [], intP 0])) ∧
 ((0 : Nat) = 0) ∧
 ((1 : Nat) = 1) ∧
 ((.tup [.sl 0 true true [], intP 0]) : PV) = r) := by kernel_rfl
theorem span_Read_b_bd0 (s : List UInt8) (p : List UInt8) (n : Int) (l : List I) (gm : Nat) (F1 : List Row) (FR : List Row) (gy : Nat) (g : Nat) (R : AExit → St → Prop) : BodyGo E1 Tryz.f19 0 R 2000 (.res (.tup [LF.p (Prod.fst (altS p)), bolP (Prod.snd (altS p))]) (.fork (.lts 4 (.hole 0)) (.lts 3 (.fork (.hole 0) (.lit (.hole 0)))))) { t := [strA (bs s), undefA, .mptr 0 2 0 0 0, .mptr 0 3 1 0 0, .mptr 0 4 5 0 0, .mptr 0 5 6 0 0, strA (bs p), undefA, undefA, strA (bs s), intA ((↑(ByteArray.size (bs s)) : Int)), bolA (decide ((↑(ByteArray.size (bs s)) : Int) > (128 : Int))), strA (bs s), .clo (.func 88) [] [.mptr 1 2 10 0 0, .mptr 1 3 11 0 0], strA (bs p), undefA, undefA, undefA, undefA, undefA, undefA, undefA, undefA, undefA, undefA, undefA, undefA, undefA, undefA, undefA, undefA, undefA, undefA, undefA, undefA, undefA], h := [[row0, row0, ⟨0, .box (.pv (.sl 0 true true [])) false⟩, ⟨1, .box (intA 0) false⟩, ⟨5, .box (.msl 0 30 gm 0 (List.length l) false) false⟩, ⟨6, .box (intA n) false⟩, row0, row0, row0, row0, row0, row0, row0, row0, ⟨gy, .lp .busy⟩, row0, row0, row0, row0, row0, row0, row0, row0, row0, row0, row0, row0, row0, row0, row0, ⟨gm, .row 11 63 (List.map I.p l) false⟩] ++ List.replicate 5 row0, F1, FR], g := g } =
  ((Den E1 52 [strP p] (.tup [LF.p (Prod.fst (altS p)), bolP (Prod.snd (altS p))])) ∧
 ((6 : Nat) = 6) ∧
 ((6 : Nat) = 6) ∧
 ((!Prod.snd (altS p)) = true →
 ((0 : Nat) = 0) ∧
 ((1 : Nat) = 1) ∧
 R .ret { t := [strA (bs s), undefA, .mptr 0 2 0 0 0, .mptr 0 3 1 0 0, .mptr 0 4 5 0 0, .mptr 0 5 6 0 0, strA (bs p), .pv (LF.p (Prod.fst (altS p))), bolA (Prod.snd (altS p)), strA (bs s), intA ((↑(ByteArray.size (bs s)) : Int)), bolA (decide ((↑(ByteArray.size (bs s)) : Int) > (128 : Int))), strA (bs s), .clo (.func 88) [] [.mptr 1 2 10 0 0, .mptr 1 3 11 0 0], strA (bs p), .pv (.tup [LF.p (Prod.fst (altS p)), bolP (Prod.snd (altS p))]), strA (bs p), .pv (.tup [LF.p (Prod.fst (altS p)), bolP (Prod.snd (altS p))]), .pv (LF.p (Prod.fst (altS p))), bolA (Prod.snd (altS p)), intA n, intA (IntKind.i64.wrap (n + (1 : Int))), bolA (Prod.snd (altS p)), bolA (!Prod.snd (altS p)), bolA true, undefA, undefA, bolA true, undefA, undefA, undefA, undefA, undefA, undefA, undefA, undefA], h := [[row0, row0, ⟨0, .box (.pv (.sl 0 true true [])) false⟩, ⟨1, .box (intA 80) false⟩, ⟨5, .box (.msl 0 30 gm 0 (List.length l) false) false⟩, ⟨6, .box (intA (IntKind.i64.wrap (n + (1 : Int)))) false⟩, row0, row0, row0, row0, row0, row0, row0, row0, ⟨gy, .lp .busy⟩, row0, row0, row0, row0, row0, row0, row0, row0, row0, row0, row0, row0, row0, row0, row0, ⟨gm, .row 11 63 (List.map I.p l) false⟩] ++ List.replicate 5 row0, F1, FR], g := g + 7 + 3 + 6 + 2 }) ∧
 ((!Prod.snd (altS p)) = false →
 ((6 : Nat) = 6) ∧
 ((decide (IntKind.i64.wrap (n + (1 : Int)) > (16 : Int))) = true →
 ((0 : Nat) = 0) ∧
 ((1 : Nat) = 1) ∧
 R .ret { t := [strA (bs s), undefA, .mptr 0 2 0 0 0, .mptr 0 3 1 0 0, .mptr 0 4 5 0 0, .mptr 0 5 6 0 0, strA (bs p), .pv (LF.p (Prod.fst (altS p))), bolA (Prod.snd (altS p)), strA (bs s), intA ((↑(ByteArray.size (bs s)) : Int)), bolA (decide ((↑(ByteArray.size (bs s)) : Int) > (128 : Int))), strA (bs s), .clo (.func 88) [] [.mptr 1 2 10 0 0, .mptr 1 3 11 0 0], strA (bs p), .pv (.tup [LF.p (Prod.fst (altS p)), bolP (Prod.snd (altS p))]), strA (bs p), .pv (.tup [LF.p (Prod.fst (altS p)), bolP (Prod.snd (altS p))]), .pv (LF.p (Prod.fst (altS p))), bolA (Prod.snd (altS p)), intA n, intA (IntKind.i64.wrap (n + (1 : Int))), bolA (Prod.snd (altS p)), bolA (!Prod.snd (altS p)), bolA false, intA (IntKind.i64.wrap (n + (1 : Int))), bolA (decide (IntKind.i64.wrap (n + (1 : Int)) > (16 : Int))), bolA (decide (IntKind.i64.wrap (n + (1 : Int)) > (16 : Int))), undefA, undefA, undefA, undefA, undefA, undefA, undefA, undefA], h := [[row0, row0, ⟨0, .box (.pv (.sl 0 true true [])) false⟩, ⟨1, .box (intA 80) false⟩, ⟨5, .box (.msl 0 30 gm 0 (List.length l) false) false⟩, ⟨6, .box (intA (IntKind.i64.wrap (n + (1 : Int)))) false⟩, row0, row0, row0, row0, row0, row0, row0, row0, ⟨gy, .lp .busy⟩, row0, row0, row0, row0, row0, row0, row0, row0, row0, row0, row0, row0, row0, row0, row0, ⟨gm, .row 11 63 (List.map I.p l) false⟩] ++ List.replicate 5 row0, F1, FR], g := g + 7 + 3 + 6 + 2 }) ∧
 ((decide (IntKind.i64.wrap (n + (1 : Int)) > (16 : Int))) = false →
 ((5 : Nat) = 5) ∧
 ((((LF.nl (Prod.fst (altS p))) = true → (List.map I.p (LF.l (Prod.fst (altS p)))) = [])) ∧ (((LF.nl (Prod.fst (altS p))) = false → (LF.k (Prod.fst (altS p))) = 11))) ∧
 (gm = gm) ∧
 ((false = false) ∧ (((11 : Nat) = 11) ∧ (((63 : Nat) = 63) ∧ ((((0 : Nat) + List.length l) = List.length (List.map I.p l)) ∧ ((fitsRow (List.length l + List.length (List.map I.p (LF.l (Prod.fst (altS p))))) (104 : Nat)) = true))))) ∧
 ((5 : Nat) = 5) ∧
 R .normal { t := [strA (bs s), undefA, .mptr 0 2 0 0 0, .mptr 0 3 1 0 0, .mptr 0 4 5 0 0, .mptr 0 5 6 0 0, strA (bs p), .pv (LF.p (Prod.fst (altS p))), bolA (Prod.snd (altS p)), strA (bs s), intA ((↑(ByteArray.size (bs s)) : Int)), bolA (decide ((↑(ByteArray.size (bs s)) : Int) > (128 : Int))), strA (bs s), .clo (.func 88) [] [.mptr 1 2 10 0 0, .mptr 1 3 11 0 0], strA (bs p), .pv (.tup [LF.p (Prod.fst (altS p)), bolP (Prod.snd (altS p))]), strA (bs p), .pv (.tup [LF.p (Prod.fst (altS p)), bolP (Prod.snd (altS p))]), .pv (LF.p (Prod.fst (altS p))), bolA (Prod.snd (altS p)), intA n, intA (IntKind.i64.wrap (n + (1 : Int))), bolA (Prod.snd (altS p)), bolA (!Prod.snd (altS p)), bolA false, intA (IntKind.i64.wrap (n + (1 : Int))), bolA (decide (IntKind.i64.wrap (n + (1 : Int)) > (16 : Int))), bolA (decide (IntKind.i64.wrap (n + (1 : Int)) > (16 : Int))), .msl 0 30 gm 0 (List.length l) false, .pv (LF.p (Prod.fst (altS p))), .msl 0 30 (g + 7 + 3 + 6 + 2) 0 (List.length l + List.length (List.map I.p (LF.l (Prod.fst (altS p))))) false, undefA, undefA, undefA, undefA, undefA], h := [[row0, row0, ⟨0, .box (.pv (.sl 0 true true [])) false⟩, ⟨1, .box (intA 0) false⟩, ⟨5, .box (.msl 0 30 (g + 7 + 3 + 6 + 2) 0 (List.length l + List.length (List.map I.p (LF.l (Prod.fst (altS p))))) false) false⟩, ⟨6, .box (intA (IntKind.i64.wrap (n + (1 : Int)))) false⟩, row0, row0, row0, row0, row0, row0, row0, row0, ⟨gy, .lp .busy⟩, row0, row0, row0, row0, row0, row0, row0, row0, row0, row0, row0, row0, row0, row0, row0, ⟨g + 7 + 3 + 6 + 2, .row 11 63 (List.drop (0 : Nat) (List.map I.p l) ++ List.map I.p (LF.l (Prod.fst (altS p)))) false⟩] ++ List.replicate 5 row0, F1, FR], g := g + 7 + 3 + 6 + 4 }))) := by kernel_rfl
theorem span_Read_b_af0 (s : List UInt8) (n : Int) (l : List I) (gm : Nat) (F1 : List Row) (g : Nat) (r : PV) : AfterGo E1 Tryz.f19 r 0 2000 (.frz [.sl 11 false false (List.map I.p l)] [[row0, row0, ⟨0, .box (.pv (.sl 0 true true [])) false⟩, ⟨1, .box (intA 0) false⟩, ⟨5, .box (.msl 0 30 gm 0 (List.length l) false) false⟩, ⟨6, .box (intA n) false⟩, row0, row0, row0, row0, row0, row0, row0, row0, row0, row0, row0, row0, row0, row0, row0, row0, row0, row0, row0, row0, row0, row0, row0, row0, ⟨gm, .row 11 63 (List.map I.p l) true⟩] ++ List.replicate 5 row0, F1] (.res (resL (joinS l)) (.res (.tup [LF.p (Prod.fst (limS (joinS l))), intP (Prod.snd (limS (joinS l)))]) (.hole 0)))) .normal { t := [strA (bs s), undefA, .mptr 0 2 0 0 0, .mptr 0 3 1 0 0, .mptr 0 4 5 0 0, .mptr 0 5 6 0 0, undefA, undefA, undefA, strA (bs s), intA ((↑(ByteArray.size (bs s)) : Int)), bolA (decide ((↑(ByteArray.size (bs s)) : Int) > (128 : Int))), strA (bs s), .clo (.func 88) [] [.mptr 1 2 10 0 0, .mptr 1 3 11 0 0], undefA, undefA, undefA, undefA, undefA, undefA, undefA, undefA, undefA, undefA, undefA, undefA, undefA, undefA, undefA, undefA, undefA, undefA, undefA, undefA, undefA, undefA], h := [[row0, row0, ⟨0, .box (.pv (.sl 0 true true [])) false⟩, ⟨1, .box (intA 0) false⟩, ⟨5, .box (.msl 0 30 gm 0 (List.length l) false) false⟩, ⟨6, .box (intA n) false⟩, row0, row0, row0, row0, row0, row0, row0, row0, row0, row0, row0, row0, row0, row0, row0, row0, row0, row0, row0, row0, row0, row0, row0, row0, ⟨gm, .row 11 63 (List.map I.p l) false⟩] ++ List.replicate 5 row0, F1], g := g } =
  (((5 : Nat) = 5) ∧
 (frzs frzDepth [.msl 0 30 gm 0 (List.length l) false] [[row0, row0, ⟨0, .box (.pv (.sl 0 true true [])) false⟩, ⟨1, .box (intA 0) false⟩, ⟨5, .box (.msl 0 30 gm 0 (List.length l) false) false⟩, ⟨6, .box (intA n) false⟩, row0, row0, row0, row0, row0, row0, row0, row0, row0, row0, row0, row0, row0, row0, row0, row0, row0, row0, row0, row0, row0, row0, row0, row0, ⟨gm, .row 11 63 (List.map I.p l) false⟩] ++ List.replicate 5 row0, F1] = some ([.sl 11 false false (List.map I.p l)], [[row0, row0, ⟨0, .box (.pv (.sl 0 true true [])) false⟩, ⟨1, .box (intA 0) false⟩, ⟨5, .box (.msl 0 30 gm 0 (List.length l) false) false⟩, ⟨6, .box (intA n) false⟩, row0, row0, row0, row0, row0, row0, row0, row0, row0, row0, row0, row0, row0, row0, row0, row0, row0, row0, row0, row0, row0, row0, row0, row0, ⟨gm, .row 11 63 (List.map I.p l) true⟩] ++ List.replicate 5 row0, F1])) ∧
 (Den E1 54 [.sl 11 false false (List.map I.p l)] (resL (joinS l))) ∧
 (Den E1 53 [resL (joinS l)] (.tup [LF.p (Prod.fst (limS (joinS l))), intP (Prod.snd (limS (joinS l)))])) ∧
 ((0 : Nat) = 0) ∧
 ((1 : Nat) = 1) ∧
 ((.tup [LF.p (Prod.fst (limS (joinS l))), intP (Prod.snd (limS (joinS l)))]) : PV) = r) := by kernel_rfl
theorem span_Read_af0r (s : List UInt8) (n : Int) (l : AV) (z : Row) (F1 : List Row) (g : Nat) (r : PV) : AfterGo E1 Tryz.f19 r 0 2000 (.hole 0) .ret { t := [strA (bs s), undefA, .mptr 0 2 0 0 0, .mptr 0 3 1 0 0, .mptr 0 4 5 0 0, .mptr 0 5 6 0 0, undefA, undefA, undefA, strA (bs s), intA ((↑(ByteArray.size (bs s)) : Int)), bolA (decide ((↑(ByteArray.size (bs s)) : Int) > (128 : Int))), strA (bs s), .clo (.func 88) [] [.mptr 1 2 10 0 0, .mptr 1 3 11 0 0], undefA, undefA, undefA, undefA, undefA, undefA, undefA, undefA, undefA, undefA, undefA, undefA, undefA, undefA, undefA, undefA, undefA, undefA, undefA, undefA, undefA, undefA], h := [[row0, row0, ⟨0, .box (.pv (.sl 0 true true [])) false⟩, ⟨1, .box (intA 80) false⟩, ⟨5, .box l false⟩, ⟨6, .box (intA n) false⟩, row0, row0, row0, row0, row0, row0, row0, row0, row0, row0, row0, row0, row0, row0, row0, row0, row0, row0, row0, row0, row0, row0, row0, row0, z] ++ List.replicate 5 row0, F1], g := g } =
  (((.tup [.sl 0 true true [], intP 80]) : PV) = r) := by kernel_rfl
end Go.Proofs.YtlhfgonjcpapnaaGreatDoor.Abs

set_option maxRecDepth 20000
namespace Go.Proofs.YtlhfgonjcpapnaaGreatDoor.Abs
open Go Go.Proofs
theorem assign_ok {fn : Func} {k : Nat} {R : AExit → St → Prop} {n : Nat} {scr : Scr} {s : St} {f : Operand} {ps : Array Tmp} {a b : Code} {fr : List Frame} (hk : (rangesOf (bodyOf fn) [])[k]? = some (f, ps, a, b, fr)) (h : AssignGo E1 fn k R n scr s) : Wp E1 noY 0 a R s := by
  unfold AssignGo at h
  rw [hk] at h
  exact wpGo_ok n scr _ h
theorem body_ok {fn : Func} {k : Nat} {R : AExit → St → Prop} {n : Nat} {scr : Scr} {s : St} {f : Operand} {ps : Array Tmp} {a b : Code} {fr : List Frame} (hk : (rangesOf (bodyOf fn) [])[k]? = some (f, ps, a, b, fr)) (h : BodyGo E1 fn k R n scr s) : Wp E1 noY 0 b R s := by
  unfold BodyGo at h
  rw [hk] at h
  exact wpGo_ok n scr _ h
theorem after_ok {fn : Func} {r : PV} {k n : Nat} {scr : Scr} {x : AExit} {s : St} {f : Operand} {ps : Array Tmp} {a b : Code} {fr : List Frame} (hk : (rangesOf (bodyOf fn) [])[k]? = some (f, ps, a, b, fr)) (h : AfterGo E1 fn r k n scr x s) : KQ E1 noY 0 fr (finQ E1.P fn r) x s := by
  unfold AfterGo at h
  rw [hk] at h
  exact wpGo_ok n scr _ h
theorem rangeF_split {fn : Func} {r : PV} {k sl : Nat} {t : List AV} {f0 : List Row} {s sep : List UInt8} {g g1 g2 : Nat}
    (hshape : ((rangesOf (bodyOf fn) [])[k]?.map fun x => (evalA t x.1, x.2.1)) = some (.clo (.func 88) [] [.mptr 1 2 g1 0 0, .mptr 1 3 g2 0 0], #[sl])) (hsep : sep ≠ []) (hl : s.length < 4294967281)
    (Inv : List (List UInt8) → List Row → Prop) (Fin : AExit → List Row → Prop) (h0 : Inv (Lib.split s sep) (putL row0 f0 sl ⟨g, .lp .ready⟩))
    (hround : ∀ p rest f0 F1 FR g', Inv (p :: rest) f0 → live [f0, F1, FR] 0 sl g = .lp .ready ∧ ∃ n1 sc1, AssignGo E1 fn k (fun x s1 => x = .normal ∧ live s1.h 0 sl g = .lp .ready ∧
      ∃ n2 sc2, BodyGo E1 fn k (fun x s2 => live s2.h 0 sl g = .lp .busy ∧ ∃ f0', hput s2.h 0 sl ⟨g, .lp (if x = .normal then .ready else .done x)⟩ = [f0', F1, FR] ∧ (x = .normal → Inv rest f0') ∧ (x ≠ .normal → Fin x f0')) n2 sc2 { s1 with h := hput s1.h 0 sl ⟨g, .lp .busy⟩ }) n1 sc1
      { t := setTs [sl] [strA (bs p)] t, h := [f0, F1, FR], g := g' })
    (hend : ∀ f0 F1 g', Inv [] f0 → live [f0, F1] 0 sl g = .lp .ready ∧ ∃ n1 sc1, AfterGo E1 fn r k n1 sc1 .normal { t := t, h := hput [f0, F1] 0 sl row0, g := g' })
    (hfin : ∀ x f0 F1 g', Fin x f0 → x ≠ .normal ∧ live [f0, F1] 0 sl g = .lp (.done x) ∧ ∃ n1 sc1, AfterGo E1 fn r k n1 sc1 x { t := t, h := hput [f0, F1] 0 sl row0, g := g' }) :
    RangeAtF E1 fn r k { t := t, h := [f0, [row0, row0, ⟨g1, .box (strA (bs s)) false⟩, ⟨g2, .box (strA (bs sep)) false⟩, row0, row0]], g := g } := by
  unfold RangeAtF
  cases hk : (rangesOf (bodyOf fn) [])[k]? with
  | none => rw [hk] at hshape; cases hshape
  | some q =>
    obtain ⟨f, ps, a, b, fr⟩ := q
    rw [hk] at hshape
    simp only [Option.map_some, Option.some.injEq, Prod.mk.injEq] at hshape
    obtain ⟨hev, hps⟩ := hshape
    refine range_split hev hps hsep hl Inv Fin h0 (fun p rest f0 F1 FR g' hI => ?_) (fun f0 F1 g' hI => ?_) (fun x f0 F1 g' hF => ?_)
    · obtain ⟨h1, n1, sc1, h2⟩ := hround p rest f0 F1 FR g' hI
      refine ⟨h1, ?_⟩
      obtain ⟨x, s1, hr, hx, hlv, n2, sc2, h3⟩ := assign_ok hk h2
      exact ⟨x, s1, hr, hx, hlv, body_ok hk h3⟩
    · obtain ⟨h1, n1, sc1, h2⟩ := hend f0 F1 g' hI
      exact ⟨h1, after_ok hk h2⟩
    · obtain ⟨h0, h1, n1, sc1, h2⟩ := hfin x f0 F1 g' hF
      exact ⟨h0, h1, after_ok hk h2⟩
end Go.Proofs.YtlhfgonjcpapnaaGreatDoor.Abs

set_option maxRecDepth 20000
set_option maxHeartbeats 2000000
namespace Go.Proofs.YtlhfgonjcpapnaaGreatDoor.Abs
open Go Go.Proofs
structure LF.is (x : LF) (m : Nat) : Prop where
  sl : slOk 11 x.k x.nl x.l.length
  ok : ∀ y ∈ x.l, y.ok
  len : x.l.length ≤ m
theorem is_lf0 : lf0.is 0 := ⟨⟨fun _ => rfl, (by simp [lf0])⟩, (by simp [lf0]), (by simp [lf0])⟩
theorem is_lf1 {x : I} (h : x.ok) : (lf1 x).is 1 := ⟨⟨(by simp [lf1]), fun _ => rfl⟩, one_ok h, (by simp [lf1])⟩
theorem is_lfR {l : List I} {m : Nat} (h : ∀ y ∈ l, y.ok) (hl : l.length ≤ m) : (lfR l).is m := ⟨tw_sl l, h, hl⟩
theorem LF.is.mono {x : LF} {m n : Nat} (h : x.is m) (hm : m ≤ n) : x.is n := ⟨h.sl, h.ok, Nat.le_trans h.len hm⟩
theorem is_upto {v : V} (hv : v.ok) {n : Int} (h0 : 0 ≤ n) (h2 : n ≤ 2) : (uptoS v n).is 1 := by
  unfold uptoS
  split
  · have hw := next_is v hv n h0 h2
    have hd := down_ok (least_is hw.1 hw.2).1 true
    refine is_lfR (meetS_ok (one_ok (from_ok hv false)) (joinS_ok (one_ok hd))) ?_
    have h1 := meetS_len [fromI v false] (joinS [downI (leastV (nextV v n)) true])
    have h3 := joinS_len [downI (leastV (nextV v n)) true]
    simp only [List.length_singleton, Nat.one_mul] at h1 h3
    omega
  · exact is_lf1 (from_ok hv false)
theorem is_cmprS (s : List UInt8) : (cmprS s).1.is 1 := by
  have hv : (rdV true (trimL s)).ok := rd_ok true
  have hd := fun o => down_ok hv o
  have hj : ∀ o, (joinS [downI (rdV true (trimL s)) o]).length ≤ 1 := fun o => joinS_len [downI (rdV true (trimL s)) o]
  have hm : (meetS [fromI (rdV true (trimL s)) false] (joinS [downI (rdV true (trimL s)) false])).length ≤ 1 := by
    have h1 := meetS_len [fromI (rdV true (trimL s)) false] (joinS [downI (rdV true (trimL s)) false])
    have := hj false
    simp only [List.length_singleton, Nat.one_mul] at h1
    omega
  have hk : 0 ≤ kindV (rdV true (trimL s)) ∧ kindV (rdV true (trimL s)) ≤ 2 := by
    unfold kindV
    split
    · decide
    · split <;> decide
  unfold cmprS
  split
  · simp only []
    repeat' split
    · exact is_lfR (meetS_ok (one_ok (from_ok hv false)) (joinS_ok (one_ok (hd false)))) hm
    · exact is_lfR (joinS_ok (one_ok (hd true))) (hj true)
    · exact is_lfR (joinS_ok (one_ok (hd false))) (hj false)
    · exact is_lf1 (from_ok hv true)
    · exact is_lf1 (from_ok hv false)
    · exact is_upto hv hk.1 hk.2
    · exact is_upto hv (by omega) (by omega)
    · exact is_lf0.mono (by omega)
  · exact is_lf0.mono (by omega)
theorem every_ok : everyI.ok := ⟨bottom_ok, zV_ok⟩
theorem den_every_edges : Den E1 89 [bottomE.p, (⟨zV, false, true⟩ : Ed).p] everyI.p := den_between bottomE ⟨zV, false, true⟩
abbrev nilA : AV := .pv (.sl 0 true true [])
abbrev altRows (b2 b3 l n : AV) (z lp : Row) : List Row := [row0, row0, ⟨0, .box b2 false⟩, ⟨1, .box b3 false⟩, ⟨6, .box l false⟩, ⟨13, .box n false⟩, row0, row0, row0, row0, row0, row0, z, row0, row0, row0, row0, row0, row0, row0, row0, lp] ++ List.replicate 17 row0
def altInv (s : List UInt8) (ps : List (List UInt8)) (f0 : List Row) : Prop := (∀ q ∈ ps, small q.length) ∧
  ((ps = Lib.split s [32] ∧ f0 = altRows nilA (bolA false) (.msl 0 12 5 0 1 true) (intA 0) ⟨5, .row 11 63 [everyI.p] false⟩ ⟨22, .lp .ready⟩) ∨
   ∃ (l : List I) (n : Nat) (z : Row), altGoS ps (lfR l) n = altGoS (Lib.split s [32]) (lf1 everyI) 0 ∧ l.length ≤ 1 ∧ (∀ x ∈ l, x.ok) ∧ n ≤ 16 ∧ f0 = altRows nilA (bolA false) (.pv (resL l)) (intA n) z ⟨22, .lp .ready⟩)
def altFin (s : List UInt8) (x : AExit) (f0 : List Row) : Prop := x = .ret ∧ altGoS (Lib.split s [32]) (lf1 everyI) 0 = (lf0, false) ∧ ∃ (l : AV) (n : Int) (z : Row), f0 = altRows nilA (bolA false) l (intA n) z ⟨22, .lp (.done .ret)⟩
theorem altGo_no {p : List UInt8} {ps : List (List UInt8)} {c : LF} {n : Nat} (h : ¬ ((cmprS p).2 = true ∧ n + 1 ≤ 16)) : altGoS (p :: ps) c n = (lf0, false) := by
  rw [altGoS, if_neg h]
theorem altGo_yes {p : List UInt8} {ps : List (List UInt8)} {c : LF} {n : Nat} (h1 : (cmprS p).2 = true) (h2 : n + 1 ≤ 16) : altGoS (p :: ps) c n = altGoS ps (lfR (meetS c.l (cmprS p).1.l)) (n + 1) := by
  rw [altGoS, if_pos ⟨h1, h2⟩]
theorem meetS_le1 {l m : List I} (hl : l.length ≤ 1) (hm : m.length ≤ 1) : (meetS l m).length ≤ 1 := by
  have := meetS_len l m
  have h2 : l.length * m.length ≤ 1 * 1 := Nat.mul_le_mul hl hm
  omega
theorem den_meet_few (l : List I) (x : LF) (k : Nat) (nl full : Bool) (hsl : slOk 11 k nl l.length) (hl : l.length ≤ 1) (hok : ∀ y ∈ l, y.ok) (hx : x.is 1) : Den E1 62 [listP k nl full l, x.p] (resL (meetS l x.l)) := by
  have h2 : l.length * x.l.length ≤ 1 * 1 := Nat.mul_le_mul hl hx.len
  exact den_span_meet20 l x.l k x.k nl full x.nl x.full (by omega) (by omega) (by have := hx.len; omega) hsl hx.sl hok hx.ok
theorem alt_range (s : List UInt8) (hs : s.length ≤ 1000000) (h1 : ¬ s = [42]) (h2 : ¬ s = [33]) :
    RangeAtF E1 Tryz.f52 (.tup [(altS s).1.p, bolP (altS s).2]) 0 (span_alternative_R0 s) := by
  have hsp := split_le [32] (by simp) _ s (Nat.le_refl _)
  have halt : altS s = altGoS (Lib.split s [32]) (lf1 everyI) 0 := by rw [altS, if_neg h1, if_neg h2]
  refine rangeF_split (s := s) (sep := [32]) (sl := 21) (by kernel_rfl) (by simp) (by omega) (altInv s) (altFin s) ⟨fun q hq => by have := hsp.2 q hq; unfold small; omega, .inl ⟨rfl, rfl⟩⟩ ?_ ?_ ?_
  · rintro p rest f0 F1 FR g' ⟨hsm, ⟨hps, rfl⟩ | ⟨l, n, z, hgo, hll, hlo, hn, rfl⟩⟩
    · have hp := den_span_compared p (hsm p (List.mem_cons_self ..))
      have hc := is_cmprS p
      refine ⟨rfl, 2000, _, Eq.mpr (span_alternative_as0 s p 0 (.msl 0 12 5 0 1 true) ⟨5, .row 11 63 [everyI.p] false⟩ F1 FR 22 g' _) ⟨rfl, rfl, 2000, _, Eq.mpr (span_alternative_a_bd0 s p F1 FR 22 _ _) ⟨hp, rfl, rfl, fun h => ⟨rfl, rfl, rfl, _, rfl, (fun h => nomatch h), fun _ => ⟨rfl, ?_, _, _, _, rfl⟩⟩, fun h => ⟨rfl, rfl, ?_, rfl, rfl, _, rfl, fun _ => ⟨fun q hq => hsm q (List.mem_cons_of_mem _ hq), .inr ⟨_, 1, _, ?_, ?_, ?_, by omega, rfl⟩⟩, fun h => absurd rfl h⟩⟩⟩⟩
      · rw [← hps]
        exact altGo_no fun h2 => by rw [h2.1] at h; simp at h
      · exact den_meet_few [everyI] (cmprS p).1 11 false true ⟨(by simp), fun _ => rfl⟩ (by simp) (one_ok every_ok) hc
      · rw [← hps]
        exact (altGo_yes (c := lf1 everyI) (n := 0) (not_eq.2 h) (by omega)).symm
      · exact meetS_le1 (l := [everyI]) (by simp) hc.len
      · exact meetS_ok (one_ok every_ok) hc.ok
    · have hp := den_span_compared p (hsm p (List.mem_cons_self ..))
      have hc := is_cmprS p
      have hw : IntKind.wrap IntKind.i64 ((n : Int) + 1) = ((n + 1 : Nat) : Int) := wrap_i64 _ (by omega) (by omega)
      refine ⟨rfl, 2000, _, Eq.mpr (span_alternative_as0 s p n (.pv (resL l)) z F1 FR 22 g' _) ⟨rfl, rfl, 2000, _, Eq.mpr (span_alternative_b_bd0 s p n l z F1 FR 22 _ _) ⟨hp, rfl, rfl, fun h => ⟨rfl, rfl, rfl, _, rfl, (fun h => nomatch h), fun _ => ⟨rfl, ?_, _, _, _, rfl⟩⟩, fun h => ⟨rfl, fun h3 => ⟨rfl, rfl, rfl, _, rfl, (fun h => nomatch h), fun _ => ⟨rfl, ?_, _, _, _, rfl⟩⟩, fun h3 => ⟨rfl, ?_, rfl, rfl, _, rfl, fun _ => ⟨fun q hq => hsm q (List.mem_cons_of_mem _ hq), .inr ⟨_, n + 1, _, ?_, ?_, ?_, ?_, by rw [hw]; rfl⟩⟩, fun h => absurd rfl h⟩⟩⟩⟩⟩
      · rw [← hgo]
        exact altGo_no fun h2 => by rw [h2.1] at h; simp at h
      · rw [hw, decide_eq_true_eq] at h3
        rw [← hgo]
        exact altGo_no fun h2 => by omega
      · exact den_meet_few l (cmprS p).1 _ _ _ (tw_sl l) hll hlo hc
      · rw [hw, decide_eq_false_iff_not] at h3
        rw [← hgo]
        exact (altGo_yes (c := lfR l) (n := n) (not_eq.2 h) (by omega)).symm
      · exact meetS_le1 hll hc.len
      · exact meetS_ok hlo hc.ok
      · rw [hw, decide_eq_false_iff_not] at h3
        omega
  · rintro f0 F1 g' ⟨hsm, ⟨hps, rfl⟩ | ⟨l, n, z, hgo, hll, hlo, hn, rfl⟩⟩
    · exact absurd hps.symm (split_ne s [32] (by simp))
    · refine ⟨rfl, 2000, _, Eq.mpr (span_alternative_af0 s n l z F1 g' _) ⟨rfl, rfl, rfl, ?_⟩⟩
      rw [halt, ← hgo]
      try rfl
  · rintro x f0 F1 g' ⟨rfl, hgo, l, n, z, rfl⟩
    refine ⟨(fun h => nomatch h), rfl, 2000, _, Eq.mpr (span_alternative_af0r s n l z F1 g' _) ?_⟩
    rw [halt, hgo]
    try rfl
theorem den_span_alternative (s : List UInt8) (hs : s.length ≤ 1000000) : Den E1 52 [strP s] (.tup [(altS s).1.p, bolP (altS s).2]) := by
  refine den1 2000 _ rfl (by kernel_rfl) rfl rfl rfl (Eq.mpr (span_alternative_go s _) ⟨den_bottom, den_top, den_every_edges, rfl, fun h => ⟨rfl, rfl, rfl, ?_⟩, fun h => ⟨fun h2 => ⟨rfl, rfl, ?_⟩, fun h2 => ⟨rfl, den_split s [32], ?_⟩⟩⟩)
  · rw [toList_bs, toList_bs] at h
    have e : s = [42] := eq_of_beq h
    have : altS s = (⟨11, false, true, [everyI]⟩, true) := by rw [altS, if_pos e]
    rw [this]
    exact ex_frz (by kernel_rfl)
  · rw [toList_bs, toList_bs] at h2
    have e : s = [33] := eq_of_beq h2
    have : altS s = (lf0, true) := by rw [altS, e]; try rfl
    rw [this]
    try rfl
  · rw [toList_bs, toList_bs] at h h2
    exact alt_range s hs (fun e => by rw [e] at h; simp at h) (fun e => by rw [e] at h2; simp at h2)
end Go.Proofs.YtlhfgonjcpapnaaGreatDoor.Abs

set_option maxRecDepth 20000
set_option maxHeartbeats 2000000
namespace Go.Proofs.YtlhfgonjcpapnaaGreatDoor.Abs
open Go Go.Proofs
structure V.np (v : V) : Prop where
  ne : v.nl = false → v.pre ≠ []
  few : v.pre.length < 1000000
structure I.np (x : I) : Prop where
  lo : x.lo.np
  hi : x.hi.np
theorem den_CloneS (k : Nat) (nl full : Bool) (x : List (List UInt8)) (hs : slOk 1 k nl x.length) (hne : nl = false → x ≠ []) (hl : x.length < 1000000) : Den E1 92 [preP k nl full x] (preP (cond nl 0 1) nl nl x) := by
  cases nl with
  | true =>
    have : x = [] := List.length_eq_zero_iff.1 (hs.1 rfl)
    subst this
    exact den1 2000 _ rfl (by kernel_rfl) rfl rfl rfl (Eq.mpr (slices_Clone_string_string_N_go k full _) rfl)
  | false =>
    have hk := hs.2 rfl
    have hx := hne rfl
    have he : (List.isEmpty (List.map strP x)) = false := by cases x with
      | nil => exact absurd rfl hx
      | cons a l => rfl
    refine den1 2000 _ rfl (by kernel_rfl) rfl rfl rfl (Eq.mpr (slices_Clone_string_string_go k full x _) ⟨⟨(fun h => nomatch h), fun _ => hk⟩, fun h => ?_, fun h => ⟨⟨rfl, rfl, ?_⟩, ?_⟩⟩)
    · rw [he] at h; cases h
    · rw [Nat.zero_add, List.length_map]; exact fits_small (by omega)
    · refine frz_msl rfl (by simp) ?_
      try rfl
theorem den_ClipI (k : Nat) (nl full : Bool) (l : List I) (hs : slOk 11 k nl l.length) : Den E1 93 [listP k nl full l] (listP k nl true l) := by
  refine den1 2000 _ rfl (by kernel_rfl) rfl rfl rfl (Eq.mpr (slices_Clip_api_Interval_api_Interval_go k nl full l _) ?_)
  have hk : nl = true ∨ k = 11 := by cases nl with
    | true => exact .inl rfl
    | false => exact .inr (hs.2 rfl)
  simp only [List.length_map, Int.toNat_natCast, gI_nat, gI_zero, Nat.sub_zero, List.drop_zero, beq_self_eq_true]
  refine ⟨⟨by omega, by omega⟩, ⟨by omega, by omega⟩, hk, ?_⟩
  rw [List.take_of_length_le (by simp)]
section
variable (k : Nat) (nl full : Bool) (l : List I)
theorem limited_S1 (hsl : slOk 11 k nl l.length) (hll : l.length ≤ 16) (hok : ∀ x ∈ l, x.ok) (hnp : ∀ x ∈ l, x.np) : ∀ (n i : Nat) (xs : List I) (gm : Nat) j jr g, i + n = l.length → xs = (l.take i).map clI →
    LoopAt E1 Tryz.f53 (.tup [listP 11 false true (l.map clI), intP 0]) 0 (span_limited_S1 k nl full l i gm xs.length (List.map I.p xs) j jr g) := by
  intro n
  induction n with
  | zero =>
    intro i xs gm j jr g hi hx
    refine loop_go 2000 _ (Eq.mpr (span_limited_go_S1 k nl full l i gm xs.length xs j jr g _) ⟨fun h => ?_, fun h => ⟨frzs_msl rfl (by simp) rfl, den_ClipI 11 false false xs ⟨(by simp), fun _ => rfl⟩, ?_⟩⟩)
    · simp only [decide_eq_true_eq, List.length_map] at h; omega
    · rw [hx, List.take_of_length_le (by omega)]
  | succ n ih =>
    intro i xs gm j jr g hi hx
    have hil : i < l.length := by omega
    have hw1 : IntKind.wrap IntKind.i64 ((i : Int) + 1) = ((i + 1 : Nat) : Int) := wrap_i64 _ (by omega) (by omega)
    have hi0 : (0 : Int) ≤ (i : Int) ∧ nl = false ∧ k = 11 := ⟨by omega, sl_at hsl hil⟩
    have hgi := getI hil
    have hxo := ok_get hok hil
    have hxn : (l.getD i default).np := hnp _ (getD_mem hil default)
    have hxl : xs.length = i := by rw [hx]; simp; omega
    have hf : xs.length = (List.map I.p xs).length ∧ fitsRow (xs.length + 1) 104 = true := ⟨by simp, fits_104 (by omega)⟩
    refine loop_go 2000 _ (Eq.mpr (span_limited_go_S1 k nl full l i gm xs.length xs j jr g _) ⟨fun h => ?_, fun h => ?_⟩)
    · simp only [hw1, Int.toNat_natCast, gI_nat, gI_zero, Nat.zero_add, eq_self, true_and, and_true, Nat.le_refl]
      refine ⟨hi0, hgi, den_CloneS _ _ _ _ hxo.lo.sl hxn.lo.ne hxn.lo.few, ?_, den_CloneS _ _ _ _ hxo.hi.sl hxn.hi.ne hxn.hi.few, ?_, hf, fun j jr g => ?_⟩
      · exact den_Clip _ _ _ _ ⟨fun h => hxo.lo.sl.1 h, fun h => by rw [h]; rfl⟩
      · exact den_Clip _ _ _ _ ⟨fun h => hxo.hi.sl.1 h, fun h => by rw [h]; rfl⟩
      · have := fun gm => ih (i + 1) (xs ++ [clI (l.getD i default)]) gm j jr g (by omega) (by rw [hx, List.take_succ_eq_append_getElem hil, List.map_append, getD_lt hil]; rfl)
        rw [List.length_append, List.map_append] at this
        exact this _
    · simp only [decide_eq_false_iff_not, List.length_map] at h; omega
theorem limited_S0 (hsl : slOk 11 k nl l.length) (hll : l.length ≤ 16) (hok : ∀ x ∈ l, x.ok) (hnp : ∀ x ∈ l, x.np) : ∀ (j : Nat → AV) jr g,
    LoopAt E1 Tryz.f53 (.tup [(limS l).1.p, intP (limS l).2]) 0 (span_limited_S0 k nl full l 0 j jr g) := by
  intro j jr g
  have hlim : limS l = (⟨twK l, twN l, true, l.map clI⟩, 0) := by unfold limS; rw [if_neg (by omega)]
  rw [hlim]
  rcases Nat.eq_zero_or_pos l.length with h0 | h0
  · have : l = [] := List.length_eq_zero_iff.1 h0
    subst this
    refine loop_go 2000 _ (Eq.mpr (span_limited_go_S0 k nl full [] 0 j jr g _) ⟨fun h => ?_, fun h => ⟨den_ClipI 0 true true [] ⟨fun _ => rfl, (by simp)⟩, rfl⟩⟩)
    simp at h
  · have hi0 : (0 : Int) ≤ (0 : Int) ∧ nl = false ∧ k = 11 := ⟨by omega, sl_at hsl h0⟩
    have hgi := getI h0
    have hxo := ok_get hok h0
    have hxn : (l.getD 0 default).np := hnp _ (getD_mem h0 default)
    have hz : Int.toNat 0 = 0 := rfl
    have hw1 : IntKind.wrap IntKind.i64 ((0 : Int) + 1) = ((1 : Nat) : Int) := rfl
    have ht : twK l = 11 ∧ twN l = false := by
      unfold twK twN
      exact ⟨if_neg (by omega), by simp only [decide_eq_false_iff_not]; omega⟩
    rw [ht.1, ht.2]
    refine loop_go 2000 _ (Eq.mpr (span_limited_go_S0 k nl full l 0 j jr g _) ⟨fun h => ?_, fun h => ?_⟩)
    · simp only [hw1, hz, Int.toNat_natCast, gI_nat, gI_zero, Nat.zero_add, eq_self, true_and, and_true, Nat.le_refl]
      refine ⟨hi0, hgi, den_CloneS _ _ _ _ hxo.lo.sl hxn.lo.ne hxn.lo.few, ?_, den_CloneS _ _ _ _ hxo.hi.sl hxn.hi.ne hxn.hi.few, ?_, fun j jr g => ?_⟩
      · exact den_Clip _ _ _ _ ⟨fun h => hxo.lo.sl.1 h, fun h => by rw [h]; rfl⟩
      · exact den_Clip _ _ _ _ ⟨fun h => hxo.hi.sl.1 h, fun h => by rw [h]; rfl⟩
      · have e : l = l.getD 0 default :: l.drop 1 := by rw [← drop_get h0]; try rfl
        exact limited_S1 k nl full l hsl hll hok hnp (l.length - 1) 1 [clI (l.getD 0 default)] _ j jr g (by omega) (by
          conv => rhs; rw [e]
          rfl)
    · simp only [decide_eq_false_iff_not, List.length_map] at h; omega
theorem den_limited (hsl : slOk 11 k nl l.length) (hl : l.length < 1000000) (hok : ∀ x ∈ l, x.ok) (hnp : ∀ x ∈ l, x.np) : Den E1 53 [listP k nl full l] (.tup [(limS l).1.p, intP (limS l).2]) := by
  refine den1 2000 _ rfl (by kernel_rfl) rfl rfl rfl (Eq.mpr (span_limited_go k nl full l _) ⟨fun h => ?_, fun h j jr g => ?_⟩)
  · simp only [decide_eq_true_eq, List.length_map] at h
    have : limS l = (lf0, 80) := by unfold limS; rw [if_pos (by omega)]
    rw [this]
    try rfl
  · simp only [decide_eq_false_iff_not, List.length_map] at h
    exact limited_S0 k nl full l hsl (by omega) hok hnp j jr g
end
end Go.Proofs.YtlhfgonjcpapnaaGreatDoor.Abs

set_option maxRecDepth 20000
set_option maxHeartbeats 2000000
namespace Go.Proofs.YtlhfgonjcpapnaaGreatDoor.Abs
open Go Go.Proofs
structure V.gd (v : V) : Prop where
  ok : v.ok
  may : mayV v = true
  np : v.np
theorem bottom_gd : bottomV.gd := ⟨bottom_ok, bottom_may, ⟨(by simp [bottomV]), (by simp [bottomV])⟩⟩
theorem zV_gd : zV.gd := ⟨zV_ok, zV_may, ⟨(by simp [zV]), (by simp [zV])⟩⟩
theorem may_few {v : V} (h : mayV v = true) : v.pre.length < 1000000 := by have := ((mayV_iff v).1 h).2.2.2.1; omega
theorem rd_gd (fl : Bool) (s : List UInt8) : (rdV fl s).gd := by
  refine ⟨rd_ok fl, rd_may fl, ?_, may_few (rd_may fl)⟩
  rw [rdV_eq, rdV0]
  split
  · show (!(Lib.cut s [45]).2.2) = false → preV s ≠ []
    unfold preV
    intro h
    have h' : (Lib.cut s [45]).2.2 = true := not_eq.2 h
    rw [h', if_pos rfl]
    exact split_ne _ _ (by simp)
  · intro h; simp [zV] at h
theorem least_gd {v : V} (h : v.gd) {n : Int} (h0 : 0 ≤ n) (h2 : n ≤ 2) : (leastV (nextV v n)).gd := by
  have hw := next_is v h.ok n h0 h2
  have hl := least_is hw.1 hw.2
  exact ⟨hl.1, hl.2, ⟨by simp [leastV], by simp [leastV]⟩⟩
theorem kind_is (v : V) : 0 ≤ kindV v ∧ kindV v ≤ 2 := by
  unfold kindV
  split
  · decide
  · split <;> decide
section
variable {P : I → Prop} (hb : ∀ x y, P x → P y → P (betE x.low y.high)) (hf : ∀ v o, v.gd → P (fromI v o)) (hd : ∀ v o, v.gd → P (downI v o))
include hb
theorem all_meet1S {x y : I} (hx : P x) (hy : P y) : P (meet1S x y) := by
  unfold meet1S
  split <;> split
  · exact hb _ _ hy hy
  · exact hb _ _ hy hx
  · exact hb _ _ hx hy
  · exact hb _ _ hx hx
theorem all_meetS {l m : List I} (hl : ∀ x ∈ l, P x) (hm : ∀ x ∈ m, P x) : ∀ x ∈ meetS l m, P x := by
  refine joinS_all hb fun z hz => ?_
  obtain ⟨x, hx, hz⟩ := List.mem_flatMap.1 hz
  obtain ⟨y, hy, rfl⟩ := List.mem_map.1 hz
  exact all_meet1S hb (hl x hx) (hm y hy)
omit hb
theorem all_one {x : I} (h : P x) : ∀ y ∈ [x], P y := fun y hy => by rw [List.mem_singleton.1 hy]; exact h
include hb hf hd
theorem all_uptoS {v : V} (hv : v.gd) {n : Int} (h0 : 0 ≤ n) (h2 : n ≤ 2) : ∀ y ∈ (uptoS v n).l, P y := by
  unfold uptoS
  split
  · exact all_meetS hb (all_one (hf v false hv)) (joinS_all hb (all_one (hd _ true (least_gd hv h0 h2))))
  · exact all_one (hf v false hv)
theorem all_cmprS (s : List UInt8) : ∀ y ∈ (cmprS s).1.l, P y := by
  have hv := rd_gd true (trimL s)
  have hk := kind_is (rdV true (trimL s))
  unfold cmprS
  split
  · simp only []
    repeat' split
    · exact all_meetS hb (all_one (hf _ false hv)) (joinS_all hb (all_one (hd _ false hv)))
    · exact joinS_all hb (all_one (hd _ true hv))
    · exact joinS_all hb (all_one (hd _ false hv))
    · exact all_one (hf _ true hv)
    · exact all_one (hf _ false hv)
    · exact all_uptoS hb hf hd hv hk.1 hk.2
    · exact all_uptoS hb hf hd hv (by omega) (by omega)
    · intro y hy; simp [lf0] at hy
  · intro y hy; simp [lf0] at hy
theorem all_altGoS : ∀ (ps : List (List UInt8)) (c : LF) (n : Nat), (∀ y ∈ c.l, P y) → ∀ y ∈ (altGoS ps c n).1.l, P y
  | [], c, n, h => by rw [altGoS]; exact h
  | p :: ps, c, n, h => by
    rw [altGoS]
    split
    · exact all_altGoS ps _ _ (all_meetS hb h (all_cmprS hb hf hd p))
    · intro y hy; simp [lf0] at hy
theorem all_altS (s : List UInt8) : ∀ y ∈ (altS s).1.l, P y := by
  have he : P everyI := hf bottomV false bottom_gd
  unfold altS
  split
  · exact all_one he
  · split
    · intro y hy; simp [lf0] at hy
    · exact all_altGoS hb hf hd _ _ _ (all_one he)
end
theorem altGoS_is : ∀ (ps : List (List UInt8)) (c : LF) (n : Nat), c.is 1 → (altGoS ps c n).1.is 1
  | [], c, n, h => by rw [altGoS]; exact h
  | p :: ps, c, n, h => by
    rw [altGoS]
    split
    · exact altGoS_is ps _ _ (is_lfR (meetS_ok h.ok (is_cmprS p).ok) (meetS_le1 h.len (is_cmprS p).len))
    · exact is_lf0.mono (by omega)
theorem altS_is (s : List UInt8) : (altS s).1.is 1 := by
  unfold altS
  split
  · exact ⟨⟨(by simp), fun _ => rfl⟩, one_ok every_ok, (by simp)⟩
  · split
    · exact is_lf0.mono (by omega)
    · exact altGoS_is _ _ _ (is_lf1 every_ok)
theorem bet_np (x y : I) (hx : x.np) (hy : y.np) : (betE x.low y.high).np := by
  refine ⟨hx.lo, ?_⟩
  show (if y.high.less then zV else y.high.v).np
  split
  · exact zV_gd.np
  · exact hy.hi
theorem altS_np (s : List UInt8) : ∀ y ∈ (altS s).1.l, y.np := all_altS (P := I.np) bet_np (fun v o h => ⟨h.np, zV_gd.np⟩) (fun v o h => ⟨bottom_gd.np, h.np⟩) s
abbrev rdRows (b2 b3 l n : AV) (lp z : Row) : List Row := [row0, row0, ⟨0, .box b2 false⟩, ⟨1, .box b3 false⟩, ⟨5, .box l false⟩, ⟨6, .box n false⟩, row0, row0, row0, row0, row0, row0, row0, row0, lp, row0, row0, row0, row0, row0, row0, row0, row0, row0, row0, row0, row0, row0, row0, row0, z] ++ List.replicate 5 row0
def rdAt (acc : List I) (l : AV) (z : Row) : Prop := (acc = [] ∧ l = nilA) ∨ (acc ≠ [] ∧ ∃ gm, l = .msl 0 30 gm 0 acc.length false ∧ z = ⟨gm, .row 11 63 (List.map I.p acc) false⟩)
theorem rdAt_some {acc : List I} {gm n : Nat} {xs : List PV} (hne : acc ≠ []) (hn : n = acc.length) (hx : xs = List.map I.p acc) : rdAt acc (.msl 0 30 gm 0 n false) ⟨gm, .row 11 63 xs false⟩ := by
  subst hn; subst hx
  exact .inr ⟨hne, gm, rfl, rfl⟩
def rdInv (s : List UInt8) (ps : List (List UInt8)) (f0 : List Row) : Prop := (∀ q ∈ ps, q.length ≤ 1000000) ∧
   ∃ (acc : List I) (n : Nat) (l : AV) (z : Row), readGoS ps acc n = readGoS (Lib.split s orB) [] 0 ∧ acc.length ≤ n ∧ n ≤ 16 ∧ (∀ x ∈ acc, x.ok) ∧ (∀ x ∈ acc, x.np) ∧ rdAt acc l z ∧ f0 = rdRows nilA (intA 0) l (intA n) ⟨15, .lp .ready⟩ z
def rdFin (s : List UInt8) (x : AExit) (f0 : List Row) : Prop := x = .ret ∧ readGoS (Lib.split s orB) [] 0 = none ∧ ∃ (l : AV) (n : Int) (z : Row), f0 = rdRows nilA (intA 80) l (intA n) ⟨15, .lp (.done .ret)⟩ z
theorem readGo_no {p : List UInt8} {ps : List (List UInt8)} {c : List I} {n : Nat} (h : ¬ ((altS p).2 = true ∧ n + 1 ≤ 16)) : readGoS (p :: ps) c n = none := by
  rw [readGoS, if_neg h]
theorem readGo_yes {p : List UInt8} {ps : List (List UInt8)} {c : List I} {n : Nat} (h1 : (altS p).2 = true) (h2 : n + 1 ≤ 16) : readGoS (p :: ps) c n = readGoS ps (c ++ (altS p).1.l) (n + 1) := by
  rw [readGoS, if_pos ⟨h1, h2⟩]
theorem read_range (s : List UInt8) (hs : ¬ s.length > 128) :
    RangeAtF E1 Tryz.f19 (.tup [(readS s).1.p, intP (readS s).2]) 0 (span_Read_R0 s) := by
  have hsp := split_le orB (by simp [orB]) _ s (Nat.le_refl _)
  refine rangeF_split (s := s) (sep := orB) (sl := 14) (by kernel_rfl) (by simp [orB]) (by omega) (rdInv s) (rdFin s) ⟨fun q hq => by have := hsp.2 q hq; omega, [], 0, nilA, row0, rfl, (by simp), (by omega), (by simp), (by simp), .inl ⟨rfl, rfl⟩, rfl⟩ ?_ ?_ ?_
  · rintro p rest f0 F1 FR g' ⟨hsm, acc, n, l, z, hgo, hln, hn, hok, hnp, hat, rfl⟩
    have hp := den_span_alternative p (hsm p (List.mem_cons_self ..))
    have hc := altS_is p
    have hcn := altS_np p
    have hsl : (((altS p).1.nl = true → (List.map I.p (altS p).1.l) = []) ∧ ((altS p).1.nl = false → (altS p).1.k = 11)) := ⟨fun h => by have := hc.sl.1 h; rw [List.length_eq_zero_iff.1 this]; rfl, hc.sl.2⟩
    have hw : IntKind.wrap IntKind.i64 ((n : Int) + 1) = ((n + 1 : Nat) : Int) := wrap_i64 _ (by omega) (by omega)
    have hcl := hc.len
    have hok2 : ∀ x ∈ acc ++ (altS p).1.l, x.ok := fun x hx => (List.mem_append.1 hx).elim (hok x) (hc.ok x)
    have hnp2 : ∀ x ∈ acc ++ (altS p).1.l, x.np := fun x hx => (List.mem_append.1 hx).elim (hnp x) (hcn x)
    have no1 : (!(altS p).2) = true → readGoS (Lib.split s orB) [] 0 = none := fun h => by
      rw [← hgo]
      exact readGo_no fun h2 => by rw [h2.1] at h; simp at h
    have no2 : decide (IntKind.wrap IntKind.i64 ((n : Int) + 1) > 16) = true → readGoS (Lib.split s orB) [] 0 = none := fun h => by
      rw [hw, decide_eq_true_eq] at h
      rw [← hgo]
      exact readGo_no fun h2 => by omega
    have yes : (!(altS p).2) = false → decide (IntKind.wrap IntKind.i64 ((n : Int) + 1) > 16) = false → readGoS rest (acc ++ (altS p).1.l) (n + 1) = readGoS (Lib.split s orB) [] 0 ∧ (acc ++ (altS p).1.l).length ≤ n + 1 ∧ n + 1 ≤ 16 := fun h h3 => by
      rw [hw, decide_eq_false_iff_not] at h3
      refine ⟨?_, by rw [List.length_append]; omega, by omega⟩
      rw [← hgo]
      exact (readGo_yes (not_eq.2 h) (by omega)).symm
    rcases hat with ⟨rfl, rfl⟩ | ⟨hne, gm, rfl, rfl⟩
    · refine ⟨rfl, 2000, _, Eq.mpr (span_Read_as0 s p n nilA z F1 FR 15 g' _) ⟨rfl, rfl, 2000, _, Eq.mpr (span_Read_a_bd0 s p n z F1 FR 15 _ _) ⟨hp, rfl, rfl, fun h => ⟨rfl, rfl, rfl, _, rfl, (fun h => nomatch h), fun _ => ⟨rfl, no1 h, _, _, _, rfl⟩⟩, fun h => ⟨rfl, fun h3 => ⟨rfl, rfl, rfl, _, rfl, (fun h => nomatch h), fun _ => ⟨rfl, no2 h3, _, _, _, rfl⟩⟩, fun h3 => ⟨rfl, hsl, fun h4 => ⟨rfl, rfl, _, rfl, fun _ => ⟨fun q hq => hsm q (List.mem_cons_of_mem _ hq), [] ++ (altS p).1.l, n + 1, _, _, (yes h h3).1, (yes h h3).2.1, (yes h h3).2.2, hok2, hnp2, ?_, by rw [hw]; rfl⟩, fun h => absurd rfl h⟩, fun h4 => ⟨⟨rfl, ?_⟩, rfl, rfl, _, rfl, fun _ => ⟨fun q hq => hsm q (List.mem_cons_of_mem _ hq), [] ++ (altS p).1.l, n + 1, _, _, (yes h h3).1, (yes h h3).2.1, (yes h h3).2.2, hok2, hnp2, ?_, by rw [hw]; rfl⟩, fun h => absurd rfl h⟩⟩⟩⟩⟩⟩
      · have : (altS p).1.l = [] := by simpa using h4
        rw [this]
        exact .inl ⟨rfl, rfl⟩
      · rw [List.length_map]; exact fits_104 (by omega)
      · refine .inr ⟨?_, _, ?_, rfl⟩
        · intro e
          have e' : (altS p).1.l = [] := e
          rw [e'] at h4; simp at h4
        · simp only [List.length_map, List.nil_append]
    · refine ⟨rfl, 2000, _, Eq.mpr (span_Read_as0 s p n (.msl 0 30 gm 0 acc.length false) ⟨gm, .row 11 63 (List.map I.p acc) false⟩ F1 FR 15 g' _) ⟨rfl, rfl, 2000, _, Eq.mpr (span_Read_b_bd0 s p n acc gm F1 FR 15 _ _) ⟨hp, rfl, rfl, fun h => ⟨rfl, rfl, rfl, _, rfl, (fun h => nomatch h), fun _ => ⟨rfl, no1 h, _, _, _, rfl⟩⟩, fun h => ⟨rfl, fun h3 => ⟨rfl, rfl, rfl, _, rfl, (fun h => nomatch h), fun _ => ⟨rfl, no2 h3, _, _, _, rfl⟩⟩, fun h3 => ⟨rfl, hsl, rfl, ⟨rfl, rfl, rfl, ?_, ?_⟩, rfl, rfl, _, rfl, fun _ => ⟨fun q hq => hsm q (List.mem_cons_of_mem _ hq), acc ++ (altS p).1.l, n + 1, _, _, (yes h h3).1, (yes h h3).2.1, (yes h h3).2.2, hok2, hnp2, ?_, by rw [hw]; rfl⟩, fun h => absurd rfl h⟩⟩⟩⟩⟩
      · rw [List.length_map, Nat.zero_add]
      · rw [List.length_map]; exact fits_104 (by omega)
      · refine rdAt_some (fun e => hne (List.append_eq_nil_iff.1 e).1) ?_ ?_
        · simp only [List.length_map, List.length_append]
        · rw [List.map_append]
          first | rfl | (rw [List.drop_zero, List.drop_zero, List.take_of_length_le (by simp)])
  · rintro f0 F1 g' ⟨hsm, acc, n, l, z, hgo, hln, hn, hok, hnp, hat, rfl⟩
    have hr : readS s = limS (joinS acc) := by
      rw [readS, if_neg hs, ← hgo]
      try rfl
    rw [hr]
    rcases hat with ⟨rfl, rfl⟩ | ⟨hne, gm, rfl, rfl⟩
    · refine ⟨rfl, 2000, _, Eq.mpr (span_Read_a_af0 s n z F1 g' _) ⟨rfl, ?_, ?_, rfl, rfl, rfl⟩⟩
      · exact den_join20 [] 0 true true ⟨fun _ => rfl, (by simp)⟩ (by simp) (by simp [delN]) (by simp)
      · exact den_limited 0 true true [] ⟨fun _ => rfl, (by simp)⟩ (by simp) (by simp) (by simp)
    · have hl := joinS_len acc
      refine ⟨rfl, 2000, _, Eq.mpr (span_Read_b_af0 s n acc gm F1 g' _) ⟨rfl, frzs_msl rfl (by simp) rfl, ?_, ?_, rfl, rfl, rfl⟩⟩
      · exact den_join20 acc 11 false false ⟨(by simp), fun _ => rfl⟩ (by omega) (Nat.lt_of_le_of_lt (delN_le _) (by omega)) hok
      · exact den_limited _ _ _ (joinS acc) (tw_sl _) (by omega) (joinS_ok hok) (joinS_all bet_np hnp)
  · rintro x f0 F1 g' ⟨rfl, hgo, l, n, z, rfl⟩
    refine ⟨(fun h => nomatch h), rfl, 2000, _, Eq.mpr (span_Read_af0r s n l z F1 g' _) ?_⟩
    have hr : readS s = (lf0, 80) := by
      rw [readS, if_neg hs, hgo]
    rw [hr]
    try rfl
theorem den_span_Read (s : List UInt8) : Den E1 19 [strP s] (.tup [(readS s).1.p, intP (readS s).2]) := by
  refine den1 2000 _ rfl (by kernel_rfl) rfl rfl rfl (Eq.mpr (span_Read_go s _) ⟨fun h => ⟨rfl, rfl, ?_⟩, fun h => ⟨rfl, den_split s orB, ?_⟩⟩)
  · simp only [decide_eq_true_eq, size_bs] at h
    have hr : readS s = (lf0, 80) := by
      rw [readS, if_pos (by omega)]
    rw [hr]
    try rfl
  · simp only [decide_eq_false_iff_not, size_bs] at h
    exact read_range s (by omega)
end Go.Proofs.YtlhfgonjcpapnaaGreatDoor.Abs

set_option maxRecDepth 20000
set_option maxHeartbeats 2000000
namespace Go.Proofs.YtlhfgonjcpapnaaGreatDoor.Abs
open Go Go.Proofs
section
variable {P : I → Prop} (hu : ∀ x y, P x → P y → P (upR x y)) (hf : ∀ v o, v.gd → P (fromI v o)) (hd : ∀ v o, v.gd → P (downI v o))
theorem mem_insR {s : List I} {x y : I} (h : y ∈ insR s x) : y ∈ s ∨ y = x := by
  unfold insR at h
  rcases List.mem_append.1 h with h | h
  · exact .inl (List.mem_of_mem_take h)
  · rcases List.mem_cons.1 h with h | h
    · exact .inr h
    · exact .inl (List.mem_of_mem_drop h)
theorem mem_sortR {y : I} : ∀ (l s : List I), y ∈ sortR l s → y ∈ s ∨ y ∈ l
  | [], s, h => .inl h
  | x :: l, s, h => by
    have h1 : sortR (x :: l) s = sortR l (if emptyI x then s else insR s x) := rfl
    rw [h1] at h
    rcases mem_sortR l _ h with h | h
    · split at h
      · exact .inl h
      · rcases mem_insR h with h | h
        · exact .inl h
        · exact .inr (List.mem_cons.2 (.inl h))
    · exact .inr (List.mem_cons.2 (.inr h))
include hu
include hf hd
end
theorem trim_stop {s : List UInt8} (h : ∀ c t, s = c :: t → trimC c.toNat = false) : trimL s = s := by
  cases s with
  | nil => rfl
  | cons c t => simp [trimL, h c t rfl]
end Go.Proofs.YtlhfgonjcpapnaaGreatDoor.Abs

namespace Go.Proofs.YtlhfgonjcpapnaaGreatDoor.Abs
open Go Go.Proofs
def txtS0 (l : List I) : List UInt8 × Int := textOf (mayS l) (l.map wordsS)
def txtR0 (l : List I) : List UInt8 × Int := textOf (mayR l) (l.map wordsR)
noncomputable def formS0 (s : List UInt8) : List UInt8 × Int := if (readS s).2 != 0 then ([], (readS s).2) else txtS0 (readS s).1.l
noncomputable def cReadS : List UInt8 → LF × Int := shut readS
noncomputable def cTxtS : List I → List UInt8 × Int := shut txtS0
noncomputable def cFormS : List UInt8 → List UInt8 × Int := shut formS0
noncomputable def cIsS : List UInt8 → Bool := shut fun s => (formS0 s).2 == 0 && (formS0 s).1 == s
theorem cReadS_eq (s : List UInt8) : cReadS s = readS s := by rw [cReadS, shut_eq]
theorem cTxtS_eq (l : List I) : cTxtS l = txtS0 l := by rw [cTxtS, shut_eq]
theorem cFormS_eq (s : List UInt8) : cFormS s = formS0 s := by rw [cFormS, shut_eq]
theorem cIsS_eq (s : List UInt8) : cIsS s = ((formS0 s).2 == 0 && (formS0 s).1 == s) := by rw [cIsS, shut_eq]
end Go.Proofs.YtlhfgonjcpapnaaGreatDoor.Abs

namespace Go.Proofs.YtlhfgonjcpapnaaGreatDoor.Abs
open Go Go.Proofs
def nV (v : V) : V := ⟨v.a, v.b, v.c, 0, true, true, v.pre⟩
def nI (x : I) : I := ⟨nV x.lo, x.lopen, nV x.hi, x.hopen, x.less⟩
theorem n_empty (x : I) : emptyI (nI x) = emptyI x := rfl
theorem n_low (x y : I) : lowB (nI x).lb (nI y).lb = lowB x.lb y.lb := rfl
theorem n_touch (x y : I) : touchI (nI x) (nI y) = touchI x y := rfl
theorem n_high (x y : I) : highI (nI x) (nI y) = highI x y := rfl
theorem n_up (x y : I) : upR (nI x) (nI y) = nI (upR x y) := rfl
theorem n_getD {s : List I} {k : Nat} (h : k < s.length) : (s.map nI).getD k default = nI (s.getD k default) := by
  rw [getD_lt (by simpa using h), getD_lt h, List.getElem_map]
theorem n_insPos (s : List I) (x : I) : ∀ k, k ≤ s.length → insPos (s.map nI) (nI x) k = insPos s x k
  | 0, _ => rfl
  | k + 1, h => by
    unfold insPos
    rw [n_getD (by omega), n_low, n_insPos s x k (by omega)]
theorem n_insR (s : List I) (x : I) : insR (s.map nI) (nI x) = (insR s x).map nI := by
  unfold insR
  rw [List.length_map, n_insPos s x _ (Nat.le_refl _), List.map_append, List.map_cons, List.map_take, List.map_drop]
theorem n_sortR : ∀ (l s : List I), sortR (l.map nI) (s.map nI) = (sortR l s).map nI
  | [], s => rfl
  | x :: l, s => by
    have h1 : sortR ((x :: l).map nI) (s.map nI) = sortR (l.map nI) (if emptyI (nI x) then s.map nI else insR (s.map nI) (nI x)) := rfl
    have h2 : sortR (x :: l) s = sortR l (if emptyI x then s else insR s x) := rfl
    rw [h1, h2, n_empty, n_insR]
    split
    · exact n_sortR l s
    · exact n_sortR l (insR s x)
theorem n_stepR (out : List I) (x : I) : stepR (out.map nI) (nI x) = (stepR out x).map nI := by
  cases out with
  | nil => rfl
  | cons a out =>
    have hg := n_getD (s := a :: out) (k := (a :: out).length - 1) (by simp)
    unfold stepR
    rw [List.length_map, hg, n_touch, n_high, n_up]
    simp only [List.isEmpty_cons, List.map_cons, Bool.false_eq_true, if_false]
    split
    · split
      · rw [← List.map_cons, List.map_set]
      · rfl
    · rw [← List.map_cons, List.map_append]; rfl
theorem n_foldR : ∀ (l out : List I), (l.map nI).foldl stepR (out.map nI) = (l.foldl stepR out).map nI
  | [], out => rfl
  | x :: l, out => by
    rw [List.map_cons, List.foldl_cons, List.foldl_cons, n_stepR]
    exact n_foldR l _
theorem n_joinR (l : List I) : joinR (l.map nI) = (joinR l).map nI := by
  unfold joinR
  have := n_sortR l []
  rw [List.map_nil] at this
  rw [this]
  exact n_foldR _ []
theorem n_meet1 (x y : I) : meet1 (nI x) (nI y) = nI (meet1 x y) := by
  cases h1 : decide (lowB x.lb y.lb < 0) with
  | true =>
    cases h2 : decide (highI y (mixL x y) < 0) with
    | true => rw [meet1_a h1 h2, meet1_a (x := nI x) (y := nI y) h1 h2]
    | false => rw [meet1_b h1 h2, meet1_b (x := nI x) (y := nI y) h1 h2]; rfl
  | false =>
    cases h2 : decide (highI y x < 0) with
    | true => rw [meet1_c h1 h2, meet1_c (x := nI x) (y := nI y) h1 h2]; rfl
    | false => rw [meet1_d h1 h2, meet1_d (x := nI x) (y := nI y) h1 h2]
theorem n_meets (l m : List I) (f : I → I → I) (hf : ∀ x y, f (nI x) (nI y) = nI (f x y)) : (l.map nI).flatMap (fun x => (m.map nI).map fun y => f x y) = (l.flatMap fun x => m.map fun y => f x y).map nI := by
  induction l with
  | nil => rfl
  | cons x l ih =>
    rw [List.map_cons, List.flatMap_cons, List.flatMap_cons, List.map_append, ih, List.map_map, List.map_map]
    congr 1
    apply List.map_congr_left
    intro y _
    exact hf x y
theorem n_meetR (l m : List I) : meetR (l.map nI) (m.map nI) = (meetR l m).map nI := by
  unfold meetR
  rw [n_meets l m meet1 n_meet1, n_joinR]
structure rt (x : I) : Prop where
  lo : mayV x.lo = true
  hi : mayV x.hi = true
  ho : x.less = true → x.hopen = false
  hz : x.less = true → nV x.hi = nV zV
theorem ordV_of {v w : V} (h1 : mayV v = true) (h2 : mayV w = true) : ordV v w = cmpV v w := by unfold ordV; rw [h1, h2]; rfl
theorem rt_dead {x : I} (h : rt x) : deadI x = emptyI x := by
  unfold deadI emptyI befE I.low I.high
  rw [ordV_of h.lo h.hi]
  cases hl : x.less with
  | true => simp
  | false =>
    simp only [Bool.and_false, Bool.false_eq_true, if_false, Bool.not_false, Bool.true_and]
    by_cases h0 : cmpV x.lo x.hi = 0
    · cases h1 : x.lopen <;> cases h2 : x.hopen <;> simp [h0]
    · have : (cmpV x.lo x.hi != 0) = true := by simpa using h0
      rw [if_pos this]
      have h3 : (cmpV x.lo x.hi == 0) = false := by simpa using h0
      rw [h3, Bool.false_and, Bool.or_false]
      rw [Bool.eq_iff_iff, decide_eq_true_eq, decide_eq_true_eq]; omega
theorem rt_low {x y : I} (hx : rt x) (hy : rt y) : (befE x.low y.low < 0 ↔ lowB y.lb x.lb > 0) := by
  unfold befE lowB I.low I.lb
  have ha := an_cmpV y.lo x.lo
  rw [ordV_of hx.lo hy.lo, ha]
  simp only [Bool.and_false, Bool.false_eq_true, if_false]
  by_cases h0 : cmpV y.lo x.lo = 0
  · cases h1 : x.lopen <;> cases h2 : y.lopen <;> simp [h0]
  · have h3 : (-cmpV y.lo x.lo != 0) = true := by simp; exact h0
    have h4 : (cmpV y.lo x.lo != 0) = true := by simpa using h0
    rw [if_pos h3, h4, Bool.true_or, if_pos rfl]
    omega
theorem rt_low' {x y : I} (hx : rt x) (hy : rt y) : (befE x.low y.low < 0 ↔ lowB x.lb y.lb < 0) := by
  unfold befE lowB I.low I.lb
  rw [ordV_of hx.lo hy.lo]
  simp only [Bool.and_false, Bool.false_eq_true, if_false]
  by_cases h0 : cmpV x.lo y.lo = 0
  · cases h1 : x.lopen <;> cases h2 : y.lopen <;> simp [h0]
  · have h4 : (cmpV x.lo y.lo != 0) = true := by simpa using h0
    rw [if_pos h4, h4, Bool.true_or, if_pos rfl]
theorem rt_touch {x y : I} (hx : rt x) (hy : rt y) : (befE x.high y.low ≥ 0 ↔ touchI x y = true) := by
  unfold befE touchI I.low I.high
  rw [ordV_of hx.hi hy.lo]
  cases hl : x.less with
  | true => simp
  | false =>
    simp only [Bool.and_false, Bool.false_and, Bool.false_eq_true, if_false, Bool.false_or]
    by_cases h0 : cmpV x.hi y.lo = 0
    · cases h1 : x.hopen <;> cases h2 : y.lopen <;> simp [h0]
    · have h4 : (cmpV x.hi y.lo != 0) = true := by simpa using h0
      have h3 : (cmpV x.hi y.lo == 0) = false := by simpa using h0
      rw [if_pos h4, h3, Bool.false_and, Bool.or_false, decide_eq_true_eq]
      omega
theorem rt_high {x y : I} (hx : rt x) (hy : rt y) : (befE x.high y.high < 0 ↔ highI x y < 0) := by
  unfold befE highI I.high
  rw [ordV_of hx.hi hy.hi]
  cases hl : x.less <;> cases hm : y.less <;> simp only [Bool.and_false, Bool.and_true, Bool.false_and, Bool.false_eq_true, if_false, if_true]
  · by_cases h0 : cmpV x.hi y.hi = 0
    · cases h1 : x.hopen <;> cases h2 : y.hopen <;> simp [h0]
    · have h4 : (cmpV x.hi y.hi != 0) = true := by simpa using h0
      rw [if_pos h4, if_pos h4]
theorem rt_bet {x y : I} (hx : rt x) (hy : rt y) : nI (betE x.low y.high) = nI (upR x y) ∧ rt (betE x.low y.high) := by
  cases hl : y.less with
  | true =>
    have hz := hy.hz hl
    have ho := hy.ho hl
    refine ⟨?_, ⟨hx.lo, ?_, ?_, ?_⟩⟩
    · show I.mk (nV x.lo) x.lopen (nV (if y.less then zV else y.hi)) (if y.less then false else !!y.hopen) y.less = I.mk (nV x.lo) x.lopen (nV y.hi) y.hopen y.less
      rw [hl, hz, ho]
      rfl
    · show mayV (if y.less then zV else y.hi) = true
      rw [hl]; exact zV_may
    · intro _
      show (if y.less then false else !!y.hopen) = false
      rw [hl]; rfl
    · intro _
      show nV (if y.less then zV else y.hi) = nV zV
      rw [hl]; rfl
  | false =>
    refine ⟨?_, ⟨hx.lo, ?_, ?_, ?_⟩⟩
    · show I.mk (nV x.lo) x.lopen (nV (if y.less then zV else y.hi)) (if y.less then false else !!y.hopen) y.less = I.mk (nV x.lo) x.lopen (nV y.hi) y.hopen y.less
      rw [hl, Bool.not_not]
      rfl
    · show mayV (if y.less then zV else y.hi) = true
      rw [hl]; exact hy.hi
    · intro h
      have h : y.less = true := h
      rw [hl] at h; cases h
    · intro h
      have h : y.less = true := h
      rw [hl] at h; cases h
theorem rt_insPos {s : List I} {x : I} (hs : ∀ y ∈ s, rt y) (hx : rt x) : ∀ k, k ≤ s.length → insPosS s x k = insPos s x k
  | 0, _ => rfl
  | k + 1, h => by
    have hy := hs _ (getD_mem (i := k) (l := s) (by omega) default)
    unfold insPosS insPos
    rw [rt_insPos hs hx k (by omega)]
    have := rt_low hx hy
    by_cases h1 : befE x.low (s.getD k default).low < 0
    · rw [if_pos h1, if_pos (this.1 h1)]
    · rw [if_neg h1, if_neg (fun h2 => h1 (this.2 h2))]
theorem rt_ins {s : List I} {x : I} (hs : ∀ y ∈ s, rt y) (hx : rt x) : insS s x = insR s x := by
  unfold insS insR
  rw [rt_insPos hs hx _ (Nat.le_refl _)]
theorem rt_sort : ∀ (l s : List I), (∀ y ∈ l, rt y) → (∀ y ∈ s, rt y) → (l.filter fun x => !deadI x).foldl insS s = sortR l s
  | [], s, _, _ => rfl
  | x :: l, s, hl, hs => by
    have hx := hl x (List.mem_cons_self ..)
    have h2 : sortR (x :: l) s = sortR l (if emptyI x then s else insR s x) := rfl
    rw [h2, List.filter_cons, rt_dead hx]
    cases he : emptyI x with
    | true => exact rt_sort l s (fun y hy => hl y (List.mem_cons_of_mem _ hy)) hs
    | false =>
      simp only [Bool.not_false, if_true, List.foldl_cons, Bool.false_eq_true, if_false]
      rw [rt_ins hs hx]
      exact rt_sort l _ (fun y hy => hl y (List.mem_cons_of_mem _ hy)) fun y hy => (mem_insR hy).elim (hs y) fun e => e ▸ hx
theorem rt_step {out : List I} {x : I} (ho : ∀ y ∈ out, rt y) (hx : rt x) : (stepS out x).map nI = (stepR out x).map nI ∧ ∀ y ∈ stepS out x, rt y := by
  refine ⟨?_, stepS_all (P := rt) (fun x y hx hy => (rt_bet hx hy).2) ho hx⟩
  cases out with
  | nil => rfl
  | cons a out =>
    have hla : (a :: out).length - 1 < (a :: out).length := by simp
    have hy := ho _ (getD_mem hla default)
    have h1 := rt_touch hy hx
    have h2 := rt_high hy hx
    have h3 := (rt_bet hy hx).1
    unfold stepS stepR
    simp only [List.isEmpty_cons, Bool.false_eq_true, if_false]
    generalize (a :: out).getD ((a :: out).length - 1) default = y at hy h1 h2 h3 ⊢
    by_cases ht : touchI y x = true
    · rw [if_pos (h1.2 ht), if_pos ht]
      by_cases hh : highI y x < 0
      · rw [if_pos (h2.2 hh), if_pos hh, List.map_set, List.map_set, h3]
      · rw [if_neg (fun h => hh (h2.1 h)), if_neg hh]
    · rw [if_neg (fun h => ht (h1.1 h)), if_neg ht]
theorem rt_fold : ∀ (l out : List I), (∀ y ∈ l, rt y) → (∀ y ∈ out, rt y) → (l.foldl stepS out).map nI = (l.map nI).foldl stepR (out.map nI)
  | [], out, _, _ => rfl
  | x :: l, out, hl, ho => by
    obtain ⟨h1, h2⟩ := rt_step ho (hl x (List.mem_cons_self ..))
    rw [List.foldl_cons, rt_fold l _ (fun y hy => hl y (List.mem_cons_of_mem _ hy)) h2, List.map_cons, List.foldl_cons, h1, n_stepR]
theorem rt_join {l : List I} (hl : ∀ y ∈ l, rt y) : (joinS l).map nI = joinR (l.map nI) := by
  unfold joinS joinR sortS
  have hs := rt_sort l [] hl (by simp)
  have hn := n_sortR l []
  rw [List.map_nil] at hn
  rw [hs, hn, rt_fold _ [] (fun y hy => (mem_sortR l [] hy).elim (fun h => by simp at h) (hl y)) (by simp)]
  rfl
theorem rt_meet1 {x y : I} (hx : rt x) (hy : rt y) : nI (meet1S x y) = nI (meet1 x y) ∧ rt (meet1S x y) := by
  have h1 := rt_low' hx hy
  have hmix : rt (mixL x y) := ⟨hy.lo, hx.hi, hx.ho, hx.hz⟩
  have h2 := rt_high hy hx
  have hhm : highI y (mixL x y) = highI y x := rfl
  cases c1 : decide (lowB x.lb y.lb < 0) with
  | true =>
    have d1 : befE x.low y.low < 0 := h1.2 (by simpa using c1)
    cases c2 : decide (highI y x < 0) with
    | true =>
      have d2 : befE y.high x.high < 0 := h2.2 (by simpa using c2)
      rw [meet1_a c1 (by rw [hhm]; exact c2)]
      have e : meet1S x y = betE y.low y.high := by simp only [meet1S, d1, d2, if_true]
      rw [e]
      have := rt_bet hy hy
      exact ⟨this.1, this.2⟩
    | false =>
      have d2 : ¬ befE y.high x.high < 0 := fun h => by have := h2.1 h; simp at c2; omega
      rw [meet1_b c1 (by rw [hhm]; exact c2)]
      have e : meet1S x y = betE y.low x.high := by simp only [meet1S, d1, d2, if_true, if_false]
      rw [e]
      have := rt_bet hy hx
      exact ⟨this.1, this.2⟩
  | false =>
    have d1 : ¬ befE x.low y.low < 0 := fun h => by have := h1.1 h; simp at c1; omega
    cases c2 : decide (highI y x < 0) with
    | true =>
      have d2 : befE y.high x.high < 0 := h2.2 (by simpa using c2)
      rw [meet1_c c1 c2]
      have e : meet1S x y = betE x.low y.high := by simp only [meet1S, d1, d2, if_true, if_false]
      rw [e]
      have := rt_bet hx hy
      exact ⟨this.1, this.2⟩
    | false =>
      have d2 : ¬ befE y.high x.high < 0 := fun h => by have := h2.1 h; simp at c2; omega
      rw [meet1_d c1 c2]
      have e : meet1S x y = betE x.low x.high := by simp only [meet1S, d1, d2, if_false]
      rw [e]
      have := rt_bet hx hx
      exact ⟨this.1, this.2⟩
theorem rt_meets {l m : List I} (hl : ∀ y ∈ l, rt y) (hm : ∀ y ∈ m, rt y) : (meetS l m).map nI = meetR (l.map nI) (m.map nI) := by
  unfold meetS meetR
  have h1 : ∀ z ∈ (l.flatMap fun x => m.map fun y => meet1S x y), rt z := by
    intro z hz
    obtain ⟨x, hx, hz⟩ := List.mem_flatMap.1 hz
    obtain ⟨y, hy, rfl⟩ := List.mem_map.1 hz
    exact (rt_meet1 (hl x hx) (hm y hy)).2
  rw [rt_join h1, n_meets l m meet1 n_meet1]
  congr 1
  clear h1
  induction l with
  | nil => rfl
  | cons x l ih =>
    rw [List.flatMap_cons, List.flatMap_cons, List.map_append, List.map_append, ih (fun y hy => hl y (List.mem_cons_of_mem _ hy)), List.map_map, List.map_map]
    congr 1
    apply List.map_congr_left
    intro y hy
    exact (rt_meet1 (hl x (List.mem_cons_self ..)) (hm y hy)).1
end Go.Proofs.YtlhfgonjcpapnaaGreatDoor.Abs

namespace Go.Proofs.YtlhfgonjcpapnaaGreatDoor.Abs
open Go Go.Proofs
theorem rt_from {v : V} (o : Bool) (h : v.gd) : rt (fromI v o) := ⟨h.may, zV_may, fun _ => rfl, fun _ => rfl⟩
theorem rt_down {v : V} (o : Bool) (h : v.gd) : rt (downI v o) := ⟨bottom_may, h.may, (fun h => nomatch h), (fun h => nomatch h)⟩
theorem rt_bets (x y : I) (hx : rt x) (hy : rt y) : rt (betE x.low y.high) := (rt_bet hx hy).2
theorem n_rdV (s : List UInt8) : nV (rdV true s) = nV (rdV false s) := by
  rw [rdV_eq, rdV_eq, rdV0, rdV0]
  split <;> rfl
theorem nV_may {v w : V} (h : nV v = nV w) : mayV v = mayV w := by
  have : mayV (nV v) = mayV (nV w) := by rw [h]
  exact this
theorem nV_num {v w : V} (h : nV v = nV w) : v.a = w.a ∧ v.b = w.b ∧ v.c = w.c ∧ v.pre = w.pre := by
  injection h with h1 h2 h3 _ _ _ h4
  exact ⟨h1, h2, h3, h4⟩
theorem n_nextOk {v w : V} (h : nV v = nV w) (n : Int) : nextOk v n = nextOk w n := by
  obtain ⟨h1, h2, h3, _⟩ := nV_num h
  unfold nextOk
  rw [nV_may h, h1, h2, h3]
theorem n_nextV {v w : V} (h : nV v = nV w) (n : Int) : nextV v n = nextV w n := by
  obtain ⟨h1, h2, h3, _⟩ := nV_num h
  unfold nextV
  rw [n_nextOk h, h1, h2, h3]
theorem n_kind {v w : V} (h : nV v = nV w) : kindV v = kindV w := by
  obtain ⟨h1, h2, h3, _⟩ := nV_num h
  unfold kindV
  rw [h1, h2]
theorem n_from {v w : V} (h : nV v = nV w) (o : Bool) : nI (fromI v o) = nI (fromI w o) := by
  show I.mk (nV v) o (nV zV) false true = I.mk (nV w) o (nV zV) false true
  rw [h]
theorem n_down {v w : V} (h : nV v = nV w) (o : Bool) : nI (downI v o) = nI (downI w o) := by
  show I.mk (nV bottomV) false (nV v) o false = I.mk (nV bottomV) false (nV w) o false
  rw [h]
theorem j_down {v w : V} (h : nV v = nV w) (hv : v.gd) (o : Bool) : (joinS [downI v o]).map nI = (joinR [downI w o]).map nI := by
  rw [rt_join (all_one (rt_down o hv)), ← n_joinR, List.map_singleton, List.map_singleton, n_down h]
theorem m_fd {v w v' w' : V} (h : nV v = nV w) (h' : nV v' = nV w') (hv : v.gd) (hv' : v'.gd) (o p : Bool) : (meetS [fromI v o] (joinS [downI v' p])).map nI = (meetR [fromI w o] (joinR [downI w' p])).map nI := by
  rw [rt_meets (all_one (rt_from o hv)) (joinS_all rt_bets (all_one (rt_down p hv'))), j_down h' hv' p, ← n_meetR, List.map_singleton, List.map_singleton, n_from h]
theorem u_same {v w : V} (h : nV v = nV w) (hv : v.gd) {n : Int} (h0 : 0 ≤ n) (h2 : n ≤ 2) : (uptoS v n).l.map nI = (uptoR w n).l.map nI := by
  unfold uptoS uptoR
  rw [n_nextOk h, n_nextV h]
  split
  · have hg := least_gd hv h0 h2
    rw [n_nextV h] at hg
    exact m_fd h rfl hv hg false true
  · show [fromI v false].map nI = [fromI w false].map nI
    rw [List.map_singleton, List.map_singleton, n_from h]
theorem cmpr_same (s : List UInt8) : (cmprS s).1.l.map nI = (cmprR s).1.l.map nI ∧ (cmprS s).2 = (cmprR s).2 := by
  have h := n_rdV (trimL s)
  have hv := rd_gd true (trimL s)
  have hk := kind_is (rdV true (trimL s))
  have one : ∀ o, [fromI (rdV true (trimL s)) o].map nI = [fromI (rdV false (trimL s)) o].map nI := fun o => by rw [List.map_singleton, List.map_singleton, n_from h]
  unfold cmprS cmprR
  split
  · simp only []
    by_cases c1 : signL s = [] ∨ signL s = [61]
    · rw [if_pos c1, if_pos c1]; exact ⟨m_fd h h hv hv false false, rfl⟩
    rw [if_neg c1, if_neg c1]
    by_cases c2 : signL s = [60]
    · rw [if_pos c2, if_pos c2]; exact ⟨j_down h hv true, rfl⟩
    rw [if_neg c2, if_neg c2]
    by_cases c3 : signL s = [60, 61]
    · rw [if_pos c3, if_pos c3]; exact ⟨j_down h hv false, rfl⟩
    rw [if_neg c3, if_neg c3]
    by_cases c4 : signL s = [62]
    · rw [if_pos c4, if_pos c4]; exact ⟨one true, rfl⟩
    rw [if_neg c4, if_neg c4]
    by_cases c5 : signL s = [62, 61]
    · rw [if_pos c5, if_pos c5]; exact ⟨one false, rfl⟩
    rw [if_neg c5, if_neg c5]
    by_cases c6 : signL s = [94]
    · rw [if_pos c6, if_pos c6, n_kind h]
      rw [n_kind h] at hk
      exact ⟨u_same h hv hk.1 hk.2, rfl⟩
    rw [if_neg c6, if_neg c6]
    by_cases c7 : signL s = [126]
    · rw [if_pos c7, if_pos c7]; exact ⟨u_same h hv (by omega) (by omega), rfl⟩
    rw [if_neg c7, if_neg c7]
    exact ⟨rfl, rfl⟩
  · exact ⟨rfl, rfl⟩
theorem cmprS_rt (s : List UInt8) : ∀ y ∈ (cmprS s).1.l, rt y := all_cmprS rt_bets (fun v o h => rt_from o h) (fun v o h => rt_down o h) s
theorem altGo_same : ∀ (ps : List (List UInt8)) (c d : LF) (n : Nat), c.l.map nI = d.l.map nI → (∀ y ∈ c.l, rt y) → ps.length + n ≤ 16 → (altGoS ps c n).1.l.map nI = (altGoR ps d).1.l.map nI ∧ (altGoS ps c n).2 = (altGoR ps d).2
  | [], c, d, n, h, _, _ => ⟨h, rfl⟩
  | p :: ps, c, d, n, h, hc, hn => by
    obtain ⟨h1, h2⟩ := cmpr_same p
    simp only [List.length_cons] at hn
    rw [altGoS, altGoR, h2]
    by_cases hb : (cmprR p).2 = true
    · rw [if_pos ⟨hb, by omega⟩, if_pos hb]
      refine altGo_same ps _ _ (n + 1) ?_ (all_meetS rt_bets hc (cmprS_rt p)) (by omega)
      show (meetS c.l (cmprS p).1.l).map nI = (meetR d.l (cmprR p).1.l).map nI
      rw [rt_meets hc (cmprS_rt p), h, h1, n_meetR]
    · rw [if_neg (fun h => hb h.1), if_neg hb]
      exact ⟨rfl, rfl⟩
theorem altGo_long : ∀ (ps : List (List UInt8)) (c : LF) (n : Nat), n ≤ 16 → ¬ ps.length + n ≤ 16 → altGoS ps c n = (lf0, false)
  | [], c, n, h, h2 => by simp at h2; omega
  | p :: ps, c, n, h, h2 => by
    simp only [List.length_cons] at h2
    by_cases hb : (cmprS p).2 = true ∧ n + 1 ≤ 16
    · rw [altGo_yes hb.1 hb.2]
      exact altGo_long ps _ (n + 1) hb.2 (by omega)
    · exact altGo_no hb
theorem alt_same (s : List UInt8) : (altS s).1.l.map nI = (altR s).1.l.map nI ∧ (altS s).2 = (altR s).2 := by
  unfold altS altR
  split
  · exact ⟨rfl, rfl⟩
  · split
    · exact ⟨rfl, rfl⟩
    · split
      · rw [altGo_long _ _ 0 (by omega) (by omega)]
        exact ⟨rfl, rfl⟩
      · exact altGo_same _ _ _ 0 rfl (all_one (rt_from false bottom_gd)) (by omega)
theorem altS_rt (s : List UInt8) : ∀ y ∈ (altS s).1.l, rt y := all_altS rt_bets (fun v o h => rt_from o h) (fun v o h => rt_down o h) s
theorem readGo_same : ∀ (ps : List (List UInt8)) (a b : List I) (n : Nat), a.map nI = b.map nI → (∀ y ∈ a, rt y) → ps.length + n ≤ 16 →
    (readGoS ps a n = none ∧ readGoR ps b = none) ∨ ∃ x y, readGoS ps a n = some x ∧ readGoR ps b = some y ∧ x.map nI = y.map nI ∧ ∀ z ∈ x, rt z
  | [], a, b, n, h, ha, _ => .inr ⟨a, b, rfl, rfl, h, ha⟩
  | p :: ps, a, b, n, h, ha, hn => by
    obtain ⟨h1, h2⟩ := alt_same p
    simp only [List.length_cons] at hn
    rw [readGoS, readGoR, h2]
    by_cases hb : (altR p).2 = true
    · rw [if_pos ⟨hb, by omega⟩, if_pos hb]
      refine readGo_same ps _ _ (n + 1) ?_ (fun y hy => (List.mem_append.1 hy).elim (ha y) (altS_rt p y)) (by omega)
      rw [List.map_append, List.map_append, h, h1]
    · rw [if_neg (fun h => hb h.1), if_neg hb]
      exact .inl ⟨rfl, rfl⟩
theorem readGo_long : ∀ (ps : List (List UInt8)) (c : List I) (n : Nat), n ≤ 16 → ¬ ps.length + n ≤ 16 → readGoS ps c n = none
  | [], c, n, h, h2 => by simp at h2; omega
  | p :: ps, c, n, h, h2 => by
    simp only [List.length_cons] at h2
    by_cases hb : (altS p).2 = true ∧ n + 1 ≤ 16
    · rw [readGo_yes hb.1 hb.2]
      exact readGo_long ps _ (n + 1) hb.2 (by omega)
    · exact readGo_no hb
theorem n_len {l m : List I} (h : l.map nI = m.map nI) : l.length = m.length := by
  have := congrArg List.length h
  simpa using this
theorem lim_same {l m : List I} (h : l.map nI = m.map nI) : (limS l).1.l.map nI = (limR (lfR m)).1.l.map nI ∧ (limS l).2 = (limR (lfR m)).2 := by
  unfold limS limR
  rw [n_len h]
  show _ ∧ (if m.length > 16 then (lf0, 80) else _).2 = (if (lfR m).l.length > 16 then (lf0, 80) else _).2
  by_cases hm : m.length > 16
  · rw [if_pos hm, if_pos (show (lfR m).l.length > 16 from hm)]
    exact ⟨rfl, rfl⟩
  · rw [if_neg hm, if_neg (show ¬ (lfR m).l.length > 16 from hm)]
    refine ⟨?_, rfl⟩
    show (l.map clI).map nI = m.map nI
    rw [← h, List.map_map]
    apply List.map_congr_left
    intro x _
    rfl
theorem read_same (s : List UInt8) : (readS s).1.l.map nI = (readR s).1.l.map nI ∧ (readS s).2 = (readR s).2 := by
  unfold readS readR
  by_cases c1 : s.length > 128
  · rw [if_pos c1, if_pos c1]
    exact ⟨rfl, rfl⟩
  · rw [if_neg c1, if_neg c1]
    by_cases c2 : (Lib.split s orB).length > 16
    · rw [if_pos c2, readGo_long _ _ 0 (by omega) (by omega)]
      exact ⟨rfl, rfl⟩
    · rw [if_neg c2]
      rcases readGo_same (Lib.split s orB) [] [] 0 rfl (by simp) (by omega) with ⟨h1, h2⟩ | ⟨x, y, h1, h2, h3, h4⟩
      · rw [h1, h2]
        exact ⟨rfl, rfl⟩
      · rw [h1, h2]
        refine lim_same ?_
        rw [rt_join h4, h3, n_joinR]
theorem n_sameV {v w : V} (h : nV v = nV w) : sameV v w = true := by
  obtain ⟨h1, h2, h3, h4⟩ := nV_num h
  simp [sameV, h1, h2, h3, h4]
theorem n_sameI {x y : I} (h : nI x = nI y) : sameI x y = true := by
  injection h with h1 h2 h3 h4 h5
  simp [sameI, n_sameV h1, n_sameV h3, h2, h4, h5]
theorem n_same : ∀ {l m : List I}, l.map nI = m.map nI → sameLs l m = true
  | [], [], _ => rfl
  | x :: l, y :: m, h => by
    rw [List.map_cons, List.map_cons] at h
    injection h with h1 h2
    simp [sameLs, n_sameI h1, n_same h2]
  | [], _ :: _, h => by simp at h
  | _ :: _, [], h => by simp at h
theorem n_pairs : ∀ l : List I, pairsS (l.map nI) = pairsS l
  | [] => rfl
  | [x] => rfl
  | x :: y :: l => by
    have h := n_pairs (y :: l)
    simp only [List.map_cons, pairsS] at h ⊢
    rw [h, n_low, n_touch]
theorem n_mayR (l : List I) : mayR (l.map nI) = mayR l := by
  simp only [mayR, List.length_map, n_pairs, List.all_map]
  rfl
theorem n_txtR (l : List I) : txtR0 (l.map nI) = txtR0 l := by
  unfold txtR0
  rw [n_mayR, List.map_map]
  rfl
theorem txt_same {l m : List I} (h : l.map nI = m.map nI) : txtS0 l = txtR0 m := by
  have h1 : txtS0 l = txtR0 l := text_same l
  rw [h1, ← n_txtR l, h, n_txtR]
end Go.Proofs.YtlhfgonjcpapnaaGreatDoor.Abs

namespace Go.Proofs.YtlhfgonjcpapnaaGreatDoor.Abs
open Go Go.Proofs
theorem span_Form_go (s : List UInt8) (r : PV) : FnGo E1 Tryz.f21 [PV.lit (.string (bs s))] r 2000 (.res (.tup [LF.p (Prod.fst (cReadS s)), intP (Prod.snd (cReadS s))]) (.fork (.hole 0) (.res (.tup [PV.lit (.string (bs (Prod.fst (cTxtS (LF.l (Prod.fst (cReadS s))))))), intP (Prod.snd (cTxtS (LF.l (Prod.fst (cReadS s)))))]) (.hole 0)))) =
  ((Den E1 19 [PV.lit (.string (bs s))] (.tup [LF.p (Prod.fst (cReadS s)), intP (Prod.snd (cReadS s))])) ∧
 ((Prod.snd (cReadS s) != (0 : Int)) = true →
 ((.tup [PV.lit (.string (bs [])), intP (Prod.snd (cReadS s))]) : PV) = r) ∧
 ((Prod.snd (cReadS s) != (0 : Int)) = false →
 (Den E1 13 [LF.p (Prod.fst (cReadS s))] (.tup [PV.lit (.string (bs (Prod.fst (cTxtS (LF.l (Prod.fst (cReadS s))))))), intP (Prod.snd (cTxtS (LF.l (Prod.fst (cReadS s)))))])) ∧
 ((.tup [PV.lit (.string (bs (Prod.fst (cTxtS (LF.l (Prod.fst (cReadS s))))))), intP (Prod.snd (cTxtS (LF.l (Prod.fst (cReadS s)))))]) : PV) = r)) := by kernel_rfl
theorem span_Is_go (s : List UInt8) (r : PV) : FnGo E1 Tryz.f23 [PV.lit (.string (bs s))] r 2000 (.res (.tup [PV.lit (.string (bs (Prod.fst (cFormS s)))), intP (Prod.snd (cFormS s))]) (.fork (.lts 4 (.hole 0)) (.lts 4 (.hole 0)))) =
  ((Den E1 21 [PV.lit (.string (bs s))] (.tup [PV.lit (.string (bs (Prod.fst (cFormS s)))), intP (Prod.snd (cFormS s))])) ∧
 ((Prod.snd (cFormS s) == (0 : Int)) = true →
 (bolP (ByteArray.toList (bs (Prod.fst (cFormS s))) == ByteArray.toList (bs s))) = r) ∧
 ((Prod.snd (cFormS s) == (0 : Int)) = false →
 (bolP false) = r)) := by kernel_rfl
end Go.Proofs.YtlhfgonjcpapnaaGreatDoor.Abs

set_option maxRecDepth 20000
namespace Go.Proofs.YtlhfgonjcpapnaaGreatDoor.Abs
open Go Go.Proofs
theorem readGoS_all {P : I → Prop} (hP : ∀ p, ∀ y ∈ (altS p).1.l, P y) : ∀ (ps : List (List UInt8)) (a x : List I) (n : Nat), (∀ y ∈ a, P y) → readGoS ps a n = some x → ∀ y ∈ x, P y
  | [], a, x, n, ha, h => by
    rw [readGoS] at h
    injection h with h
    subst h; exact ha
  | p :: ps, a, x, n, ha, h => by
    by_cases hb : (altS p).2 = true ∧ n + 1 ≤ 16
    · rw [readGo_yes hb.1 hb.2] at h
      exact readGoS_all hP ps _ x _ (fun y hy => (List.mem_append.1 hy).elim (ha y) (hP p y)) h
    · rw [readGo_no hb] at h; cases h
theorem clV_ok {v : V} (h : v.ok) : (clV v).ok := ⟨h.a, h.b, h.c, ⟨h.sl.1, fun e => by
  have e : v.nl = false := e
  show cond v.nl 0 1 = 1
  rw [e]; rfl⟩, h.len, h.str⟩
theorem clI_ok {x : I} (h : x.ok) : (clI x).ok := ⟨clV_ok h.lo, clV_ok h.hi⟩
theorem cl_ok {l : List I} (h : ∀ x ∈ l, x.ok) : ∀ x ∈ l.map clI, x.ok := by
  intro y hy
  obtain ⟨x, hx, rfl⟩ := List.mem_map.1 hy
  exact clI_ok (h x hx)
theorem limS_is {l : List I} (h : ∀ x ∈ l, x.ok) : (limS l).1.is 16 := by
  unfold limS
  by_cases hl : l.length > 16
  · rw [if_pos hl]; exact is_lf0.mono (by omega)
  · rw [if_neg hl]
    refine ⟨?_, cl_ok h, by rw [List.length_map]; omega⟩
    rw [List.length_map]
    exact tw_sl l
theorem readS_is (s : List UInt8) : (readS s).1.is 16 := by
  unfold readS
  by_cases c1 : s.length > 128
  · rw [if_pos c1]; exact is_lf0.mono (by omega)
  · rw [if_neg c1]
    cases h : readGoS (Lib.split s orB) [] 0 with
    | none => exact is_lf0.mono (by omega)
    | some x => exact limS_is (joinS_ok (readGoS_all (fun p => (altS_is p).ok) _ _ _ _ (by simp) h))
theorem den_cReadS (s : List UInt8) : Den E1 19 [strP s] (.tup [(cReadS s).1.p, intP (cReadS s).2]) := by rw [cReadS_eq]; exact den_span_Read s
theorem den_cTxtS (x : LF) (h : x.is 16) : Den E1 13 [x.p] (.tup [strP (cTxtS x.l).1, intP (cTxtS x.l).2]) := by rw [cTxtS_eq]; exact den_span_Text x.l x.k x.nl x.full h.sl h.ok
theorem den_span_Form (s : List UInt8) : Den E1 21 [strP s] (.tup [strP (cFormS s).1, intP (cFormS s).2]) := by
  refine den1 2000 _ rfl (by kernel_rfl) rfl rfl rfl (Eq.mpr (span_Form_go s _) ⟨den_cReadS s, fun h => ?_, fun h => ⟨den_cTxtS (cReadS s).1 (by rw [cReadS_eq]; exact readS_is s), ?_⟩⟩)
  · rw [cReadS_eq] at h ⊢
    rw [cFormS_eq, formS0, if_pos h]
    try rfl
  · rw [cReadS_eq] at h ⊢
    rw [cFormS_eq, formS0, h, cTxtS_eq]
    try rfl
theorem den_span_Is (s : List UInt8) : Den E1 23 [strP s] (bolP (cIsS s)) := by
  refine den1 2000 _ rfl (by kernel_rfl) rfl rfl rfl (Eq.mpr (span_Is_go s _) ⟨den_span_Form s, fun h => ?_, fun h => ?_⟩)
  · rw [toList_bs, toList_bs, cIsS_eq]
    rw [cFormS_eq] at h ⊢
    rw [h, Bool.true_and]
  · rw [cIsS_eq]
    rw [cFormS_eq] at h
    rw [h, Bool.false_and]
end Go.Proofs.YtlhfgonjcpapnaaGreatDoor.Abs

namespace Go.Proofs.YtlhfgonjcpapnaaGreatDoor.Abs
open Go Go.Proofs
theorem occ_no {s sep : List UInt8} {i k : Nat} (hk : k < sep.length) (h : s[i + k]? ≠ sep[k]?) : Lib.occAt s sep i = false := by
  cases ho : Lib.occAt s sep i with
  | false => rfl
  | true =>
    obtain ⟨t, ht⟩ := List.isPrefixOf_iff_prefix.1 ho
    exfalso
    apply h
    rw [← List.getElem?_drop, ← ht, List.getElem?_append_left hk]
theorem mem_of_get {l : List UInt8} {i : Nat} {c : UInt8} (h : l[i]? = some c) : c ∈ l := List.mem_of_getElem? h
theorem split_join {sep : List UInt8} {m : Nat} {c : UInt8} (hm : sep[m]? = some c) (h0 : ∀ k, k < m → sep[k]? ≠ some c) : ∀ ps : List (List UInt8), ps ≠ [] → (∀ p ∈ ps, c ∉ p) → Lib.split (joinL sep ps) sep = ps
  | [], h, _ => absurd rfl h
  | [p], _, hp => by
    have hml : m < sep.length := (List.getElem?_eq_some_iff.1 hm).1
    have hs : sep ≠ [] := by rintro rfl; simp at hml
    rw [joinL_one]
    refine split_miss hs (Lib.index_past (i := p.length) hs (fun j hj => occ_no hml ?_) (by omega))
    rw [hm]
    intro h
    exact hp p (by simp) (mem_of_get h)
  | p :: q :: ps, _, hp => by
    have hml : m < sep.length := (List.getElem?_eq_some_iff.1 hm).1
    have hs : sep ≠ [] := by rintro rfl; simp at hml
    have ih := split_join hm h0 (q :: ps) (by simp) (fun r hr => hp r (List.mem_cons_of_mem _ hr))
    rw [joinL_cons, List.append_assoc]
    generalize joinL sep (q :: ps) = R at ih ⊢
    have hno : Lib.NoOcc (p ++ (sep ++ R)) sep p.length := by
      intro j hj
      refine occ_no hml ?_
      rw [hm]
      intro h
      by_cases h1 : j + m < p.length
      · rw [List.getElem?_append_left h1] at h
        exact hp p (by simp) (mem_of_get h)
      · rw [List.getElem?_append_right (by omega), List.getElem?_append_left (by omega)] at h
        exact h0 _ (by omega) h
    have hoc : Lib.occAt (p ++ (sep ++ R)) sep p.length = true := by
      unfold Lib.occAt
      rw [List.drop_left]
      exact List.isPrefixOf_iff_prefix.2 ⟨R, rfl⟩
    rw [split_hit hs (Lib.index_hit hno (by simp) hoc), List.take_left]
    congr 1
    rw [← List.drop_drop, List.drop_left, List.drop_left]
    exact ih
theorem cut_at {A R : List UInt8} {c : UInt8} (h : c ∉ A) : Lib.cut (A ++ c :: R) [c] = (A, R, true) := by
  have hno : Lib.NoOcc (A ++ c :: R) [c] A.length := by
    intro j hj
    refine occ_no (k := 0) (by simp) ?_
    rw [Nat.add_zero, List.getElem?_append_left hj]
    intro he
    exact h (mem_of_get (c := c) (by rw [he]; rfl))
  have hoc : Lib.occAt (A ++ c :: R) [c] A.length = true := by
    unfold Lib.occAt
    rw [List.drop_left]
    simp [List.isPrefixOf]
  have hi := Lib.index_hit hno (by simp) hoc
  simp only [Lib.cut, hi]
  simp
theorem cut_none {s : List UInt8} {c : UInt8} (h : c ∉ s) : Lib.cut s [c] = (s, [], false) := by
  have hi : Lib.index s [c] = -1 := Lib.index_past (i := s.length) (by simp) (fun j hj => occ_no (k := 0) (by simp) (fun he => h (mem_of_get (i := j + 0) (by rw [he]; rfl)))) (by simp)
  simp [Lib.cut, hi]
theorem dig_nat {d : Nat} (h : d < 10) : (UInt8.ofNat (48 + d)).toNat = 48 + d := by
  rw [UInt8.toNat_ofNat']; omega
theorem num_ne (n : Nat) : numL n ≠ [] := by
  unfold numL
  split
  · simp
  · simp
theorem num_all : ∀ n : Nat, (numL n).all isDig = true := by
  intro n
  induction n using Nat.strongRecOn with
  | ind n ih =>
    unfold numL
    split
    · rename_i h
      simp [isDig, dig_nat h]
      omega
    · have hm : n % 10 < 10 := by omega
      rw [List.all_append, ih (n / 10) (by omega)]
      simp [isDig, dig_nat hm]
      omega
theorem num_dec : ∀ n : Nat, decV (numL n) = n := by
  intro n
  induction n using Nat.strongRecOn with
  | ind n ih =>
    unfold numL
    split
    · rename_i h
      simp [decV, dig_nat h]
      omega
    · have hm : n % 10 < 10 := by omega
      rw [dec_snoc, ih (n / 10) (by omega), dig_nat hm]
      omega
theorem num_head : ∀ n : Nat, 1 ≤ n → ((numL n).getD 0 0).toNat ≠ 48 := by
  intro n
  induction n using Nat.strongRecOn with
  | ind n ih =>
    intro h1
    unfold numL
    split
    · rename_i h
      show (UInt8.ofNat (48 + n)).toNat ≠ 48
      rw [dig_nat h]; omega
    · have hl : 0 < (numL (n / 10)).length := List.length_pos_iff.2 (num_ne _)
      have := ih (n / 10) (by omega) (by omega)
      rw [List.getD_eq_getElem?_getD, List.getElem?_append_left hl, ← List.getD_eq_getElem?_getD]
      exact this
theorem num_plain (n : Nat) : plainL (numL n) = true := by
  unfold plainL
  by_cases h : n < 10
  · have : (numL n).length = 1 := by unfold numL; rw [dif_pos h]; rfl
    rw [this]; rfl
  · have := num_head n (by omega)
    have h2 : ((numL n).getD 0 0).toNat != 48 := by simpa using this
    rw [h2, Bool.or_true]
theorem num_ok {n : Int} (h0 : 0 ≤ n) (h : n ≤ 2147483647) : numB (numL n.toNat) = true ∧ numV (numL n.toNat) = n := by
  have hok : numOk (numL n.toNat) = true := by
    have hd : digitsL (numL n.toNat) = true := by
      have := num_ne n.toNat
      simp only [digitsL, num_all, Bool.true_and, Bool.not_eq_true']
      cases he : numL n.toNat with
      | nil => exact absurd he this
      | cons a l => rfl
    have hl : (numL n.toNat).length ≤ 10 := num_len n h
    simp only [numOk, hd, num_plain, hl, decide_true, Bool.and_self]
  refine ⟨?_, ?_⟩
  · simp only [numB, hok, Bool.true_and, num_dec, decide_eq_true_eq]; omega
  · rw [numV_of hok, num_dec, wrap_u32_of (by omega) (by omega)]; omega
def verC (b : UInt8) : Bool := identC b || b.toNat == 46
theorem dig_ver {b : UInt8} (h : isDig b = true) : identC b = true := by simp only [identC, h, Bool.true_or]
theorem mem_join {sep : List UInt8} {b : UInt8} : ∀ {l : List (List UInt8)}, b ∈ joinL sep l → b ∈ sep ∨ ∃ p ∈ l, b ∈ p
  | [], h => by rw [joinL_nil] at h; simp at h
  | [p], h => by rw [joinL_one] at h; exact .inr ⟨p, by simp, h⟩
  | p :: q :: l, h => by
    rw [joinL_cons] at h
    rcases List.mem_append.1 h with h | h
    · rcases List.mem_append.1 h with h | h
      · exact .inr ⟨p, by simp, h⟩
      · exact .inl h
    · rcases mem_join h with h | ⟨r, hr, h⟩
      · exact .inl h
      · exact .inr ⟨r, List.mem_cons_of_mem _ hr, h⟩
theorem num_mem {n : Nat} {b : UInt8} (h : b ∈ numL n) : isDig b = true := List.all_eq_true.1 (num_all n) b h
theorem nums_mem {a b c : Nat} {x : UInt8} (h : x ∈ joinL [46] [numL a, numL b, numL c]) : isDig x = true ∨ x = 46 := by
  rcases mem_join h with h | ⟨p, hp, h⟩
  · exact .inr (by simpa using h)
  · left
    simp only [List.mem_cons, List.not_mem_nil, or_false] at hp
    rcases hp with rfl | rfl | rfl <;> exact num_mem h
theorem pre_mem {v : V} (hm : mayV v = true) {p : List UInt8} (hp : p ∈ v.pre) {x : UInt8} (h : x ∈ p) : identC x = true := by
  have := ((mayV_iff v).1 hm).2.2.2.2
  have h2 := List.all_eq_true.1 this p hp
  simp only [identL, Bool.and_eq_true] at h2
  exact List.all_eq_true.1 h2.1.2 x h
theorem ver_mem {v : V} (hm : mayV v = true) {x : UInt8} (h : x ∈ verL v) : verC x = true := by
  unfold verL at h
  unfold verC
  rcases List.mem_append.1 h with h | h
  · rcases nums_mem h with h | rfl
    · rw [dig_ver h]; rfl
    · rfl
  · split at h
    · rcases List.mem_cons.1 h with rfl | h
      · rfl
      · rcases mem_join h with h | ⟨p, hp, h⟩
        · have : x = 46 := by simpa using h
          subst this; rfl
        · rw [pre_mem hm hp h]; rfl
    · simp at h
theorem ver_not {c : UInt8} (hc : verC c = false) {v : V} (hm : mayV v = true) : c ∉ verL v := fun h => by rw [ver_mem hm h] at hc; cases hc
theorem ver_head {v : V} (hm : mayV v = true) : ∃ c t, verL v = c :: t ∧ trimC c.toNat = false := by
  have hd : ∀ n : Nat, ∃ c t, numL n = c :: t ∧ isDig c = true := by
    intro n
    cases he : numL n with
    | nil => exact absurd he (num_ne n)
    | cons c t => exact ⟨c, t, rfl, num_mem (n := n) (by rw [he]; simp)⟩
  obtain ⟨c, t, hct, hdc⟩ := hd v.a.toNat
  unfold verL
  rw [joinL_cons, hct]
  refine ⟨c, _, rfl, ?_⟩
  simp only [isDig, Bool.and_eq_true, decide_eq_true_eq] at hdc
  simp only [trimC, Bool.or_eq_false_iff, beq_eq_false_iff_ne, ne_eq]
  omega
theorem not_in_nums {c : UInt8} (h1 : isDig c = false) (h2 : ¬ c = 46) (a b d : Nat) : c ∉ joinL [46] [numL a, numL b, numL d] := fun h => by
  rcases nums_mem h with h | h
  · rw [h] at h1; cases h1
  · exact h2 h
theorem split_dot {ps : List (List UInt8)} (hne : ps ≠ []) (h : ∀ p ∈ ps, (46 : UInt8) ∉ p) : Lib.split (joinL [46] ps) [46] = ps := split_join (m := 0) (c := 46) rfl (fun k hk => absurd hk (Nat.not_lt_zero k)) ps hne h
theorem words_num (a b c : Nat) : Lib.split (joinL [46] [numL a, numL b, numL c]) [46] = [numL a, numL b, numL c] := by
  refine split_dot (by simp) fun p hp h => ?_
  simp only [List.mem_cons, List.not_mem_nil, or_false] at hp
  rcases hp with rfl | rfl | rfl <;> · have := num_mem h; simp [isDig] at this
theorem cut_ver {v : V} (hm : mayV v = true) : Lib.cut (verL v) [45] = (joinL [46] [numL v.a.toNat, numL v.b.toNat, numL v.c.toNat], if v.pre.length > 0 then joinL [46] v.pre else [], decide (v.pre.length > 0)) := by
  have hn := not_in_nums (c := 45) (by decide) (by decide) v.a.toNat v.b.toNat v.c.toNat
  unfold verL
  by_cases h : v.pre.length > 0
  · rw [if_pos h, if_pos h, cut_at hn]
    simp [h]
  · rw [if_neg h, if_neg h, List.append_nil, cut_none hn]
    simp [h]
theorem rd_ver {v : V} (hv : v.ok) (hm : mayV v = true) (hl : (verL v).length ≤ 128) : rdOk (verL v) = true ∧ ∀ fl, nV (rdV fl (verL v)) = nV v := by
  obtain ⟨ma, mb, mc, _, mi⟩ := (mayV_iff v).1 hm
  have ha := num_ok hv.a.1 ma
  have hb := num_ok hv.b.1 mb
  have hc := num_ok hv.c.1 mc
  have hcut := cut_ver hm
  have hw : wordsV (verL v) = [numL v.a.toNat, numL v.b.toNat, numL v.c.toNat] := by
    unfold wordsV
    rw [hcut]
    exact words_num _ _ _
  have hp : preV (verL v) = v.pre := by
    unfold preV
    rw [hcut]
    by_cases h : v.pre.length > 0
    · simp only [h, decide_true, if_true]
      refine split_dot (by rintro e; rw [e] at h; simp at h) fun p hp h2 => ?_
      have := pre_mem hm hp h2
      simp [identC, isDig] at this
    · have : v.pre = [] := List.length_eq_zero_iff.1 (by omega)
      rw [this]; rfl
  have hraw : ∀ fl, nV (rawV fl (verL v)) = nV v := by
    intro fl
    unfold rawV nV
    rw [hw, hp]
    show V.mk (numV (numL v.a.toNat)) (numV (numL v.b.toNat)) (numV (numL v.c.toNat)) 0 true true v.pre = _
    rw [ha.2, hb.2, hc.2]
  have hok : rdOk0 (verL v) = true := by
    have : mayV (rawV true (verL v)) = true := by rw [nV_may (hraw true)]; exact hm
    unfold rdOk0
    rw [hw, this]
    show (decide ((verL v).length ≤ 128) && true && numB (numL v.a.toNat) && numB (numL v.b.toNat) && numB (numL v.c.toNat) && true) = true
    rw [ha.1, hb.1, hc.1]
    simp [hl]
  refine ⟨by rw [rdOk_eq, hok], fun fl => ?_⟩
  rw [rdV_eq, rdV0, if_pos hok]
  exact hraw fl
end Go.Proofs.YtlhfgonjcpapnaaGreatDoor.Abs

set_option maxRecDepth 20000
namespace Go.Proofs.YtlhfgonjcpapnaaGreatDoor.Abs
open Go Go.Proofs
theorem emp_iff {x : I} : emptyI x = false ↔ (x.less = true ∨ cmpV x.lo x.hi < 0 ∨ (cmpV x.lo x.hi = 0 ∧ x.lopen = false ∧ x.hopen = false)) := by
  unfold emptyI
  cases x.less <;> cases x.lopen <;> cases x.hopen <;> simp <;> omega
section
variable (s : List UInt8) (k : Nat) (nl full : Bool) (x : List (List UInt8))
end
end Go.Proofs.YtlhfgonjcpapnaaGreatDoor.Abs

namespace Go.Proofs.YtlhfgonjcpapnaaGreatDoor.Abs
open Go Go.Proofs
theorem cmpS_zero {a b : List UInt8} (h : cmpS a b = 0) : a = b := by
  unfold cmpS at h
  split at h
  · cases h
  · split at h
    · rename_i h2; exact eq_of_beq h2
    · cases h
theorem ord_zero {a b : List UInt8} (h : ordL a b = 0) : a = b := by
  unfold ordL at h
  split at h
  · cases h
  · split at h
    · cases h
    · split at h
      · rename_i h3
        simp only [Bool.and_eq_true, bne_iff_ne, ne_eq] at h3
        exact absurd h h3.2
      · exact cmpS_zero h
theorem cmpP_zero : ∀ {x y : List (List UInt8)}, cmpP x y = 0 → x = y
  | [], [], _ => rfl
  | [], _ :: _, h => by cases h
  | _ :: _, [], h => by cases h
  | a :: x, b :: y, h => by
    unfold cmpP at h
    split at h
    · rename_i h2; exact absurd h h2
    · rename_i h2
      have h2 : ordL a b = 0 := by simpa using h2
      rw [ord_zero h2, cmpP_zero h]
theorem cmp_zero {v w : V} (h : cmpV v w = 0) : nV v = nV w := by
  unfold cmpV at h
  split at h
  · rename_i h2; exact absurd h h2
  · rename_i h2
    have h2 : cmpN v w = 0 := by simpa using h2
    unfold cmpN or3 at h2
    have ha : v.a = w.a := by
      by_cases h3 : cmpI v.a w.a = 0
      · exact (cmpI_eq _ _).1 h3
      · rw [if_pos h3] at h2; exact absurd h2 h3
    have hb : v.b = w.b := by
      rw [if_neg (by rw [(cmpI_eq _ _).2 ha]; simp)] at h2
      by_cases h3 : cmpI v.b w.b = 0
      · exact (cmpI_eq _ _).1 h3
      · rw [if_pos h3] at h2; exact absurd h2 h3
    have hc : v.c = w.c := by
      rw [if_neg (by rw [(cmpI_eq _ _).2 ha]; simp), if_neg (by rw [(cmpI_eq _ _).2 hb]; simp)] at h2
      exact (cmpI_eq _ _).1 h2
    have hp : v.pre = w.pre := by
      split at h
      · rename_i h4
        have := (cmpI_eq _ _).1 h
        have h5 : v.pre = [] := List.length_eq_zero_iff.1 (by omega)
        have h6 : w.pre = [] := List.length_eq_zero_iff.1 (by omega)
        rw [h5, h6]
      · exact cmpP_zero h
    unfold nV
    rw [ha, hb, hc, hp]
theorem cmpI_le {x y : Int} (h : x ≤ y) : cmpI x y ≤ 0 := by unfold cmpI; split <;> (try split) <;> omega
theorem ord_bot (a : List UInt8) : ordL [48] a ≤ 0 := by
  have hd : digitsL [48] = true := by decide
  unfold ordL
  rw [hd]
  cases ha : digitsL a with
  | false => simp
  | true =>
    obtain ⟨h1, h2⟩ := digits_all ha
    have hl : 1 ≤ a.length := List.length_pos_iff.2 h2
    simp only [Bool.not_true, Bool.and_false, Bool.and_true, Bool.true_and, Bool.false_eq_true, if_false, Bool.and_self]
    have hc : cmpI (([48] : List UInt8).length : Int) (a.length : Int) ≤ 0 := cmpI_le (by simp; omega)
    split
    · exact hc
    · rename_i h3
      have h3 : cmpI (([48] : List UInt8).length : Int) (a.length : Int) = 0 := by simpa using h3
      have h4 := (cmpI_eq _ _).1 h3
      match a, h4, h1 with
      | [d], _, h1 =>
        rw [cmpS_lex]
        simp only [List.all_cons, List.all_nil, Bool.and_true, isDig, Bool.and_eq_true, decide_eq_true_eq] at h1
        show (if cmpI ((48 : UInt8).toNat : Int) (d.toNat : Int) ≠ 0 then cmpI ((48 : UInt8).toNat : Int) (d.toNat : Int) else 0) ≤ 0
        have : cmpI ((48 : UInt8).toNat : Int) (d.toNat : Int) ≤ 0 := cmpI_le (by show ((48 : Nat) : Int) ≤ _; omega)
        split <;> omega
      | [], h4, _ => simp at h4
      | _ :: _ :: _, h4, _ => simp at h4; omega
theorem bot_le {v : V} (hv : v.ok) : cmpV bottomV v ≤ 0 := by
  have ha : cmpI 0 v.a ≤ 0 := cmpI_le hv.a.1
  have hb : cmpI 0 v.b ≤ 0 := cmpI_le hv.b.1
  have hc : cmpI 0 v.c ≤ 0 := cmpI_le hv.c.1
  have hn : cmpN bottomV v ≤ 0 := by
    show or3 (cmpI 0 v.a) (cmpI 0 v.b) (cmpI 0 v.c) ≤ 0
    unfold or3
    split
    · exact ha
    · split
      · exact hb
      · exact hc
  unfold cmpV
  split
  · exact hn
  · split
    · rename_i h
      have h : v.pre.length = 0 := by
        rcases h with h | h
        · simp [bottomV] at h
        · exact h
      rw [h]
      exact cmpI_le (by simp)
    · show cmpP [[48]] v.pre ≤ 0
      cases hp : v.pre with
      | nil => rename_i h; exact absurd (.inr (by rw [hp]; rfl)) h
      | cons a y =>
        unfold cmpP
        split
        · exact ord_bot a
        · cases y <;> simp [cmpP]
theorem joinR_one {x : I} (h : emptyI x = false) : joinR [x] = [x] := by
  have h1 : sortR [x] [] = if emptyI x then [] else insR [] x := rfl
  unfold joinR
  rw [h1, h]
  rfl
theorem meetR_one (x y : I) : meetR [x] [y] = joinR [meet1 x y] := rfl
theorem sm_meet {a a' b b' : List I} (h1 : a.map nI = a'.map nI) (h2 : b.map nI = b'.map nI) : (meetR a b).map nI = (meetR a' b').map nI := by rw [← n_meetR, h1, h2, n_meetR]
theorem n_emp {x y : I} (h : nI x = nI y) : emptyI x = emptyI y := by rw [← n_empty x, h, n_empty]
theorem bot_low (v : V) (hv : v.ok) (o : Bool) : ¬ lowB ⟨v, o⟩ ⟨bottomV, false⟩ < 0 := by
  have h := bot_le hv
  have ha := an_cmpV bottomV v
  unfold lowB
  show ¬ (if cmpV v bottomV != 0 || o == false then cmpV v bottomV else if false then -1 else 1) < 0
  split
  · omega
  · simp
theorem low_bot {v : V} (hv : v.ok) {o : Bool} (h : ¬ lowB ⟨bottomV, false⟩ ⟨v, o⟩ < 0) : nV v = nV bottomV ∧ o = false := by
  have hb := bot_le hv
  unfold lowB at h
  have h : ¬ (if cmpV bottomV v != 0 || false == o then cmpV bottomV v else if o then -1 else 1) < 0 := h
  by_cases h0 : cmpV bottomV v = 0
  · refine ⟨(cmp_zero h0).symm, ?_⟩
    cases o with
    | false => rfl
    | true => simp [h0] at h
  · have h4 : (cmpV bottomV v != 0) = true := by simpa using h0
    rw [h4, Bool.true_or, if_pos rfl] at h
    omega
theorem every_from {v : V} (hv : v.ok) (o : Bool) : (meetR [everyI] [fromI v o]).map nI = [nI (fromI v o)] := by
  have key : nI (meet1 everyI (fromI v o)) = nI (fromI v o) := by
    cases c1 : decide (lowB everyI.lb (fromI v o).lb < 0) with
    | true => rw [meet1_b c1 rfl]; rfl
    | false =>
      rw [meet1_d c1 rfl]
      have h := low_bot hv (o := o) (of_decide_eq_false c1)
      show I.mk (nV bottomV) false (nV zV) false true = I.mk (nV v) o (nV zV) false true
      rw [h.1, h.2]
  have he : emptyI (meet1 everyI (fromI v o)) = false := by rw [n_emp key]; rfl
  rw [meetR_one, joinR_one he, List.map_singleton, key]
theorem every_down {v : V} {o : Bool} (he : emptyI (downI v o) = false) : (meetR [everyI] [downI v o]).map nI = [nI (downI v o)] := by
  have c1 : decide (lowB everyI.lb (downI v o).lb < 0) = false := rfl
  have key : meet1 everyI (downI v o) = downI v o := by rw [meet1_c c1 rfl]; rfl
  rw [meetR_one, key, joinR_one he, List.map_singleton]
theorem from_down {v w : V} (hv : v.ok) (o p : Bool) (he : emptyI ⟨v, o, w, p, false⟩ = false) : (meetR [fromI v o] [downI w p]).map nI = [nI ⟨v, o, w, p, false⟩] := by
  have c1 : decide (lowB (fromI v o).lb (downI w p).lb < 0) = false := decide_eq_false (bot_low v hv o)
  have key : meet1 (fromI v o) (downI w p) = ⟨v, o, w, p, false⟩ := by rw [meet1_c c1 rfl]; rfl
  rw [meetR_one, key, joinR_one he, List.map_singleton]
theorem every_one {v : V} (hv : v.ok) : (meetR [everyI] [oneI v]).map nI = [nI (oneI v)] := by
  have hz := cmpV_self v
  have he1 : emptyI (oneI v) = false := by rw [emp_iff]; exact .inr (.inr ⟨hz, rfl, rfl⟩)
  have key : nI (meet1 everyI (oneI v)) = nI (oneI v) := by
    cases c1 : decide (lowB everyI.lb (oneI v).lb < 0) with
    | true => rw [meet1_a c1 rfl]
    | false =>
      rw [meet1_c c1 rfl]
      have h := low_bot hv (o := false) (of_decide_eq_false c1)
      show I.mk (nV bottomV) false (nV v) false false = I.mk (nV v) false (nV v) false false
      rw [h.1]
  have he : emptyI (meet1 everyI (oneI v)) = false := by rw [n_emp key]; exact he1
  rw [meetR_one, joinR_one he, List.map_singleton, key]
theorem down_ne {v : V} (hv : v.ok) : emptyI (downI v false) = false := by
  rw [emp_iff]
  have h := bot_le hv
  show false = true ∨ cmpV bottomV v < 0 ∨ (cmpV bottomV v = 0 ∧ false = false ∧ false = false)
  by_cases h0 : cmpV bottomV v = 0
  · exact .inr (.inr ⟨h0, rfl, rfl⟩)
  · exact .inr (.inl (by omega))
theorem trim_sign {t : List UInt8} (ht : ∃ c r, t = c :: r ∧ trimC c.toNat = false) : ∀ sg : List UInt8, (∀ c ∈ sg, trimC c.toNat = true) → trimL (sg ++ t) = t
  | [], _ => by
    obtain ⟨c, r, rfl, hc⟩ := ht
    exact trim_stop fun c' t' e => by injection e with e1 _; rw [← e1]; exact hc
  | c :: sg, h => by
    have := trim_sign ht sg (fun d hd => h d (List.mem_cons_of_mem _ hd))
    unfold trimL at this ⊢
    rw [List.cons_append, List.dropWhile_cons, if_pos (h c (by simp))]
    exact this
section
variable {v : V} (hv : v.ok) (hm : mayV v = true) (hl : (verL v).length ≤ 128)
include hv hm hl
theorem piece {sg : List UInt8} (h : ∀ c ∈ sg, trimC c.toNat = true) : trimL (sg ++ verL v) = verL v ∧ signL (sg ++ verL v) = sg ∧ rdOk (trimL (sg ++ verL v)) = true := by
  have h1 := trim_sign (ver_head hm) sg h
  refine ⟨h1, ?_, by rw [h1]; exact (rd_ver hv hm hl).1⟩
  unfold signL
  rw [h1, List.length_append, Nat.add_sub_cancel, List.take_left]
theorem piece_from (o : Bool) : (cmprR ((if o then [62] else [62, 61]) ++ verL v)).1.l.map nI = [nI (fromI v o)] ∧ (cmprR ((if o then [62] else [62, 61]) ++ verL v)).2 = true := by
  obtain ⟨h1, h2, h3⟩ := piece hv hm hl (sg := if o then [62] else [62, 61]) (by cases o <;> simp [trimC])
  have hw := (rd_ver hv hm hl).2 false
  have e : cmprR ((if o then [62] else [62, 61]) ++ verL v) = (lf1 (fromI (rdV false (verL v)) o), true) := by
    cases o <;> simp only [if_true, Bool.false_eq_true, if_false] at h1 h2 h3 ⊢ <;> (unfold cmprR; rw [if_pos h3, h2, h1]; simp)
  rw [e]
  refine ⟨?_, rfl⟩
  show [fromI (rdV false (verL v)) o].map nI = _
  rw [List.map_singleton, n_from hw]
theorem piece_down (o : Bool) (he : emptyI (downI v o) = false) : (cmprR ((if o then [60] else [60, 61]) ++ verL v)).1.l.map nI = [nI (downI v o)] ∧ (cmprR ((if o then [60] else [60, 61]) ++ verL v)).2 = true := by
  obtain ⟨h1, h2, h3⟩ := piece hv hm hl (sg := if o then [60] else [60, 61]) (by cases o <;> simp [trimC])
  have hw := (rd_ver hv hm hl).2 false
  have e : cmprR ((if o then [60] else [60, 61]) ++ verL v) = (lfR (joinR [downI (rdV false (verL v)) o]), true) := by
    cases o <;> simp only [if_true, Bool.false_eq_true, if_false] at h1 h2 h3 ⊢ <;> (unfold cmprR; rw [if_pos h3, h2, h1]; simp)
  rw [e]
  refine ⟨?_, rfl⟩
  show (joinR [downI (rdV false (verL v)) o]).map nI = _
  rw [joinR_one (by rw [n_emp (n_down hw o)]; exact he), List.map_singleton, n_down hw]
theorem piece_one : (cmprR ([61] ++ verL v)).1.l.map nI = [nI (oneI v)] ∧ (cmprR ([61] ++ verL v)).2 = true := by
  obtain ⟨h1, h2, h3⟩ := piece hv hm hl (sg := [61]) (by simp [trimC])
  have hw := (rd_ver hv hm hl).2 false
  have e : cmprR ([61] ++ verL v) = (lfR (meetR [fromI (rdV false (verL v)) false] (joinR [downI (rdV false (verL v)) false])), true) := by
    unfold cmprR
    rw [if_pos h3, h2, h1]
    simp
  rw [e]
  refine ⟨?_, rfl⟩
  show (meetR [fromI (rdV false (verL v)) false] (joinR [downI (rdV false (verL v)) false])).map nI = _
  have hj : joinR [downI (rdV false (verL v)) false] = [downI (rdV false (verL v)) false] := joinR_one (by rw [n_emp (n_down hw false)]; exact down_ne hv)
  have he1 : emptyI ⟨v, false, v, false, false⟩ = false := by rw [emp_iff]; exact .inr (.inr ⟨cmpV_self v, rfl, rfl⟩)
  rw [hj, sm_meet (a' := [fromI v false]) (b' := [downI v false]) (by rw [List.map_singleton, List.map_singleton, n_from hw]) (by rw [List.map_singleton, List.map_singleton, n_down hw]), from_down hv false false he1]
  rfl
end
theorem split_sp {ps : List (List UInt8)} (hne : ps ≠ []) (h : ∀ p ∈ ps, (32 : UInt8) ∉ p) : Lib.split (joinL [32] ps) [32] = ps := split_join (m := 0) (c := 32) rfl (fun k hk => absurd hk (Nat.not_lt_zero k)) ps hne h
theorem alt_one {w : List UInt8} (h1 : w ≠ [42]) (h2 : w ≠ [33]) (h : (32 : UInt8) ∉ w) (hc : (cmprR w).2 = true) : altR w = (lfR (meetR [everyI] (cmprR w).1.l), true) := by
  have hs := split_sp (ps := [w]) (by simp) (by simpa using h)
  rw [joinL_one] at hs
  rw [altR, if_neg h1, if_neg h2, hs, if_neg (by simp), altGoR, if_pos hc, altGoR]
  rfl
theorem alt_two {w1 w2 : List UInt8} (h1 : w1 ++ [32] ++ w2 ≠ [42]) (h2 : w1 ++ [32] ++ w2 ≠ [33]) (h : (32 : UInt8) ∉ w1) (h' : (32 : UInt8) ∉ w2) (hc : (cmprR w1).2 = true) (hc' : (cmprR w2).2 = true) :
    altR (w1 ++ [32] ++ w2) = (lfR (meetR (meetR [everyI] (cmprR w1).1.l) (cmprR w2).1.l), true) := by
  have hs := split_sp (ps := [w1, w2]) (by simp) (by
    intro p hp
    simp only [List.mem_cons, List.not_mem_nil, or_false] at hp
    rcases hp with rfl | rfl
    · exact h
    · exact h')
  rw [joinL_cons, joinL_one] at hs
  rw [altR, if_neg h1, if_neg h2, hs, if_neg (by simp), altGoR, if_pos hc, altGoR, if_pos hc', altGoR]
  rfl
end Go.Proofs.YtlhfgonjcpapnaaGreatDoor.Abs

namespace Go.Proofs.YtlhfgonjcpapnaaGreatDoor.Abs
open Go Go.Proofs
noncomputable def cMay : List I → Int := shut fun l => errS (mayS l)
theorem cMay_eq (l : List I) : cMay l = errS (mayS l) := by rw [cMay, shut_eq]
end Go.Proofs.YtlhfgonjcpapnaaGreatDoor.Abs

namespace Go.Proofs.YtlhfgonjcpapnaaGreatDoor.Abs
open Go Go.Proofs
theorem law08_SpanBack_go (s : List UInt8) (r : PV) : FnGo E1 Tryz.f6 [strP s] r 2000 (.res (.tup [LF.p (Prod.fst (cReadS s)), intP (Prod.snd (cReadS s))]) (.res (.tup [strP (Prod.fst (cFormS s)), intP (Prod.snd (cFormS s))]) (.fork (.res (bolP true) (.hole 0)) (.fork (.lts 5 (.hole 0)) (.lit (.lit (.res (intP (cMay (LF.l (Prod.fst (cReadS s))))) (.lit (.lit (.fork (.hole 0) (.res (.tup [LF.p (Prod.fst (cReadS (Prod.fst (cFormS s)))), intP (Prod.snd (cReadS (Prod.fst (cFormS s))))]) (.res (.tup [strP (Prod.fst (cFormS (Prod.fst (cFormS s)))), intP (Prod.snd (cFormS (Prod.fst (cFormS s))))]) (.fork (.lts 3 (.fork (.lts 4 (.fork (.lts 3 (.res (bolP (sameLs (LF.l (Prod.fst (cReadS (Prod.fst (cFormS s))))) (LF.l (Prod.fst (cReadS s))))) (.lit (.fork (.lit (.lit (.res (bolP (cIsS (Prod.fst (cFormS s)))) (.lit (.fork (.lit (.res (bolP true) (.lit (.hole 0)))) (.lit (.lit (.hole 0)))))))) (.lts 6 (.hole 0)))))) (.lts 11 (.hole 0)))) (.lts 16 (.hole 0)))) (.lts 20 (.hole 0))))))))))))))) =
  ((Den E1 19 [strP s] (.tup [LF.p (Prod.fst (cReadS s)), intP (Prod.snd (cReadS s))])) ∧
 (Den E1 21 [strP s] (.tup [strP (Prod.fst (cFormS s)), intP (Prod.snd (cFormS s))])) ∧
 ((Prod.snd (cFormS s) != (0 : Int)) = true →
 (Den E1 10 [] (bolP true)) ∧
 (bolP true) = r) ∧
 ((Prod.snd (cFormS s) != (0 : Int)) = false →
 ((Prod.snd (cReadS s) != (0 : Int)) = true →
 (bolP false) = r) ∧
 ((Prod.snd (cReadS s) != (0 : Int)) = false →
 (Den E1 12 [LF.p (Prod.fst (cReadS s))] (intP (cMay (LF.l (Prod.fst (cReadS s)))))) ∧
 ((cMay (LF.l (Prod.fst (cReadS s))) != (0 : Int)) = true →
 (bolP false) = r) ∧
 ((cMay (LF.l (Prod.fst (cReadS s))) != (0 : Int)) = false →
 (Den E1 19 [strP (Prod.fst (cFormS s))] (.tup [LF.p (Prod.fst (cReadS (Prod.fst (cFormS s)))), intP (Prod.snd (cReadS (Prod.fst (cFormS s))))])) ∧
 (Den E1 21 [strP (Prod.fst (cFormS s))] (.tup [strP (Prod.fst (cFormS (Prod.fst (cFormS s)))), intP (Prod.snd (cFormS (Prod.fst (cFormS s))))])) ∧
 ((Prod.snd (cReadS (Prod.fst (cFormS s))) == (0 : Int)) = true →
 ((Prod.snd (cFormS (Prod.fst (cFormS s))) == (0 : Int)) = true →
 ((ByteArray.toList (bs (Prod.fst (cFormS (Prod.fst (cFormS s))))) == ByteArray.toList (bs (Prod.fst (cFormS s)))) = true →
 (Den E1 16 [LF.p (Prod.fst (cReadS (Prod.fst (cFormS s)))), LF.p (Prod.fst (cReadS s))] (bolP (sameLs (LF.l (Prod.fst (cReadS (Prod.fst (cFormS s))))) (LF.l (Prod.fst (cReadS s)))))) ∧
 ((sameLs (LF.l (Prod.fst (cReadS (Prod.fst (cFormS s))))) (LF.l (Prod.fst (cReadS s)))) = true →
 (Den E1 23 [strP (Prod.fst (cFormS s))] (bolP (cIsS (Prod.fst (cFormS s))))) ∧
 ((cIsS (Prod.fst (cFormS s))) = true →
 (Den E1 10 [] (bolP true)) ∧
 (bolP true) = r) ∧
 ((cIsS (Prod.fst (cFormS s))) = false →
 (bolP false) = r)) ∧
 ((sameLs (LF.l (Prod.fst (cReadS (Prod.fst (cFormS s))))) (LF.l (Prod.fst (cReadS s)))) = false →
 (bolP false) = r)) ∧
 ((ByteArray.toList (bs (Prod.fst (cFormS (Prod.fst (cFormS s))))) == ByteArray.toList (bs (Prod.fst (cFormS s)))) = false →
 (bolP false) = r)) ∧
 ((Prod.snd (cFormS (Prod.fst (cFormS s))) == (0 : Int)) = false →
 (bolP false) = r)) ∧
 ((Prod.snd (cReadS (Prod.fst (cFormS s))) == (0 : Int)) = false →
 (bolP false) = r))))) := by kernel_rfl
end Go.Proofs.YtlhfgonjcpapnaaGreatDoor.Abs

set_option maxRecDepth 20000
namespace Go.Proofs.YtlhfgonjcpapnaaGreatDoor.Abs
open Go Go.Proofs
theorem zero_nV {v : V} (h : zeroB v = true) : nV v = nV zV := by
  simp only [zeroB, Bool.and_eq_true, beq_iff_eq, decide_eq_true_eq] at h
  obtain ⟨⟨⟨h1, h2⟩, h3⟩, h4⟩ := h
  have h5 : v.pre = [] := List.length_eq_zero_iff.1 h4
  unfold nV
  rw [h1, h2, h3, h5]
  rfl
theorem right_rt {x : I} (h : rightI x = true) : rt x := by
  have h' := h
  simp only [rightI, Bool.and_eq_true, Bool.or_eq_true, Bool.not_eq_true'] at h'
  refine ⟨right_lo h, right_hi h, fun hl => ?_, fun hl => ?_⟩
  · rcases h'.2 with h2 | h2
    · rw [hl] at h2; cases h2
    · exact h2.1
  · rcases h'.2 with h2 | h2
    · rw [hl] at h2; cases h2
    · exact zero_nV h2.2
theorem no_sp {v : V} (hm : mayV v = true) {sg : List UInt8} (h : (32 : UInt8) ∉ sg) : (32 : UInt8) ∉ sg ++ verL v := fun h2 => (List.mem_append.1 h2).elim h (ver_not (by decide) hm)
theorem sgn_ne {a b : UInt8} {sg t : List UInt8} (h : sg.head? = some a) (hn : a ≠ b) : sg ++ t ≠ [b] := by
  cases sg with
  | nil => simp at h
  | cons c sg =>
    have : c = a := by simpa using h
    subst this
    intro e
    rw [List.cons_append] at e
    injection e with e1 _
    exact hn e1
theorem alt_word {x : I} (hx : x.ok) (hr : rightI x = true) (he : emptyI x = false) (hw : (wordsR x).length ≤ 128) : (altR (wordsR x)).1.l.map nI = [nI x] ∧ (altR (wordsR x)).2 = true ∧ (124 : UInt8) ∉ wordsR x := by
  have hrt := right_rt hr
  have hml := hrt.lo
  have hmh := hrt.hi
  have n124 : ∀ {v : V}, mayV v = true → (124 : UInt8) ∉ verL v := fun hm => ver_not (by decide) hm
  have cut : ∀ (sg : List UInt8) {v : V}, mayV v = true → (124 : UInt8) ∉ sg → (124 : UInt8) ∉ sg ++ verL v := fun sg v hm h h2 => (List.mem_append.1 h2).elim h (n124 hm)
  unfold wordsR wordsOf at hw ⊢
  by_cases c1 : (leastR x && x.less) = true
  · rw [if_pos c1]
    simp only [Bool.and_eq_true] at c1
    obtain ⟨c1, c2⟩ := c1
    simp only [leastR, zeroR, Bool.and_eq_true, Bool.not_eq_true', beq_iff_eq] at c1
    have hz : nV x.lo = nV bottomV := cmp_zero c1.2
    have e : altR [42] = (lf1 everyI, true) := by rw [altR, if_pos rfl]
    rw [e]
    refine ⟨?_, rfl, by decide⟩
    show [nI everyI] = [nI x]
    have : nI x = nI everyI := by
      show I.mk (nV x.lo) x.lopen (nV x.hi) x.hopen x.less = I.mk (nV bottomV) false (nV zV) false true
      rw [hz, c1.1, hrt.hz c2, hrt.ho c2, c2]
    rw [this]
  rw [if_neg c1] at hw ⊢
  by_cases c2 : (!x.less && cmpV x.lo x.hi == 0) = true
  · rw [if_pos c2] at hw ⊢
    simp only [Bool.and_eq_true, Bool.not_eq_true', beq_iff_eq] at c2
    obtain ⟨c2, c3⟩ := c2
    have hl : (verL x.lo).length ≤ 128 := by simp only [List.length_cons] at hw; omega
    obtain ⟨p1, p2⟩ := piece_one hx.lo hml hl
    have ha := alt_one (w := [61] ++ verL x.lo) (sgn_ne (a := 61) rfl (by decide)) (sgn_ne (a := 61) rfl (by decide)) (no_sp hml (by decide)) p2
    show (altR ([61] ++ verL x.lo)).1.l.map nI = _ ∧ (altR ([61] ++ verL x.lo)).2 = true ∧ (124 : UInt8) ∉ [61] ++ verL x.lo
    rw [ha]
    refine ⟨?_, rfl, cut _ hml (by decide)⟩
    show (meetR [everyI] (cmprR ([61] ++ verL x.lo)).1.l).map nI = _
    rw [sm_meet (a' := [everyI]) (b' := [oneI x.lo]) rfl p1, every_one hx.lo]
    have he' := emp_iff.1 he
    rw [c2, c3] at he'
    have he2 : x.lopen = false ∧ x.hopen = false := by
      rcases he' with h | h | h
      · cases h
      · omega
      · exact h.2
    have hz := cmp_zero c3
    have : nI x = nI (oneI x.lo) := by
      show I.mk (nV x.lo) x.lopen (nV x.hi) x.hopen x.less = I.mk (nV x.lo) false (nV x.lo) false false
      rw [he2.1, he2.2, c2, hz]
    rw [this]
  rw [if_neg c2] at hw ⊢
  cases hL : x.less with
  | true =>
    have hleast : leastR x = false := by
      rw [hL, Bool.and_true] at c1
      simpa using c1
    rw [hL, hleast] at hw
    rw [hleast]
    simp only [Bool.false_eq_true, if_false, if_true, List.append_nil] at hw ⊢
    have hl : (verL x.lo).length ≤ 128 := by rw [List.length_append] at hw; omega
    obtain ⟨p1, p2⟩ := piece_from hx.lo hml hl x.lopen
    have hh : ((if x.lopen = true then [62] else [62, 61]) : List UInt8).head? = some 62 := by cases x.lopen <;> rfl
    have hn : (32 : UInt8) ∉ ((if x.lopen = true then [62] else [62, 61]) : List UInt8) := by cases x.lopen <;> decide
    have hn2 : (124 : UInt8) ∉ ((if x.lopen = true then [62] else [62, 61]) : List UInt8) := by cases x.lopen <;> decide
    have ha := alt_one (sgn_ne hh (by decide)) (sgn_ne hh (by decide)) (no_sp hml hn) p2
    rw [ha]
    refine ⟨?_, rfl, cut _ hml hn2⟩
    show (meetR [everyI] _).map nI = _
    rw [sm_meet (a' := [everyI]) (b' := [fromI x.lo x.lopen]) rfl p1, every_from hx.lo]
    have : nI x = nI (fromI x.lo x.lopen) := by
      show I.mk (nV x.lo) x.lopen (nV x.hi) x.hopen x.less = I.mk (nV x.lo) x.lopen (nV zV) false true
      rw [hrt.hz hL, hrt.ho hL, hL]
    rw [this]
  | false =>
    have hh : ((if x.hopen = true then [60] else [60, 61]) : List UInt8).head? = some 60 := by cases x.hopen <;> rfl
    have hn : (32 : UInt8) ∉ ((if x.hopen = true then [60] else [60, 61]) : List UInt8) := by cases x.hopen <;> decide
    have hn2 : (124 : UInt8) ∉ ((if x.hopen = true then [60] else [60, 61]) : List UInt8) := by cases x.hopen <;> decide
    have hix : nI x = nI ⟨x.lo, x.lopen, x.hi, x.hopen, false⟩ := by
      show I.mk (nV x.lo) x.lopen (nV x.hi) x.hopen x.less = I.mk (nV x.lo) x.lopen (nV x.hi) x.hopen false
      rw [hL]
    cases hleast : leastR x with
    | true =>
      rw [hL, hleast] at hw
      simp only [Bool.false_eq_true, if_false, if_true, List.nil_append] at hw ⊢
      have hl : (verL x.hi).length ≤ 128 := by rw [List.length_append] at hw; omega
      simp only [leastR, zeroR, Bool.and_eq_true, Bool.not_eq_true', beq_iff_eq] at hleast
      have hz : nV x.lo = nV bottomV := cmp_zero hleast.2
      have hid : nI x = nI (downI x.hi x.hopen) := by
        rw [hix]
        show I.mk (nV x.lo) x.lopen (nV x.hi) x.hopen false = I.mk (nV bottomV) false (nV x.hi) x.hopen false
        rw [hz, hleast.1]
      have hed : emptyI (downI x.hi x.hopen) = false := by rw [← n_emp hid]; exact he
      obtain ⟨p1, p2⟩ := piece_down hx.hi hmh hl x.hopen hed
      have ha := alt_one (sgn_ne hh (by decide)) (sgn_ne hh (by decide)) (no_sp hmh hn) p2
      rw [ha]
      refine ⟨?_, rfl, cut _ hmh hn2⟩
      show (meetR [everyI] _).map nI = _
      rw [sm_meet (a' := [everyI]) (b' := [downI x.hi x.hopen]) rfl p1, every_down hed, hid]
    | false =>
      rw [hL, hleast] at hw
      simp only [Bool.false_eq_true, if_false, if_true] at hw ⊢
      have hl1 : (verL x.lo).length ≤ 128 := by simp only [List.length_append] at hw; omega
      have hl2 : (verL x.hi).length ≤ 128 := by simp only [List.length_append] at hw; omega
      have hg : ((if x.lopen = true then [62] else [62, 61]) : List UInt8).head? = some 62 := by cases x.lopen <;> rfl
      have hm1 : (32 : UInt8) ∉ ((if x.lopen = true then [62] else [62, 61]) : List UInt8) := by cases x.lopen <;> decide
      have hm2 : (124 : UInt8) ∉ ((if x.lopen = true then [62] else [62, 61]) : List UInt8) := by cases x.lopen <;> decide
      have hex : emptyI ⟨x.lo, x.lopen, x.hi, x.hopen, false⟩ = false := by rw [← n_emp hix]; exact he
      -- the upper half has something in it
      have hed : emptyI (downI x.hi x.hopen) = false := by
        have hb := bot_le hx.lo
        rw [emp_iff] at he ⊢
        rw [hL] at he
        right; left
        show cmpV bottomV x.hi < 0
        have hc : cmpV x.lo x.hi < 0 := by
          rcases he with h | h | h
          · cases h
          · exact h
          · rw [hL, Bool.not_false, Bool.true_and, h.1] at c2
            exact absurd rfl c2
        by_cases h0 : cmpV bottomV x.lo = 0
        · exact tr_cmpV.el _ _ _ h0 hc
        · exact tr_cmpV.ll _ _ _ (by omega) hc
      obtain ⟨p1, p2⟩ := piece_from hx.lo hml hl1 x.lopen
      obtain ⟨q1, q2⟩ := piece_down hx.hi hmh hl2 x.hopen hed
      have hne : ∀ b : UInt8, (62 : UInt8) ≠ b → (((if x.lopen = true then [62] else [62, 61]) ++ verL x.lo) ++ [32] ++ ((if x.hopen = true then [60] else [60, 61]) ++ verL x.hi) : List UInt8) ≠ [b] := by
        intro b hb
        rw [List.append_assoc, List.append_assoc]
        exact sgn_ne hg hb
      have ha := alt_two (hne 42 (by decide)) (hne 33 (by decide)) (no_sp hml hm1) (no_sp hmh hn) p2 q2
      rw [ha]
      refine ⟨?_, rfl, ?_⟩
      · show (meetR (meetR [everyI] _) _).map nI = _
        have h1 : (meetR [everyI] (cmprR ((if x.lopen = true then [62] else [62, 61]) ++ verL x.lo)).1.l).map nI = [fromI x.lo x.lopen].map nI := by
          rw [sm_meet (a' := [everyI]) (b' := [fromI x.lo x.lopen]) rfl p1, every_from hx.lo]; rfl
        rw [sm_meet (a' := [fromI x.lo x.lopen]) (b' := [downI x.hi x.hopen]) h1 q1, from_down hx.lo _ _ hex, hix]
      · intro h
        rcases List.mem_append.1 h with h | h
        · rcases List.mem_append.1 h with h | h
          · exact cut _ hml hm2 h
          · revert h; decide
        · exact cut _ hmh hn2 h
theorem pairs_last : ∀ (s : List I) (x : I) (l : List I), s ≠ [] → pairsS (s ++ x :: l) = true → lowB (s.getD (s.length - 1) default).lb x.lb < 0 ∧ touchI (s.getD (s.length - 1) default) x = false
  | [], _, _, h, _ => absurd rfl h
  | [y], x, l, _, h => by
    simp only [List.singleton_append, pairsS, Bool.and_eq_true, Bool.not_eq_true', decide_eq_true_eq] at h
    exact ⟨h.1.1, h.1.2⟩
  | y :: z :: s, x, l, _, h => by
    simp only [List.cons_append, pairsS, Bool.and_eq_true] at h
    have := pairs_last (z :: s) x l (by simp) h.2
    exact this
theorem ins_last {s : List I} {x : I} (h : s = [] ∨ lowB (s.getD (s.length - 1) default).lb x.lb < 0) : insR s x = s ++ [x] := by
  have hp : insPos s x s.length = s.length := by
    cases hs : s.length with
    | zero => rfl
    | succ k =>
      unfold insPos
      rcases h with h | h
      · rw [h] at hs; simp at hs
      · rw [hs, Nat.add_sub_cancel] at h
        rw [if_neg (by omega)]
  unfold insR
  rw [hp, List.take_length, List.drop_length]
theorem sort_id : ∀ (l s : List I), (∀ y ∈ l, emptyI y = false) → pairsS (s ++ l) = true → sortR l s = s ++ l
  | [], s, _, _ => by rw [List.append_nil]; rfl
  | x :: l, s, he, h => by
    have h1 : sortR (x :: l) s = sortR l (if emptyI x then s else insR s x) := rfl
    rw [h1, he x (by simp)]
    have hi : insR s x = s ++ [x] := ins_last (by
      by_cases hs : s = []
      · exact .inl hs
      · exact .inr (pairs_last s x l hs h).1)
    simp only [Bool.false_eq_true, if_false]
    rw [hi, sort_id l _ (fun y hy => he y (List.mem_cons_of_mem _ hy)) (by rw [List.append_assoc]; exact h), List.append_assoc]
    rfl
theorem fold_id : ∀ (l out : List I), pairsS (out ++ l) = true → l.foldl stepR out = out ++ l
  | [], out, _ => by rw [List.append_nil]; rfl
  | x :: l, out, h => by
    have hs : stepR out x = out ++ [x] := by
      unfold stepR
      cases out with
      | nil => rfl
      | cons y out =>
        have := (pairs_last (y :: out) x l (by simp) h).2
        simp only [List.isEmpty_cons, Bool.false_eq_true, if_false]
        rw [if_neg (by rw [this]; simp)]
    rw [List.foldl_cons, hs, fold_id l _ (by rw [List.append_assoc]; exact h), List.append_assoc]
    rfl
theorem join_id {l : List I} (he : ∀ y ∈ l, emptyI y = false) (h : pairsS l = true) : joinR l = l := by
  unfold joinR
  rw [sort_id l [] he h]
  exact fold_id _ [] h
theorem readGo_words : ∀ (l a : List I), (∀ x ∈ l, x.ok) → (∀ x ∈ l, rightI x = true ∧ emptyI x = false) → (∀ x ∈ l, (wordsR x).length ≤ 128) → ∃ b, readGoR (l.map wordsR) a = some b ∧ b.map nI = a.map nI ++ l.map nI
  | [], a, _, _, _ => ⟨a, rfl, by simp⟩
  | x :: l, a, ho, hr, hw => by
    obtain ⟨h1, h2, _⟩ := alt_word (ho x (by simp)) (hr x (by simp)).1 (hr x (by simp)).2 (hw x (by simp))
    obtain ⟨b, h3, h4⟩ := readGo_words l (a ++ (altR (wordsR x)).1.l) (fun y hy => ho y (List.mem_cons_of_mem _ hy)) (fun y hy => hr y (List.mem_cons_of_mem _ hy)) (fun y hy => hw y (List.mem_cons_of_mem _ hy))
    refine ⟨b, ?_, ?_⟩
    · rw [List.map_cons, readGoR, if_pos h2, h3]
    · rw [h4, List.map_append, h1, List.map_cons, List.append_assoc]
      rfl
theorem len_join {sep : List UInt8} : ∀ {l : List (List UInt8)} {p : List UInt8}, p ∈ l → p.length ≤ (joinL sep l).length
  | [q], p, h => by rw [List.mem_singleton.1 h, joinL_one]; exact Nat.le_refl _
  | q :: r :: l, p, h => by
    rw [joinL_cons, List.length_append, List.length_append]
    rcases List.mem_cons.1 h with rfl | h
    · omega
    · have := len_join (sep := sep) h; omega
theorem read_back {l : List I} (ho : ∀ x ∈ l, x.ok) (hm : mayR l = true) (ht : (txtR0 l).2 = 0) : (readR (txtR0 l).1).1.l.map nI = l.map nI ∧ (readR (txtR0 l).1).2 = 0 := by
  have hall := right_all hm
  have hm' := hm
  simp only [mayR, Bool.and_eq_true, decide_eq_true_eq] at hm'
  obtain ⟨⟨hlen, _⟩, hpairs⟩ := hm'
  cases hl0 : l with
  | nil => exact ⟨by simp [txtR0, textOf, mayR, pairsS, readR, altR, limR, lfR, joinR, sortR, lf0] <;> decide, by decide⟩
  | cons y m =>
    rw [← hl0]
    have hne : l ≠ [] := by rw [hl0]; simp
    have hl1 : ¬ (l.map wordsR).length = 0 := by rw [List.length_map]; exact fun h => hne (List.length_eq_zero_iff.1 h)
    unfold txtR0 textOf at ht ⊢
    rw [hm, if_neg (by simp), if_neg hl1] at ht ⊢
    by_cases hc : (joinL [32, 124, 124, 32] (l.map wordsR)).length > 128
    · rw [if_pos hc] at ht; cases ht
    rw [if_neg hc]
    show (readR (joinL orB (l.map wordsR))).1.l.map nI = _ ∧ (readR (joinL orB (l.map wordsR))).2 = 0
    have hc : ¬ (joinL orB (l.map wordsR)).length > 128 := hc
    have hwl : ∀ x ∈ l, (wordsR x).length ≤ 128 := fun x hx => by
      have := len_join (sep := orB) (List.mem_map.2 ⟨x, hx, rfl⟩ : wordsR x ∈ l.map wordsR)
      omega
    have hs : Lib.split (joinL orB (l.map wordsR)) orB = l.map wordsR := by
      refine split_join (m := 1) (c := 124) rfl (fun k hk => ?_) _ (by simpa using hne) (fun p hp => ?_)
      · have : k = 0 := by omega
        subst this
        decide
      · obtain ⟨x, hx, rfl⟩ := List.mem_map.1 hp
        exact (alt_word (ho x hx) (hall x hx).1 (hall x hx).2 (hwl x hx)).2.2
    obtain ⟨b, h1, h2⟩ := readGo_words l [] ho hall hwl
    have hj : (joinR b).map nI = l.map nI := by
      rw [← n_joinR, h2, List.map_nil, List.nil_append, n_joinR, join_id (fun y hy => (hall y hy).2) hpairs]
    have e : readR (joinL orB (l.map wordsR)) = limR (lfR (joinR b)) := by
      unfold readR
      rw [if_neg hc, hs, List.length_map, if_neg (by omega), h1]
    have hlb : ¬ (lfR (joinR b)).l.length > 16 := by
      show ¬ (joinR b).length > 16
      rw [n_len hj]; omega
    rw [e]
    unfold limR
    rw [if_neg hlb]
    exact ⟨hj, rfl⟩
theorem form_back {s : List UInt8} (hf : (formS0 s).2 = 0) : (readS s).2 = 0 ∧ mayS (readS s).1.l = true ∧ (readS (formS0 s).1).2 = 0 ∧ (readS (formS0 s).1).1.l.map nI = (readS s).1.l.map nI ∧ formS0 (formS0 s).1 = ((formS0 s).1, 0) := by
  have he : (readS s).2 = 0 := by
    by_cases h : (readS s).2 = 0
    · exact h
    · exfalso
      have h2 : ((readS s).2 != 0) = true := by simpa using h
      unfold formS0 at hf
      rw [if_pos h2] at hf
      exact h hf
  have hfe : formS0 s = txtS0 (readS s).1.l := by unfold formS0; rw [he]; rfl
  rw [hfe] at hf ⊢
  have htx : txtS0 (readS s).1.l = txtR0 (readS s).1.l := text_same _
  have hmS : mayS (readS s).1.l = true := by
    cases hm : mayS (readS s).1.l with
    | true => rfl
    | false => unfold txtS0 textOf at hf; rw [hm] at hf; cases hf
  have hmR : mayR (readS s).1.l = true := by rw [← may_same]; exact hmS
  rw [htx] at hf ⊢
  obtain ⟨h1, h2⟩ := read_back (readS_is s).ok hmR hf
  obtain ⟨h3, h4⟩ := read_same (txtR0 (readS s).1.l).1
  rw [h1] at h3
  rw [h2] at h4
  refine ⟨he, hmS, h4, h3, ?_⟩
  have h5 : formS0 (txtR0 (readS s).1.l).1 = txtS0 (readS (txtR0 (readS s).1.l).1).1.l := by unfold formS0; rw [h4]; rfl
  rw [h5, txt_same h3, ← hf]
theorem den_cMay (x : LF) (h : x.is 16) : Den E1 12 [x.p] (intP (cMay x.l)) := by rw [cMay_eq]; exact den_span_May x.l x.k x.nl x.full h.sl h.ok
theorem den_SpanBack (s : List UInt8) : Den E1 6 [strP s] (bolP true) := by
  have hS := readS_is s
  have hT := readS_is (cFormS s).1
  have hd : Den E1 16 [(cReadS (cFormS s).1).1.p, (cReadS s).1.p] (bolP (sameLs (cReadS (cFormS s).1).1.l (cReadS s).1.l)) := by
    rw [cReadS_eq, cReadS_eq]
    exact den_same _ _ _ _ _ _ _ _ hT.sl hS.sl hT.ok hS.ok (by have := hT.len; unfold small; omega)
  refine den1 2000 _ rfl (by kernel_rfl) rfl rfl rfl (Eq.mpr (law08_SpanBack_go s _) ⟨den_cReadS s, den_span_Form s, fun h => ⟨den_alive, rfl⟩, fun h => ?_⟩)
  have hf : (formS0 s).2 = 0 := by rw [cFormS_eq] at h; simpa using h
  obtain ⟨h1, h2, h3, h4, h5⟩ := form_back hf
  have e1 : ((cReadS s).2 != 0) = false := by rw [cReadS_eq, h1]; rfl
  have e2 : (cMay (cReadS s).1.l != 0) = false := by rw [cReadS_eq, cMay_eq, h2]; rfl
  have e3 : ((cReadS (cFormS s).1).2 == 0) = true := by rw [cReadS_eq, cFormS_eq, h3]; rfl
  have e4 : ((cFormS (cFormS s).1).2 == 0) = true := by rw [cFormS_eq, cFormS_eq, h5]; rfl
  have e5 : (ByteArray.toList (bs (cFormS (cFormS s).1).1) == ByteArray.toList (bs (cFormS s).1)) = true := by rw [cFormS_eq, cFormS_eq, h5]; exact beq_self_eq_true _
  have e6 : sameLs (cReadS (cFormS s).1).1.l (cReadS s).1.l = true := by rw [cReadS_eq, cReadS_eq, cFormS_eq]; exact n_same h4
  have e7 : cIsS (cFormS s).1 = true := by rw [cIsS_eq, cFormS_eq, h5]; simp
  refine ⟨fun h => ?_, fun _ => ⟨den_cMay _ (by rw [cReadS_eq]; exact hS), fun h => ?_, fun _ => ⟨den_cReadS _, den_span_Form _, fun _ => ⟨fun _ => ⟨fun _ => ⟨hd, fun _ => ⟨den_span_Is _, fun _ => ⟨den_alive, rfl⟩, fun h => ?_⟩, fun h => ?_⟩, fun h => ?_⟩, fun h => ?_⟩, fun h => ?_⟩⟩⟩
  · rw [e1] at h; cases h
  · rw [e2] at h; cases h
  · rw [e7] at h; cases h
  · rw [e6] at h; cases h
  · rw [e5] at h; cases h
  · rw [e4] at h; cases h
  · rw [e3] at h; cases h
end Go.Proofs.YtlhfgonjcpapnaaGreatDoor.Abs

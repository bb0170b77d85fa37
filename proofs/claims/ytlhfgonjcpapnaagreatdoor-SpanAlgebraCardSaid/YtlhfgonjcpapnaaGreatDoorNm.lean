/-
  The abstract machine over the model, its soundness, walks of the program's functions and what they compute. Conditions: the values are of their types.
-/
import Derived.Test.YtlhfgonjcpapnaaGreatDoorNl

set_option linter.all false
set_option linter.unnecessarySimpa false

namespace Go.Proofs.YtlhfgonjcpapnaaGreatDoor.Abs
open Go Go.Proofs
theorem law08_SpanAlgebra_go (s : List UInt8) (t : List UInt8) (v : List UInt8) (r : PV) : FnGo E1 Tryz.f9 [strP s, strP t, strP v] r 2000 (.res (.tup [LF.p (Prod.fst (cReadS s)), intP (Prod.snd (cReadS s))]) (.res (.tup [LF.p (Prod.fst (cReadS t)), intP (Prod.snd (cReadS t))]) (.res (.tup [V.p (rdV true v), intP (errV (rdOk v))]) (.fork (.lts 8 (.res (bolP true) (.hole 0))) (.lts 3 (.fork (.lts 4 (.res (bolP true) (.hole 0))) (.lts 3 (.fork (.res (bolP true) (.hole 0)) (.res (.tup [bolP (Prod.fst (cHasP (LF.l (Prod.fst (cReadS s))) (rdV true v))), intP (Prod.snd (cHasP (LF.l (Prod.fst (cReadS s))) (rdV true v)))]) (.res (.tup [bolP (Prod.fst (cHasP (LF.l (Prod.fst (cReadS t))) (rdV true v))), intP (Prod.snd (cHasP (LF.l (Prod.fst (cReadS t))) (rdV true v)))]) (.res (.tup [LF.p (Prod.fst (cMtS (LF.l (Prod.fst (cReadS s))) (LF.l (Prod.fst (cReadS t))))), intP (Prod.snd (cMtS (LF.l (Prod.fst (cReadS s))) (LF.l (Prod.fst (cReadS t)))))]) (.fork (.res (.tup [bolP (Prod.fst (cHasP (LF.l (Prod.fst (cMtS (LF.l (Prod.fst (cReadS s))) (LF.l (Prod.fst (cReadS t)))))) (rdV true v))), intP (Prod.snd (cHasP (LF.l (Prod.fst (cMtS (LF.l (Prod.fst (cReadS s))) (LF.l (Prod.fst (cReadS t)))))) (rdV true v)))]) (.fork (.lts 7 (.hole 0)) (.lts 3 (.fork (.lts 5 (.fork (.hole 0) (.res (.tup [LF.p (Prod.fst (cJnS (LF.l (Prod.fst (cReadS s))) (LF.l (Prod.fst (cReadS t))))), intP (Prod.snd (cJnS (LF.l (Prod.fst (cReadS s))) (LF.l (Prod.fst (cReadS t)))))]) (.fork (.res (.tup [bolP (Prod.fst (cHasP (LF.l (Prod.fst (cJnS (LF.l (Prod.fst (cReadS s))) (LF.l (Prod.fst (cReadS t)))))) (rdV true v))), intP (Prod.snd (cHasP (LF.l (Prod.fst (cJnS (LF.l (Prod.fst (cReadS s))) (LF.l (Prod.fst (cReadS t)))))) (rdV true v)))]) (.fork (.lts 7 (.hole 0)) (.lts 3 (.br true (.lts 5 (.fork (.hole 0) (.res (.tup [LF.p (Prod.fst (cNtS (LF.l (Prod.fst (cReadS s))))), intP (Prod.snd (cNtS (LF.l (Prod.fst (cReadS s)))))]) (.fork (.res (bolP true) (.hole 0)) (.res (.tup [bolP (Prod.fst (cHasP (LF.l (Prod.fst (cNtS (LF.l (Prod.fst (cReadS s)))))) (rdV true v))), intP (Prod.snd (cHasP (LF.l (Prod.fst (cNtS (LF.l (Prod.fst (cReadS s)))))) (rdV true v)))]) (.res (.tup [.sl (LF.k (Prod.fst (cNtS (LF.l (Prod.fst (cNtS (LF.l (Prod.fst (cReadS s))))))))) (LF.nl (Prod.fst (cNtS (LF.l (Prod.fst (cNtS (LF.l (Prod.fst (cReadS s))))))))) (LF.full (Prod.fst (cNtS (LF.l (Prod.fst (cNtS (LF.l (Prod.fst (cReadS s))))))))) (List.map I.p (LF.l (Prod.fst (cNtS (LF.l (Prod.fst (cNtS (LF.l (Prod.fst (cReadS s)))))))))), intP (Prod.snd (cNtS (LF.l (Prod.fst (cNtS (LF.l (Prod.fst (cReadS s))))))))]) (.fork (.lts 5 (.fork (.lts 3 (.fork (.lts 8 (.res (bolP true) (.lit (.hole 0)))) (.lts 3 (.res (bolP (cSame (LF.l (Prod.fst (cNtS (LF.l (Prod.fst (cNtS (LF.l (Prod.fst (cReadS s))))))))) (LF.l (Prod.fst (cReadS s))))) (.lts 3 (.fork (.lit (.res (bolP true) (.lit (.hole 0)))) (.lit (.lit (.hole 0))))))))) (.lts 8 (.hole 0)))) (.lts 14 (.hole 0))))))))))))) (.res (.tup [LF.p (Prod.fst (cNtS (LF.l (Prod.fst (cReadS s))))), intP (Prod.snd (cNtS (LF.l (Prod.fst (cReadS s)))))]) (.fork (.res (bolP true) (.hole 0)) (.res (.tup [bolP (Prod.fst (cHasP (LF.l (Prod.fst (cNtS (LF.l (Prod.fst (cReadS s)))))) (rdV true v))), intP (Prod.snd (cHasP (LF.l (Prod.fst (cNtS (LF.l (Prod.fst (cReadS s)))))) (rdV true v)))]) (.res (.tup [.sl (LF.k (Prod.fst (cNtS (LF.l (Prod.fst (cNtS (LF.l (Prod.fst (cReadS s))))))))) (LF.nl (Prod.fst (cNtS (LF.l (Prod.fst (cNtS (LF.l (Prod.fst (cReadS s))))))))) (LF.full (Prod.fst (cNtS (LF.l (Prod.fst (cNtS (LF.l (Prod.fst (cReadS s))))))))) (List.map I.p (LF.l (Prod.fst (cNtS (LF.l (Prod.fst (cNtS (LF.l (Prod.fst (cReadS s)))))))))), intP (Prod.snd (cNtS (LF.l (Prod.fst (cNtS (LF.l (Prod.fst (cReadS s))))))))]) (.fork (.lts 5 (.fork (.lts 3 (.fork (.lts 8 (.res (bolP true) (.lit (.hole 0)))) (.lts 3 (.res (bolP (cSame (LF.l (Prod.fst (cNtS (LF.l (Prod.fst (cNtS (LF.l (Prod.fst (cReadS s))))))))) (LF.l (Prod.fst (cReadS s))))) (.lts 3 (.fork (.lit (.res (bolP true) (.lit (.hole 0)))) (.lit (.lit (.hole 0))))))))) (.lts 8 (.hole 0)))) (.lts 14 (.hole 0))))))))))) (.lts 5 (.fork (.hole 0) (.res (.tup [LF.p (Prod.fst (cJnS (LF.l (Prod.fst (cReadS s))) (LF.l (Prod.fst (cReadS t))))), intP (Prod.snd (cJnS (LF.l (Prod.fst (cReadS s))) (LF.l (Prod.fst (cReadS t)))))]) (.fork (.res (.tup [bolP (Prod.fst (cHasP (LF.l (Prod.fst (cJnS (LF.l (Prod.fst (cReadS s))) (LF.l (Prod.fst (cReadS t)))))) (rdV true v))), intP (Prod.snd (cHasP (LF.l (Prod.fst (cJnS (LF.l (Prod.fst (cReadS s))) (LF.l (Prod.fst (cReadS t)))))) (rdV true v)))]) (.fork (.lts 7 (.hole 0)) (.lts 3 (.br false (.lts 5 (.fork (.hole 0) (.res (.tup [LF.p (Prod.fst (cNtS (LF.l (Prod.fst (cReadS s))))), intP (Prod.snd (cNtS (LF.l (Prod.fst (cReadS s)))))]) (.fork (.res (bolP true) (.hole 0)) (.res (.tup [bolP (Prod.fst (cHasP (LF.l (Prod.fst (cNtS (LF.l (Prod.fst (cReadS s)))))) (rdV true v))), intP (Prod.snd (cHasP (LF.l (Prod.fst (cNtS (LF.l (Prod.fst (cReadS s)))))) (rdV true v)))]) (.res (.tup [.sl (LF.k (Prod.fst (cNtS (LF.l (Prod.fst (cNtS (LF.l (Prod.fst (cReadS s))))))))) (LF.nl (Prod.fst (cNtS (LF.l (Prod.fst (cNtS (LF.l (Prod.fst (cReadS s))))))))) (LF.full (Prod.fst (cNtS (LF.l (Prod.fst (cNtS (LF.l (Prod.fst (cReadS s))))))))) (List.map I.p (LF.l (Prod.fst (cNtS (LF.l (Prod.fst (cNtS (LF.l (Prod.fst (cReadS s)))))))))), intP (Prod.snd (cNtS (LF.l (Prod.fst (cNtS (LF.l (Prod.fst (cReadS s))))))))]) (.fork (.lts 5 (.fork (.lts 3 (.fork (.lts 8 (.res (bolP true) (.lit (.hole 0)))) (.lts 3 (.res (bolP (cSame (LF.l (Prod.fst (cNtS (LF.l (Prod.fst (cNtS (LF.l (Prod.fst (cReadS s))))))))) (LF.l (Prod.fst (cReadS s))))) (.lts 3 (.fork (.lit (.res (bolP true) (.lit (.hole 0)))) (.lit (.lit (.hole 0))))))))) (.lts 8 (.hole 0)))) (.lts 14 (.hole 0))))))))))))) (.res (.tup [LF.p (Prod.fst (cNtS (LF.l (Prod.fst (cReadS s))))), intP (Prod.snd (cNtS (LF.l (Prod.fst (cReadS s)))))]) (.fork (.res (bolP true) (.hole 0)) (.res (.tup [bolP (Prod.fst (cHasP (LF.l (Prod.fst (cNtS (LF.l (Prod.fst (cReadS s)))))) (rdV true v))), intP (Prod.snd (cHasP (LF.l (Prod.fst (cNtS (LF.l (Prod.fst (cReadS s)))))) (rdV true v)))]) (.res (.tup [.sl (LF.k (Prod.fst (cNtS (LF.l (Prod.fst (cNtS (LF.l (Prod.fst (cReadS s))))))))) (LF.nl (Prod.fst (cNtS (LF.l (Prod.fst (cNtS (LF.l (Prod.fst (cReadS s))))))))) (LF.full (Prod.fst (cNtS (LF.l (Prod.fst (cNtS (LF.l (Prod.fst (cReadS s))))))))) (List.map I.p (LF.l (Prod.fst (cNtS (LF.l (Prod.fst (cNtS (LF.l (Prod.fst (cReadS s)))))))))), intP (Prod.snd (cNtS (LF.l (Prod.fst (cNtS (LF.l (Prod.fst (cReadS s))))))))]) (.fork (.lts 5 (.fork (.lts 3 (.fork (.lts 8 (.res (bolP true) (.lit (.hole 0)))) (.lts 3 (.res (bolP (cSame (LF.l (Prod.fst (cNtS (LF.l (Prod.fst (cNtS (LF.l (Prod.fst (cReadS s))))))))) (LF.l (Prod.fst (cReadS s))))) (.lts 3 (.fork (.lit (.res (bolP true) (.lit (.hole 0)))) (.lit (.lit (.hole 0))))))))) (.lts 8 (.hole 0)))) (.lts 14 (.hole 0))))))))))))))) (.res (.tup [LF.p (Prod.fst (cJnS (LF.l (Prod.fst (cReadS s))) (LF.l (Prod.fst (cReadS t))))), intP (Prod.snd (cJnS (LF.l (Prod.fst (cReadS s))) (LF.l (Prod.fst (cReadS t)))))]) (.fork (.res (.tup [bolP (Prod.fst (cHasP (LF.l (Prod.fst (cJnS (LF.l (Prod.fst (cReadS s))) (LF.l (Prod.fst (cReadS t)))))) (rdV true v))), intP (Prod.snd (cHasP (LF.l (Prod.fst (cJnS (LF.l (Prod.fst (cReadS s))) (LF.l (Prod.fst (cReadS t)))))) (rdV true v)))]) (.fork (.lts 7 (.hole 0)) (.lts 3 (.fork (.lts 5 (.fork (.hole 0) (.res (.tup [LF.p (Prod.fst (cNtS (LF.l (Prod.fst (cReadS s))))), intP (Prod.snd (cNtS (LF.l (Prod.fst (cReadS s)))))]) (.fork (.res (bolP true) (.hole 0)) (.res (.tup [bolP (Prod.fst (cHasP (LF.l (Prod.fst (cNtS (LF.l (Prod.fst (cReadS s)))))) (rdV true v))), intP (Prod.snd (cHasP (LF.l (Prod.fst (cNtS (LF.l (Prod.fst (cReadS s)))))) (rdV true v)))]) (.res (.tup [.sl (LF.k (Prod.fst (cNtS (LF.l (Prod.fst (cNtS (LF.l (Prod.fst (cReadS s))))))))) (LF.nl (Prod.fst (cNtS (LF.l (Prod.fst (cNtS (LF.l (Prod.fst (cReadS s))))))))) (LF.full (Prod.fst (cNtS (LF.l (Prod.fst (cNtS (LF.l (Prod.fst (cReadS s))))))))) (List.map I.p (LF.l (Prod.fst (cNtS (LF.l (Prod.fst (cNtS (LF.l (Prod.fst (cReadS s)))))))))), intP (Prod.snd (cNtS (LF.l (Prod.fst (cNtS (LF.l (Prod.fst (cReadS s))))))))]) (.fork (.lts 5 (.fork (.lts 3 (.fork (.lts 8 (.res (bolP true) (.lit (.hole 0)))) (.lts 3 (.res (bolP (cSame (LF.l (Prod.fst (cNtS (LF.l (Prod.fst (cNtS (LF.l (Prod.fst (cReadS s))))))))) (LF.l (Prod.fst (cReadS s))))) (.lts 3 (.fork (.lit (.res (bolP true) (.lit (.hole 0)))) (.lit (.lit (.hole 0))))))))) (.lts 8 (.hole 0)))) (.lts 14 (.hole 0))))))))) (.lts 5 (.fork (.hole 0) (.res (.tup [LF.p (Prod.fst (cNtS (LF.l (Prod.fst (cReadS s))))), intP (Prod.snd (cNtS (LF.l (Prod.fst (cReadS s)))))]) (.fork (.res (bolP true) (.hole 0)) (.res (.tup [bolP (Prod.fst (cHasP (LF.l (Prod.fst (cNtS (LF.l (Prod.fst (cReadS s)))))) (rdV true v))), intP (Prod.snd (cHasP (LF.l (Prod.fst (cNtS (LF.l (Prod.fst (cReadS s)))))) (rdV true v)))]) (.res (.tup [.sl (LF.k (Prod.fst (cNtS (LF.l (Prod.fst (cNtS (LF.l (Prod.fst (cReadS s))))))))) (LF.nl (Prod.fst (cNtS (LF.l (Prod.fst (cNtS (LF.l (Prod.fst (cReadS s))))))))) (LF.full (Prod.fst (cNtS (LF.l (Prod.fst (cNtS (LF.l (Prod.fst (cReadS s))))))))) (List.map I.p (LF.l (Prod.fst (cNtS (LF.l (Prod.fst (cNtS (LF.l (Prod.fst (cReadS s)))))))))), intP (Prod.snd (cNtS (LF.l (Prod.fst (cNtS (LF.l (Prod.fst (cReadS s))))))))]) (.fork (.lts 5 (.fork (.lts 3 (.fork (.lts 8 (.res (bolP true) (.lit (.hole 0)))) (.lts 3 (.res (bolP (cSame (LF.l (Prod.fst (cNtS (LF.l (Prod.fst (cNtS (LF.l (Prod.fst (cReadS s))))))))) (LF.l (Prod.fst (cReadS s))))) (.lts 3 (.fork (.lit (.res (bolP true) (.lit (.hole 0)))) (.lit (.lit (.hole 0))))))))) (.lts 8 (.hole 0)))) (.lts 14 (.hole 0))))))))))))) (.res (.tup [LF.p (Prod.fst (cNtS (LF.l (Prod.fst (cReadS s))))), intP (Prod.snd (cNtS (LF.l (Prod.fst (cReadS s)))))]) (.fork (.res (bolP true) (.hole 0)) (.res (.tup [bolP (Prod.fst (cHasP (LF.l (Prod.fst (cNtS (LF.l (Prod.fst (cReadS s)))))) (rdV true v))), intP (Prod.snd (cHasP (LF.l (Prod.fst (cNtS (LF.l (Prod.fst (cReadS s)))))) (rdV true v)))]) (.res (.tup [.sl (LF.k (Prod.fst (cNtS (LF.l (Prod.fst (cNtS (LF.l (Prod.fst (cReadS s))))))))) (LF.nl (Prod.fst (cNtS (LF.l (Prod.fst (cNtS (LF.l (Prod.fst (cReadS s))))))))) (LF.full (Prod.fst (cNtS (LF.l (Prod.fst (cNtS (LF.l (Prod.fst (cReadS s))))))))) (List.map I.p (LF.l (Prod.fst (cNtS (LF.l (Prod.fst (cNtS (LF.l (Prod.fst (cReadS s)))))))))), intP (Prod.snd (cNtS (LF.l (Prod.fst (cNtS (LF.l (Prod.fst (cReadS s))))))))]) (.fork (.lts 5 (.fork (.lts 3 (.fork (.lts 8 (.res (bolP true) (.lit (.hole 0)))) (.lts 3 (.res (bolP (cSame (LF.l (Prod.fst (cNtS (LF.l (Prod.fst (cNtS (LF.l (Prod.fst (cReadS s))))))))) (LF.l (Prod.fst (cReadS s))))) (.lts 3 (.fork (.lit (.res (bolP true) (.lit (.hole 0)))) (.lit (.lit (.hole 0))))))))) (.lts 8 (.hole 0)))) (.lts 14 (.hole 0))))))))))))))))))))) =
  ((Den E1 19 [strP s] (.tup [LF.p (Prod.fst (cReadS s)), intP (Prod.snd (cReadS s))])) ∧
 (Den E1 19 [strP t] (.tup [LF.p (Prod.fst (cReadS t)), intP (Prod.snd (cReadS t))])) ∧
 (Den E1 34 [strP v] (.tup [V.p (rdV true v), intP (errV (rdOk v))])) ∧
 ((20 : Nat) = 20) ∧
 ((Prod.snd (cReadS s) != (0 : Int)) = true →
 (Den E1 10 [] (bolP true)) ∧
 (bolP true) = r) ∧
 ((Prod.snd (cReadS s) != (0 : Int)) = false →
 ((Prod.snd (cReadS t) != (0 : Int)) = true →
 (Den E1 10 [] (bolP true)) ∧
 (bolP true) = r) ∧
 ((Prod.snd (cReadS t) != (0 : Int)) = false →
 ((errV (rdOk v) != (0 : Int)) = true →
 (Den E1 10 [] (bolP true)) ∧
 (bolP true) = r) ∧
 ((errV (rdOk v) != (0 : Int)) = false →
 ((20 : Nat) = 20) ∧
 (Den E1 25 [LF.p (Prod.fst (cReadS s)), V.p (rdV true v)] (.tup [bolP (Prod.fst (cHasP (LF.l (Prod.fst (cReadS s))) (rdV true v))), intP (Prod.snd (cHasP (LF.l (Prod.fst (cReadS s))) (rdV true v)))])) ∧
 ((20 : Nat) = 20) ∧
 (Den E1 25 [LF.p (Prod.fst (cReadS t)), V.p (rdV true v)] (.tup [bolP (Prod.fst (cHasP (LF.l (Prod.fst (cReadS t))) (rdV true v))), intP (Prod.snd (cHasP (LF.l (Prod.fst (cReadS t))) (rdV true v)))])) ∧
 (Den E1 28 [LF.p (Prod.fst (cReadS s)), LF.p (Prod.fst (cReadS t))] (.tup [LF.p (Prod.fst (cMtS (LF.l (Prod.fst (cReadS s))) (LF.l (Prod.fst (cReadS t))))), intP (Prod.snd (cMtS (LF.l (Prod.fst (cReadS s))) (LF.l (Prod.fst (cReadS t)))))])) ∧
 ((Prod.snd (cMtS (LF.l (Prod.fst (cReadS s))) (LF.l (Prod.fst (cReadS t)))) == (0 : Int)) = true →
 ((20 : Nat) = 20) ∧
 (Den E1 25 [LF.p (Prod.fst (cMtS (LF.l (Prod.fst (cReadS s))) (LF.l (Prod.fst (cReadS t))))), V.p (rdV true v)] (.tup [bolP (Prod.fst (cHasP (LF.l (Prod.fst (cMtS (LF.l (Prod.fst (cReadS s))) (LF.l (Prod.fst (cReadS t)))))) (rdV true v))), intP (Prod.snd (cHasP (LF.l (Prod.fst (cMtS (LF.l (Prod.fst (cReadS s))) (LF.l (Prod.fst (cReadS t)))))) (rdV true v)))])) ∧
 ((Prod.snd (cHasP (LF.l (Prod.fst (cMtS (LF.l (Prod.fst (cReadS s))) (LF.l (Prod.fst (cReadS t)))))) (rdV true v)) != (0 : Int)) = true →
 (bolP false) = r) ∧
 ((Prod.snd (cHasP (LF.l (Prod.fst (cMtS (LF.l (Prod.fst (cReadS s))) (LF.l (Prod.fst (cReadS t)))))) (rdV true v)) != (0 : Int)) = false →
 ((Prod.fst (cHasP (LF.l (Prod.fst (cReadS s))) (rdV true v))) = true →
 ((!Prod.fst (cHasP (LF.l (Prod.fst (cMtS (LF.l (Prod.fst (cReadS s))) (LF.l (Prod.fst (cReadS t)))))) (rdV true v)) == Prod.fst (cHasP (LF.l (Prod.fst (cReadS t))) (rdV true v))) = true →
 (bolP false) = r) ∧
 ((!Prod.fst (cHasP (LF.l (Prod.fst (cMtS (LF.l (Prod.fst (cReadS s))) (LF.l (Prod.fst (cReadS t)))))) (rdV true v)) == Prod.fst (cHasP (LF.l (Prod.fst (cReadS t))) (rdV true v))) = false →
 (Den E1 29 [LF.p (Prod.fst (cReadS s)), LF.p (Prod.fst (cReadS t))] (.tup [LF.p (Prod.fst (cJnS (LF.l (Prod.fst (cReadS s))) (LF.l (Prod.fst (cReadS t))))), intP (Prod.snd (cJnS (LF.l (Prod.fst (cReadS s))) (LF.l (Prod.fst (cReadS t)))))])) ∧
 ((Prod.snd (cJnS (LF.l (Prod.fst (cReadS s))) (LF.l (Prod.fst (cReadS t)))) == (0 : Int)) = true →
 ((20 : Nat) = 20) ∧
 (Den E1 25 [LF.p (Prod.fst (cJnS (LF.l (Prod.fst (cReadS s))) (LF.l (Prod.fst (cReadS t))))), V.p (rdV true v)] (.tup [bolP (Prod.fst (cHasP (LF.l (Prod.fst (cJnS (LF.l (Prod.fst (cReadS s))) (LF.l (Prod.fst (cReadS t)))))) (rdV true v))), intP (Prod.snd (cHasP (LF.l (Prod.fst (cJnS (LF.l (Prod.fst (cReadS s))) (LF.l (Prod.fst (cReadS t)))))) (rdV true v)))])) ∧
 ((Prod.snd (cHasP (LF.l (Prod.fst (cJnS (LF.l (Prod.fst (cReadS s))) (LF.l (Prod.fst (cReadS t)))))) (rdV true v)) != (0 : Int)) = true →
 (bolP false) = r) ∧
 ((Prod.snd (cHasP (LF.l (Prod.fst (cJnS (LF.l (Prod.fst (cReadS s))) (LF.l (Prod.fst (cReadS t)))))) (rdV true v)) != (0 : Int)) = false →
 ((Prod.fst (cHasP (LF.l (Prod.fst (cReadS s))) (rdV true v))) = true) ∧
 ((!Prod.fst (cHasP (LF.l (Prod.fst (cJnS (LF.l (Prod.fst (cReadS s))) (LF.l (Prod.fst (cReadS t)))))) (rdV true v)) == true) = true →
 (bolP false) = r) ∧
 ((!Prod.fst (cHasP (LF.l (Prod.fst (cJnS (LF.l (Prod.fst (cReadS s))) (LF.l (Prod.fst (cReadS t)))))) (rdV true v)) == true) = false →
 (Den E1 30 [LF.p (Prod.fst (cReadS s))] (.tup [LF.p (Prod.fst (cNtS (LF.l (Prod.fst (cReadS s))))), intP (Prod.snd (cNtS (LF.l (Prod.fst (cReadS s)))))])) ∧
 ((Prod.snd (cNtS (LF.l (Prod.fst (cReadS s)))) != (0 : Int)) = true →
 (Den E1 10 [] (bolP true)) ∧
 (bolP true) = r) ∧
 ((Prod.snd (cNtS (LF.l (Prod.fst (cReadS s)))) != (0 : Int)) = false →
 ((20 : Nat) = 20) ∧
 (Den E1 25 [LF.p (Prod.fst (cNtS (LF.l (Prod.fst (cReadS s))))), V.p (rdV true v)] (.tup [bolP (Prod.fst (cHasP (LF.l (Prod.fst (cNtS (LF.l (Prod.fst (cReadS s)))))) (rdV true v))), intP (Prod.snd (cHasP (LF.l (Prod.fst (cNtS (LF.l (Prod.fst (cReadS s)))))) (rdV true v)))])) ∧
 (Den E1 30 [LF.p (Prod.fst (cNtS (LF.l (Prod.fst (cReadS s)))))] (.tup [.sl (LF.k (Prod.fst (cNtS (LF.l (Prod.fst (cNtS (LF.l (Prod.fst (cReadS s))))))))) (LF.nl (Prod.fst (cNtS (LF.l (Prod.fst (cNtS (LF.l (Prod.fst (cReadS s))))))))) (LF.full (Prod.fst (cNtS (LF.l (Prod.fst (cNtS (LF.l (Prod.fst (cReadS s))))))))) (List.map I.p (LF.l (Prod.fst (cNtS (LF.l (Prod.fst (cNtS (LF.l (Prod.fst (cReadS s)))))))))), intP (Prod.snd (cNtS (LF.l (Prod.fst (cNtS (LF.l (Prod.fst (cReadS s))))))))])) ∧
 ((Prod.snd (cHasP (LF.l (Prod.fst (cNtS (LF.l (Prod.fst (cReadS s)))))) (rdV true v)) == (0 : Int)) = true →
 ((Prod.fst (cHasP (LF.l (Prod.fst (cNtS (LF.l (Prod.fst (cReadS s)))))) (rdV true v)) == !Prod.fst (cHasP (LF.l (Prod.fst (cReadS s))) (rdV true v))) = true →
 ((Prod.snd (cNtS (LF.l (Prod.fst (cNtS (LF.l (Prod.fst (cReadS s))))))) != (0 : Int)) = true →
 (Den E1 10 [] (bolP true)) ∧
 (bolP true) = r) ∧
 ((Prod.snd (cNtS (LF.l (Prod.fst (cNtS (LF.l (Prod.fst (cReadS s))))))) != (0 : Int)) = false →
 (Den E1 16 [.sl (LF.k (Prod.fst (cNtS (LF.l (Prod.fst (cNtS (LF.l (Prod.fst (cReadS s))))))))) (LF.nl (Prod.fst (cNtS (LF.l (Prod.fst (cNtS (LF.l (Prod.fst (cReadS s))))))))) (LF.full (Prod.fst (cNtS (LF.l (Prod.fst (cNtS (LF.l (Prod.fst (cReadS s))))))))) (List.map I.p (LF.l (Prod.fst (cNtS (LF.l (Prod.fst (cNtS (LF.l (Prod.fst (cReadS s)))))))))), LF.p (Prod.fst (cReadS s))] (bolP (cSame (LF.l (Prod.fst (cNtS (LF.l (Prod.fst (cNtS (LF.l (Prod.fst (cReadS s))))))))) (LF.l (Prod.fst (cReadS s)))))) ∧
 ((cSame (LF.l (Prod.fst (cNtS (LF.l (Prod.fst (cNtS (LF.l (Prod.fst (cReadS s))))))))) (LF.l (Prod.fst (cReadS s)))) = true →
 (Den E1 10 [] (bolP true)) ∧
 (bolP true) = r) ∧
 ((cSame (LF.l (Prod.fst (cNtS (LF.l (Prod.fst (cNtS (LF.l (Prod.fst (cReadS s))))))))) (LF.l (Prod.fst (cReadS s)))) = false →
 (bolP false) = r))) ∧
 ((Prod.fst (cHasP (LF.l (Prod.fst (cNtS (LF.l (Prod.fst (cReadS s)))))) (rdV true v)) == !Prod.fst (cHasP (LF.l (Prod.fst (cReadS s))) (rdV true v))) = false →
 (bolP false) = r)) ∧
 ((Prod.snd (cHasP (LF.l (Prod.fst (cNtS (LF.l (Prod.fst (cReadS s)))))) (rdV true v)) == (0 : Int)) = false →
 (bolP false) = r))))) ∧
 ((Prod.snd (cJnS (LF.l (Prod.fst (cReadS s))) (LF.l (Prod.fst (cReadS t)))) == (0 : Int)) = false →
 (Den E1 30 [LF.p (Prod.fst (cReadS s))] (.tup [LF.p (Prod.fst (cNtS (LF.l (Prod.fst (cReadS s))))), intP (Prod.snd (cNtS (LF.l (Prod.fst (cReadS s)))))])) ∧
 ((Prod.snd (cNtS (LF.l (Prod.fst (cReadS s)))) != (0 : Int)) = true →
 (Den E1 10 [] (bolP true)) ∧
 (bolP true) = r) ∧
 ((Prod.snd (cNtS (LF.l (Prod.fst (cReadS s)))) != (0 : Int)) = false →
 ((20 : Nat) = 20) ∧
 (Den E1 25 [LF.p (Prod.fst (cNtS (LF.l (Prod.fst (cReadS s))))), V.p (rdV true v)] (.tup [bolP (Prod.fst (cHasP (LF.l (Prod.fst (cNtS (LF.l (Prod.fst (cReadS s)))))) (rdV true v))), intP (Prod.snd (cHasP (LF.l (Prod.fst (cNtS (LF.l (Prod.fst (cReadS s)))))) (rdV true v)))])) ∧
 (Den E1 30 [LF.p (Prod.fst (cNtS (LF.l (Prod.fst (cReadS s)))))] (.tup [.sl (LF.k (Prod.fst (cNtS (LF.l (Prod.fst (cNtS (LF.l (Prod.fst (cReadS s))))))))) (LF.nl (Prod.fst (cNtS (LF.l (Prod.fst (cNtS (LF.l (Prod.fst (cReadS s))))))))) (LF.full (Prod.fst (cNtS (LF.l (Prod.fst (cNtS (LF.l (Prod.fst (cReadS s))))))))) (List.map I.p (LF.l (Prod.fst (cNtS (LF.l (Prod.fst (cNtS (LF.l (Prod.fst (cReadS s)))))))))), intP (Prod.snd (cNtS (LF.l (Prod.fst (cNtS (LF.l (Prod.fst (cReadS s))))))))])) ∧
 ((Prod.snd (cHasP (LF.l (Prod.fst (cNtS (LF.l (Prod.fst (cReadS s)))))) (rdV true v)) == (0 : Int)) = true →
 ((Prod.fst (cHasP (LF.l (Prod.fst (cNtS (LF.l (Prod.fst (cReadS s)))))) (rdV true v)) == !Prod.fst (cHasP (LF.l (Prod.fst (cReadS s))) (rdV true v))) = true →
 ((Prod.snd (cNtS (LF.l (Prod.fst (cNtS (LF.l (Prod.fst (cReadS s))))))) != (0 : Int)) = true →
 (Den E1 10 [] (bolP true)) ∧
 (bolP true) = r) ∧
 ((Prod.snd (cNtS (LF.l (Prod.fst (cNtS (LF.l (Prod.fst (cReadS s))))))) != (0 : Int)) = false →
 (Den E1 16 [.sl (LF.k (Prod.fst (cNtS (LF.l (Prod.fst (cNtS (LF.l (Prod.fst (cReadS s))))))))) (LF.nl (Prod.fst (cNtS (LF.l (Prod.fst (cNtS (LF.l (Prod.fst (cReadS s))))))))) (LF.full (Prod.fst (cNtS (LF.l (Prod.fst (cNtS (LF.l (Prod.fst (cReadS s))))))))) (List.map I.p (LF.l (Prod.fst (cNtS (LF.l (Prod.fst (cNtS (LF.l (Prod.fst (cReadS s)))))))))), LF.p (Prod.fst (cReadS s))] (bolP (cSame (LF.l (Prod.fst (cNtS (LF.l (Prod.fst (cNtS (LF.l (Prod.fst (cReadS s))))))))) (LF.l (Prod.fst (cReadS s)))))) ∧
 ((cSame (LF.l (Prod.fst (cNtS (LF.l (Prod.fst (cNtS (LF.l (Prod.fst (cReadS s))))))))) (LF.l (Prod.fst (cReadS s)))) = true →
 (Den E1 10 [] (bolP true)) ∧
 (bolP true) = r) ∧
 ((cSame (LF.l (Prod.fst (cNtS (LF.l (Prod.fst (cNtS (LF.l (Prod.fst (cReadS s))))))))) (LF.l (Prod.fst (cReadS s)))) = false →
 (bolP false) = r))) ∧
 ((Prod.fst (cHasP (LF.l (Prod.fst (cNtS (LF.l (Prod.fst (cReadS s)))))) (rdV true v)) == !Prod.fst (cHasP (LF.l (Prod.fst (cReadS s))) (rdV true v))) = false →
 (bolP false) = r)) ∧
 ((Prod.snd (cHasP (LF.l (Prod.fst (cNtS (LF.l (Prod.fst (cReadS s)))))) (rdV true v)) == (0 : Int)) = false →
 (bolP false) = r))))) ∧
 ((Prod.fst (cHasP (LF.l (Prod.fst (cReadS s))) (rdV true v))) = false →
 ((!Prod.fst (cHasP (LF.l (Prod.fst (cMtS (LF.l (Prod.fst (cReadS s))) (LF.l (Prod.fst (cReadS t)))))) (rdV true v)) == false) = true →
 (bolP false) = r) ∧
 ((!Prod.fst (cHasP (LF.l (Prod.fst (cMtS (LF.l (Prod.fst (cReadS s))) (LF.l (Prod.fst (cReadS t)))))) (rdV true v)) == false) = false →
 (Den E1 29 [LF.p (Prod.fst (cReadS s)), LF.p (Prod.fst (cReadS t))] (.tup [LF.p (Prod.fst (cJnS (LF.l (Prod.fst (cReadS s))) (LF.l (Prod.fst (cReadS t))))), intP (Prod.snd (cJnS (LF.l (Prod.fst (cReadS s))) (LF.l (Prod.fst (cReadS t)))))])) ∧
 ((Prod.snd (cJnS (LF.l (Prod.fst (cReadS s))) (LF.l (Prod.fst (cReadS t)))) == (0 : Int)) = true →
 ((20 : Nat) = 20) ∧
 (Den E1 25 [LF.p (Prod.fst (cJnS (LF.l (Prod.fst (cReadS s))) (LF.l (Prod.fst (cReadS t))))), V.p (rdV true v)] (.tup [bolP (Prod.fst (cHasP (LF.l (Prod.fst (cJnS (LF.l (Prod.fst (cReadS s))) (LF.l (Prod.fst (cReadS t)))))) (rdV true v))), intP (Prod.snd (cHasP (LF.l (Prod.fst (cJnS (LF.l (Prod.fst (cReadS s))) (LF.l (Prod.fst (cReadS t)))))) (rdV true v)))])) ∧
 ((Prod.snd (cHasP (LF.l (Prod.fst (cJnS (LF.l (Prod.fst (cReadS s))) (LF.l (Prod.fst (cReadS t)))))) (rdV true v)) != (0 : Int)) = true →
 (bolP false) = r) ∧
 ((Prod.snd (cHasP (LF.l (Prod.fst (cJnS (LF.l (Prod.fst (cReadS s))) (LF.l (Prod.fst (cReadS t)))))) (rdV true v)) != (0 : Int)) = false →
 ((Prod.fst (cHasP (LF.l (Prod.fst (cReadS s))) (rdV true v))) = false) ∧
 ((!Prod.fst (cHasP (LF.l (Prod.fst (cJnS (LF.l (Prod.fst (cReadS s))) (LF.l (Prod.fst (cReadS t)))))) (rdV true v)) == Prod.fst (cHasP (LF.l (Prod.fst (cReadS t))) (rdV true v))) = true →
 (bolP false) = r) ∧
 ((!Prod.fst (cHasP (LF.l (Prod.fst (cJnS (LF.l (Prod.fst (cReadS s))) (LF.l (Prod.fst (cReadS t)))))) (rdV true v)) == Prod.fst (cHasP (LF.l (Prod.fst (cReadS t))) (rdV true v))) = false →
 (Den E1 30 [LF.p (Prod.fst (cReadS s))] (.tup [LF.p (Prod.fst (cNtS (LF.l (Prod.fst (cReadS s))))), intP (Prod.snd (cNtS (LF.l (Prod.fst (cReadS s)))))])) ∧
 ((Prod.snd (cNtS (LF.l (Prod.fst (cReadS s)))) != (0 : Int)) = true →
 (Den E1 10 [] (bolP true)) ∧
 (bolP true) = r) ∧
 ((Prod.snd (cNtS (LF.l (Prod.fst (cReadS s)))) != (0 : Int)) = false →
 ((20 : Nat) = 20) ∧
 (Den E1 25 [LF.p (Prod.fst (cNtS (LF.l (Prod.fst (cReadS s))))), V.p (rdV true v)] (.tup [bolP (Prod.fst (cHasP (LF.l (Prod.fst (cNtS (LF.l (Prod.fst (cReadS s)))))) (rdV true v))), intP (Prod.snd (cHasP (LF.l (Prod.fst (cNtS (LF.l (Prod.fst (cReadS s)))))) (rdV true v)))])) ∧
 (Den E1 30 [LF.p (Prod.fst (cNtS (LF.l (Prod.fst (cReadS s)))))] (.tup [.sl (LF.k (Prod.fst (cNtS (LF.l (Prod.fst (cNtS (LF.l (Prod.fst (cReadS s))))))))) (LF.nl (Prod.fst (cNtS (LF.l (Prod.fst (cNtS (LF.l (Prod.fst (cReadS s))))))))) (LF.full (Prod.fst (cNtS (LF.l (Prod.fst (cNtS (LF.l (Prod.fst (cReadS s))))))))) (List.map I.p (LF.l (Prod.fst (cNtS (LF.l (Prod.fst (cNtS (LF.l (Prod.fst (cReadS s)))))))))), intP (Prod.snd (cNtS (LF.l (Prod.fst (cNtS (LF.l (Prod.fst (cReadS s))))))))])) ∧
 ((Prod.snd (cHasP (LF.l (Prod.fst (cNtS (LF.l (Prod.fst (cReadS s)))))) (rdV true v)) == (0 : Int)) = true →
 ((Prod.fst (cHasP (LF.l (Prod.fst (cNtS (LF.l (Prod.fst (cReadS s)))))) (rdV true v)) == !Prod.fst (cHasP (LF.l (Prod.fst (cReadS s))) (rdV true v))) = true →
 ((Prod.snd (cNtS (LF.l (Prod.fst (cNtS (LF.l (Prod.fst (cReadS s))))))) != (0 : Int)) = true →
 (Den E1 10 [] (bolP true)) ∧
 (bolP true) = r) ∧
 ((Prod.snd (cNtS (LF.l (Prod.fst (cNtS (LF.l (Prod.fst (cReadS s))))))) != (0 : Int)) = false →
 (Den E1 16 [.sl (LF.k (Prod.fst (cNtS (LF.l (Prod.fst (cNtS (LF.l (Prod.fst (cReadS s))))))))) (LF.nl (Prod.fst (cNtS (LF.l (Prod.fst (cNtS (LF.l (Prod.fst (cReadS s))))))))) (LF.full (Prod.fst (cNtS (LF.l (Prod.fst (cNtS (LF.l (Prod.fst (cReadS s))))))))) (List.map I.p (LF.l (Prod.fst (cNtS (LF.l (Prod.fst (cNtS (LF.l (Prod.fst (cReadS s)))))))))), LF.p (Prod.fst (cReadS s))] (bolP (cSame (LF.l (Prod.fst (cNtS (LF.l (Prod.fst (cNtS (LF.l (Prod.fst (cReadS s))))))))) (LF.l (Prod.fst (cReadS s)))))) ∧
 ((cSame (LF.l (Prod.fst (cNtS (LF.l (Prod.fst (cNtS (LF.l (Prod.fst (cReadS s))))))))) (LF.l (Prod.fst (cReadS s)))) = true →
 (Den E1 10 [] (bolP true)) ∧
 (bolP true) = r) ∧
 ((cSame (LF.l (Prod.fst (cNtS (LF.l (Prod.fst (cNtS (LF.l (Prod.fst (cReadS s))))))))) (LF.l (Prod.fst (cReadS s)))) = false →
 (bolP false) = r))) ∧
 ((Prod.fst (cHasP (LF.l (Prod.fst (cNtS (LF.l (Prod.fst (cReadS s)))))) (rdV true v)) == !Prod.fst (cHasP (LF.l (Prod.fst (cReadS s))) (rdV true v))) = false →
 (bolP false) = r)) ∧
 ((Prod.snd (cHasP (LF.l (Prod.fst (cNtS (LF.l (Prod.fst (cReadS s)))))) (rdV true v)) == (0 : Int)) = false →
 (bolP false) = r))))) ∧
 ((Prod.snd (cJnS (LF.l (Prod.fst (cReadS s))) (LF.l (Prod.fst (cReadS t)))) == (0 : Int)) = false →
 (Den E1 30 [LF.p (Prod.fst (cReadS s))] (.tup [LF.p (Prod.fst (cNtS (LF.l (Prod.fst (cReadS s))))), intP (Prod.snd (cNtS (LF.l (Prod.fst (cReadS s)))))])) ∧
 ((Prod.snd (cNtS (LF.l (Prod.fst (cReadS s)))) != (0 : Int)) = true →
 (Den E1 10 [] (bolP true)) ∧
 (bolP true) = r) ∧
 ((Prod.snd (cNtS (LF.l (Prod.fst (cReadS s)))) != (0 : Int)) = false →
 ((20 : Nat) = 20) ∧
 (Den E1 25 [LF.p (Prod.fst (cNtS (LF.l (Prod.fst (cReadS s))))), V.p (rdV true v)] (.tup [bolP (Prod.fst (cHasP (LF.l (Prod.fst (cNtS (LF.l (Prod.fst (cReadS s)))))) (rdV true v))), intP (Prod.snd (cHasP (LF.l (Prod.fst (cNtS (LF.l (Prod.fst (cReadS s)))))) (rdV true v)))])) ∧
 (Den E1 30 [LF.p (Prod.fst (cNtS (LF.l (Prod.fst (cReadS s)))))] (.tup [.sl (LF.k (Prod.fst (cNtS (LF.l (Prod.fst (cNtS (LF.l (Prod.fst (cReadS s))))))))) (LF.nl (Prod.fst (cNtS (LF.l (Prod.fst (cNtS (LF.l (Prod.fst (cReadS s))))))))) (LF.full (Prod.fst (cNtS (LF.l (Prod.fst (cNtS (LF.l (Prod.fst (cReadS s))))))))) (List.map I.p (LF.l (Prod.fst (cNtS (LF.l (Prod.fst (cNtS (LF.l (Prod.fst (cReadS s)))))))))), intP (Prod.snd (cNtS (LF.l (Prod.fst (cNtS (LF.l (Prod.fst (cReadS s))))))))])) ∧
 ((Prod.snd (cHasP (LF.l (Prod.fst (cNtS (LF.l (Prod.fst (cReadS s)))))) (rdV true v)) == (0 : Int)) = true →
 ((Prod.fst (cHasP (LF.l (Prod.fst (cNtS (LF.l (Prod.fst (cReadS s)))))) (rdV true v)) == !Prod.fst (cHasP (LF.l (Prod.fst (cReadS s))) (rdV true v))) = true →
 ((Prod.snd (cNtS (LF.l (Prod.fst (cNtS (LF.l (Prod.fst (cReadS s))))))) != (0 : Int)) = true →
 (Den E1 10 [] (bolP true)) ∧
 (bolP true) = r) ∧
 ((Prod.snd (cNtS (LF.l (Prod.fst (cNtS (LF.l (Prod.fst (cReadS s))))))) != (0 : Int)) = false →
 (Den E1 16 [.sl (LF.k (Prod.fst (cNtS (LF.l (Prod.fst (cNtS (LF.l (Prod.fst (cReadS s))))))))) (LF.nl (Prod.fst (cNtS (LF.l (Prod.fst (cNtS (LF.l (Prod.fst (cReadS s))))))))) (LF.full (Prod.fst (cNtS (LF.l (Prod.fst (cNtS (LF.l (Prod.fst (cReadS s))))))))) (List.map I.p (LF.l (Prod.fst (cNtS (LF.l (Prod.fst (cNtS (LF.l (Prod.fst (cReadS s)))))))))), LF.p (Prod.fst (cReadS s))] (bolP (cSame (LF.l (Prod.fst (cNtS (LF.l (Prod.fst (cNtS (LF.l (Prod.fst (cReadS s))))))))) (LF.l (Prod.fst (cReadS s)))))) ∧
 ((cSame (LF.l (Prod.fst (cNtS (LF.l (Prod.fst (cNtS (LF.l (Prod.fst (cReadS s))))))))) (LF.l (Prod.fst (cReadS s)))) = true →
 (Den E1 10 [] (bolP true)) ∧
 (bolP true) = r) ∧
 ((cSame (LF.l (Prod.fst (cNtS (LF.l (Prod.fst (cNtS (LF.l (Prod.fst (cReadS s))))))))) (LF.l (Prod.fst (cReadS s)))) = false →
 (bolP false) = r))) ∧
 ((Prod.fst (cHasP (LF.l (Prod.fst (cNtS (LF.l (Prod.fst (cReadS s)))))) (rdV true v)) == !Prod.fst (cHasP (LF.l (Prod.fst (cReadS s))) (rdV true v))) = false →
 (bolP false) = r)) ∧
 ((Prod.snd (cHasP (LF.l (Prod.fst (cNtS (LF.l (Prod.fst (cReadS s)))))) (rdV true v)) == (0 : Int)) = false →
 (bolP false) = r))))))) ∧
 ((Prod.snd (cMtS (LF.l (Prod.fst (cReadS s))) (LF.l (Prod.fst (cReadS t)))) == (0 : Int)) = false →
 (Den E1 29 [LF.p (Prod.fst (cReadS s)), LF.p (Prod.fst (cReadS t))] (.tup [LF.p (Prod.fst (cJnS (LF.l (Prod.fst (cReadS s))) (LF.l (Prod.fst (cReadS t))))), intP (Prod.snd (cJnS (LF.l (Prod.fst (cReadS s))) (LF.l (Prod.fst (cReadS t)))))])) ∧
 ((Prod.snd (cJnS (LF.l (Prod.fst (cReadS s))) (LF.l (Prod.fst (cReadS t)))) == (0 : Int)) = true →
 ((20 : Nat) = 20) ∧
 (Den E1 25 [LF.p (Prod.fst (cJnS (LF.l (Prod.fst (cReadS s))) (LF.l (Prod.fst (cReadS t))))), V.p (rdV true v)] (.tup [bolP (Prod.fst (cHasP (LF.l (Prod.fst (cJnS (LF.l (Prod.fst (cReadS s))) (LF.l (Prod.fst (cReadS t)))))) (rdV true v))), intP (Prod.snd (cHasP (LF.l (Prod.fst (cJnS (LF.l (Prod.fst (cReadS s))) (LF.l (Prod.fst (cReadS t)))))) (rdV true v)))])) ∧
 ((Prod.snd (cHasP (LF.l (Prod.fst (cJnS (LF.l (Prod.fst (cReadS s))) (LF.l (Prod.fst (cReadS t)))))) (rdV true v)) != (0 : Int)) = true →
 (bolP false) = r) ∧
 ((Prod.snd (cHasP (LF.l (Prod.fst (cJnS (LF.l (Prod.fst (cReadS s))) (LF.l (Prod.fst (cReadS t)))))) (rdV true v)) != (0 : Int)) = false →
 ((Prod.fst (cHasP (LF.l (Prod.fst (cReadS s))) (rdV true v))) = true →
 ((!Prod.fst (cHasP (LF.l (Prod.fst (cJnS (LF.l (Prod.fst (cReadS s))) (LF.l (Prod.fst (cReadS t)))))) (rdV true v)) == true) = true →
 (bolP false) = r) ∧
 ((!Prod.fst (cHasP (LF.l (Prod.fst (cJnS (LF.l (Prod.fst (cReadS s))) (LF.l (Prod.fst (cReadS t)))))) (rdV true v)) == true) = false →
 (Den E1 30 [LF.p (Prod.fst (cReadS s))] (.tup [LF.p (Prod.fst (cNtS (LF.l (Prod.fst (cReadS s))))), intP (Prod.snd (cNtS (LF.l (Prod.fst (cReadS s)))))])) ∧
 ((Prod.snd (cNtS (LF.l (Prod.fst (cReadS s)))) != (0 : Int)) = true →
 (Den E1 10 [] (bolP true)) ∧
 (bolP true) = r) ∧
 ((Prod.snd (cNtS (LF.l (Prod.fst (cReadS s)))) != (0 : Int)) = false →
 ((20 : Nat) = 20) ∧
 (Den E1 25 [LF.p (Prod.fst (cNtS (LF.l (Prod.fst (cReadS s))))), V.p (rdV true v)] (.tup [bolP (Prod.fst (cHasP (LF.l (Prod.fst (cNtS (LF.l (Prod.fst (cReadS s)))))) (rdV true v))), intP (Prod.snd (cHasP (LF.l (Prod.fst (cNtS (LF.l (Prod.fst (cReadS s)))))) (rdV true v)))])) ∧
 (Den E1 30 [LF.p (Prod.fst (cNtS (LF.l (Prod.fst (cReadS s)))))] (.tup [.sl (LF.k (Prod.fst (cNtS (LF.l (Prod.fst (cNtS (LF.l (Prod.fst (cReadS s))))))))) (LF.nl (Prod.fst (cNtS (LF.l (Prod.fst (cNtS (LF.l (Prod.fst (cReadS s))))))))) (LF.full (Prod.fst (cNtS (LF.l (Prod.fst (cNtS (LF.l (Prod.fst (cReadS s))))))))) (List.map I.p (LF.l (Prod.fst (cNtS (LF.l (Prod.fst (cNtS (LF.l (Prod.fst (cReadS s)))))))))), intP (Prod.snd (cNtS (LF.l (Prod.fst (cNtS (LF.l (Prod.fst (cReadS s))))))))])) ∧
 ((Prod.snd (cHasP (LF.l (Prod.fst (cNtS (LF.l (Prod.fst (cReadS s)))))) (rdV true v)) == (0 : Int)) = true →
 ((Prod.fst (cHasP (LF.l (Prod.fst (cNtS (LF.l (Prod.fst (cReadS s)))))) (rdV true v)) == !Prod.fst (cHasP (LF.l (Prod.fst (cReadS s))) (rdV true v))) = true →
 ((Prod.snd (cNtS (LF.l (Prod.fst (cNtS (LF.l (Prod.fst (cReadS s))))))) != (0 : Int)) = true →
 (Den E1 10 [] (bolP true)) ∧
 (bolP true) = r) ∧
 ((Prod.snd (cNtS (LF.l (Prod.fst (cNtS (LF.l (Prod.fst (cReadS s))))))) != (0 : Int)) = false →
 (Den E1 16 [.sl (LF.k (Prod.fst (cNtS (LF.l (Prod.fst (cNtS (LF.l (Prod.fst (cReadS s))))))))) (LF.nl (Prod.fst (cNtS (LF.l (Prod.fst (cNtS (LF.l (Prod.fst (cReadS s))))))))) (LF.full (Prod.fst (cNtS (LF.l (Prod.fst (cNtS (LF.l (Prod.fst (cReadS s))))))))) (List.map I.p (LF.l (Prod.fst (cNtS (LF.l (Prod.fst (cNtS (LF.l (Prod.fst (cReadS s)))))))))), LF.p (Prod.fst (cReadS s))] (bolP (cSame (LF.l (Prod.fst (cNtS (LF.l (Prod.fst (cNtS (LF.l (Prod.fst (cReadS s))))))))) (LF.l (Prod.fst (cReadS s)))))) ∧
 ((cSame (LF.l (Prod.fst (cNtS (LF.l (Prod.fst (cNtS (LF.l (Prod.fst (cReadS s))))))))) (LF.l (Prod.fst (cReadS s)))) = true →
 (Den E1 10 [] (bolP true)) ∧
 (bolP true) = r) ∧
 ((cSame (LF.l (Prod.fst (cNtS (LF.l (Prod.fst (cNtS (LF.l (Prod.fst (cReadS s))))))))) (LF.l (Prod.fst (cReadS s)))) = false →
 (bolP false) = r))) ∧
 ((Prod.fst (cHasP (LF.l (Prod.fst (cNtS (LF.l (Prod.fst (cReadS s)))))) (rdV true v)) == !Prod.fst (cHasP (LF.l (Prod.fst (cReadS s))) (rdV true v))) = false →
 (bolP false) = r)) ∧
 ((Prod.snd (cHasP (LF.l (Prod.fst (cNtS (LF.l (Prod.fst (cReadS s)))))) (rdV true v)) == (0 : Int)) = false →
 (bolP false) = r)))) ∧
 ((Prod.fst (cHasP (LF.l (Prod.fst (cReadS s))) (rdV true v))) = false →
 ((!Prod.fst (cHasP (LF.l (Prod.fst (cJnS (LF.l (Prod.fst (cReadS s))) (LF.l (Prod.fst (cReadS t)))))) (rdV true v)) == Prod.fst (cHasP (LF.l (Prod.fst (cReadS t))) (rdV true v))) = true →
 (bolP false) = r) ∧
 ((!Prod.fst (cHasP (LF.l (Prod.fst (cJnS (LF.l (Prod.fst (cReadS s))) (LF.l (Prod.fst (cReadS t)))))) (rdV true v)) == Prod.fst (cHasP (LF.l (Prod.fst (cReadS t))) (rdV true v))) = false →
 (Den E1 30 [LF.p (Prod.fst (cReadS s))] (.tup [LF.p (Prod.fst (cNtS (LF.l (Prod.fst (cReadS s))))), intP (Prod.snd (cNtS (LF.l (Prod.fst (cReadS s)))))])) ∧
 ((Prod.snd (cNtS (LF.l (Prod.fst (cReadS s)))) != (0 : Int)) = true →
 (Den E1 10 [] (bolP true)) ∧
 (bolP true) = r) ∧
 ((Prod.snd (cNtS (LF.l (Prod.fst (cReadS s)))) != (0 : Int)) = false →
 ((20 : Nat) = 20) ∧
 (Den E1 25 [LF.p (Prod.fst (cNtS (LF.l (Prod.fst (cReadS s))))), V.p (rdV true v)] (.tup [bolP (Prod.fst (cHasP (LF.l (Prod.fst (cNtS (LF.l (Prod.fst (cReadS s)))))) (rdV true v))), intP (Prod.snd (cHasP (LF.l (Prod.fst (cNtS (LF.l (Prod.fst (cReadS s)))))) (rdV true v)))])) ∧
 (Den E1 30 [LF.p (Prod.fst (cNtS (LF.l (Prod.fst (cReadS s)))))] (.tup [.sl (LF.k (Prod.fst (cNtS (LF.l (Prod.fst (cNtS (LF.l (Prod.fst (cReadS s))))))))) (LF.nl (Prod.fst (cNtS (LF.l (Prod.fst (cNtS (LF.l (Prod.fst (cReadS s))))))))) (LF.full (Prod.fst (cNtS (LF.l (Prod.fst (cNtS (LF.l (Prod.fst (cReadS s))))))))) (List.map I.p (LF.l (Prod.fst (cNtS (LF.l (Prod.fst (cNtS (LF.l (Prod.fst (cReadS s)))))))))), intP (Prod.snd (cNtS (LF.l (Prod.fst (cNtS (LF.l (Prod.fst (cReadS s))))))))])) ∧
 ((Prod.snd (cHasP (LF.l (Prod.fst (cNtS (LF.l (Prod.fst (cReadS s)))))) (rdV true v)) == (0 : Int)) = true →
 ((Prod.fst (cHasP (LF.l (Prod.fst (cNtS (LF.l (Prod.fst (cReadS s)))))) (rdV true v)) == !Prod.fst (cHasP (LF.l (Prod.fst (cReadS s))) (rdV true v))) = true →
 ((Prod.snd (cNtS (LF.l (Prod.fst (cNtS (LF.l (Prod.fst (cReadS s))))))) != (0 : Int)) = true →
 (Den E1 10 [] (bolP true)) ∧
 (bolP true) = r) ∧
 ((Prod.snd (cNtS (LF.l (Prod.fst (cNtS (LF.l (Prod.fst (cReadS s))))))) != (0 : Int)) = false →
 (Den E1 16 [.sl (LF.k (Prod.fst (cNtS (LF.l (Prod.fst (cNtS (LF.l (Prod.fst (cReadS s))))))))) (LF.nl (Prod.fst (cNtS (LF.l (Prod.fst (cNtS (LF.l (Prod.fst (cReadS s))))))))) (LF.full (Prod.fst (cNtS (LF.l (Prod.fst (cNtS (LF.l (Prod.fst (cReadS s))))))))) (List.map I.p (LF.l (Prod.fst (cNtS (LF.l (Prod.fst (cNtS (LF.l (Prod.fst (cReadS s)))))))))), LF.p (Prod.fst (cReadS s))] (bolP (cSame (LF.l (Prod.fst (cNtS (LF.l (Prod.fst (cNtS (LF.l (Prod.fst (cReadS s))))))))) (LF.l (Prod.fst (cReadS s)))))) ∧
 ((cSame (LF.l (Prod.fst (cNtS (LF.l (Prod.fst (cNtS (LF.l (Prod.fst (cReadS s))))))))) (LF.l (Prod.fst (cReadS s)))) = true →
 (Den E1 10 [] (bolP true)) ∧
 (bolP true) = r) ∧
 ((cSame (LF.l (Prod.fst (cNtS (LF.l (Prod.fst (cNtS (LF.l (Prod.fst (cReadS s))))))))) (LF.l (Prod.fst (cReadS s)))) = false →
 (bolP false) = r))) ∧
 ((Prod.fst (cHasP (LF.l (Prod.fst (cNtS (LF.l (Prod.fst (cReadS s)))))) (rdV true v)) == !Prod.fst (cHasP (LF.l (Prod.fst (cReadS s))) (rdV true v))) = false →
 (bolP false) = r)) ∧
 ((Prod.snd (cHasP (LF.l (Prod.fst (cNtS (LF.l (Prod.fst (cReadS s)))))) (rdV true v)) == (0 : Int)) = false →
 (bolP false) = r)))))) ∧
 ((Prod.snd (cJnS (LF.l (Prod.fst (cReadS s))) (LF.l (Prod.fst (cReadS t)))) == (0 : Int)) = false →
 (Den E1 30 [LF.p (Prod.fst (cReadS s))] (.tup [LF.p (Prod.fst (cNtS (LF.l (Prod.fst (cReadS s))))), intP (Prod.snd (cNtS (LF.l (Prod.fst (cReadS s)))))])) ∧
 ((Prod.snd (cNtS (LF.l (Prod.fst (cReadS s)))) != (0 : Int)) = true →
 (Den E1 10 [] (bolP true)) ∧
 (bolP true) = r) ∧
 ((Prod.snd (cNtS (LF.l (Prod.fst (cReadS s)))) != (0 : Int)) = false →
 ((20 : Nat) = 20) ∧
 (Den E1 25 [LF.p (Prod.fst (cNtS (LF.l (Prod.fst (cReadS s))))), V.p (rdV true v)] (.tup [bolP (Prod.fst (cHasP (LF.l (Prod.fst (cNtS (LF.l (Prod.fst (cReadS s)))))) (rdV true v))), intP (Prod.snd (cHasP (LF.l (Prod.fst (cNtS (LF.l (Prod.fst (cReadS s)))))) (rdV true v)))])) ∧
 (Den E1 30 [LF.p (Prod.fst (cNtS (LF.l (Prod.fst (cReadS s)))))] (.tup [.sl (LF.k (Prod.fst (cNtS (LF.l (Prod.fst (cNtS (LF.l (Prod.fst (cReadS s))))))))) (LF.nl (Prod.fst (cNtS (LF.l (Prod.fst (cNtS (LF.l (Prod.fst (cReadS s))))))))) (LF.full (Prod.fst (cNtS (LF.l (Prod.fst (cNtS (LF.l (Prod.fst (cReadS s))))))))) (List.map I.p (LF.l (Prod.fst (cNtS (LF.l (Prod.fst (cNtS (LF.l (Prod.fst (cReadS s)))))))))), intP (Prod.snd (cNtS (LF.l (Prod.fst (cNtS (LF.l (Prod.fst (cReadS s))))))))])) ∧
 ((Prod.snd (cHasP (LF.l (Prod.fst (cNtS (LF.l (Prod.fst (cReadS s)))))) (rdV true v)) == (0 : Int)) = true →
 ((Prod.fst (cHasP (LF.l (Prod.fst (cNtS (LF.l (Prod.fst (cReadS s)))))) (rdV true v)) == !Prod.fst (cHasP (LF.l (Prod.fst (cReadS s))) (rdV true v))) = true →
 ((Prod.snd (cNtS (LF.l (Prod.fst (cNtS (LF.l (Prod.fst (cReadS s))))))) != (0 : Int)) = true →
 (Den E1 10 [] (bolP true)) ∧
 (bolP true) = r) ∧
 ((Prod.snd (cNtS (LF.l (Prod.fst (cNtS (LF.l (Prod.fst (cReadS s))))))) != (0 : Int)) = false →
 (Den E1 16 [.sl (LF.k (Prod.fst (cNtS (LF.l (Prod.fst (cNtS (LF.l (Prod.fst (cReadS s))))))))) (LF.nl (Prod.fst (cNtS (LF.l (Prod.fst (cNtS (LF.l (Prod.fst (cReadS s))))))))) (LF.full (Prod.fst (cNtS (LF.l (Prod.fst (cNtS (LF.l (Prod.fst (cReadS s))))))))) (List.map I.p (LF.l (Prod.fst (cNtS (LF.l (Prod.fst (cNtS (LF.l (Prod.fst (cReadS s)))))))))), LF.p (Prod.fst (cReadS s))] (bolP (cSame (LF.l (Prod.fst (cNtS (LF.l (Prod.fst (cNtS (LF.l (Prod.fst (cReadS s))))))))) (LF.l (Prod.fst (cReadS s)))))) ∧
 ((cSame (LF.l (Prod.fst (cNtS (LF.l (Prod.fst (cNtS (LF.l (Prod.fst (cReadS s))))))))) (LF.l (Prod.fst (cReadS s)))) = true →
 (Den E1 10 [] (bolP true)) ∧
 (bolP true) = r) ∧
 ((cSame (LF.l (Prod.fst (cNtS (LF.l (Prod.fst (cNtS (LF.l (Prod.fst (cReadS s))))))))) (LF.l (Prod.fst (cReadS s)))) = false →
 (bolP false) = r))) ∧
 ((Prod.fst (cHasP (LF.l (Prod.fst (cNtS (LF.l (Prod.fst (cReadS s)))))) (rdV true v)) == !Prod.fst (cHasP (LF.l (Prod.fst (cReadS s))) (rdV true v))) = false →
 (bolP false) = r)) ∧
 ((Prod.snd (cHasP (LF.l (Prod.fst (cNtS (LF.l (Prod.fst (cReadS s)))))) (rdV true v)) == (0 : Int)) = false →
 (bolP false) = r)))))))) := by kernel_rfl
end Go.Proofs.YtlhfgonjcpapnaaGreatDoor.Abs

set_option maxRecDepth 20000
set_option maxHeartbeats 1000000
namespace Go.Proofs.YtlhfgonjcpapnaaGreatDoor.Abs
open Go Go.Proofs
theorem ite_is {b : Bool} {x : LF × Int} (h : x.1.is 16) : (if b then x else (lf0, 80)).1.is 16 := by
  cases b
  · exact is_lf0.mono (by omega)
  · exact h
section
variable {l m : List I} (ol : ∀ x ∈ l, x.ok) (om : ∀ x ∈ m, x.ok)
include ol
theorem ntS_is : (ntS0 l).1.is 16 := by
  refine ite_is (limS_is (joinS_ok fun x hx => ?_))
  have := gaps_all (P := V.ok) (e := bottomE) zV_ok (fun y hy => ⟨(ol y hy).lo, (ol y hy).hi⟩) bottom_ok x hx
  exact ⟨this.1, this.2⟩
include om
theorem mtS_is : (mtS0 l m).1.is 16 := ite_is (limS_is (meetS_ok ol om))
theorem jnS_is : (jnS0 l m).1.is 16 := ite_is (limS_is (joinS_ok fun x hx => (List.mem_append.1 hx).elim (ol x) (om x)))
end
end Go.Proofs.YtlhfgonjcpapnaaGreatDoor.Abs

set_option maxRecDepth 20000
set_option maxHeartbeats 1000000
namespace Go.Proofs.YtlhfgonjcpapnaaGreatDoor.Abs
open Go Go.Proofs
theorem is_small {x : LF} (h : x.is 16) : small x.l.length := by have := h.len; unfold small; omega
end Go.Proofs.YtlhfgonjcpapnaaGreatDoor.Abs

set_option maxRecDepth 20000
namespace Go.Proofs.YtlhfgonjcpapnaaGreatDoor.Abs
open Go Go.Proofs
theorem inI_cov {x : I} {v : V} (hx : rt x) (hv : mayV v = true) : inI x v = true ↔ cov x ⟨v, false⟩ := by
  have e1 : befE x.low ⟨v, false, false⟩ ≤ 0 ↔ lowB x.lb ⟨v, false⟩ ≤ 0 := by
    unfold befE lowB I.low I.lb
    rw [ordV_of hx.lo hv]
    by_cases h0 : cmpV x.lo v = 0
    · cases h1 : x.lopen <;> simp [h0]
    · have h4 : (cmpV x.lo v != 0) = true := by simpa using h0
      simp [h4]
  have e2 : befE ⟨v, true, false⟩ x.high ≤ 0 ↔ (x.less = true ∨ lowB ⟨v, false⟩ x.hb < 0) := by
    unfold befE lowB I.high I.hb
    rw [ordV_of hv hx.hi]
    cases hl : x.less with
    | true => simp
    | false =>
      by_cases h0 : cmpV v x.hi = 0
      · cases h1 : x.hopen <;> simp [h0]
      · have h4 : (cmpV v x.hi != 0) = true := by simpa using h0
        simp [h4]
        omega
  unfold inI cov
  rw [Bool.and_eq_true, decide_eq_true_eq, decide_eq_true_eq, e1, e2]
theorem any_cov {l : List I} {v : V} (hl : ∀ x ∈ l, rt x) (hv : mayV v = true) : (l.any fun x => inI x v) = true ↔ covL l ⟨v, false⟩ := by
  rw [List.any_eq_true]
  constructor
  · rintro ⟨x, hx, h⟩
    exact ⟨x, hx, (inI_cov (hl x hx) hv).1 h⟩
  · rintro ⟨x, hx, h⟩
    exact ⟨x, hx, (inI_cov (hl x hx) hv).2 h⟩
structure gdL (c : LF) : Prop where
  is : c.is 16
  may : mayR c.l = true
  np : ∀ x ∈ c.l, x.np
theorem hasP_gd {c : LF} (h : gdL c) {v : V} (hv : mayV v = true) : (hasS c.l v).2 = 0 ∧ ((hasS c.l v).1 = true ↔ covL c.l ⟨v, false⟩) := by
  unfold hasS
  rw [h.may, hv]
  exact ⟨rfl, any_cov (may_rts h.may) hv⟩
theorem cl_map (l : List I) : (l.map clI).map nI = l.map nI := by rw [List.map_map]; rfl
theorem cl_np {l : List I} (h : ∀ x ∈ l, x.np) : ∀ x ∈ l.map clI, x.np := by
  intro x hx
  obtain ⟨y, hy, rfl⟩ := List.mem_map.1 hx
  have := h y hy
  exact ⟨⟨this.lo.ne, this.lo.few⟩, ⟨this.hi.ne, this.hi.few⟩⟩
theorem rt_right {x : I} (h : rt x) : rightI x = true := by
  unfold rightI
  rw [h.lo, h.hi]
  cases hl : x.less with
  | false => rfl
  | true =>
    have h1 := h.ho hl
    have h2 := nV_num (h.hz hl)
    have h3 : zeroB x.hi = true := by
      unfold zeroB
      rw [h2.1, h2.2.1, h2.2.2.1, h2.2.2.2]
      rfl
    rw [h1, h3]
    rfl
theorem form_may {l : List I} (h : Form l) (hr : ∀ x ∈ l, rt x) (hl : l.length ≤ 16) : mayR l = true := by
  unfold mayR
  rw [form_pairs h, Bool.and_true, Bool.and_eq_true, decide_eq_true_eq, List.all_eq_true]
  refine ⟨hl, fun x hx => ?_⟩
  rw [rt_right (hr x hx), h.ne x hx]
  rfl
theorem form_n {l m : List I} (h : l.map nI = m.map nI) (hm : Form m) : Form l := by
  have hf : Form (l.map nI) := by
    rw [h]
    refine ⟨fun x hx => ?_, ?_⟩
    · obtain ⟨y, hy, rfl⟩ := List.mem_map.1 hx
      exact hm.ne y hy
    · rw [List.pairwise_map]
      exact hm.ap
  refine ⟨fun x hx => hf.ne (nI x) (List.mem_map_of_mem hx), ?_⟩
  have := hf.ap
  rw [List.pairwise_map] at this
  exact this
theorem lim_gd {G : List I} (hr : ∀ x ∈ G, rt x) (ho : ∀ x ∈ G, x.ok) (hp : ∀ x ∈ G, x.np) (h0 : (limS (joinS G)).2 = 0) : gdL (limS (joinS G)).1 ∧ (∀ c, covL (limS (joinS G)).1.l c ↔ covL G c) ∧ (limS (joinS G)).1.l.map nI = (joinR G).map nI := by
  have e : limS (joinS G) = (⟨twK (joinS G), twN (joinS G), true, (joinS G).map clI⟩, 0) ∧ (joinS G).length ≤ 16 := by
    unfold limS at h0 ⊢
    split at h0
    · cases h0
    · rename_i h
      rw [if_neg h]
      exact ⟨rfl, by omega⟩
  have hj : (joinS G).map nI = (joinR G).map nI := by rw [rt_join hr, n_joinR]
  have hf := form_n hj (join_form G).1
  have hm : mayR (joinS G) = true := form_may hf (joinS_all rt_bets hr) e.2
  have hc : ((joinS G).map clI).map nI = (joinR G).map nI := by rw [cl_map, hj]
  have his := limS_is (joinS_ok ho)
  rw [e.1] at his ⊢
  refine ⟨⟨his, ?_, cl_np (joinS_all bet_np hp)⟩, fun c => ?_, hc⟩
  · show mayR ((joinS G).map clI) = true
    rw [← n_mayR, cl_map, n_mayR]
    exact hm
  · show covL ((joinS G).map clI) c ↔ covL G c
    rw [covL_same hc, (join_form G).2]
theorem read_gd {s : List UInt8} (h0 : (readS s).2 = 0) : gdL (readS s).1 := by
  unfold readS at h0 ⊢
  by_cases c1 : s.length > 128
  · rw [if_pos c1] at h0; cases h0
  · rw [if_neg c1] at h0 ⊢
    cases h : readGoS (Lib.split s orB) [] 0 with
    | none => rw [h] at h0; cases h0
    | some x =>
      rw [h] at h0
      exact (lim_gd (readGoS_all (fun p => altS_rt p) _ _ _ _ (by simp) h) (readGoS_all (fun p => (altS_is p).ok) _ _ _ _ (by simp) h) (readGoS_all (fun p => altS_np p) _ _ _ _ (by simp) h) h0).1
theorem jn_gd {a b : LF} (ha : gdL a) (hb : gdL b) (h0 : (jnS0 a.l b.l).2 = 0) : gdL (jnS0 a.l b.l).1 ∧ ∀ c, covL (jnS0 a.l b.l).1.l c ↔ covL a.l c ∨ covL b.l c := by
  have e : jnS0 a.l b.l = limS (joinS (a.l ++ b.l)) := by unfold jnS0; rw [ha.may, hb.may]; rfl
  rw [e] at h0 ⊢
  have h := lim_gd (fun x hx => (List.mem_append.1 hx).elim (may_rts ha.may x) (may_rts hb.may x)) (fun x hx => (List.mem_append.1 hx).elim (ha.is.ok x) (hb.is.ok x)) (fun x hx => (List.mem_append.1 hx).elim (ha.np x) (hb.np x)) h0
  exact ⟨h.1, fun c => by rw [h.2.1 c, covL_app]⟩
theorem mt_gd {a b : LF} (ha : gdL a) (hb : gdL b) (h0 : (mtS0 a.l b.l).2 = 0) : gdL (mtS0 a.l b.l).1 ∧ ∀ c, covL (mtS0 a.l b.l).1.l c ↔ covL a.l c ∧ covL b.l c := by
  have e : mtS0 a.l b.l = limS (joinS (a.l.flatMap fun x => b.l.map fun y => meet1S x y)) := by unfold mtS0; rw [ha.may, hb.may]; rfl
  rw [e] at h0 ⊢
  have hall : ∀ {P : I → Prop}, (∀ x y, P x → P y → P (betE x.low y.high)) → (∀ x ∈ a.l, P x) → (∀ x ∈ b.l, P x) → ∀ z ∈ (a.l.flatMap fun x => b.l.map fun y => meet1S x y), P z := by
    intro P hP h1 h2 z hz
    obtain ⟨x, hx, hz⟩ := List.mem_flatMap.1 hz
    obtain ⟨y, hy, rfl⟩ := List.mem_map.1 hz
    exact all_meet1S hP (h1 x hx) (h2 y hy)
  have r1 := may_rts ha.may
  have r2 := may_rts hb.may
  have h := lim_gd (hall rt_bets r1 r2) (meets_ok a.l b.l ha.is.ok hb.is.ok) (hall bet_np ha.np hb.np) h0
  refine ⟨h.1, fun c => ?_⟩
  rw [h.2.1 c]
  have one : ∀ x ∈ a.l, ∀ y ∈ b.l, (cov (meet1S x y) c ↔ cov x c ∧ cov y c) := by
    intro x hx y hy
    have := (rt_meet1 (r1 x hx) (r2 y hy)).1
    have h2 : covL [meet1S x y] c ↔ covL [meet1 x y] c := covL_same (by simp [this])
    rw [covL_cons, covL_cons] at h2
    have h3 : cov (meet1S x y) c ↔ cov (meet1 x y) c := ⟨fun h => (h2.1 (.inl h)).elim id fun h => absurd h covL_nil, fun h => (h2.2 (.inl h)).elim id fun h => absurd h covL_nil⟩
    rw [h3, cov_meet]
  constructor
  · rintro ⟨z, hz, hc⟩
    obtain ⟨x, hx, hz⟩ := List.mem_flatMap.1 hz
    obtain ⟨y, hy, rfl⟩ := List.mem_map.1 hz
    have := (one x hx y hy).1 hc
    exact ⟨⟨x, hx, this.1⟩, ⟨y, hy, this.2⟩⟩
  · rintro ⟨⟨x, hx, h1⟩, ⟨y, hy, h2⟩⟩
    exact ⟨meet1S x y, List.mem_flatMap.2 ⟨x, hx, List.mem_map.2 ⟨y, hy, rfl⟩⟩, (one x hx y hy).2 ⟨h1, h2⟩⟩
theorem nt_gd {a : LF} (ha : gdL a) (h0 : (ntS0 a.l).2 = 0) : gdL (ntS0 a.l).1 ∧ (∀ c : Bd, c.v.ok → (covL (ntS0 a.l).1.l c ↔ ¬ covL a.l c)) ∧ (ntS0 a.l).1.l.map nI = (notR a.l).map nI := by
  have e : ntS0 a.l = limS (joinS (gapsS bottomE a.l)) := by unfold ntS0; rw [ha.may]; rfl
  rw [e] at h0 ⊢
  have r := may_rts ha.may
  have go : ∀ x ∈ gapsS bottomE a.l, x.ok := fun x hx => by
    have := gaps_all (P := V.ok) zV_ok (fun y hy => ⟨(ha.is.ok y hy).lo, (ha.is.ok y hy).hi⟩) bottom_ok x hx
    exact ⟨this.1, this.2⟩
  have gp : ∀ x ∈ gapsS bottomE a.l, x.np := fun x hx => by
    have := gaps_all (P := V.np) zV_gd.np (fun y hy => ⟨(ha.np y hy).lo, (ha.np y hy).hi⟩) bottom_gd.np x hx
    exact ⟨this.1, this.2⟩
  have h := lim_gd (gaps_rt (e := bottomE) r bottom_may) go gp h0
  have hn := not_same ha.may ha.is.ok ha.is.ok rfl
  have e2 : notS a.l = joinS (gapsS bottomE a.l) := rfl
  rw [e2, rt_join (gaps_rt (e := bottomE) r bottom_may), n_joinR] at hn
  have h3 := h.2.2.trans hn
  refine ⟨h.1, fun c hc => ?_, h3⟩
  rw [covL_same h3, (notR_form a.l).2 c hc]
theorem nt_nt {a : LF} (ha : gdL a) (h0 : (ntS0 a.l).2 = 0) (h1 : (ntS0 (ntS0 a.l).1.l).2 = 0) : (ntS0 (ntS0 a.l).1.l).1.l.map nI = a.l.map nI := by
  have hn := nt_gd ha h0
  have hnn := nt_gd hn.1 h1
  rw [hnn.2.2]
  obtain ⟨k1, k2⟩ := notR_form (ntS0 a.l).1.l
  refine form_unique k1 (may_form ha.may) (notR_RO fun x hx => ⟨may_rts hn.1.may x hx, hn.1.is.ok x hx⟩) (fun x hx => ⟨may_rts ha.may x hx, ha.is.ok x hx⟩) fun c hc => ?_
  rw [k2 c hc, hn.2.1 c hc]
  exact Classical.not_not
end Go.Proofs.YtlhfgonjcpapnaaGreatDoor.Abs

set_option maxRecDepth 20000
set_option maxHeartbeats 4000000
namespace Go.Proofs.YtlhfgonjcpapnaaGreatDoor.Abs
open Go Go.Proofs
theorem zero_ne {a : Int} : ((a != (0 : Int)) = false → a = 0) ∧ ((a == (0 : Int)) = true → a = 0) := ⟨fun h => by simpa using h, fun h => by simpa using h⟩
theorem bool_iff {a b : Bool} (h : a = true ↔ b = true) : a = b := Bool.eq_iff_iff.2 h
theorem den_SpanAlgebra (s t v : List UInt8) (hvs : small v.length) : Den E1 9 [strP s, strP t, strP v] (bolP true) := by
  have no : ∀ {b : Bool} {P : Prop}, b = true → b = false → P := fun h1 h2 => by rw [h1] at h2; cases h2
  have no' : ∀ {b : Bool} {P : Prop}, b = false → b = true → P := fun h1 h2 => by rw [h1] at h2; cases h2
  refine den1 2000 _ rfl (by kernel_rfl) rfl rfl rfl (Eq.mpr (law08_SpanAlgebra_go s t v _) ⟨den_cReadS s, den_cReadS t, den_version_Read v hvs, rfl, fun _ => ⟨den_alive, rfl⟩, fun hs => ⟨fun _ => ⟨den_alive, rfl⟩, fun ht => ⟨fun _ => ⟨den_alive, rfl⟩, fun _ => ?_⟩⟩⟩)
  have hs := zero_ne.1 hs
  have ht := zero_ne.1 ht
  have gA : gdL (cReadS s).1 := by rw [cReadS_eq] at hs ⊢; exact read_gd hs
  have gB : gdL (cReadS t).1 := by rw [cReadS_eq] at ht ⊢; exact read_gd ht
  clear hs ht
  generalize (cReadS s).1 = A at gA ⊢
  generalize (cReadS t).1 = B at gB ⊢
  have ox : (rdV true v).ok := rd_ok true
  have mx : mayV (rdV true v) = true := rd_may true
  generalize rdV true v = x at ox mx ⊢
  have dH : ∀ {c : LF}, c.is 16 → Den E1 25 [c.p, x.p] (.tup [bolP (cHasP c.l x).1, intP (cHasP c.l x).2]) := fun {c} h => by
    rw [cHasP_eq]
    exact den_Has c.l c.k c.nl c.full x h.sl (by have := h.len; omega) h.ok ox
  have hP : ∀ {c : LF}, gdL c → (cHasP c.l x).2 = 0 ∧ ((cHasP c.l x).1 = true ↔ covL c.l ⟨x, false⟩) := fun {c} h => by
    rw [cHasP_eq]
    exact hasP_gd h mx
  have fA := hP gA
  have fB := hP gB
  have dM := den_span_Meet A.l B.l A.k B.k A.nl A.full B.nl B.full gA.is.sl gB.is.sl gA.is.ok gB.is.ok (fun _ => gA.np) (fun _ => gB.np)
  have dJ := den_span_Join A.l B.l A.k B.k A.nl A.full B.nl B.full gA.is.sl gB.is.sl gA.is.ok gB.is.ok (fun _ => gA.np) (fun _ => gB.np) (by have := gA.is.len; omega) (by have := gB.is.len; omega)
  have dN := den_span_Not A.l A.k A.nl A.full gA.is.sl gA.is.ok (fun _ => gA.np)
  rw [← cMtS_eq] at dM
  rw [← cJnS_eq] at dJ
  rw [← cNtS_eq] at dN
  have iM : (cMtS A.l B.l).1.is 16 := by rw [cMtS_eq]; exact mtS_is gA.is.ok gB.is.ok
  have iJ : (cJnS A.l B.l).1.is 16 := by rw [cJnS_eq]; exact jnS_is gA.is.ok gB.is.ok
  have iN : (cNtS A.l).1.is 16 := by rw [cNtS_eq]; exact ntS_is gA.is.ok
  have gM : ((cMtS A.l B.l).2 == (0 : Int)) = true → gdL (cMtS A.l B.l).1 ∧ ∀ c, covL (cMtS A.l B.l).1.l c ↔ covL A.l c ∧ covL B.l c := fun h => by
    have h := zero_ne.2 h
    rw [cMtS_eq] at h ⊢
    exact mt_gd gA gB h
  have gJ : ((cJnS A.l B.l).2 == (0 : Int)) = true → gdL (cJnS A.l B.l).1 ∧ ∀ c, covL (cJnS A.l B.l).1.l c ↔ covL A.l c ∨ covL B.l c := fun h => by
    have h := zero_ne.2 h
    rw [cJnS_eq] at h ⊢
    exact jn_gd gA gB h
  have gN : ((cNtS A.l).2 != (0 : Int)) = false → gdL (cNtS A.l).1 ∧ (∀ c : Bd, c.v.ok → (covL (cNtS A.l).1.l c ↔ ¬ covL A.l c)) := fun h => by
    have h := zero_ne.1 h
    rw [cNtS_eq] at h ⊢
    exact ⟨(nt_gd gA h).1, (nt_gd gA h).2.1⟩
  have zM : ((cMtS A.l B.l).2 == (0 : Int)) = true → ((cHasP (cMtS A.l B.l).1.l x).2 != (0 : Int)) = false := fun h => by rw [(hP (gM h).1).1]; rfl
  have zJ : ((cJnS A.l B.l).2 == (0 : Int)) = true → ((cHasP (cJnS A.l B.l).1.l x).2 != (0 : Int)) = false := fun h => by rw [(hP (gJ h).1).1]; rfl
  have zN : ((cNtS A.l).2 != (0 : Int)) = false → ((cHasP (cNtS A.l).1.l x).2 == (0 : Int)) = true := fun h => by rw [(hP (gN h).1).1]; rfl
  have eM : ((cMtS A.l B.l).2 == (0 : Int)) = true → (cHasP (cMtS A.l B.l).1.l x).1 = ((cHasP A.l x).1 && (cHasP B.l x).1) := fun h => by
    refine bool_iff ?_
    rw [Bool.and_eq_true, (hP (gM h).1).2, (gM h).2, fA.2, fB.2]
  have eJ : ((cJnS A.l B.l).2 == (0 : Int)) = true → (cHasP (cJnS A.l B.l).1.l x).1 = ((cHasP A.l x).1 || (cHasP B.l x).1) := fun h => by
    refine bool_iff ?_
    rw [Bool.or_eq_true, (hP (gJ h).1).2, (gJ h).2, fA.2, fB.2]
  have eN : ((cNtS A.l).2 != (0 : Int)) = false → (cHasP (cNtS A.l).1.l x).1 = !(cHasP A.l x).1 := fun h => by
    refine bool_iff ?_
    rw [Bool.not_eq_true', (hP (gN h).1).2, (gN h).2 _ ox, ← fA.2]
    simp
  have mT : ((cMtS A.l B.l).2 == (0 : Int)) = true → (cHasP A.l x).1 = true → (!(cHasP (cMtS A.l B.l).1.l x).1 == (cHasP B.l x).1) = false := fun h ha => by rw [eM h, ha]; simp
  have mF : ((cMtS A.l B.l).2 == (0 : Int)) = true → (cHasP A.l x).1 = false → (!(cHasP (cMtS A.l B.l).1.l x).1 == false) = false := fun h ha => by rw [eM h, ha]; rfl
  have jT : ((cJnS A.l B.l).2 == (0 : Int)) = true → (cHasP A.l x).1 = true → (!(cHasP (cJnS A.l B.l).1.l x).1 == true) = false := fun h ha => by rw [eJ h, ha]; rfl
  have jF : ((cJnS A.l B.l).2 == (0 : Int)) = true → (cHasP A.l x).1 = false → (!(cHasP (cJnS A.l B.l).1.l x).1 == (cHasP B.l x).1) = false := fun h ha => by rw [eJ h, ha]; simp
  have bN : ((cNtS A.l).2 != (0 : Int)) = false → ((cHasP (cNtS A.l).1.l x).1 == !(cHasP A.l x).1) = true := fun h => by rw [eN h]; simp
  have dNN : ((cNtS A.l).2 != (0 : Int)) = false → Den E1 30 [(cNtS A.l).1.p] (.tup [(cNtS (cNtS A.l).1.l).1.p, intP (cNtS (cNtS A.l).1.l).2]) := fun h => by
    have g := (gN h).1
    rw [cNtS_eq (cNtS A.l).1.l]
    exact den_span_Not _ _ _ _ g.is.sl g.is.ok (fun _ => g.np)
  have dS : ((cNtS A.l).2 != (0 : Int)) = false → Den E1 16 [(cNtS (cNtS A.l).1.l).1.p, A.p] (bolP (cSame (cNtS (cNtS A.l).1.l).1.l A.l)) := fun h => by
    have g := (gN h).1
    have i2 : (cNtS (cNtS A.l).1.l).1.is 16 := by rw [cNtS_eq (cNtS A.l).1.l]; exact ntS_is g.is.ok
    rw [cSame_eq]
    exact den_same _ A.l _ A.k _ _ A.nl A.full i2.sl gA.is.sl i2.ok gA.is.ok (is_small i2)
  have sS : ((cNtS A.l).2 != (0 : Int)) = false → ((cNtS (cNtS A.l).1.l).2 != (0 : Int)) = false → cSame (cNtS (cNtS A.l).1.l).1.l A.l = true := fun h h2 => by
    have h := zero_ne.1 h
    have h2 := zero_ne.1 h2
    rw [cNtS_eq A.l] at h h2 ⊢
    rw [cNtS_eq] at h2 ⊢
    rw [cSame_eq]
    exact n_same (nt_nt gA h h2)
  refine ⟨rfl, dH gA.is, rfl, dH gB.is, ?_⟩
  exact ⟨dM, fun hM => ⟨rfl, dH iM, fun h => no' (zM hM) h, fun _ => ⟨fun ha => ⟨fun h => no' (mT hM ha) h, fun _ => ⟨dJ, fun hJ => ⟨rfl, dH iJ, fun h => no' (zJ hJ) h, fun _ => ⟨ha, fun h => no' (jT hJ ha) h, fun _ => ⟨dN, fun _ => ⟨den_alive, rfl⟩, fun hN => ⟨rfl, dH iN, dNN hN, fun _ => ⟨fun _ => ⟨fun _ => ⟨den_alive, rfl⟩, fun hNN => ⟨dS hN, fun _ => ⟨den_alive, rfl⟩, fun h => no (sS hN hNN) h⟩⟩, fun h => no (bN hN) h⟩, fun h => no (zN hN) h⟩⟩⟩⟩, fun _ => ⟨dN, fun _ => ⟨den_alive, rfl⟩, fun hN => ⟨rfl, dH iN, dNN hN, fun _ => ⟨fun _ => ⟨fun _ => ⟨den_alive, rfl⟩, fun hNN => ⟨dS hN, fun _ => ⟨den_alive, rfl⟩, fun h => no (sS hN hNN) h⟩⟩, fun h => no (bN hN) h⟩, fun h => no (zN hN) h⟩⟩⟩⟩, fun ha => ⟨fun h => no' (mF hM ha) h, fun _ => ⟨dJ, fun hJ => ⟨rfl, dH iJ, fun h => no' (zJ hJ) h, fun _ => ⟨ha, fun h => no' (jF hJ ha) h, fun _ => ⟨dN, fun _ => ⟨den_alive, rfl⟩, fun hN => ⟨rfl, dH iN, dNN hN, fun _ => ⟨fun _ => ⟨fun _ => ⟨den_alive, rfl⟩, fun hNN => ⟨dS hN, fun _ => ⟨den_alive, rfl⟩, fun h => no (sS hN hNN) h⟩⟩, fun h => no (bN hN) h⟩, fun h => no (zN hN) h⟩⟩⟩⟩, fun _ => ⟨dN, fun _ => ⟨den_alive, rfl⟩, fun hN => ⟨rfl, dH iN, dNN hN, fun _ => ⟨fun _ => ⟨fun _ => ⟨den_alive, rfl⟩, fun hNN => ⟨dS hN, fun _ => ⟨den_alive, rfl⟩, fun h => no (sS hN hNN) h⟩⟩, fun h => no (bN hN) h⟩, fun h => no (zN hN) h⟩⟩⟩⟩⟩⟩, fun _ => ⟨dJ, fun hJ => ⟨rfl, dH iJ, fun h => no' (zJ hJ) h, fun _ => ⟨fun ha => ⟨fun h => no' (jT hJ ha) h, fun _ => ⟨dN, fun _ => ⟨den_alive, rfl⟩, fun hN => ⟨rfl, dH iN, dNN hN, fun _ => ⟨fun _ => ⟨fun _ => ⟨den_alive, rfl⟩, fun hNN => ⟨dS hN, fun _ => ⟨den_alive, rfl⟩, fun h => no (sS hN hNN) h⟩⟩, fun h => no (bN hN) h⟩, fun h => no (zN hN) h⟩⟩⟩, fun ha => ⟨fun h => no' (jF hJ ha) h, fun _ => ⟨dN, fun _ => ⟨den_alive, rfl⟩, fun hN => ⟨rfl, dH iN, dNN hN, fun _ => ⟨fun _ => ⟨fun _ => ⟨den_alive, rfl⟩, fun hNN => ⟨dS hN, fun _ => ⟨den_alive, rfl⟩, fun h => no (sS hN hNN) h⟩⟩, fun h => no (bN hN) h⟩, fun h => no (zN hN) h⟩⟩⟩⟩⟩, fun _ => ⟨dN, fun _ => ⟨den_alive, rfl⟩, fun hN => ⟨rfl, dH iN, dNN hN, fun _ => ⟨fun _ => ⟨fun _ => ⟨den_alive, rfl⟩, fun hNN => ⟨dS hN, fun _ => ⟨den_alive, rfl⟩, fun h => no (sS hN hNN) h⟩⟩, fun h => no (bN hN) h⟩, fun h => no (zN hN) h⟩⟩⟩⟩
end Go.Proofs.YtlhfgonjcpapnaaGreatDoor.Abs

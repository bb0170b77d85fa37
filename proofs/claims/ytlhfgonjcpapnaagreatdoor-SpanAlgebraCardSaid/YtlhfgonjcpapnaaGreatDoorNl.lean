/-
  The abstract machine over the model, its soundness, walks of the program's functions and what they compute. Conditions: the values are of their types.
-/
import Derived.Test.YtlhfgonjcpapnaaGreatDoorNj
import Derived.Test.YtlhfgonjcpapnaaGreatDoorNk

set_option linter.all false
set_option linter.unnecessarySimpa false

set_option maxRecDepth 20000
namespace Go.Proofs.YtlhfgonjcpapnaaGreatDoor.Abs
open Go Go.Proofs
theorem emp_iff {x : I} : emptyI x = false ↔ (x.less = true ∨ cmpV x.lo x.hi < 0 ∨ (cmpV x.lo x.hi = 0 ∧ x.lopen = false ∧ x.hopen = false)) := by
  unfold emptyI
  cases x.less <;> cases x.lopen <;> cases x.hopen <;> simp <;> omega
theorem emp_up {x y : I} (ex : emptyI x = false) (h : highI x y < 0) : emptyI (upR x y) = false := by
  rw [emp_iff] at ex ⊢
  show y.less = true ∨ cmpV x.lo y.hi < 0 ∨ (cmpV x.lo y.hi = 0 ∧ x.lopen = false ∧ y.hopen = false)
  unfold highI at h
  cases hx : x.less with
  | true =>
    rw [hx] at h
    cases hy : y.less <;> rw [hy] at h <;> simp at h
  | false =>
    cases hy : y.less with
    | true => exact .inl rfl
    | false =>
      rw [hx, hy] at h
      rw [hx] at ex
      simp only [Bool.false_eq_true, if_false] at h
      right
      rcases ex with ex | ex | ⟨e1, e2, e3⟩
      · cases ex
      · by_cases h0 : cmpV x.hi y.hi = 0
        · exact .inl (tr_cmpV.le _ _ _ ex h0)
        · have h4 : (cmpV x.hi y.hi != 0) = true := by simpa using h0
          rw [if_pos h4] at h
          exact .inl (tr_cmpV.ll _ _ _ ex h)
      · by_cases h0 : cmpV x.hi y.hi = 0
        · have h4 : (cmpV x.hi y.hi != 0) = false := by simpa using h0
          rw [h4, e3] at h
          simp only [Bool.false_eq_true, if_false] at h
          cases hh : y.hopen <;> rw [hh] at h <;> simp [h0] at h
        · have h4 : (cmpV x.hi y.hi != 0) = true := by simpa using h0
          rw [if_pos h4] at h
          exact .inl (tr_cmpV.el _ _ _ e1 h)
theorem emp_sort : ∀ (l s : List I), (∀ y ∈ s, emptyI y = false) → ∀ y ∈ sortR l s, emptyI y = false
  | [], s, h => h
  | x :: l, s, h => by
    have h1 : sortR (x :: l) s = sortR l (if emptyI x then s else insR s x) := rfl
    rw [h1]
    refine emp_sort l _ ?_
    cases he : emptyI x with
    | true => exact h
    | false =>
      intro y hy
      rcases mem_insR hy with hy | rfl
      · exact h y hy
      · exact he
section
variable (s : List UInt8) (k : Nat) (nl full : Bool) (x : List (List UInt8))
end
end Go.Proofs.YtlhfgonjcpapnaaGreatDoor.Abs

namespace Go.Proofs.YtlhfgonjcpapnaaGreatDoor.Abs
open Go Go.Proofs
theorem cmpS_zero {a b : List UInt8} (h : cmpS a b = 0) : a = b := by
  unfold cmpS at h
  split at h
  · cases h
  · split at h
    · rename_i h2; exact eq_of_beq h2
    · cases h
theorem ord_zero {a b : List UInt8} (h : ordL a b = 0) : a = b := by
  unfold ordL at h
  split at h
  · cases h
  · split at h
    · cases h
    · split at h
      · rename_i h3
        simp only [Bool.and_eq_true, bne_iff_ne, ne_eq] at h3
        exact absurd h h3.2
      · exact cmpS_zero h
theorem cmpP_zero : ∀ {x y : List (List UInt8)}, cmpP x y = 0 → x = y
  | [], [], _ => rfl
  | [], _ :: _, h => by cases h
  | _ :: _, [], h => by cases h
  | a :: x, b :: y, h => by
    unfold cmpP at h
    split at h
    · rename_i h2; exact absurd h h2
    · rename_i h2
      have h2 : ordL a b = 0 := by simpa using h2
      rw [ord_zero h2, cmpP_zero h]
theorem cmp_zero {v w : V} (h : cmpV v w = 0) : nV v = nV w := by
  unfold cmpV at h
  split at h
  · rename_i h2; exact absurd h h2
  · rename_i h2
    have h2 : cmpN v w = 0 := by simpa using h2
    unfold cmpN or3 at h2
    have ha : v.a = w.a := by
      by_cases h3 : cmpI v.a w.a = 0
      · exact (cmpI_eq _ _).1 h3
      · rw [if_pos h3] at h2; exact absurd h2 h3
    have hb : v.b = w.b := by
      rw [if_neg (by rw [(cmpI_eq _ _).2 ha]; simp)] at h2
      by_cases h3 : cmpI v.b w.b = 0
      · exact (cmpI_eq _ _).1 h3
      · rw [if_pos h3] at h2; exact absurd h2 h3
    have hc : v.c = w.c := by
      rw [if_neg (by rw [(cmpI_eq _ _).2 ha]; simp), if_neg (by rw [(cmpI_eq _ _).2 hb]; simp)] at h2
      exact (cmpI_eq _ _).1 h2
    have hp : v.pre = w.pre := by
      split at h
      · rename_i h4
        have := (cmpI_eq _ _).1 h
        have h5 : v.pre = [] := List.length_eq_zero_iff.1 (by omega)
        have h6 : w.pre = [] := List.length_eq_zero_iff.1 (by omega)
        rw [h5, h6]
      · exact cmpP_zero h
    unfold nV
    rw [ha, hb, hc, hp]
theorem cmpI_le {x y : Int} (h : x ≤ y) : cmpI x y ≤ 0 := by unfold cmpI; split <;> (try split) <;> omega
theorem ord_bot (a : List UInt8) : ordL [48] a ≤ 0 := by
  have hd : digitsL [48] = true := by decide
  unfold ordL
  rw [hd]
  cases ha : digitsL a with
  | false => simp
  | true =>
    obtain ⟨h1, h2⟩ := digits_all ha
    have hl : 1 ≤ a.length := List.length_pos_iff.2 h2
    simp only [Bool.not_true, Bool.and_false, Bool.and_true, Bool.true_and, Bool.false_eq_true, if_false, Bool.and_self]
    have hc : cmpI (([48] : List UInt8).length : Int) (a.length : Int) ≤ 0 := cmpI_le (by simp; omega)
    split
    · exact hc
    · rename_i h3
      have h3 : cmpI (([48] : List UInt8).length : Int) (a.length : Int) = 0 := by simpa using h3
      have h4 := (cmpI_eq _ _).1 h3
      match a, h4, h1 with
      | [d], _, h1 =>
        rw [cmpS_lex]
        simp only [List.all_cons, List.all_nil, Bool.and_true, isDig, Bool.and_eq_true, decide_eq_true_eq] at h1
        show (if cmpI ((48 : UInt8).toNat : Int) (d.toNat : Int) ≠ 0 then cmpI ((48 : UInt8).toNat : Int) (d.toNat : Int) else 0) ≤ 0
        have : cmpI ((48 : UInt8).toNat : Int) (d.toNat : Int) ≤ 0 := cmpI_le (by show ((48 : Nat) : Int) ≤ _; omega)
        split <;> omega
      | [], h4, _ => simp at h4
      | _ :: _ :: _, h4, _ => simp at h4; omega
theorem bot_le {v : V} (hv : v.ok) : cmpV bottomV v ≤ 0 := by
  have ha : cmpI 0 v.a ≤ 0 := cmpI_le hv.a.1
  have hb : cmpI 0 v.b ≤ 0 := cmpI_le hv.b.1
  have hc : cmpI 0 v.c ≤ 0 := cmpI_le hv.c.1
  have hn : cmpN bottomV v ≤ 0 := by
    show or3 (cmpI 0 v.a) (cmpI 0 v.b) (cmpI 0 v.c) ≤ 0
    unfold or3
    split
    · exact ha
    · split
      · exact hb
      · exact hc
  unfold cmpV
  split
  · exact hn
  · split
    · rename_i h
      have h : v.pre.length = 0 := by
        rcases h with h | h
        · simp [bottomV] at h
        · exact h
      rw [h]
      exact cmpI_le (by simp)
    · show cmpP [[48]] v.pre ≤ 0
      cases hp : v.pre with
      | nil => rename_i h; exact absurd (.inr (by rw [hp]; rfl)) h
      | cons a y =>
        unfold cmpP
        split
        · exact ord_bot a
        · cases y <;> simp [cmpP]
theorem n_emp {x y : I} (h : nI x = nI y) : emptyI x = emptyI y := by rw [← n_empty x, h, n_empty]
theorem bot_low (v : V) (hv : v.ok) (o : Bool) : ¬ lowB ⟨v, o⟩ ⟨bottomV, false⟩ < 0 := by
  have h := bot_le hv
  have ha := an_cmpV bottomV v
  unfold lowB
  show ¬ (if cmpV v bottomV != 0 || o == false then cmpV v bottomV else if false then -1 else 1) < 0
  split
  · omega
  · simp
section
variable {v : V} (hv : v.ok) (hm : mayV v = true) (hl : (verL v).length ≤ 128)
include hv hm hl
end
end Go.Proofs.YtlhfgonjcpapnaaGreatDoor.Abs

set_option maxRecDepth 20000
namespace Go.Proofs.YtlhfgonjcpapnaaGreatDoor.Abs
open Go Go.Proofs
theorem zero_nV {v : V} (h : zeroB v = true) : nV v = nV zV := by
  simp only [zeroB, Bool.and_eq_true, beq_iff_eq, decide_eq_true_eq] at h
  obtain ⟨⟨⟨h1, h2⟩, h3⟩, h4⟩ := h
  have h5 : v.pre = [] := List.length_eq_zero_iff.1 h4
  unfold nV
  rw [h1, h2, h3, h5]
  rfl
theorem right_rt {x : I} (h : rightI x = true) : rt x := by
  have h' := h
  simp only [rightI, Bool.and_eq_true, Bool.or_eq_true, Bool.not_eq_true'] at h'
  refine ⟨right_lo h, right_hi h, fun hl => ?_, fun hl => ?_⟩
  · rcases h'.2 with h2 | h2
    · rw [hl] at h2; cases h2
    · exact h2.1
  · rcases h'.2 with h2 | h2
    · rw [hl] at h2; cases h2
    · exact zero_nV h2.2
end Go.Proofs.YtlhfgonjcpapnaaGreatDoor.Abs

namespace Go.Proofs.YtlhfgonjcpapnaaGreatDoor.Abs
open Go Go.Proofs
def swapL (a b n : Nat) (l : List I) : List I := l.take a ++ ((l.drop b).take n ++ ((l.take b).drop (a + n) ++ ((l.drop a).take n ++ l.drop (b + n))))
def rotL (a m b : Nat) (l : List I) : List I := l.take a ++ ((l.take b).drop m ++ ((l.take m).drop a ++ l.drop b))
noncomputable def cSwap : Nat → Nat → Nat → List I → List I := shut swapL
noncomputable def cRot : Nat → Nat → Nat → List I → List I := shut rotL
noncomputable def cSym : Nat → Nat → Nat → List I → List I := shut symL
theorem cSwap_eq (a b n : Nat) (l : List I) : cSwap a b n l = swapL a b n l := by rw [cSwap, shut_eq]
theorem cRot_eq (a m b : Nat) (l : List I) : cRot a m b l = rotL a m b l := by rw [cRot, shut_eq]
theorem cSym_eq (a m b : Nat) (l : List I) : cSym a m b l = symL a m b l := by rw [cSym, shut_eq]
end Go.Proofs.YtlhfgonjcpapnaaGreatDoor.Abs

namespace Go.Proofs.YtlhfgonjcpapnaaGreatDoor.Abs
open Go Go.Proofs
theorem lowB_lex (x y : Bd) : lowB x y = lex2 (fun x y => cmpV x.v y.v) (fun x y => cmpI (if x.op then 1 else 0) (if y.op then 1 else 0)) x y := by
  unfold lowB lex2
  by_cases h : cmpV x.v y.v = 0
  · cases hx : x.op <;> cases hy : y.op <;> simp [h, hx, hy, cmpI]
  · have h2 : (cmpV x.v y.v != 0) = true := by simpa using h
    rw [h2, Bool.true_or, if_pos rfl, if_pos h]
theorem Tr.comap {α β : Type} {f : β → β → Int} (k : α → β) (h : Tr f) : Tr (fun a b => f (k a) (k b)) := ⟨fun a b c => h.ll _ _ _, fun a b c => h.le _ _ _, fun a b c => h.el _ _ _, fun a b c => h.ee _ _ _⟩
theorem An.comap {α β : Type} {f : β → β → Int} (k : α → β) (h : An f) : An (fun a b => f (k a) (k b)) := fun a b => h _ _
theorem tr_lowB : Tr lowB := Tr.congr lowB_lex (Tr.lex (Tr.comap Bd.v tr_cmpV) (Tr.key fun x : Bd => if x.op then 1 else 0))
theorem an_lowB : An lowB := An.congr lowB_lex (An.lex (An.comap Bd.v an_cmpV) (An.key fun x : Bd => if x.op then 1 else 0))
def leI (x y : I) : Bool := decide (befE y.low x.low ≥ 0)
def lo2 (x : I) : Prop := mayV x.lo = true
theorem lo_low {x y : I} (hx : lo2 x) (hy : lo2 y) : (befE x.low y.low < 0 ↔ lowB x.lb y.lb < 0) := by
  unfold befE lowB I.low I.lb
  rw [ordV_of hx hy]
  simp only [Bool.and_false, Bool.false_eq_true, if_false]
  by_cases h0 : cmpV x.lo y.lo = 0
  · cases h1 : x.lopen <;> cases h2 : y.lopen <;> simp [h0]
  · have h4 : (cmpV x.lo y.lo != 0) = true := by simpa using h0
    rw [if_pos h4, h4, Bool.true_or, if_pos rfl]
theorem le_iff {x y : I} (hx : lo2 x) (hy : lo2 y) : leI x y = true ↔ lowB x.lb y.lb ≤ 0 := by
  have h1 := lo_low hy hx
  have h2 := an_lowB x.lb y.lb
  unfold leI
  rw [decide_eq_true_eq]
  constructor
  · intro h
    by_cases h3 : lowB y.lb x.lb < 0
    · have := h1.2 h3; omega
    · omega
  · intro h
    by_cases h3 : befE y.low x.low < 0
    · have := h1.1 h3; omega
    · omega
theorem lt_iff {x y : I} (hx : lo2 x) (hy : lo2 y) : leI x y = false ↔ lowB y.lb x.lb < 0 := by
  have h1 := le_iff hx hy
  have h2 := an_lowB x.lb y.lb
  constructor
  · intro h
    by_cases h3 : lowB x.lb y.lb ≤ 0
    · rw [h1.2 h3] at h; cases h
    · omega
  · intro h
    cases h3 : leI x y with
    | false => rfl
    | true => have := h1.1 h3; omega
theorem low_tr {a b c : Bd} (h1 : lowB a b ≤ 0) (h2 : lowB b c ≤ 0) : lowB a c ≤ 0 := by
  by_cases e1 : lowB a b = 0
  · by_cases e2 : lowB b c = 0
    · have := tr_lowB.ee _ _ _ e1 e2; omega
    · have := tr_lowB.el _ _ _ e1 (show lowB b c < 0 by omega); omega
  · by_cases e2 : lowB b c = 0
    · have := tr_lowB.le _ _ _ (show lowB a b < 0 by omega) e2; omega
    · have := tr_lowB.ll _ _ _ (show lowB a b < 0 by omega) (show lowB b c < 0 by omega); omega
theorem low_tr1 {a b c : Bd} (h1 : lowB a b < 0) (h2 : lowB b c ≤ 0) : lowB a c < 0 := by
  by_cases e2 : lowB b c = 0
  · exact tr_lowB.le _ _ _ h1 e2
  · exact tr_lowB.ll _ _ _ h1 (by omega)
theorem low_tr2 {a b c : Bd} (h1 : lowB a b ≤ 0) (h2 : lowB b c < 0) : lowB a c < 0 := by
  by_cases e1 : lowB a b = 0
  · exact tr_lowB.el _ _ _ e1 h2
  · exact tr_lowB.ll _ _ _ (by omega) h2
theorem merge_split {α : Type} (le : α → α → Bool) (X2 Y2 : List α) : ∀ (n : Nat) (X1 Y1 : List α), X1.length + Y1.length = n → (∀ x ∈ X1, ∀ y ∈ Y2, le x y = true) → (∀ y ∈ Y1, ∀ x ∈ X2, le x y = false) →
    (X1 ++ X2).merge (Y1 ++ Y2) le = X1.merge Y1 le ++ X2.merge Y2 le := by
  intro n
  induction n with
  | zero =>
    intro X1 Y1 hn _ _
    have h1 : X1 = [] := List.length_eq_zero_iff.1 (by omega)
    have h2 : Y1 = [] := List.length_eq_zero_iff.1 (by omega)
    subst h1; subst h2
    simp
  | succ n ih =>
    intro X1 Y1 hn hx hy
    cases X1 with
    | nil =>
      cases Y1 with
      | nil => simp at hn
      | cons y Y1 =>
        simp only [List.length_cons, List.length_nil] at hn
        have h := ih [] Y1 (by simp; omega) (by simp) (fun z hz => hy z (List.mem_cons_of_mem _ hz))
        cases X2 with
        | nil => simp
        | cons x X2 =>
          rw [List.nil_append, List.cons_append, List.cons_merge_cons, hy y (by simp) x (by simp)]
          rw [List.nil_append] at h
          simp only [Bool.false_eq_true, if_false]
          rw [h]
          simp
    | cons x X1 =>
      simp only [List.length_cons] at hn
      cases Y1 with
      | nil =>
        have h := ih X1 [] (by simpa using hn) (fun z hz => hx z (List.mem_cons_of_mem _ hz)) (by simp)
        cases Y2 with
        | nil => simp
        | cons y Y2 =>
          rw [List.nil_append, List.cons_append, List.cons_merge_cons, hx x (by simp) y (by simp)]
          rw [List.nil_append] at h
          simp only [if_true]
          rw [h]
          simp
      | cons y Y1 =>
        simp only [List.length_cons] at hn
        rw [List.cons_append, List.cons_append, List.cons_merge_cons, List.cons_merge_cons]
        split
        · have h := ih X1 (y :: Y1) (by simp; omega) (fun z hz => hx z (List.mem_cons_of_mem _ hz)) hy
          rw [List.cons_append] at h
          rw [h]; rfl
        · have h := ih (x :: X1) Y1 (by simp; omega) hx (fun z hz => hy z (List.mem_cons_of_mem _ hz))
          rw [List.cons_append] at h
          rw [h]; rfl
theorem mergeL_split (X1 X2 Y1 Y2 : List I) (h1 : ∀ x ∈ X1, ∀ y ∈ Y2, leI x y = true) (h2 : ∀ y ∈ Y1, ∀ x ∈ X2, leI x y = false) : (X1 ++ X2).merge (Y1 ++ Y2) leI = X1.merge Y1 leI ++ X2.merge Y2 leI := merge_split leI X2 Y2 _ X1 Y1 rfl h1 h2
theorem mem_merge {x : I} {X Y : List I} (h : x ∈ X.merge Y leI) : x ∈ X ∨ x ∈ Y := by
  have := (List.merge_perm_append (le := leI) (xs := X) (ys := Y)).mem_iff.1 h
  exact List.mem_append.1 this
abbrev Srt (l : List I) : Prop := l.Pairwise fun x y => leI x y = true
theorem ins_split {P Q : List I} {y : I} (h1 : ∀ p ∈ P, ¬ befE y.low p.low < 0) (h2 : ∀ q ∈ Q, befE y.low q.low < 0) : insS (P ++ Q) y = P ++ y :: Q := by
  have key : ∀ k, k ≤ Q.length → insPosS (P ++ Q) y (P.length + k) = P.length := by
    intro k
    induction k with
    | zero =>
      intro _
      rw [Nat.add_zero]
      cases hp : P.length with
      | zero => rfl
      | succ m =>
        unfold insPosS
        have hm : m < P.length := by omega
        have : (P ++ Q).getD m default = P.getD m default := by
          rw [List.getD_eq_getElem?_getD, List.getElem?_append_left hm, ← List.getD_eq_getElem?_getD]
        rw [this, if_neg (h1 _ (getD_mem hm default))]
    | succ k ih =>
      intro hk
      rw [← Nat.add_assoc]
      unfold insPosS
      have hq : (P ++ Q).getD (P.length + k) default = Q.getD k default := by
        rw [List.getD_eq_getElem?_getD, List.getElem?_append_right (by omega), Nat.add_sub_cancel_left, ← List.getD_eq_getElem?_getD]
      rw [hq, if_pos (h2 _ (getD_mem (by omega) default))]
      exact ih (by omega)
  unfold insS
  rw [List.length_append, key _ (Nat.le_refl _), List.take_left, List.drop_left]
theorem srt_cut {T : List I} (hg : ∀ x ∈ T, lo2 x) (hs : Srt T) {y : I} (hy : lo2 y) : ∃ P Q, T = P ++ Q ∧ (∀ p ∈ P, leI p y = true) ∧ (∀ q ∈ Q, leI q y = false) := by
  induction T with
  | nil => exact ⟨[], [], rfl, by simp, by simp⟩
  | cons x T ih =>
    have hs' := List.pairwise_cons.1 hs
    have gx := hg x (by simp)
    cases hc : leI x y with
    | true =>
      obtain ⟨P, Q, h1, h2, h3⟩ := ih (fun z hz => hg z (List.mem_cons_of_mem _ hz)) hs'.2
      refine ⟨x :: P, Q, by rw [h1]; rfl, fun p hp => ?_, h3⟩
      rcases List.mem_cons.1 hp with rfl | hp
      · exact hc
      · exact h2 p hp
    | false =>
      refine ⟨[], x :: T, rfl, by simp, fun q hq => ?_⟩
      rcases List.mem_cons.1 hq with rfl | hq
      · exact hc
      · have gq := hg q (List.mem_cons_of_mem _ hq)
        have h1 := (lt_iff gx hy).1 hc
        have h2 := (le_iff gx gq).1 (hs'.1 q hq)
        exact (lt_iff gq hy).2 (low_tr1 h1 h2)
theorem ins_cut {P Q : List I} {y : I} (h1 : ∀ p ∈ P, leI p y = true) (h2 : ∀ q ∈ Q, leI q y = false) : insS (P ++ Q) y = P ++ y :: Q := by
  refine ins_split (fun p hp => ?_) (fun q hq => ?_)
  · have := h1 p hp
    unfold leI at this
    rw [decide_eq_true_eq] at this
    omega
  · have := h2 q hq
    unfold leI at this
    rw [decide_eq_false_iff_not] at this
    omega
theorem srt_ins {T : List I} (hg : ∀ x ∈ T, lo2 x) (hs : Srt T) {y : I} (hy : lo2 y) : Srt (insS T y) := by
  obtain ⟨P, Q, rfl, h1, h2⟩ := srt_cut hg hs hy
  rw [ins_cut h1 h2]
  have h3 := List.pairwise_append.1 hs
  refine List.pairwise_append.2 ⟨h3.1, List.pairwise_cons.2 ⟨fun q hq => ?_, h3.2.1⟩, fun p hp q hq => ?_⟩
  · have gq := hg q (List.mem_append_right _ hq)
    exact (le_iff hy gq).2 (by have := (lt_iff gq hy).1 (h2 q hq); omega)
  · rcases List.mem_cons.1 hq with rfl | hq
    · exact h1 p hp
    · exact h3.2.2 p hp q hq
theorem lo_ins {T : List I} (hg : ∀ x ∈ T, lo2 x) {y : I} (hy : lo2 y) : ∀ x ∈ insS T y, lo2 x := fun x hx => (mem_insS hx).elim (hg x) fun e => e ▸ hy
theorem srt_sort {l : List I} (hg : ∀ x ∈ l, lo2 x) : Srt (sortS l) ∧ ∀ x ∈ sortS l, lo2 x := by
  have : ∀ (l s : List I), (∀ x ∈ l, lo2 x) → (∀ x ∈ s, lo2 x) → Srt s → Srt (l.foldl insS s) ∧ ∀ x ∈ l.foldl insS s, lo2 x := by
    intro l
    induction l with
    | nil => intro s _ h1 h2; exact ⟨h2, h1⟩
    | cons x l ih => intro s h h1 h2; exact ih _ (fun y hy => h y (List.mem_cons_of_mem _ hy)) (lo_ins h1 (h x (by simp))) (srt_ins h1 h2 (h x (by simp)))
  exact this l [] hg (by simp) List.Pairwise.nil
theorem merge_ins {S T : List I} (hS : ∀ x ∈ S, lo2 x) (hT : ∀ x ∈ T, lo2 x) (sS : Srt S) (sT : Srt T) {y : I} (hy : lo2 y) : S.merge (insS T y) leI = insS (S.merge T leI) y := by
  obtain ⟨S1, S2, rfl, a1, a2⟩ := srt_cut hS sS hy
  obtain ⟨T1, T2, rfl, b1, b2⟩ := srt_cut hT sT hy
  have hs1 : ∀ x ∈ S1, lo2 x := fun x hx => hS x (List.mem_append_left _ hx)
  have hs2 : ∀ x ∈ S2, lo2 x := fun x hx => hS x (List.mem_append_right _ hx)
  have ht1 : ∀ x ∈ T1, lo2 x := fun x hx => hT x (List.mem_append_left _ hx)
  have ht2 : ∀ x ∈ T2, lo2 x := fun x hx => hT x (List.mem_append_right _ hx)
  have c1 : ∀ x ∈ S1, ∀ t ∈ T2, leI x t = true := fun x hx t ht => (le_iff (hs1 x hx) (ht2 t ht)).2 (by
    have h1 := (le_iff (hs1 x hx) hy).1 (a1 x hx)
    have h2 := (lt_iff (ht2 t ht) hy).1 (b2 t ht)
    have := low_tr2 h1 h2; omega)
  have c2 : ∀ t ∈ T1, ∀ x ∈ S2, leI x t = false := fun t ht x hx => (lt_iff (hs2 x hx) (ht1 t ht)).2 (low_tr2 ((le_iff (ht1 t ht) hy).1 (b1 t ht)) ((lt_iff (hs2 x hx) hy).1 (a2 x hx)))
  have m0 := mergeL_split S1 S2 T1 T2 c1 c2
  have m1 := mergeL_split S1 S2 (T1 ++ [y]) T2 c1 (fun t ht x hx => (List.mem_append.1 ht).elim (fun h => c2 t h x hx) (fun h => by rw [List.mem_singleton.1 h]; exact a2 x hx))
  have m2 := mergeL_split S1 [] T1 [y] (fun x hx z hz => by rw [List.mem_singleton.1 hz]; exact a1 x hx) (by simp)
  rw [List.append_nil] at m2
  rw [ins_cut b1 b2, show T1 ++ y :: T2 = (T1 ++ [y]) ++ T2 by simp, m1, m2, m0]
  rw [ins_cut (P := S1.merge T1 leI) (Q := S2.merge T2 leI)]
  · simp
  · intro p hp
    rcases mem_merge hp with h | h
    · exact a1 p h
    · exact b1 p h
  · intro q hq
    rcases mem_merge hq with h | h
    · exact a2 q h
    · exact b2 q h
theorem sort_merge {X : List I} (hX : ∀ x ∈ X, lo2 x) : ∀ {Y : List I}, (∀ y ∈ Y, lo2 y) → (sortS X).merge (sortS Y) leI = sortS (X ++ Y) := by
  intro Y hY
  obtain ⟨sX, gX⟩ := srt_sort hX
  have : ∀ (n : Nat) (Y : List I), Y.length = n → (∀ y ∈ Y, lo2 y) → (sortS X).merge (sortS Y) leI = sortS (X ++ Y) := by
    intro n
    induction n with
    | zero =>
      intro Y hn _
      have : Y = [] := List.length_eq_zero_iff.1 hn
      subst this
      simp [sortS]
    | succ n ih =>
      intro Y hn hY
      have hne : Y ≠ [] := by rintro rfl; simp at hn
      have e := List.dropLast_concat_getLast hne
      have hD : ∀ y ∈ Y.dropLast, lo2 y := fun y hy => hY y (List.dropLast_subset _ hy)
      have hlast := hY _ (List.getLast_mem hne)
      obtain ⟨sD, gD⟩ := srt_sort hD
      rw [← e, sortS_snoc, merge_ins gX gD sX sD hlast, ih _ (by rw [List.length_dropLast]; omega) hD, ← List.append_assoc, sortS_snoc]
  exact this _ Y rfl hY
end Go.Proofs.YtlhfgonjcpapnaaGreatDoor.Abs

namespace Go.Proofs.YtlhfgonjcpapnaaGreatDoor.Abs
open Go Go.Proofs
def I.hb (x : I) : Bd := ⟨x.hi, !x.hopen⟩
def cov (x : I) (c : Bd) : Prop := lowB x.lb c ≤ 0 ∧ (x.less = true ∨ lowB c x.hb < 0)
def covL (l : List I) (c : Bd) : Prop := ∃ x ∈ l, cov x c
theorem low_self (c : Bd) : lowB c c = 0 := by have := an_lowB c c; omega
theorem low_neg (a b : Bd) : lowB b a = - lowB a b := an_lowB a b
theorem ne_iff {x : I} : emptyI x = false ↔ (x.less = true ∨ lowB x.lb x.hb < 0) := by
  rw [emp_iff]
  unfold lowB I.lb I.hb
  by_cases h : cmpV x.lo x.hi = 0
  · cases x.less <;> cases x.lopen <;> cases x.hopen <;> simp [h]
  · have h2 : (cmpV x.lo x.hi != 0) = true := by simpa using h
    rw [h2, Bool.true_or, if_pos rfl]
    cases x.less <;> simp [h]
theorem touch_iff {x y : I} : touchI x y = true ↔ (x.less = true ∨ lowB y.lb x.hb ≤ 0) := by
  have ha := an_cmpV x.hi y.lo
  unfold touchI lowB I.lb I.hb
  by_cases h : cmpV x.hi y.lo = 0
  · rw [h] at ha
    cases x.less <;> cases x.hopen <;> cases y.lopen <;> simp [h, ha]
  · have h2 : (cmpV y.lo x.hi != 0) = true := by simp; omega
    have h3 : (cmpV x.hi y.lo == 0) = false := by simpa using h
    rw [h2, Bool.true_or, if_pos rfl, h3, Bool.false_and, Bool.or_false]
    cases x.less
    · simp; omega
    · simp
theorem high_iff {x y : I} : highI x y < 0 ↔ (x.less = false ∧ (y.less = true ∨ lowB x.hb y.hb < 0)) := by
  unfold highI lowB I.hb
  cases hx : x.less <;> cases hy : y.less <;> simp
  by_cases h : cmpV x.hi y.hi = 0
  · cases x.hopen <;> cases y.hopen <;> simp [h]
  · simp [h]
theorem cov_meet {x y : I} {c : Bd} : cov (meet1 x y) c ↔ cov x c ∧ cov y c := by
  have hm : (mixL x y).hb = x.hb := rfl
  have hml : (mixL x y).less = x.less := rfl
  have hmb : (mixL x y).lb = y.lb := rfl
  have hm' : (mixL y x).hb = y.hb := rfl
  have hml' : (mixL y x).less = y.less := rfl
  have hmb' : (mixL y x).lb = x.lb := rfl
  have low1 : ∀ {a b : Bd}, lowB a b < 0 → lowB b c ≤ 0 → lowB a c ≤ 0 := fun h1 h2 => by have := low_tr1 h1 h2; omega
  have low0 : ∀ {a b : Bd}, ¬ lowB a b < 0 → lowB a c ≤ 0 → lowB b c ≤ 0 := fun {a b} h1 h2 => low_tr (show lowB b a ≤ 0 by have := low_neg a b; omega) h2
  have hi1 : highI y x < 0 → ((y.less = true ∨ lowB c y.hb < 0) ↔ ((x.less = true ∨ lowB c x.hb < 0) ∧ (y.less = true ∨ lowB c y.hb < 0))) := by
    intro h
    obtain ⟨h1, h2⟩ := high_iff.1 h
    constructor
    · intro h3
      refine ⟨?_, h3⟩
      rcases h3 with h3 | h3
      · rw [h1] at h3; cases h3
      · rcases h2 with h2 | h2
        · exact .inl h2
        · exact .inr (low_tr1 h3 (by omega))
    · exact fun h => h.2
  have hi0 : ¬ highI y x < 0 → ((x.less = true ∨ lowB c x.hb < 0) ↔ ((x.less = true ∨ lowB c x.hb < 0) ∧ (y.less = true ∨ lowB c y.hb < 0))) := by
    intro h
    constructor
    · intro h3
      refine ⟨h3, ?_⟩
      cases hy : y.less with
      | true => exact .inl rfl
      | false =>
        right
        have h4 : ¬ (x.less = true ∨ lowB y.hb x.hb < 0) := fun h5 => h (high_iff.2 ⟨hy, h5⟩)
        rcases h3 with h3 | h3
        · exact absurd (.inl h3) h4
        · have h6 : ¬ lowB y.hb x.hb < 0 := fun h5 => h4 (.inr h5)
          exact low_tr1 h3 (by have := low_neg y.hb x.hb; omega)
    · exact fun h => h.1
  have hh : highI y (mixL x y) = highI y x := rfl
  cases c1 : decide (lowB x.lb y.lb < 0) with
  | true =>
    have d1 := of_decide_eq_true c1
    cases c2 : decide (highI y x < 0) with
    | true =>
      rw [meet1_a c1 (by rw [hh]; exact c2)]
      have d2 := hi1 (of_decide_eq_true c2)
      unfold cov
      constructor
      · rintro ⟨h1, h2⟩
        exact ⟨⟨low1 d1 h1, (d2.1 h2).1⟩, h1, h2⟩
      · exact fun h => h.2
    | false =>
      rw [meet1_b c1 (by rw [hh]; exact c2)]
      have d2 := hi0 (of_decide_eq_false c2)
      unfold cov
      rw [hm, hml, hmb]
      constructor
      · rintro ⟨h1, h2⟩
        exact ⟨⟨low1 d1 h1, h2⟩, h1, (d2.1 h2).2⟩
      · exact fun h => ⟨h.2.1, h.1.2⟩
  | false =>
    have d1 := of_decide_eq_false c1
    cases c2 : decide (highI y x < 0) with
    | true =>
      rw [meet1_c c1 c2]
      have d2 := hi1 (of_decide_eq_true c2)
      unfold cov
      rw [hm', hml', hmb']
      constructor
      · rintro ⟨h1, h2⟩
        exact ⟨⟨h1, (d2.1 h2).1⟩, low0 d1 h1, h2⟩
      · exact fun h => ⟨h.1.1, h.2.2⟩
    | false =>
      rw [meet1_d c1 c2]
      have d2 := hi0 (of_decide_eq_false c2)
      unfold cov
      constructor
      · rintro ⟨h1, h2⟩
        exact ⟨⟨h1, h2⟩, low0 d1 h1, (d2.1 h2).2⟩
      · exact fun h => h.1
theorem cov_empty {x : I} (h : emptyI x = true) (c : Bd) : ¬ cov x c := by
  rintro ⟨h1, h2⟩
  have : ¬ (x.less = true ∨ lowB x.lb x.hb < 0) := fun h3 => by rw [ne_iff.2 h3] at h; cases h
  rcases h2 with h2 | h2
  · exact this (.inl h2)
  · exact this (.inr (low_tr2 h1 h2))
theorem covL_cons {x : I} {l : List I} {c : Bd} : covL (x :: l) c ↔ cov x c ∨ covL l c := by
  unfold covL
  constructor
  · rintro ⟨y, hy, h⟩
    rcases List.mem_cons.1 hy with rfl | hy
    · exact .inl h
    · exact .inr ⟨y, hy, h⟩
  · rintro (h | ⟨y, hy, h⟩)
    · exact ⟨x, by simp, h⟩
    · exact ⟨y, List.mem_cons_of_mem _ hy, h⟩
theorem covL_app {l m : List I} {c : Bd} : covL (l ++ m) c ↔ covL l c ∨ covL m c := by
  unfold covL
  constructor
  · rintro ⟨y, hy, h⟩
    exact (List.mem_append.1 hy).elim (fun h2 => .inl ⟨y, h2, h⟩) (fun h2 => .inr ⟨y, h2, h⟩)
  · rintro (⟨y, hy, h⟩ | ⟨y, hy, h⟩)
    · exact ⟨y, List.mem_append_left _ hy, h⟩
    · exact ⟨y, List.mem_append_right _ hy, h⟩
theorem covL_nil {c : Bd} : ¬ covL [] c := by rintro ⟨y, hy, _⟩; simp at hy
theorem cov_ins {s : List I} {x : I} {c : Bd} : covL (insR s x) c ↔ covL s c ∨ cov x c := by
  unfold insR
  rw [covL_app, covL_cons]
  have h := covL_app (l := s.take (insPos s x s.length)) (m := s.drop (insPos s x s.length)) (c := c)
  rw [List.take_append_drop] at h
  rw [h]
  constructor
  · rintro (h | h | h)
    · exact .inl (.inl h)
    · exact .inr h
    · exact .inl (.inr h)
  · rintro ((h | h) | h)
    · exact .inl h
    · exact .inr (.inr h)
    · exact .inr (.inl h)
theorem cov_sort {c : Bd} : ∀ (l s : List I), covL (sortR l s) c ↔ covL s c ∨ covL l c
  | [], s => ⟨fun h => .inl h, fun h => h.elim id fun h => absurd h covL_nil⟩
  | x :: l, s => by
    have h1 : sortR (x :: l) s = sortR l (if emptyI x then s else insR s x) := rfl
    rw [h1, cov_sort l, covL_cons]
    cases he : emptyI x with
    | true =>
      simp only [if_true]
      constructor
      · rintro (h | h)
        · exact .inl h
        · exact .inr (.inr h)
      · rintro (h | h | h)
        · exact .inl h
        · exact absurd h (cov_empty he c)
        · exact .inr h
    | false =>
      simp only [Bool.false_eq_true, if_false]
      rw [cov_ins]
      constructor
      · rintro ((h | h) | h)
        · exact .inl h
        · exact .inr (.inl h)
        · exact .inr (.inr h)
      · rintro (h | h | h)
        · exact .inl (.inl h)
        · exact .inl (.inr h)
        · exact .inr h
abbrev Ord (l : List I) : Prop := l.Pairwise fun x y => lowB x.lb y.lb ≤ 0
theorem insPos_cut {s : List I} {x : I} (hs : Ord s) : (∀ p ∈ s.take (insPos s x s.length), lowB p.lb x.lb ≤ 0) ∧ (∀ q ∈ s.drop (insPos s x s.length), lowB x.lb q.lb ≤ 0) := by
  have key : ∀ k, k ≤ s.length → (∀ q ∈ s.drop k, lowB x.lb q.lb ≤ 0) → (∀ p ∈ s.take (insPos s x k), lowB p.lb x.lb ≤ 0) ∧ (∀ q ∈ s.drop (insPos s x k), lowB x.lb q.lb ≤ 0) := by
    intro k
    induction k with
    | zero => intro _ h; exact ⟨by simp [insPos], h⟩
    | succ k ih =>
      intro hk h
      have hlt : k < s.length := by omega
      have hd : s.drop k = s.getD k default :: s.drop (k + 1) := drop_get hlt
      unfold insPos
      split
      · rename_i hc
        refine ih (by omega) fun q hq => ?_
        rw [hd] at hq
        rcases List.mem_cons.1 hq with rfl | hq
        · have := low_neg (s.getD k default).lb x.lb; omega
        · exact h q hq
      · rename_i hc
        refine ⟨fun p hp => ?_, h⟩
        have hle : lowB (s.getD k default).lb x.lb ≤ 0 := by omega
        have ht : s.take (k + 1) = s.take k ++ [s.getD k default] := by rw [List.take_succ_eq_append_getElem hlt, getD_lt hlt]
        rw [ht] at hp
        rcases List.mem_append.1 hp with hp | hp
        · have hsp : Ord (s.take k ++ s.drop k) := by rw [List.take_append_drop]; exact hs
          have := (List.pairwise_append.1 hsp).2.2 p hp (s.getD k default) (by rw [hd]; simp)
          exact low_tr this hle
        · rw [List.mem_singleton.1 hp]; exact hle
  exact key s.length (Nat.le_refl _) (by simp)
theorem ord_ins {s : List I} {x : I} (hs : Ord s) : Ord (insR s x) := by
  obtain ⟨h1, h2⟩ := insPos_cut (x := x) hs
  have hsp : Ord (s.take (insPos s x s.length) ++ s.drop (insPos s x s.length)) := by rw [List.take_append_drop]; exact hs
  have h3 := List.pairwise_append.1 hsp
  unfold insR
  refine List.pairwise_append.2 ⟨h3.1, List.pairwise_cons.2 ⟨h2, h3.2.1⟩, fun p hp q hq => ?_⟩
  rcases List.mem_cons.1 hq with rfl | hq
  · exact h1 p hp
  · exact h3.2.2 p hp q hq
theorem ord_sort : ∀ (l s : List I), Ord s → Ord (sortR l s)
  | [], s, h => h
  | x :: l, s, h => by
    have h1 : sortR (x :: l) s = sortR l (if emptyI x then s else insR s x) := rfl
    rw [h1]
    refine ord_sort l _ ?_
    split
    · exact h
    · exact ord_ins h
structure Form (l : List I) : Prop where
  ne : ∀ x ∈ l, emptyI x = false
  ap : l.Pairwise fun x y => x.less = false ∧ lowB x.hb y.lb < 0
theorem form_nil : Form [] := ⟨by simp, List.Pairwise.nil⟩
theorem step_form {out : List I} {x : I} (ho : Form out) (hx : emptyI x = false) (hord : ∀ y ∈ out, lowB y.lb x.lb ≤ 0) : Form (stepR out x) ∧ (∀ c, covL (stepR out x) c ↔ covL out c ∨ cov x c) ∧ ∀ z, (∀ y ∈ out, lowB y.lb z ≤ 0) → lowB x.lb z ≤ 0 → ∀ y ∈ stepR out x, lowB y.lb z ≤ 0 := by
  rcases List.eq_nil_or_concat out with rfl | ⟨o, y, rfl⟩
  · refine ⟨⟨fun z hz => ?_, by show [x].Pairwise _; simp⟩, fun c => ?_, fun z _ h2 w hw => ?_⟩
    · rw [List.mem_singleton.1 hz]; exact hx
    · show covL [x] c ↔ _
      rw [covL_cons]
      constructor
      · rintro (h | h)
        · exact .inr h
        · exact absurd h covL_nil
      · rintro (h | h)
        · exact absurd h covL_nil
        · exact .inl h
    · rw [List.mem_singleton.1 hw]; exact h2
  · rw [List.concat_eq_append] at *
    have hlast : (o ++ [y]).getD ((o ++ [y]).length - 1) default = y := by simp
    have hle : lowB y.lb x.lb ≤ 0 := hord y (by simp)
    have hne := ho.ne y (by simp)
    have hp := List.pairwise_append.1 ho.ap
    have hset : ∀ z : I, (o ++ [y]).set ((o ++ [y]).length - 1) z = o ++ [z] := by intro z; simp
    unfold stepR
    have hemp : (o ++ [y]).isEmpty = false := by simp
    rw [hemp, hlast]
    simp only [Bool.false_eq_true, if_false]
    by_cases ht : touchI y x = true
    · rw [if_pos ht]
      have ht' := touch_iff.1 ht
      by_cases hh : highI y x < 0
      · rw [if_pos hh, hset]
        obtain ⟨hl1, hl2⟩ := high_iff.1 hh
        have hup : emptyI (upR y x) = false := emp_up hne hh
        refine ⟨⟨fun z hz => ?_, ?_⟩, fun c => ?_, fun z h1 h2 w hw => ?_⟩
        · rcases List.mem_append.1 hz with hz | hz
          · exact ho.ne z (List.mem_append_left _ hz)
          · rw [List.mem_singleton.1 hz]; exact hup
        · exact List.pairwise_append.2 ⟨hp.1, by simp, fun a ha b hb => by
            rw [List.mem_singleton.1 hb]
            exact hp.2.2 a ha y (by simp)⟩
        · rw [covL_app, covL_app, covL_cons, covL_cons]
          have hub : cov (upR y x) c ↔ cov y c ∨ cov x c := by
            have e1 : (upR y x).lb = y.lb := rfl
            have e2 : (upR y x).hb = x.hb := rfl
            have e3 : (upR y x).less = x.less := rfl
            unfold cov
            rw [e1, e2, e3]
            constructor
            · rintro ⟨h1, h2⟩
              by_cases h3 : lowB c y.hb < 0
              · exact .inl ⟨h1, .inr h3⟩
              · right
                refine ⟨?_, h2⟩
                rcases ht' with h | h
                · rw [hl1] at h; cases h
                · exact low_tr h (by have := low_neg c y.hb; omega)
            · rintro (⟨h1, h2⟩ | ⟨h1, h2⟩)
              · refine ⟨h1, ?_⟩
                rcases h2 with h2 | h2
                · rw [hl1] at h2; cases h2
                · rcases hl2 with h3 | h3
                  · exact .inl h3
                  · exact .inr (low_tr1 h2 (by omega))
              · exact ⟨low_tr hle h1, h2⟩
          rw [hub]
          constructor
          · rintro (h | (h | h) | h)
            · exact .inl (.inl h)
            · exact .inl (.inr (.inl h))
            · exact .inr h
            · exact absurd h covL_nil
          · rintro ((h | h | h) | h)
            · exact .inl h
            · exact .inr (.inl (.inl h))
            · exact absurd h covL_nil
            · exact .inr (.inl (.inr h))
        · rcases List.mem_append.1 hw with hw | hw
          · exact h1 w (List.mem_append_left _ hw)
          · rw [List.mem_singleton.1 hw]; exact h1 y (by simp)
      · rw [if_neg hh]
        refine ⟨ho, fun c => ⟨fun h => .inl h, fun h => h.elim id fun h => ?_⟩, fun z h1 _ => h1⟩
        obtain ⟨h1, h2⟩ := h
        refine ⟨y, by simp, low_tr hle h1, ?_⟩
        cases hy : y.less with
        | true => exact .inl rfl
        | false =>
          right
          have h4 : ¬ (x.less = true ∨ lowB y.hb x.hb < 0) := fun h5 => hh (high_iff.2 ⟨hy, h5⟩)
          rcases h2 with h2 | h2
          · exact absurd (.inl h2) h4
          · have h6 : ¬ lowB y.hb x.hb < 0 := fun h5 => h4 (.inr h5)
            exact low_tr1 h2 (by have := low_neg y.hb x.hb; omega)
    · rw [if_neg ht]
      have ht' : ¬ (y.less = true ∨ lowB x.lb y.hb ≤ 0) := fun h => ht (touch_iff.2 h)
      have hyl : y.less = false := by cases h : y.less with
        | false => rfl
        | true => exact absurd (.inl h) ht'
      have hyx : lowB y.hb x.lb < 0 := by
        have h6 : ¬ lowB x.lb y.hb ≤ 0 := fun h => ht' (.inr h)
        have := low_neg y.hb x.lb; omega
      refine ⟨⟨fun z hz => ?_, List.pairwise_append.2 ⟨ho.ap, by simp, fun a ha b hb => ?_⟩⟩, fun c => ?_, fun z h1 h2 w hw => ?_⟩
      · rcases List.mem_append.1 hz with hz | hz
        · exact ho.ne z hz
        · rw [List.mem_singleton.1 hz]; exact hx
      · rw [List.mem_singleton.1 hb]
        rcases List.mem_append.1 ha with ha | ha
        · have := hp.2.2 a ha y (by simp)
          exact ⟨this.1, low_tr1 this.2 hle⟩
        · rw [List.mem_singleton.1 ha]; exact ⟨hyl, hyx⟩
      · rw [covL_app (l := o ++ [y]) (m := [x]), covL_cons]
        constructor
        · rintro (h | h | h)
          · exact .inl h
          · exact .inr h
          · exact absurd h covL_nil
        · rintro (h | h)
          · exact .inl h
          · exact .inr (.inl h)
      · rcases List.mem_append.1 hw with hw | hw
        · exact h1 w hw
        · rw [List.mem_singleton.1 hw]; exact h2
theorem fold_form : ∀ (l out : List I), (∀ x ∈ l, emptyI x = false) → Ord l → Form out → (∀ x ∈ l, ∀ y ∈ out, lowB y.lb x.lb ≤ 0) → Form (l.foldl stepR out) ∧ ∀ c, covL (l.foldl stepR out) c ↔ covL out c ∨ covL l c
  | [], out, _, _, ho, _ => ⟨ho, fun c => ⟨fun h => .inl h, fun h => h.elim id fun h => absurd h covL_nil⟩⟩
  | x :: l, out, hne, hord, ho, hlow => by
    have ho' := List.pairwise_cons.1 hord
    obtain ⟨h1, h2, h3⟩ := step_form ho (hne x (by simp)) (hlow x (by simp))
    obtain ⟨h4, h5⟩ := fold_form l (stepR out x) (fun y hy => hne y (List.mem_cons_of_mem _ hy)) ho'.2 h1 (fun z hz => h3 z.lb (hlow z (List.mem_cons_of_mem _ hz)) (ho'.1 z hz))
    refine ⟨h4, fun c => ?_⟩
    rw [List.foldl_cons, h5 c, h2 c, covL_cons]
    constructor
    · rintro ((h | h) | h)
      · exact .inl h
      · exact .inr (.inl h)
      · exact .inr (.inr h)
    · rintro (h | h | h)
      · exact .inl (.inl h)
      · exact .inl (.inr h)
      · exact .inr h
theorem join_form (l : List I) : Form (joinR l) ∧ ∀ c, covL (joinR l) c ↔ covL l c := by
  obtain ⟨h1, h2⟩ := fold_form (sortR l []) [] (emp_sort l [] (by simp)) (ord_sort l [] List.Pairwise.nil) form_nil (by simp)
  refine ⟨h1, fun c => ?_⟩
  unfold joinR
  rw [h2 c, cov_sort]
  constructor
  · rintro (h | h | h)
    · exact absurd h covL_nil
    · exact absurd h covL_nil
    · exact h
  · exact fun h => .inr (.inr h)
theorem meet_form (l m : List I) : Form (meetR l m) ∧ ∀ c, covL (meetR l m) c ↔ covL l c ∧ covL m c := by
  obtain ⟨h1, h2⟩ := join_form (l.flatMap fun x => m.map fun y => meet1 x y)
  refine ⟨h1, fun c => ?_⟩
  unfold meetR
  rw [h2 c]
  constructor
  · rintro ⟨z, hz, h⟩
    obtain ⟨x, hx, hz⟩ := List.mem_flatMap.1 hz
    obtain ⟨y, hy, rfl⟩ := List.mem_map.1 hz
    have := cov_meet.1 h
    exact ⟨⟨x, hx, this.1⟩, ⟨y, hy, this.2⟩⟩
  · rintro ⟨⟨x, hx, h1⟩, ⟨y, hy, h2⟩⟩
    exact ⟨meet1 x y, List.mem_flatMap.2 ⟨x, hx, List.mem_map.2 ⟨y, hy, rfl⟩⟩, cov_meet.2 ⟨h1, h2⟩⟩
theorem low_zero {a b : Bd} (h : lowB a b = 0) : nV a.v = nV b.v ∧ a.op = b.op := by
  rw [lowB_lex] at h
  unfold lex2 at h
  split at h
  · rename_i h2; exact absurd h h2
  · rename_i h2
    have h2 : cmpV a.v b.v = 0 := by simpa using h2
    refine ⟨cmp_zero h2, ?_⟩
    have h3 := (cmpI_eq _ _).1 h
    cases ha : a.op <;> cases hb : b.op <;> simp [ha, hb] at h3 ⊢
theorem form_tail {x : I} {l : List I} (h : Form (x :: l)) : Form l := ⟨fun y hy => h.ne y (List.mem_cons_of_mem _ hy), (List.pairwise_cons.1 h.ap).2⟩
theorem form_low {x : I} {l : List I} (h : Form (x :: l)) : cov x x.lb := ⟨by rw [low_self]; omega, ne_iff.1 (h.ne x (by simp))⟩
theorem form_behind {x : I} {l : List I} (h : Form (x :: l)) {c : Bd} (hc : covL l c) : x.less = false ∧ lowB x.hb c < 0 := by
  obtain ⟨y, hy, h1, _⟩ := hc
  have := (List.pairwise_cons.1 h.ap).1 y hy
  exact ⟨this.1, low_tr1 this.2 h1⟩
theorem form_least {x : I} {l : List I} (h : Form (x :: l)) {c : Bd} (hc : covL (x :: l) c) : lowB x.lb c ≤ 0 := by
  rcases covL_cons.1 hc with hc | hc
  · exact hc.1
  · have h1 := form_behind h hc
    have h2 := ne_iff.1 (h.ne x (by simp))
    rcases h2 with h2 | h2
    · rw [h1.1] at h2; cases h2
    · have := low_tr1 h2 (show lowB x.hb c ≤ 0 by omega); omega
theorem form_unique : ∀ {l m : List I}, Form l → Form m → (∀ x ∈ l, rt x ∧ x.ok) → (∀ x ∈ m, rt x ∧ x.ok) → (∀ c : Bd, c.v.ok → (covL l c ↔ covL m c)) → l.map nI = m.map nI
  | [], [], _, _, _, _, _ => rfl
  | [], y :: m, _, hm, _, om, h => absurd ((h y.lb (om y (by simp)).2.lo).2 (covL_cons.2 (.inl (form_low hm)))) covL_nil
  | x :: l, [], hl, _, ol, _, h => absurd ((h x.lb (ol x (by simp)).2.lo).1 (covL_cons.2 (.inl (form_low hl)))) covL_nil
  | x :: l, y :: m, hl, hm, ol, om, h => by
    obtain ⟨rx, ox⟩ := ol x (by simp)
    obtain ⟨ry, oy⟩ := om y (by simp)
    have h1 := form_least hm ((h x.lb ox.lo).1 (covL_cons.2 (.inl (form_low hl))))
    have h2 := form_least hl ((h y.lb oy.lo).2 (covL_cons.2 (.inl (form_low hm))))
    have hlow : lowB x.lb y.lb = 0 := by have := low_neg x.lb y.lb; omega
    have nx := ne_iff.1 (hl.ne x (by simp))
    have ny := ne_iff.1 (hm.ne y (by simp))
    -- the ends are one
    have half : ∀ {x y : I} {l m : List I}, Form (x :: l) → Form (y :: m) → lowB x.lb y.lb = 0 → x.ok → (∀ c : Bd, c.v.ok → (covL (x :: l) c ↔ covL (y :: m) c)) → ¬ (x.less = false ∧ (y.less = true ∨ lowB x.hb y.hb < 0)) := by
      intro x y l m hl hm hlow ox h hc
      obtain ⟨c1, c2⟩ := hc
      have nx := ne_iff.1 (hl.ne x (by simp))
      have hxx : lowB x.lb x.hb < 0 := by
        rcases nx with nx | nx
        · rw [c1] at nx; cases nx
        · exact nx
      have hyc : cov y x.hb := ⟨by have := low_tr2 (show lowB y.lb x.lb ≤ 0 by have := low_neg x.lb y.lb; omega) hxx; omega, c2⟩
      have := (h x.hb ox.hi).2 (covL_cons.2 (.inl hyc))
      rcases covL_cons.1 this with h3 | h3
      · rcases h3.2 with h4 | h4
        · rw [c1] at h4; cases h4
        · rw [low_self] at h4; omega
      · have := (form_behind hl h3).2
        rw [low_self] at this; omega
    have e1 := half hl hm hlow ox h
    have e2 := half hm hl (by have := low_neg x.lb y.lb; omega) oy (fun c hc => (h c hc).symm)
    have hless : x.less = y.less := by
      cases hx : x.less <;> cases hy : y.less
      · rfl
      · exact absurd ⟨hx, .inl hy⟩ e1
      · exact absurd ⟨hy, .inl hx⟩ e2
      · rfl
    have hends : nV x.hi = nV y.hi ∧ x.hopen = y.hopen := by
      cases hx : x.less with
      | true =>
        rw [hx] at hless
        rw [rx.hz hx, ry.hz hless.symm, rx.ho hx, ry.ho hless.symm]
        exact ⟨rfl, rfl⟩
      | false =>
        rw [hx] at hless
        have h3 : lowB x.hb y.hb = 0 := by
          have a1 : ¬ lowB x.hb y.hb < 0 := fun h => e1 ⟨hx, .inr h⟩
          have a2 : ¬ lowB y.hb x.hb < 0 := fun h => e2 ⟨hless.symm, .inr h⟩
          have := low_neg x.hb y.hb; omega
        have := low_zero h3
        refine ⟨this.1, ?_⟩
        have h4 : (!x.hopen) = (!y.hopen) := this.2
        cases hxo : x.hopen <;> cases hyo : y.hopen <;> rw [hxo, hyo] at h4 <;> simp at h4 ⊢
    have hlows := low_zero hlow
    have hI : nI x = nI y := by
      show I.mk (nV x.lo) x.lopen (nV x.hi) x.hopen x.less = I.mk (nV y.lo) y.lopen (nV y.hi) y.hopen y.less
      have a1 : nV x.lo = nV y.lo := hlows.1
      have a2 : x.lopen = y.lopen := hlows.2
      rw [a1, a2, hends.1, hends.2, hless]
    have hcov : ∀ c, cov x c ↔ cov y c := by
      intro c
      have e : ∀ z : I, cov z c ↔ cov (nI z) c := fun z => Iff.rfl
      rw [e x, e y, hI]
    rw [List.map_cons, List.map_cons, hI]
    congr 1
    refine form_unique (form_tail hl) (form_tail hm) (fun z hz => ol z (List.mem_cons_of_mem _ hz)) (fun z hz => om z (List.mem_cons_of_mem _ hz)) fun c hc => ?_
    have h5 := h c hc
    rw [covL_cons, covL_cons] at h5
    have no : ∀ {x : I} {l : List I}, Form (x :: l) → covL l c → ¬ cov x c := by
      intro x l hl h6 h7
      have h8 := form_behind hl h6
      rcases h7.2 with h9 | h9
      · rw [h8.1] at h9; cases h9
      · have := low_neg x.hb c; omega
    constructor
    · intro h6
      rcases h5.1 (.inr h6) with h7 | h7
      · exact absurd ((hcov c).2 h7) (no hl h6)
      · exact h7
    · intro h6
      rcases h5.2 (.inr h6) with h7 | h7
      · exact absurd ((hcov c).1 h7) (no hm h6)
      · exact h7
end Go.Proofs.YtlhfgonjcpapnaaGreatDoor.Abs

namespace Go.Proofs.YtlhfgonjcpapnaaGreatDoor.Abs
open Go Go.Proofs
def slices_swapRangeCmpFunc_api_Interval_S0 (l : List I) (n : Nat) (fu : Bool) (a : Int) (b : Int) (c : Int) (i : Int) (xsI : List PV) (j : Nat → AV) (jr : Nat → Row) (g : Nat) : St :=
  { t := [.msl 0 0 0 0 n fu, intA a, intA b, intA c] ++ jj j 4 6 ++ [intA i] ++ jj j 11 27, h := [[⟨0, .row 11 63 xsI false⟩], List.replicate 38 row0], g := g }
theorem slices_swapRangeCmpFunc_api_Interval_go (l : List I) (n : Nat) (fu : Bool) (a : Int) (b : Int) (c : Int) (v : AV) (rs : List Row) : FnGoC E1 Tryz.f191 [.msl 0 0 0 0 n fu, intA a, intA b, intA c, .pv (.clo (.func 98) [] [])] [⟨0, .row 11 63 (List.map I.p l) false⟩] v rs 2000 (.mask (iv [(4, 9), (11, 37)]) []) =
  (∀ (j' : Nat → AV) (jr' : Nat → Row) (g' : Nat), LoopAtC E1 Tryz.f191 1 v rs 0 (slices_swapRangeCmpFunc_api_Interval_S0 l n fu a b c 0 (List.map I.p l) j' jr' g')) := by kernel_rfl
theorem slices_swapRangeCmpFunc_api_Interval_go_S0 (l : List I) (n : Nat) (fu : Bool) (a : Int) (b : Int) (c : Int) (i : Int) (xs : List I) (j : Nat → AV) (jr : Nat → Row) (g : Nat) (v : AV) (rs : List Row) : LoopGoC E1 Tryz.f191 1 v rs 0 2000 (.fork (.val (I.p (List.getD xs ((0 : Nat) + Int.toNat (IntKind.i64.wrap (b + i))) default)) (.val (I.p (List.getD xs ((0 : Nat) + Int.toNat (IntKind.i64.wrap (a + i))) default)) (.val (I.p (List.getD xs ((0 : Nat) + Int.toNat (IntKind.i64.wrap (a + i))) default)) (.val (I.p (List.getD xs ((0 : Nat) + Int.toNat (IntKind.i64.wrap (b + i))) default)) (.mask (iv [(4, 9), (11, 37)]) []))))) (.hole 0)) (slices_swapRangeCmpFunc_api_Interval_S0 l n fu a b c i (List.map I.p xs) j jr g) =
  (((decide (i < c)) = true →
 ((0 : Nat) = 0) ∧
 (((0 : Int) ≤ IntKind.i64.wrap (b + i)) ∧ ((IntKind.i64.wrap (b + i) < (↑n : Int)) ∧ ((11 : Nat) = 11))) ∧
 ((0 : Nat) = 0) ∧
 (((List.map I.p xs)[(0 : Nat) + Int.toNat (IntKind.i64.wrap (b + i))]?) = some (I.p (List.getD xs ((0 : Nat) + Int.toNat (IntKind.i64.wrap (b + i))) default))) ∧
 ((0 : Nat) = 0) ∧
 (((0 : Int) ≤ IntKind.i64.wrap (a + i)) ∧ ((IntKind.i64.wrap (a + i) < (↑n : Int)) ∧ ((11 : Nat) = 11))) ∧
 ((0 : Nat) = 0) ∧
 (((List.map I.p xs)[(0 : Nat) + Int.toNat (IntKind.i64.wrap (a + i))]?) = some (I.p (List.getD xs ((0 : Nat) + Int.toNat (IntKind.i64.wrap (a + i))) default))) ∧
 ((0 : Nat) = 0) ∧
 (((0 : Int) ≤ IntKind.i64.wrap (a + i)) ∧ ((IntKind.i64.wrap (a + i) < (↑n : Int)) ∧ ((11 : Nat) = 11))) ∧
 ((0 : Nat) = 0) ∧
 ((0 : Nat) = 0) ∧
 (((List.map I.p xs)[(0 : Nat) + Int.toNat (IntKind.i64.wrap (a + i))]?) = some (I.p (List.getD xs ((0 : Nat) + Int.toNat (IntKind.i64.wrap (a + i))) default))) ∧
 ((0 : Nat) = 0) ∧
 (((0 : Int) ≤ IntKind.i64.wrap (b + i)) ∧ ((IntKind.i64.wrap (b + i) < (↑n : Int)) ∧ ((11 : Nat) = 11))) ∧
 ((0 : Nat) = 0) ∧
 ((0 : Nat) = 0) ∧
 (((List.set (List.map I.p xs) ((0 : Nat) + Int.toNat (IntKind.i64.wrap (a + i))) (PV.agg [PV.lit (Value.int IntKind.u32 (V.a (I.lo (List.getD xs ((0 : Nat) + Int.toNat (IntKind.i64.wrap (b + i))) default)))), PV.lit (Value.int IntKind.u32 (V.b (I.lo (List.getD xs ((0 : Nat) + Int.toNat (IntKind.i64.wrap (b + i))) default)))), PV.lit (Value.int IntKind.u32 (V.c (I.lo (List.getD xs ((0 : Nat) + Int.toNat (IntKind.i64.wrap (b + i))) default)))), V.q (I.lo (List.getD xs ((0 : Nat) + Int.toNat (IntKind.i64.wrap (b + i))) default)), PV.lit (Value.bool (I.lopen (List.getD xs ((0 : Nat) + Int.toNat (IntKind.i64.wrap (b + i))) default))), PV.lit (Value.int IntKind.u32 (V.a (I.hi (List.getD xs ((0 : Nat) + Int.toNat (IntKind.i64.wrap (b + i))) default)))), PV.lit (Value.int IntKind.u32 (V.b (I.hi (List.getD xs ((0 : Nat) + Int.toNat (IntKind.i64.wrap (b + i))) default)))), PV.lit (Value.int IntKind.u32 (V.c (I.hi (List.getD xs ((0 : Nat) + Int.toNat (IntKind.i64.wrap (b + i))) default)))), V.q (I.hi (List.getD xs ((0 : Nat) + Int.toNat (IntKind.i64.wrap (b + i))) default)), PV.lit (Value.bool (I.hopen (List.getD xs ((0 : Nat) + Int.toNat (IntKind.i64.wrap (b + i))) default))), PV.lit (Value.bool (I.less (List.getD xs ((0 : Nat) + Int.toNat (IntKind.i64.wrap (b + i))) default)))]))[(0 : Nat) + Int.toNat (IntKind.i64.wrap (b + i))]?) = some (I.p (List.getD xs ((0 : Nat) + Int.toNat (IntKind.i64.wrap (b + i))) default))) ∧
 (∀ (j' : Nat → AV) (jr' : Nat → Row) (g' : Nat), LoopAtC E1 Tryz.f191 1 v rs 0 (slices_swapRangeCmpFunc_api_Interval_S0 l n fu a b c (IntKind.i64.wrap (i + (1 : Int))) (List.set (List.set (List.map I.p xs) ((0 : Nat) + Int.toNat (IntKind.i64.wrap (a + i))) (PV.agg [PV.lit (Value.int IntKind.u32 (V.a (I.lo (List.getD xs ((0 : Nat) + Int.toNat (IntKind.i64.wrap (b + i))) default)))), PV.lit (Value.int IntKind.u32 (V.b (I.lo (List.getD xs ((0 : Nat) + Int.toNat (IntKind.i64.wrap (b + i))) default)))), PV.lit (Value.int IntKind.u32 (V.c (I.lo (List.getD xs ((0 : Nat) + Int.toNat (IntKind.i64.wrap (b + i))) default)))), V.q (I.lo (List.getD xs ((0 : Nat) + Int.toNat (IntKind.i64.wrap (b + i))) default)), PV.lit (Value.bool (I.lopen (List.getD xs ((0 : Nat) + Int.toNat (IntKind.i64.wrap (b + i))) default))), PV.lit (Value.int IntKind.u32 (V.a (I.hi (List.getD xs ((0 : Nat) + Int.toNat (IntKind.i64.wrap (b + i))) default)))), PV.lit (Value.int IntKind.u32 (V.b (I.hi (List.getD xs ((0 : Nat) + Int.toNat (IntKind.i64.wrap (b + i))) default)))), PV.lit (Value.int IntKind.u32 (V.c (I.hi (List.getD xs ((0 : Nat) + Int.toNat (IntKind.i64.wrap (b + i))) default)))), V.q (I.hi (List.getD xs ((0 : Nat) + Int.toNat (IntKind.i64.wrap (b + i))) default)), PV.lit (Value.bool (I.hopen (List.getD xs ((0 : Nat) + Int.toNat (IntKind.i64.wrap (b + i))) default))), PV.lit (Value.bool (I.less (List.getD xs ((0 : Nat) + Int.toNat (IntKind.i64.wrap (b + i))) default)))])) ((0 : Nat) + Int.toNat (IntKind.i64.wrap (b + i))) (PV.agg [PV.lit (Value.int IntKind.u32 (V.a (I.lo (List.getD xs ((0 : Nat) + Int.toNat (IntKind.i64.wrap (a + i))) default)))), PV.lit (Value.int IntKind.u32 (V.b (I.lo (List.getD xs ((0 : Nat) + Int.toNat (IntKind.i64.wrap (a + i))) default)))), PV.lit (Value.int IntKind.u32 (V.c (I.lo (List.getD xs ((0 : Nat) + Int.toNat (IntKind.i64.wrap (a + i))) default)))), V.q (I.lo (List.getD xs ((0 : Nat) + Int.toNat (IntKind.i64.wrap (a + i))) default)), PV.lit (Value.bool (I.lopen (List.getD xs ((0 : Nat) + Int.toNat (IntKind.i64.wrap (a + i))) default))), PV.lit (Value.int IntKind.u32 (V.a (I.hi (List.getD xs ((0 : Nat) + Int.toNat (IntKind.i64.wrap (a + i))) default)))), PV.lit (Value.int IntKind.u32 (V.b (I.hi (List.getD xs ((0 : Nat) + Int.toNat (IntKind.i64.wrap (a + i))) default)))), PV.lit (Value.int IntKind.u32 (V.c (I.hi (List.getD xs ((0 : Nat) + Int.toNat (IntKind.i64.wrap (a + i))) default)))), V.q (I.hi (List.getD xs ((0 : Nat) + Int.toNat (IntKind.i64.wrap (a + i))) default)), PV.lit (Value.bool (I.hopen (List.getD xs ((0 : Nat) + Int.toNat (IntKind.i64.wrap (a + i))) default))), PV.lit (Value.bool (I.less (List.getD xs ((0 : Nat) + Int.toNat (IntKind.i64.wrap (a + i))) default)))])) j' jr' g'))) ∧
 ((decide (i < c)) = false →
 ((0 : Nat) = 0) ∧
 ((.pv (.tup [])) = v) ∧
 [⟨0, .row 11 63 (List.map I.p xs) false⟩] = rs)) := by kernel_rfl
def slices_rotateCmpFunc_api_Interval_S0 (l : List I) (n : Nat) (fu : Bool) (a : Int) (m : Int) (b : Int) (i : Int) (q : Int) (xsI : List PV) (j : Nat → AV) (jr : Nat → Row) (g : Nat) : St :=
  { t := [.msl 0 0 0 0 n fu, j 1, intA m, j 3, .pv (.clo (.func 98) [] [])] ++ jj j 5 5 ++ [intA i, intA q] ++ jj j 12 46, h := [[⟨0, .row 11 63 xsI false⟩], List.replicate 58 row0], g := g }
theorem slices_rotateCmpFunc_api_Interval_go (l : List I) (n : Nat) (fu : Bool) (a : Int) (m : Int) (b : Int) (v : AV) (rs : List Row) : FnGoC E1 Tryz.f178 [.msl 0 0 0 0 n fu, intA a, intA m, intA b, .pv (.clo (.func 98) [] [])] [⟨0, .row 11 63 (List.map I.p l) false⟩] v rs 2000 (.mask (iv [(1, 1), (3, 3), (5, 9), (12, 57)]) []) =
  (∀ (j' : Nat → AV) (jr' : Nat → Row) (g' : Nat), LoopAtC E1 Tryz.f178 1 v rs 0 (slices_rotateCmpFunc_api_Interval_S0 l n fu a m b (IntKind.i64.wrap (m - a)) (IntKind.i64.wrap (b - m)) (List.map I.p l) j' jr' g')) := by kernel_rfl
theorem slices_rotateCmpFunc_api_Interval_go_S0 (l : List I) (n : Nat) (fu : Bool) (a : Int) (m : Int) (b : Int) (i : Int) (q : Int) (xs : List I) (j : Nat → AV) (jr : Nat → Row) (g : Nat) (v : AV) (rs : List Row) : LoopGoC E1 Tryz.f178 1 v rs 0 2000 (.fork (.fork (.resC (.pv (.tup [])) [⟨0, .row 11 63 (List.map I.p (cSwap (Int.toNat (IntKind.i64.wrap (m - i))) (Int.toNat m) (Int.toNat q) xs)) false⟩] (.mask (iv [(1, 1), (3, 3), (5, 9), (12, 57)]) [])) (.resC (.pv (.tup [])) [⟨0, .row 11 63 (List.map I.p (cSwap (Int.toNat (IntKind.i64.wrap (m - i))) (Int.toNat (IntKind.i64.wrap (IntKind.i64.wrap (m + q) - i))) (Int.toNat i) xs)) false⟩] (.mask (iv [(1, 1), (3, 3), (5, 9), (12, 57)]) []))) (.resC (.pv (.tup [])) [⟨0, .row 11 63 (List.map I.p (cSwap (Int.toNat (IntKind.i64.wrap (m - i))) (Int.toNat m) (Int.toNat i) xs)) false⟩] (.hole 0))) (slices_rotateCmpFunc_api_Interval_S0 l n fu a m b i q (List.map I.p xs) j jr g) =
  (((i != q) = true →
 ((decide (i > q)) = true →
 ((0 : Nat) = 0) ∧
 (DenC E1 191 [.msl 0 0 0 0 n fu, intA (IntKind.i64.wrap (m - i)), intA m, intA q, .pv (.clo (.func 98) [] [])] [⟨0, .row 11 63 (List.map I.p xs) false⟩] (.pv (.tup [])) [⟨0, .row 11 63 (List.map I.p (cSwap (Int.toNat (IntKind.i64.wrap (m - i))) (Int.toNat m) (Int.toNat q) xs)) false⟩]) ∧
 (∀ (j' : Nat → AV) (jr' : Nat → Row) (g' : Nat), LoopAtC E1 Tryz.f178 1 v rs 0 (slices_rotateCmpFunc_api_Interval_S0 l n fu a m b (IntKind.i64.wrap (i - q)) q (List.map I.p (cSwap (Int.toNat (IntKind.i64.wrap (m - i))) (Int.toNat m) (Int.toNat q) xs)) j' jr' g'))) ∧
 ((decide (i > q)) = false →
 ((0 : Nat) = 0) ∧
 (DenC E1 191 [.msl 0 0 0 0 n fu, intA (IntKind.i64.wrap (m - i)), intA (IntKind.i64.wrap (IntKind.i64.wrap (m + q) - i)), intA i, .pv (.clo (.func 98) [] [])] [⟨0, .row 11 63 (List.map I.p xs) false⟩] (.pv (.tup [])) [⟨0, .row 11 63 (List.map I.p (cSwap (Int.toNat (IntKind.i64.wrap (m - i))) (Int.toNat (IntKind.i64.wrap (IntKind.i64.wrap (m + q) - i))) (Int.toNat i) xs)) false⟩]) ∧
 (∀ (j' : Nat → AV) (jr' : Nat → Row) (g' : Nat), LoopAtC E1 Tryz.f178 1 v rs 0 (slices_rotateCmpFunc_api_Interval_S0 l n fu a m b i (IntKind.i64.wrap (q - i)) (List.map I.p (cSwap (Int.toNat (IntKind.i64.wrap (m - i))) (Int.toNat (IntKind.i64.wrap (IntKind.i64.wrap (m + q) - i))) (Int.toNat i) xs)) j' jr' g')))) ∧
 ((i != q) = false →
 ((0 : Nat) = 0) ∧
 (DenC E1 191 [.msl 0 0 0 0 n fu, intA (IntKind.i64.wrap (m - i)), intA m, intA i, .pv (.clo (.func 98) [] [])] [⟨0, .row 11 63 (List.map I.p xs) false⟩] (.pv (.tup [])) [⟨0, .row 11 63 (List.map I.p (cSwap (Int.toNat (IntKind.i64.wrap (m - i))) (Int.toNat m) (Int.toNat i) xs)) false⟩]) ∧
 ((0 : Nat) = 0) ∧
 ((.pv (.tup [])) = v) ∧
 [⟨0, .row 11 63 (List.map I.p (cSwap (Int.toNat (IntKind.i64.wrap (m - i))) (Int.toNat m) (Int.toNat i) xs)) false⟩] = rs)) := by kernel_rfl
def slices_symMergeCmpFunc_api_Interval_S0 (l : List I) (n : Nat) (fu : Bool) (a : Int) (m : Int) (b : Int) (i : Int) (q : Int) (xsI : List PV) (j : Nat → AV) (jr : Nat → Row) (g : Nat) : St :=
  { t := [.msl 0 0 0 0 n fu, intA a, j 2, j 3, .pv (.clo (.func 98) [] [])] ++ jj j 5 5 ++ [intA i, intA q] ++ jj j 12 208, h := [[⟨0, .row 11 63 xsI false⟩], List.replicate 37 row0 ++ [jr 37, row0, jr 39, row0, row0, row0, row0, row0, row0, row0, row0, row0, row0, row0, row0, row0, row0, row0, row0, row0, row0, row0, row0, row0, row0, row0, row0, row0, row0, row0, row0, row0, row0, row0, row0, row0, row0, row0, row0, row0, row0, row0, row0, row0, row0, row0, row0, row0, row0, row0, row0, row0, jr 89, row0, jr 91, row0, row0, row0, row0, row0, row0, row0, row0, row0, row0, row0, row0, row0, row0, row0, row0, row0, row0, row0, row0, row0, row0, row0, row0, row0, row0, row0, row0, row0, row0, row0, row0, row0, row0, row0, row0, row0, row0, row0, row0, jr 132, row0, jr 134, row0, row0, row0, row0, row0, row0, row0, row0, row0, row0, row0, row0, row0, row0, row0, row0, row0, row0, row0, row0, jr 155, row0, jr 157] ++ List.replicate 62 row0], g := g }
def slices_symMergeCmpFunc_api_Interval_S1 (l : List I) (n : Nat) (fu : Bool) (a : Int) (m : Int) (b : Int) (i : Int) (k : Int) (xsI : List PV) (j : Nat → AV) (jr : Nat → Row) (g : Nat) : St :=
  { t := [.msl 0 0 0 0 n fu] ++ jj j 1 9 ++ [intA i, j 11, j 12, intA k] ++ jj j 14 206, h := [[⟨0, .row 11 63 xsI false⟩], List.replicate 37 row0 ++ [jr 37, row0, jr 39, row0, row0, row0, row0, row0, row0, row0, row0, row0, row0, row0, row0, row0, row0, row0, row0, row0, row0, row0, row0, row0, row0, row0, row0, row0, row0, row0, row0, row0, row0, row0, row0, row0, row0, row0, row0, row0, row0, row0, row0, row0, row0, row0, row0, row0, row0, row0, row0, row0, jr 89, row0, jr 91, row0, row0, row0, row0, row0, row0, row0, row0, row0, row0, row0, row0, row0, row0, row0, row0, row0, row0, row0, row0, row0, row0, row0, row0, row0, row0, row0, row0, row0, row0, row0, row0, row0, row0, row0, row0, row0, row0, row0, row0, jr 132, row0, jr 134, row0, row0, row0, row0, row0, row0, row0, row0, row0, row0, row0, row0, row0, row0, row0, row0, row0, row0, row0, row0, jr 155, row0, jr 157] ++ List.replicate 62 row0], g := g }
def slices_symMergeCmpFunc_api_Interval_S2 (l : List I) (n : Nat) (fu : Bool) (a : Int) (m : Int) (b : Int) (i : Int) (q : Int) (xsI : List PV) (j : Nat → AV) (jr : Nat → Row) (g : Nat) : St :=
  { t := [.msl 0 0 0 0 n fu, j 1, intA m, j 3, .pv (.clo (.func 98) [] [])] ++ jj j 5 9 ++ [intA i, intA q] ++ jj j 16 204, h := [[⟨0, .row 11 63 xsI false⟩], List.replicate 37 row0 ++ [jr 37, row0, jr 39, row0, row0, row0, row0, row0, row0, row0, row0, row0, row0, row0, row0, row0, row0, row0, row0, row0, row0, row0, row0, row0, row0, row0, row0, row0, row0, row0, row0, row0, row0, row0, row0, row0, row0, row0, row0, row0, row0, row0, row0, row0, row0, row0, row0, row0, row0, row0, row0, row0, jr 89, row0, jr 91, row0, row0, row0, row0, row0, row0, row0, row0, row0, row0, row0, row0, row0, row0, row0, row0, row0, row0, row0, row0, row0, row0, row0, row0, row0, row0, row0, row0, row0, row0, row0, row0, row0, row0, row0, row0, row0, row0, row0, row0, jr 132, row0, jr 134, row0, row0, row0, row0, row0, row0, row0, row0, row0, row0, row0, row0, row0, row0, row0, row0, row0, row0, row0, row0, jr 155, row0, jr 157] ++ List.replicate 62 row0], g := g }
def slices_symMergeCmpFunc_api_Interval_S3 (l : List I) (n : Nat) (fu : Bool) (a : Int) (m : Int) (b : Int) (i : Int) (k : Int) (xsI : List PV) (j : Nat → AV) (jr : Nat → Row) (g : Nat) : St :=
  { t := [.msl 0 0 0 0 n fu] ++ jj j 1 13 ++ [intA i, j 15, j 16, intA k] ++ jj j 18 202, h := [[⟨0, .row 11 63 xsI false⟩], List.replicate 37 row0 ++ [jr 37, row0, jr 39, row0, row0, row0, row0, row0, row0, row0, row0, row0, row0, row0, row0, row0, row0, row0, row0, row0, row0, row0, row0, row0, row0, row0, row0, row0, row0, row0, row0, row0, row0, row0, row0, row0, row0, row0, row0, row0, row0, row0, row0, row0, row0, row0, row0, row0, row0, row0, row0, row0, jr 89, row0, jr 91, row0, row0, row0, row0, row0, row0, row0, row0, row0, row0, row0, row0, row0, row0, row0, row0, row0, row0, row0, row0, row0, row0, row0, row0, row0, row0, row0, row0, row0, row0, row0, row0, row0, row0, row0, row0, row0, row0, row0, row0, jr 132, row0, jr 134, row0, row0, row0, row0, row0, row0, row0, row0, row0, row0, row0, row0, row0, row0, row0, row0, row0, row0, row0, row0, jr 155, row0, jr 157] ++ List.replicate 62 row0], g := g }
def slices_symMergeCmpFunc_api_Interval_S4 (l : List I) (n : Nat) (fu : Bool) (a : Int) (m : Int) (b : Int) (mid : Int) (nn : Int) (p : Int) (s : Int) (q : Int) (xsI : List PV) (j : Nat → AV) (jr : Nat → Row) (g : Nat) : St :=
  { t := [.msl 0 0 0 0 n fu, intA a, intA m, intA b, .pv (.clo (.func 98) [] [])] ++ jj j 5 13 ++ [intA mid, intA nn, intA s, intA q, intA p] ++ jj j 23 197, h := [[⟨0, .row 11 63 xsI false⟩], List.replicate 37 row0 ++ [jr 37, row0, jr 39, row0, row0, row0, row0, row0, row0, row0, row0, row0, row0, row0, row0, row0, row0, row0, row0, row0, row0, row0, row0, row0, row0, row0, row0, row0, row0, row0, row0, row0, row0, row0, row0, row0, row0, row0, row0, row0, row0, row0, row0, row0, row0, row0, row0, row0, row0, row0, row0, row0, jr 89, row0, jr 91, row0, row0, row0, row0, row0, row0, row0, row0, row0, row0, row0, row0, row0, row0, row0, row0, row0, row0, row0, row0, row0, row0, row0, row0, row0, row0, row0, row0, row0, row0, row0, row0, row0, row0, row0, row0, row0, row0, row0, row0, jr 132, row0, jr 134, row0, row0, row0, row0, row0, row0, row0, row0, row0, row0, row0, row0, row0, row0, row0, row0, row0, row0, row0, row0, jr 155, row0, jr 157] ++ List.replicate 62 row0], g := g }
theorem slices_symMergeCmpFunc_api_Interval_go (l : List I) (n : Nat) (fu : Bool) (a : Int) (m : Int) (b : Int) (v : AV) (rs : List Row) : FnGoC E1 Tryz.f155 [.msl 0 0 0 0 n fu, intA a, intA m, intA b, .pv (.clo (.func 98) [] [])] [⟨0, .row 11 63 (List.map I.p l) false⟩] v rs 2000 (.fork (.mask (iv [(2, 3), (5, 9), (12, 219)]) [37, 39, 89, 91, 132, 134, 155, 157]) (.fork (.mask (iv [(1, 1), (3, 3), (5, 13), (16, 219)]) [37, 39, 89, 91, 132, 134, 155, 157]) (.fork (.mask (iv [(5, 17), (23, 219)]) [37, 39, 89, 91, 132, 134, 155, 157]) (.mask (iv [(5, 17), (23, 219)]) [37, 39, 89, 91, 132, 134, 155, 157])))) =
  (((IntKind.i64.wrap (m - a) == (1 : Int)) = true →
 ∀ (j' : Nat → AV) (jr' : Nat → Row) (g' : Nat), LoopAtC E1 Tryz.f155 1 v rs 0 (slices_symMergeCmpFunc_api_Interval_S0 l n fu a m b m b (List.map I.p l) j' jr' g')) ∧
 ((IntKind.i64.wrap (m - a) == (1 : Int)) = false →
 ((IntKind.i64.wrap (b - m) == (1 : Int)) = true →
 ∀ (j' : Nat → AV) (jr' : Nat → Row) (g' : Nat), LoopAtC E1 Tryz.f155 1 v rs 2 (slices_symMergeCmpFunc_api_Interval_S2 l n fu a m b a m (List.map I.p l) j' jr' g')) ∧
 ((IntKind.i64.wrap (b - m) == (1 : Int)) = false →
 ((decide (m > IntKind.i64.wrap (Int.fdiv (IntKind.u64.wrap (IntKind.i64.wrap (a + b))) (2 : Int)))) = true →
 ∀ (j' : Nat → AV) (jr' : Nat → Row) (g' : Nat), LoopAtC E1 Tryz.f155 1 v rs 4 (slices_symMergeCmpFunc_api_Interval_S4 l n fu a m b (IntKind.i64.wrap (Int.fdiv (IntKind.u64.wrap (IntKind.i64.wrap (a + b))) (2 : Int))) (IntKind.i64.wrap (IntKind.i64.wrap (Int.fdiv (IntKind.u64.wrap (IntKind.i64.wrap (a + b))) (2 : Int)) + m)) (IntKind.i64.wrap (IntKind.i64.wrap (IntKind.i64.wrap (Int.fdiv (IntKind.u64.wrap (IntKind.i64.wrap (a + b))) (2 : Int)) + m) - (1 : Int))) (IntKind.i64.wrap (IntKind.i64.wrap (IntKind.i64.wrap (Int.fdiv (IntKind.u64.wrap (IntKind.i64.wrap (a + b))) (2 : Int)) + m) - b)) (IntKind.i64.wrap (Int.fdiv (IntKind.u64.wrap (IntKind.i64.wrap (a + b))) (2 : Int))) (List.map I.p l) j' jr' g')) ∧
 ((decide (m > IntKind.i64.wrap (Int.fdiv (IntKind.u64.wrap (IntKind.i64.wrap (a + b))) (2 : Int)))) = false →
 ∀ (j' : Nat → AV) (jr' : Nat → Row) (g' : Nat), LoopAtC E1 Tryz.f155 1 v rs 4 (slices_symMergeCmpFunc_api_Interval_S4 l n fu a m b (IntKind.i64.wrap (Int.fdiv (IntKind.u64.wrap (IntKind.i64.wrap (a + b))) (2 : Int))) (IntKind.i64.wrap (IntKind.i64.wrap (Int.fdiv (IntKind.u64.wrap (IntKind.i64.wrap (a + b))) (2 : Int)) + m)) (IntKind.i64.wrap (IntKind.i64.wrap (IntKind.i64.wrap (Int.fdiv (IntKind.u64.wrap (IntKind.i64.wrap (a + b))) (2 : Int)) + m) - (1 : Int))) a m (List.map I.p l) j' jr' g'))))) := by kernel_rfl
theorem slices_symMergeCmpFunc_api_Interval_go_S0 (l : List I) (n : Nat) (fu : Bool) (a : Int) (m : Int) (b : Int) (i : Int) (q : Int) (xs : List I) (j : Nat → AV) (jr : Nat → Row) (g : Nat) (v : AV) (rs : List Row) : LoopGoC E1 Tryz.f155 1 v rs 0 2000 (.fork (.val (I.p (List.getD xs ((0 : Nat) + Int.toNat (IntKind.i64.wrap (Int.fdiv (IntKind.u64.wrap (IntKind.i64.wrap (i + q))) (2 : Int)))) default)) (.val (I.p (List.getD xs ((0 : Nat) + Int.toNat a) default)) (.res (intP (befE ⟨I.lo (List.getD xs ((0 : Nat) + Int.toNat (IntKind.i64.wrap (Int.fdiv (IntKind.u64.wrap (IntKind.i64.wrap (i + q))) (2 : Int)))) default), I.lopen (List.getD xs ((0 : Nat) + Int.toNat (IntKind.i64.wrap (Int.fdiv (IntKind.u64.wrap (IntKind.i64.wrap (i + q))) (2 : Int)))) default), false⟩ ⟨I.lo (List.getD xs ((0 : Nat) + Int.toNat a) default), I.lopen (List.getD xs ((0 : Nat) + Int.toNat a) default), false⟩)) (.fork (.mask (iv [(2, 3), (5, 9), (12, 219)]) [37, 39, 89, 91, 132, 134, 155, 157]) (.mask (iv [(2, 3), (5, 9), (12, 219)]) [37, 39, 89, 91, 132, 134, 155, 157]))))) (.mask (iv [(1, 9), (11, 12), (14, 219)]) [37, 39, 89, 91, 132, 134, 155, 157])) (slices_symMergeCmpFunc_api_Interval_S0 l n fu a m b i q (List.map I.p xs) j jr g) =
  (((decide (i < q)) = true →
 ((0 : Nat) = 0) ∧
 (((0 : Int) ≤ IntKind.i64.wrap (Int.fdiv (IntKind.u64.wrap (IntKind.i64.wrap (i + q))) (2 : Int))) ∧ ((IntKind.i64.wrap (Int.fdiv (IntKind.u64.wrap (IntKind.i64.wrap (i + q))) (2 : Int)) < (↑n : Int)) ∧ ((11 : Nat) = 11))) ∧
 ((0 : Nat) = 0) ∧
 (((List.map I.p xs)[(0 : Nat) + Int.toNat (IntKind.i64.wrap (Int.fdiv (IntKind.u64.wrap (IntKind.i64.wrap (i + q))) (2 : Int)))]?) = some (I.p (List.getD xs ((0 : Nat) + Int.toNat (IntKind.i64.wrap (Int.fdiv (IntKind.u64.wrap (IntKind.i64.wrap (i + q))) (2 : Int)))) default))) ∧
 ((0 : Nat) = 0) ∧
 (((0 : Int) ≤ a) ∧ ((a < (↑n : Int)) ∧ ((11 : Nat) = 11))) ∧
 ((0 : Nat) = 0) ∧
 (((List.map I.p xs)[(0 : Nat) + Int.toNat a]?) = some (I.p (List.getD xs ((0 : Nat) + Int.toNat a) default))) ∧
 (Den E1 98 [I.p (List.getD xs ((0 : Nat) + Int.toNat (IntKind.i64.wrap (Int.fdiv (IntKind.u64.wrap (IntKind.i64.wrap (i + q))) (2 : Int)))) default), I.p (List.getD xs ((0 : Nat) + Int.toNat a) default)] (intP (befE ⟨I.lo (List.getD xs ((0 : Nat) + Int.toNat (IntKind.i64.wrap (Int.fdiv (IntKind.u64.wrap (IntKind.i64.wrap (i + q))) (2 : Int)))) default), I.lopen (List.getD xs ((0 : Nat) + Int.toNat (IntKind.i64.wrap (Int.fdiv (IntKind.u64.wrap (IntKind.i64.wrap (i + q))) (2 : Int)))) default), false⟩ ⟨I.lo (List.getD xs ((0 : Nat) + Int.toNat a) default), I.lopen (List.getD xs ((0 : Nat) + Int.toNat a) default), false⟩))) ∧
 ((decide (befE ⟨I.lo (List.getD xs ((0 : Nat) + Int.toNat (IntKind.i64.wrap (Int.fdiv (IntKind.u64.wrap (IntKind.i64.wrap (i + q))) (2 : Int)))) default), I.lopen (List.getD xs ((0 : Nat) + Int.toNat (IntKind.i64.wrap (Int.fdiv (IntKind.u64.wrap (IntKind.i64.wrap (i + q))) (2 : Int)))) default), false⟩ ⟨I.lo (List.getD xs ((0 : Nat) + Int.toNat a) default), I.lopen (List.getD xs ((0 : Nat) + Int.toNat a) default), false⟩ < (0 : Int))) = true →
 ∀ (j' : Nat → AV) (jr' : Nat → Row) (g' : Nat), LoopAtC E1 Tryz.f155 1 v rs 0 (slices_symMergeCmpFunc_api_Interval_S0 l n fu a m b (IntKind.i64.wrap (IntKind.i64.wrap (Int.fdiv (IntKind.u64.wrap (IntKind.i64.wrap (i + q))) (2 : Int)) + (1 : Int))) q (List.map I.p xs) j' jr' g')) ∧
 ((decide (befE ⟨I.lo (List.getD xs ((0 : Nat) + Int.toNat (IntKind.i64.wrap (Int.fdiv (IntKind.u64.wrap (IntKind.i64.wrap (i + q))) (2 : Int)))) default), I.lopen (List.getD xs ((0 : Nat) + Int.toNat (IntKind.i64.wrap (Int.fdiv (IntKind.u64.wrap (IntKind.i64.wrap (i + q))) (2 : Int)))) default), false⟩ ⟨I.lo (List.getD xs ((0 : Nat) + Int.toNat a) default), I.lopen (List.getD xs ((0 : Nat) + Int.toNat a) default), false⟩ < (0 : Int))) = false →
 ∀ (j' : Nat → AV) (jr' : Nat → Row) (g' : Nat), LoopAtC E1 Tryz.f155 1 v rs 0 (slices_symMergeCmpFunc_api_Interval_S0 l n fu a m b i (IntKind.i64.wrap (Int.fdiv (IntKind.u64.wrap (IntKind.i64.wrap (i + q))) (2 : Int))) (List.map I.p xs) j' jr' g'))) ∧
 ((decide (i < q)) = false →
 ∀ (j' : Nat → AV) (jr' : Nat → Row) (g' : Nat), LoopAtC E1 Tryz.f155 1 v rs 1 (slices_symMergeCmpFunc_api_Interval_S1 l n fu a m b i a (List.map I.p xs) j' jr' g'))) := by kernel_rfl
theorem slices_symMergeCmpFunc_api_Interval_go_S1 (l : List I) (n : Nat) (fu : Bool) (a : Int) (m : Int) (b : Int) (i : Int) (k : Int) (xs : List I) (j : Nat → AV) (jr : Nat → Row) (g : Nat) (v : AV) (rs : List Row) : LoopGoC E1 Tryz.f155 1 v rs 1 2000 (.fork (.val (I.p (List.getD xs ((0 : Nat) + Int.toNat (IntKind.i64.wrap (k + (1 : Int)))) default)) (.val (I.p (List.getD xs ((0 : Nat) + Int.toNat k) default)) (.val (I.p (List.getD xs ((0 : Nat) + Int.toNat k) default)) (.val (I.p (List.getD xs ((0 : Nat) + Int.toNat (IntKind.i64.wrap (k + (1 : Int)))) default)) (.mask (iv [(1, 9), (11, 12), (14, 219)]) [37, 39, 89, 91, 132, 134, 155, 157]))))) (.hole 0)) (slices_symMergeCmpFunc_api_Interval_S1 l n fu a m b i k (List.map I.p xs) j jr g) =
  (((decide (k < IntKind.i64.wrap (i - (1 : Int)))) = true →
 ((0 : Nat) = 0) ∧
 (((0 : Int) ≤ IntKind.i64.wrap (k + (1 : Int))) ∧ ((IntKind.i64.wrap (k + (1 : Int)) < (↑n : Int)) ∧ ((11 : Nat) = 11))) ∧
 ((0 : Nat) = 0) ∧
 (((List.map I.p xs)[(0 : Nat) + Int.toNat (IntKind.i64.wrap (k + (1 : Int)))]?) = some (I.p (List.getD xs ((0 : Nat) + Int.toNat (IntKind.i64.wrap (k + (1 : Int)))) default))) ∧
 ((0 : Nat) = 0) ∧
 (((0 : Int) ≤ k) ∧ ((k < (↑n : Int)) ∧ ((11 : Nat) = 11))) ∧
 ((0 : Nat) = 0) ∧
 (((List.map I.p xs)[(0 : Nat) + Int.toNat k]?) = some (I.p (List.getD xs ((0 : Nat) + Int.toNat k) default))) ∧
 ((0 : Nat) = 0) ∧
 (((0 : Int) ≤ k) ∧ ((k < (↑n : Int)) ∧ ((11 : Nat) = 11))) ∧
 ((0 : Nat) = 0) ∧
 ((0 : Nat) = 0) ∧
 (((List.map I.p xs)[(0 : Nat) + Int.toNat k]?) = some (I.p (List.getD xs ((0 : Nat) + Int.toNat k) default))) ∧
 ((0 : Nat) = 0) ∧
 (((0 : Int) ≤ IntKind.i64.wrap (k + (1 : Int))) ∧ ((IntKind.i64.wrap (k + (1 : Int)) < (↑n : Int)) ∧ ((11 : Nat) = 11))) ∧
 ((0 : Nat) = 0) ∧
 ((0 : Nat) = 0) ∧
 (((List.set (List.map I.p xs) ((0 : Nat) + Int.toNat k) (PV.agg [PV.lit (Value.int IntKind.u32 (V.a (I.lo (List.getD xs ((0 : Nat) + Int.toNat (IntKind.i64.wrap (k + (1 : Int)))) default)))), PV.lit (Value.int IntKind.u32 (V.b (I.lo (List.getD xs ((0 : Nat) + Int.toNat (IntKind.i64.wrap (k + (1 : Int)))) default)))), PV.lit (Value.int IntKind.u32 (V.c (I.lo (List.getD xs ((0 : Nat) + Int.toNat (IntKind.i64.wrap (k + (1 : Int)))) default)))), V.q (I.lo (List.getD xs ((0 : Nat) + Int.toNat (IntKind.i64.wrap (k + (1 : Int)))) default)), PV.lit (Value.bool (I.lopen (List.getD xs ((0 : Nat) + Int.toNat (IntKind.i64.wrap (k + (1 : Int)))) default))), PV.lit (Value.int IntKind.u32 (V.a (I.hi (List.getD xs ((0 : Nat) + Int.toNat (IntKind.i64.wrap (k + (1 : Int)))) default)))), PV.lit (Value.int IntKind.u32 (V.b (I.hi (List.getD xs ((0 : Nat) + Int.toNat (IntKind.i64.wrap (k + (1 : Int)))) default)))), PV.lit (Value.int IntKind.u32 (V.c (I.hi (List.getD xs ((0 : Nat) + Int.toNat (IntKind.i64.wrap (k + (1 : Int)))) default)))), V.q (I.hi (List.getD xs ((0 : Nat) + Int.toNat (IntKind.i64.wrap (k + (1 : Int)))) default)), PV.lit (Value.bool (I.hopen (List.getD xs ((0 : Nat) + Int.toNat (IntKind.i64.wrap (k + (1 : Int)))) default))), PV.lit (Value.bool (I.less (List.getD xs ((0 : Nat) + Int.toNat (IntKind.i64.wrap (k + (1 : Int)))) default)))]))[(0 : Nat) + Int.toNat (IntKind.i64.wrap (k + (1 : Int)))]?) = some (I.p (List.getD xs ((0 : Nat) + Int.toNat (IntKind.i64.wrap (k + (1 : Int)))) default))) ∧
 (∀ (j' : Nat → AV) (jr' : Nat → Row) (g' : Nat), LoopAtC E1 Tryz.f155 1 v rs 1 (slices_symMergeCmpFunc_api_Interval_S1 l n fu a m b i (IntKind.i64.wrap (k + (1 : Int))) (List.set (List.set (List.map I.p xs) ((0 : Nat) + Int.toNat k) (PV.agg [PV.lit (Value.int IntKind.u32 (V.a (I.lo (List.getD xs ((0 : Nat) + Int.toNat (IntKind.i64.wrap (k + (1 : Int)))) default)))), PV.lit (Value.int IntKind.u32 (V.b (I.lo (List.getD xs ((0 : Nat) + Int.toNat (IntKind.i64.wrap (k + (1 : Int)))) default)))), PV.lit (Value.int IntKind.u32 (V.c (I.lo (List.getD xs ((0 : Nat) + Int.toNat (IntKind.i64.wrap (k + (1 : Int)))) default)))), V.q (I.lo (List.getD xs ((0 : Nat) + Int.toNat (IntKind.i64.wrap (k + (1 : Int)))) default)), PV.lit (Value.bool (I.lopen (List.getD xs ((0 : Nat) + Int.toNat (IntKind.i64.wrap (k + (1 : Int)))) default))), PV.lit (Value.int IntKind.u32 (V.a (I.hi (List.getD xs ((0 : Nat) + Int.toNat (IntKind.i64.wrap (k + (1 : Int)))) default)))), PV.lit (Value.int IntKind.u32 (V.b (I.hi (List.getD xs ((0 : Nat) + Int.toNat (IntKind.i64.wrap (k + (1 : Int)))) default)))), PV.lit (Value.int IntKind.u32 (V.c (I.hi (List.getD xs ((0 : Nat) + Int.toNat (IntKind.i64.wrap (k + (1 : Int)))) default)))), V.q (I.hi (List.getD xs ((0 : Nat) + Int.toNat (IntKind.i64.wrap (k + (1 : Int)))) default)), PV.lit (Value.bool (I.hopen (List.getD xs ((0 : Nat) + Int.toNat (IntKind.i64.wrap (k + (1 : Int)))) default))), PV.lit (Value.bool (I.less (List.getD xs ((0 : Nat) + Int.toNat (IntKind.i64.wrap (k + (1 : Int)))) default)))])) ((0 : Nat) + Int.toNat (IntKind.i64.wrap (k + (1 : Int)))) (PV.agg [PV.lit (Value.int IntKind.u32 (V.a (I.lo (List.getD xs ((0 : Nat) + Int.toNat k) default)))), PV.lit (Value.int IntKind.u32 (V.b (I.lo (List.getD xs ((0 : Nat) + Int.toNat k) default)))), PV.lit (Value.int IntKind.u32 (V.c (I.lo (List.getD xs ((0 : Nat) + Int.toNat k) default)))), V.q (I.lo (List.getD xs ((0 : Nat) + Int.toNat k) default)), PV.lit (Value.bool (I.lopen (List.getD xs ((0 : Nat) + Int.toNat k) default))), PV.lit (Value.int IntKind.u32 (V.a (I.hi (List.getD xs ((0 : Nat) + Int.toNat k) default)))), PV.lit (Value.int IntKind.u32 (V.b (I.hi (List.getD xs ((0 : Nat) + Int.toNat k) default)))), PV.lit (Value.int IntKind.u32 (V.c (I.hi (List.getD xs ((0 : Nat) + Int.toNat k) default)))), V.q (I.hi (List.getD xs ((0 : Nat) + Int.toNat k) default)), PV.lit (Value.bool (I.hopen (List.getD xs ((0 : Nat) + Int.toNat k) default))), PV.lit (Value.bool (I.less (List.getD xs ((0 : Nat) + Int.toNat k) default)))])) j' jr' g'))) ∧
 ((decide (k < IntKind.i64.wrap (i - (1 : Int)))) = false →
 ((0 : Nat) = 0) ∧
 ((.pv (.tup [])) = v) ∧
 [⟨0, .row 11 63 (List.map I.p xs) false⟩] = rs)) := by kernel_rfl
theorem slices_symMergeCmpFunc_api_Interval_go_S2 (l : List I) (n : Nat) (fu : Bool) (a : Int) (m : Int) (b : Int) (i : Int) (q : Int) (xs : List I) (j : Nat → AV) (jr : Nat → Row) (g : Nat) (v : AV) (rs : List Row) : LoopGoC E1 Tryz.f155 1 v rs 2 2000 (.fork (.val (I.p (List.getD xs ((0 : Nat) + Int.toNat m) default)) (.val (I.p (List.getD xs ((0 : Nat) + Int.toNat (IntKind.i64.wrap (Int.fdiv (IntKind.u64.wrap (IntKind.i64.wrap (i + q))) (2 : Int)))) default)) (.res (intP (befE ⟨I.lo (List.getD xs ((0 : Nat) + Int.toNat m) default), I.lopen (List.getD xs ((0 : Nat) + Int.toNat m) default), false⟩ ⟨I.lo (List.getD xs ((0 : Nat) + Int.toNat (IntKind.i64.wrap (Int.fdiv (IntKind.u64.wrap (IntKind.i64.wrap (i + q))) (2 : Int)))) default), I.lopen (List.getD xs ((0 : Nat) + Int.toNat (IntKind.i64.wrap (Int.fdiv (IntKind.u64.wrap (IntKind.i64.wrap (i + q))) (2 : Int)))) default), false⟩)) (.fork (.mask (iv [(1, 1), (3, 3), (5, 13), (16, 219)]) [37, 39, 89, 91, 132, 134, 155, 157]) (.mask (iv [(1, 1), (3, 3), (5, 13), (16, 219)]) [37, 39, 89, 91, 132, 134, 155, 157]))))) (.mask (iv [(1, 13), (15, 16), (18, 219)]) [37, 39, 89, 91, 132, 134, 155, 157])) (slices_symMergeCmpFunc_api_Interval_S2 l n fu a m b i q (List.map I.p xs) j jr g) =
  (((decide (i < q)) = true →
 ((0 : Nat) = 0) ∧
 (((0 : Int) ≤ m) ∧ ((m < (↑n : Int)) ∧ ((11 : Nat) = 11))) ∧
 ((0 : Nat) = 0) ∧
 (((List.map I.p xs)[(0 : Nat) + Int.toNat m]?) = some (I.p (List.getD xs ((0 : Nat) + Int.toNat m) default))) ∧
 ((0 : Nat) = 0) ∧
 (((0 : Int) ≤ IntKind.i64.wrap (Int.fdiv (IntKind.u64.wrap (IntKind.i64.wrap (i + q))) (2 : Int))) ∧ ((IntKind.i64.wrap (Int.fdiv (IntKind.u64.wrap (IntKind.i64.wrap (i + q))) (2 : Int)) < (↑n : Int)) ∧ ((11 : Nat) = 11))) ∧
 ((0 : Nat) = 0) ∧
 (((List.map I.p xs)[(0 : Nat) + Int.toNat (IntKind.i64.wrap (Int.fdiv (IntKind.u64.wrap (IntKind.i64.wrap (i + q))) (2 : Int)))]?) = some (I.p (List.getD xs ((0 : Nat) + Int.toNat (IntKind.i64.wrap (Int.fdiv (IntKind.u64.wrap (IntKind.i64.wrap (i + q))) (2 : Int)))) default))) ∧
 (Den E1 98 [I.p (List.getD xs ((0 : Nat) + Int.toNat m) default), I.p (List.getD xs ((0 : Nat) + Int.toNat (IntKind.i64.wrap (Int.fdiv (IntKind.u64.wrap (IntKind.i64.wrap (i + q))) (2 : Int)))) default)] (intP (befE ⟨I.lo (List.getD xs ((0 : Nat) + Int.toNat m) default), I.lopen (List.getD xs ((0 : Nat) + Int.toNat m) default), false⟩ ⟨I.lo (List.getD xs ((0 : Nat) + Int.toNat (IntKind.i64.wrap (Int.fdiv (IntKind.u64.wrap (IntKind.i64.wrap (i + q))) (2 : Int)))) default), I.lopen (List.getD xs ((0 : Nat) + Int.toNat (IntKind.i64.wrap (Int.fdiv (IntKind.u64.wrap (IntKind.i64.wrap (i + q))) (2 : Int)))) default), false⟩))) ∧
 ((!decide (befE ⟨I.lo (List.getD xs ((0 : Nat) + Int.toNat m) default), I.lopen (List.getD xs ((0 : Nat) + Int.toNat m) default), false⟩ ⟨I.lo (List.getD xs ((0 : Nat) + Int.toNat (IntKind.i64.wrap (Int.fdiv (IntKind.u64.wrap (IntKind.i64.wrap (i + q))) (2 : Int)))) default), I.lopen (List.getD xs ((0 : Nat) + Int.toNat (IntKind.i64.wrap (Int.fdiv (IntKind.u64.wrap (IntKind.i64.wrap (i + q))) (2 : Int)))) default), false⟩ < (0 : Int))) = true →
 ∀ (j' : Nat → AV) (jr' : Nat → Row) (g' : Nat), LoopAtC E1 Tryz.f155 1 v rs 2 (slices_symMergeCmpFunc_api_Interval_S2 l n fu a m b (IntKind.i64.wrap (IntKind.i64.wrap (Int.fdiv (IntKind.u64.wrap (IntKind.i64.wrap (i + q))) (2 : Int)) + (1 : Int))) q (List.map I.p xs) j' jr' g')) ∧
 ((!decide (befE ⟨I.lo (List.getD xs ((0 : Nat) + Int.toNat m) default), I.lopen (List.getD xs ((0 : Nat) + Int.toNat m) default), false⟩ ⟨I.lo (List.getD xs ((0 : Nat) + Int.toNat (IntKind.i64.wrap (Int.fdiv (IntKind.u64.wrap (IntKind.i64.wrap (i + q))) (2 : Int)))) default), I.lopen (List.getD xs ((0 : Nat) + Int.toNat (IntKind.i64.wrap (Int.fdiv (IntKind.u64.wrap (IntKind.i64.wrap (i + q))) (2 : Int)))) default), false⟩ < (0 : Int))) = false →
 ∀ (j' : Nat → AV) (jr' : Nat → Row) (g' : Nat), LoopAtC E1 Tryz.f155 1 v rs 2 (slices_symMergeCmpFunc_api_Interval_S2 l n fu a m b i (IntKind.i64.wrap (Int.fdiv (IntKind.u64.wrap (IntKind.i64.wrap (i + q))) (2 : Int))) (List.map I.p xs) j' jr' g'))) ∧
 ((decide (i < q)) = false →
 ∀ (j' : Nat → AV) (jr' : Nat → Row) (g' : Nat), LoopAtC E1 Tryz.f155 1 v rs 3 (slices_symMergeCmpFunc_api_Interval_S3 l n fu a m b i m (List.map I.p xs) j' jr' g'))) := by kernel_rfl
theorem slices_symMergeCmpFunc_api_Interval_go_S3 (l : List I) (n : Nat) (fu : Bool) (a : Int) (m : Int) (b : Int) (i : Int) (k : Int) (xs : List I) (j : Nat → AV) (jr : Nat → Row) (g : Nat) (v : AV) (rs : List Row) : LoopGoC E1 Tryz.f155 1 v rs 3 2000 (.fork (.val (I.p (List.getD xs ((0 : Nat) + Int.toNat (IntKind.i64.wrap (k - (1 : Int)))) default)) (.val (I.p (List.getD xs ((0 : Nat) + Int.toNat k) default)) (.val (I.p (List.getD xs ((0 : Nat) + Int.toNat k) default)) (.val (I.p (List.getD xs ((0 : Nat) + Int.toNat (IntKind.i64.wrap (k - (1 : Int)))) default)) (.mask (iv [(1, 13), (15, 16), (18, 219)]) [37, 39, 89, 91, 132, 134, 155, 157]))))) (.hole 0)) (slices_symMergeCmpFunc_api_Interval_S3 l n fu a m b i k (List.map I.p xs) j jr g) =
  (((decide (k > i)) = true →
 ((0 : Nat) = 0) ∧
 (((0 : Int) ≤ IntKind.i64.wrap (k - (1 : Int))) ∧ ((IntKind.i64.wrap (k - (1 : Int)) < (↑n : Int)) ∧ ((11 : Nat) = 11))) ∧
 ((0 : Nat) = 0) ∧
 (((List.map I.p xs)[(0 : Nat) + Int.toNat (IntKind.i64.wrap (k - (1 : Int)))]?) = some (I.p (List.getD xs ((0 : Nat) + Int.toNat (IntKind.i64.wrap (k - (1 : Int)))) default))) ∧
 ((0 : Nat) = 0) ∧
 (((0 : Int) ≤ k) ∧ ((k < (↑n : Int)) ∧ ((11 : Nat) = 11))) ∧
 ((0 : Nat) = 0) ∧
 (((List.map I.p xs)[(0 : Nat) + Int.toNat k]?) = some (I.p (List.getD xs ((0 : Nat) + Int.toNat k) default))) ∧
 ((0 : Nat) = 0) ∧
 (((0 : Int) ≤ k) ∧ ((k < (↑n : Int)) ∧ ((11 : Nat) = 11))) ∧
 ((0 : Nat) = 0) ∧
 ((0 : Nat) = 0) ∧
 (((List.map I.p xs)[(0 : Nat) + Int.toNat k]?) = some (I.p (List.getD xs ((0 : Nat) + Int.toNat k) default))) ∧
 ((0 : Nat) = 0) ∧
 (((0 : Int) ≤ IntKind.i64.wrap (k - (1 : Int))) ∧ ((IntKind.i64.wrap (k - (1 : Int)) < (↑n : Int)) ∧ ((11 : Nat) = 11))) ∧
 ((0 : Nat) = 0) ∧
 ((0 : Nat) = 0) ∧
 (((List.set (List.map I.p xs) ((0 : Nat) + Int.toNat k) (PV.agg [PV.lit (Value.int IntKind.u32 (V.a (I.lo (List.getD xs ((0 : Nat) + Int.toNat (IntKind.i64.wrap (k - (1 : Int)))) default)))), PV.lit (Value.int IntKind.u32 (V.b (I.lo (List.getD xs ((0 : Nat) + Int.toNat (IntKind.i64.wrap (k - (1 : Int)))) default)))), PV.lit (Value.int IntKind.u32 (V.c (I.lo (List.getD xs ((0 : Nat) + Int.toNat (IntKind.i64.wrap (k - (1 : Int)))) default)))), V.q (I.lo (List.getD xs ((0 : Nat) + Int.toNat (IntKind.i64.wrap (k - (1 : Int)))) default)), PV.lit (Value.bool (I.lopen (List.getD xs ((0 : Nat) + Int.toNat (IntKind.i64.wrap (k - (1 : Int)))) default))), PV.lit (Value.int IntKind.u32 (V.a (I.hi (List.getD xs ((0 : Nat) + Int.toNat (IntKind.i64.wrap (k - (1 : Int)))) default)))), PV.lit (Value.int IntKind.u32 (V.b (I.hi (List.getD xs ((0 : Nat) + Int.toNat (IntKind.i64.wrap (k - (1 : Int)))) default)))), PV.lit (Value.int IntKind.u32 (V.c (I.hi (List.getD xs ((0 : Nat) + Int.toNat (IntKind.i64.wrap (k - (1 : Int)))) default)))), V.q (I.hi (List.getD xs ((0 : Nat) + Int.toNat (IntKind.i64.wrap (k - (1 : Int)))) default)), PV.lit (Value.bool (I.hopen (List.getD xs ((0 : Nat) + Int.toNat (IntKind.i64.wrap (k - (1 : Int)))) default))), PV.lit (Value.bool (I.less (List.getD xs ((0 : Nat) + Int.toNat (IntKind.i64.wrap (k - (1 : Int)))) default)))]))[(0 : Nat) + Int.toNat (IntKind.i64.wrap (k - (1 : Int)))]?) = some (I.p (List.getD xs ((0 : Nat) + Int.toNat (IntKind.i64.wrap (k - (1 : Int)))) default))) ∧
 (∀ (j' : Nat → AV) (jr' : Nat → Row) (g' : Nat), LoopAtC E1 Tryz.f155 1 v rs 3 (slices_symMergeCmpFunc_api_Interval_S3 l n fu a m b i (IntKind.i64.wrap (k - (1 : Int))) (List.set (List.set (List.map I.p xs) ((0 : Nat) + Int.toNat k) (PV.agg [PV.lit (Value.int IntKind.u32 (V.a (I.lo (List.getD xs ((0 : Nat) + Int.toNat (IntKind.i64.wrap (k - (1 : Int)))) default)))), PV.lit (Value.int IntKind.u32 (V.b (I.lo (List.getD xs ((0 : Nat) + Int.toNat (IntKind.i64.wrap (k - (1 : Int)))) default)))), PV.lit (Value.int IntKind.u32 (V.c (I.lo (List.getD xs ((0 : Nat) + Int.toNat (IntKind.i64.wrap (k - (1 : Int)))) default)))), V.q (I.lo (List.getD xs ((0 : Nat) + Int.toNat (IntKind.i64.wrap (k - (1 : Int)))) default)), PV.lit (Value.bool (I.lopen (List.getD xs ((0 : Nat) + Int.toNat (IntKind.i64.wrap (k - (1 : Int)))) default))), PV.lit (Value.int IntKind.u32 (V.a (I.hi (List.getD xs ((0 : Nat) + Int.toNat (IntKind.i64.wrap (k - (1 : Int)))) default)))), PV.lit (Value.int IntKind.u32 (V.b (I.hi (List.getD xs ((0 : Nat) + Int.toNat (IntKind.i64.wrap (k - (1 : Int)))) default)))), PV.lit (Value.int IntKind.u32 (V.c (I.hi (List.getD xs ((0 : Nat) + Int.toNat (IntKind.i64.wrap (k - (1 : Int)))) default)))), V.q (I.hi (List.getD xs ((0 : Nat) + Int.toNat (IntKind.i64.wrap (k - (1 : Int)))) default)), PV.lit (Value.bool (I.hopen (List.getD xs ((0 : Nat) + Int.toNat (IntKind.i64.wrap (k - (1 : Int)))) default))), PV.lit (Value.bool (I.less (List.getD xs ((0 : Nat) + Int.toNat (IntKind.i64.wrap (k - (1 : Int)))) default)))])) ((0 : Nat) + Int.toNat (IntKind.i64.wrap (k - (1 : Int)))) (PV.agg [PV.lit (Value.int IntKind.u32 (V.a (I.lo (List.getD xs ((0 : Nat) + Int.toNat k) default)))), PV.lit (Value.int IntKind.u32 (V.b (I.lo (List.getD xs ((0 : Nat) + Int.toNat k) default)))), PV.lit (Value.int IntKind.u32 (V.c (I.lo (List.getD xs ((0 : Nat) + Int.toNat k) default)))), V.q (I.lo (List.getD xs ((0 : Nat) + Int.toNat k) default)), PV.lit (Value.bool (I.lopen (List.getD xs ((0 : Nat) + Int.toNat k) default))), PV.lit (Value.int IntKind.u32 (V.a (I.hi (List.getD xs ((0 : Nat) + Int.toNat k) default)))), PV.lit (Value.int IntKind.u32 (V.b (I.hi (List.getD xs ((0 : Nat) + Int.toNat k) default)))), PV.lit (Value.int IntKind.u32 (V.c (I.hi (List.getD xs ((0 : Nat) + Int.toNat k) default)))), V.q (I.hi (List.getD xs ((0 : Nat) + Int.toNat k) default)), PV.lit (Value.bool (I.hopen (List.getD xs ((0 : Nat) + Int.toNat k) default))), PV.lit (Value.bool (I.less (List.getD xs ((0 : Nat) + Int.toNat k) default)))])) j' jr' g'))) ∧
 ((decide (k > i)) = false →
 ((0 : Nat) = 0) ∧
 ((.pv (.tup [])) = v) ∧
 [⟨0, .row 11 63 (List.map I.p xs) false⟩] = rs)) := by kernel_rfl
theorem slices_symMergeCmpFunc_api_Interval_go_S4 (l : List I) (n : Nat) (fu : Bool) (a : Int) (m : Int) (b : Int) (mid : Int) (nn : Int) (p : Int) (s : Int) (q : Int) (xs : List I) (j : Nat → AV) (jr : Nat → Row) (g : Nat) (v : AV) (rs : List Row) : LoopGoC E1 Tryz.f155 1 v rs 4 2000 (.fork (.val (I.p (List.getD xs ((0 : Nat) + Int.toNat (IntKind.i64.wrap (p - IntKind.i64.wrap (Int.fdiv (IntKind.u64.wrap (IntKind.i64.wrap (s + q))) (2 : Int))))) default)) (.val (I.p (List.getD xs ((0 : Nat) + Int.toNat (IntKind.i64.wrap (Int.fdiv (IntKind.u64.wrap (IntKind.i64.wrap (s + q))) (2 : Int)))) default)) (.res (intP (befE ⟨I.lo (List.getD xs ((0 : Nat) + Int.toNat (IntKind.i64.wrap (p - IntKind.i64.wrap (Int.fdiv (IntKind.u64.wrap (IntKind.i64.wrap (s + q))) (2 : Int))))) default), I.lopen (List.getD xs ((0 : Nat) + Int.toNat (IntKind.i64.wrap (p - IntKind.i64.wrap (Int.fdiv (IntKind.u64.wrap (IntKind.i64.wrap (s + q))) (2 : Int))))) default), false⟩ ⟨I.lo (List.getD xs ((0 : Nat) + Int.toNat (IntKind.i64.wrap (Int.fdiv (IntKind.u64.wrap (IntKind.i64.wrap (s + q))) (2 : Int)))) default), I.lopen (List.getD xs ((0 : Nat) + Int.toNat (IntKind.i64.wrap (Int.fdiv (IntKind.u64.wrap (IntKind.i64.wrap (s + q))) (2 : Int)))) default), false⟩)) (.fork (.mask (iv [(5, 17), (23, 219)]) [37, 39, 89, 91, 132, 134, 155, 157]) (.mask (iv [(5, 17), (23, 219)]) [37, 39, 89, 91, 132, 134, 155, 157]))))) (.fork (.lts 4 (.fork (.resC (.pv (.tup [])) [⟨0, .row 11 63 (List.map I.p (cRot (Int.toNat s) (Int.toNat m) (Int.toNat (IntKind.i64.wrap (nn - s))) xs)) false⟩] (.fork (.lts 4 (.fork (.resC (.pv (.tup [])) [⟨0, .row 11 63 (List.map I.p (cSym (Int.toNat a) (Int.toNat s) (Int.toNat mid) (cRot (Int.toNat s) (Int.toNat m) (Int.toNat (IntKind.i64.wrap (nn - s))) xs))) false⟩] (.fork (.lts 4 (.fork (.resC (.pv (.tup [])) [⟨0, .row 11 63 (List.map I.p (cSym (Int.toNat mid) (Int.toNat (IntKind.i64.wrap (nn - s))) (Int.toNat b) (cSym (Int.toNat a) (Int.toNat s) (Int.toNat mid) (cRot (Int.toNat s) (Int.toNat m) (Int.toNat (IntKind.i64.wrap (nn - s))) xs)))) false⟩] (.hole 0)) (.hole 0))) (.lts 5 (.hole 0)))) (.fork (.lts 4 (.fork (.resC (.pv (.tup [])) [⟨0, .row 11 63 (List.map I.p (cSym (Int.toNat mid) (Int.toNat (IntKind.i64.wrap (nn - s))) (Int.toNat b) (cRot (Int.toNat s) (Int.toNat m) (Int.toNat (IntKind.i64.wrap (nn - s))) xs))) false⟩] (.hole 0)) (.hole 0))) (.lts 5 (.hole 0))))) (.lts 5 (.fork (.lts 4 (.fork (.resC (.pv (.tup [])) [⟨0, .row 11 63 (List.map I.p (cSym (Int.toNat mid) (Int.toNat (IntKind.i64.wrap (nn - s))) (Int.toNat b) (cRot (Int.toNat s) (Int.toNat m) (Int.toNat (IntKind.i64.wrap (nn - s))) xs))) false⟩] (.hole 0)) (.hole 0))) (.lts 5 (.hole 0)))))) (.fork (.lts 4 (.fork (.resC (.pv (.tup [])) [⟨0, .row 11 63 (List.map I.p (cSym (Int.toNat a) (Int.toNat s) (Int.toNat mid) xs)) false⟩] (.fork (.lts 4 (.fork (.resC (.pv (.tup [])) [⟨0, .row 11 63 (List.map I.p (cSym (Int.toNat mid) (Int.toNat (IntKind.i64.wrap (nn - s))) (Int.toNat b) (cSym (Int.toNat a) (Int.toNat s) (Int.toNat mid) xs))) false⟩] (.hole 0)) (.hole 0))) (.lts 5 (.hole 0)))) (.fork (.lts 4 (.fork (.resC (.pv (.tup [])) [⟨0, .row 11 63 (List.map I.p (cSym (Int.toNat mid) (Int.toNat (IntKind.i64.wrap (nn - s))) (Int.toNat b) xs)) false⟩] (.hole 0)) (.hole 0))) (.lts 5 (.hole 0))))) (.lts 5 (.fork (.lts 4 (.fork (.resC (.pv (.tup [])) [⟨0, .row 11 63 (List.map I.p (cSym (Int.toNat mid) (Int.toNat (IntKind.i64.wrap (nn - s))) (Int.toNat b) xs)) false⟩] (.hole 0)) (.hole 0))) (.lts 5 (.hole 0))))))) (.lts 5 (.fork (.lts 4 (.fork (.resC (.pv (.tup [])) [⟨0, .row 11 63 (List.map I.p (cSym (Int.toNat a) (Int.toNat s) (Int.toNat mid) xs)) false⟩] (.fork (.lts 4 (.fork (.resC (.pv (.tup [])) [⟨0, .row 11 63 (List.map I.p (cSym (Int.toNat mid) (Int.toNat (IntKind.i64.wrap (nn - s))) (Int.toNat b) (cSym (Int.toNat a) (Int.toNat s) (Int.toNat mid) xs))) false⟩] (.hole 0)) (.hole 0))) (.lts 5 (.hole 0)))) (.fork (.lts 4 (.fork (.resC (.pv (.tup [])) [⟨0, .row 11 63 (List.map I.p (cSym (Int.toNat mid) (Int.toNat (IntKind.i64.wrap (nn - s))) (Int.toNat b) xs)) false⟩] (.hole 0)) (.hole 0))) (.lts 5 (.hole 0))))) (.lts 5 (.fork (.lts 4 (.fork (.resC (.pv (.tup [])) [⟨0, .row 11 63 (List.map I.p (cSym (Int.toNat mid) (Int.toNat (IntKind.i64.wrap (nn - s))) (Int.toNat b) xs)) false⟩] (.hole 0)) (.hole 0))) (.lts 5 (.hole 0)))))))) (slices_symMergeCmpFunc_api_Interval_S4 l n fu a m b mid nn p s q (List.map I.p xs) j jr g) =
  (((decide (s < q)) = true →
 ((0 : Nat) = 0) ∧
 (((0 : Int) ≤ IntKind.i64.wrap (p - IntKind.i64.wrap (Int.fdiv (IntKind.u64.wrap (IntKind.i64.wrap (s + q))) (2 : Int)))) ∧ ((IntKind.i64.wrap (p - IntKind.i64.wrap (Int.fdiv (IntKind.u64.wrap (IntKind.i64.wrap (s + q))) (2 : Int))) < (↑n : Int)) ∧ ((11 : Nat) = 11))) ∧
 ((0 : Nat) = 0) ∧
 (((List.map I.p xs)[(0 : Nat) + Int.toNat (IntKind.i64.wrap (p - IntKind.i64.wrap (Int.fdiv (IntKind.u64.wrap (IntKind.i64.wrap (s + q))) (2 : Int))))]?) = some (I.p (List.getD xs ((0 : Nat) + Int.toNat (IntKind.i64.wrap (p - IntKind.i64.wrap (Int.fdiv (IntKind.u64.wrap (IntKind.i64.wrap (s + q))) (2 : Int))))) default))) ∧
 ((0 : Nat) = 0) ∧
 (((0 : Int) ≤ IntKind.i64.wrap (Int.fdiv (IntKind.u64.wrap (IntKind.i64.wrap (s + q))) (2 : Int))) ∧ ((IntKind.i64.wrap (Int.fdiv (IntKind.u64.wrap (IntKind.i64.wrap (s + q))) (2 : Int)) < (↑n : Int)) ∧ ((11 : Nat) = 11))) ∧
 ((0 : Nat) = 0) ∧
 (((List.map I.p xs)[(0 : Nat) + Int.toNat (IntKind.i64.wrap (Int.fdiv (IntKind.u64.wrap (IntKind.i64.wrap (s + q))) (2 : Int)))]?) = some (I.p (List.getD xs ((0 : Nat) + Int.toNat (IntKind.i64.wrap (Int.fdiv (IntKind.u64.wrap (IntKind.i64.wrap (s + q))) (2 : Int)))) default))) ∧
 (Den E1 98 [I.p (List.getD xs ((0 : Nat) + Int.toNat (IntKind.i64.wrap (p - IntKind.i64.wrap (Int.fdiv (IntKind.u64.wrap (IntKind.i64.wrap (s + q))) (2 : Int))))) default), I.p (List.getD xs ((0 : Nat) + Int.toNat (IntKind.i64.wrap (Int.fdiv (IntKind.u64.wrap (IntKind.i64.wrap (s + q))) (2 : Int)))) default)] (intP (befE ⟨I.lo (List.getD xs ((0 : Nat) + Int.toNat (IntKind.i64.wrap (p - IntKind.i64.wrap (Int.fdiv (IntKind.u64.wrap (IntKind.i64.wrap (s + q))) (2 : Int))))) default), I.lopen (List.getD xs ((0 : Nat) + Int.toNat (IntKind.i64.wrap (p - IntKind.i64.wrap (Int.fdiv (IntKind.u64.wrap (IntKind.i64.wrap (s + q))) (2 : Int))))) default), false⟩ ⟨I.lo (List.getD xs ((0 : Nat) + Int.toNat (IntKind.i64.wrap (Int.fdiv (IntKind.u64.wrap (IntKind.i64.wrap (s + q))) (2 : Int)))) default), I.lopen (List.getD xs ((0 : Nat) + Int.toNat (IntKind.i64.wrap (Int.fdiv (IntKind.u64.wrap (IntKind.i64.wrap (s + q))) (2 : Int)))) default), false⟩))) ∧
 ((!decide (befE ⟨I.lo (List.getD xs ((0 : Nat) + Int.toNat (IntKind.i64.wrap (p - IntKind.i64.wrap (Int.fdiv (IntKind.u64.wrap (IntKind.i64.wrap (s + q))) (2 : Int))))) default), I.lopen (List.getD xs ((0 : Nat) + Int.toNat (IntKind.i64.wrap (p - IntKind.i64.wrap (Int.fdiv (IntKind.u64.wrap (IntKind.i64.wrap (s + q))) (2 : Int))))) default), false⟩ ⟨I.lo (List.getD xs ((0 : Nat) + Int.toNat (IntKind.i64.wrap (Int.fdiv (IntKind.u64.wrap (IntKind.i64.wrap (s + q))) (2 : Int)))) default), I.lopen (List.getD xs ((0 : Nat) + Int.toNat (IntKind.i64.wrap (Int.fdiv (IntKind.u64.wrap (IntKind.i64.wrap (s + q))) (2 : Int)))) default), false⟩ < (0 : Int))) = true →
 ∀ (j' : Nat → AV) (jr' : Nat → Row) (g' : Nat), LoopAtC E1 Tryz.f155 1 v rs 4 (slices_symMergeCmpFunc_api_Interval_S4 l n fu a m b mid nn p (IntKind.i64.wrap (IntKind.i64.wrap (Int.fdiv (IntKind.u64.wrap (IntKind.i64.wrap (s + q))) (2 : Int)) + (1 : Int))) q (List.map I.p xs) j' jr' g')) ∧
 ((!decide (befE ⟨I.lo (List.getD xs ((0 : Nat) + Int.toNat (IntKind.i64.wrap (p - IntKind.i64.wrap (Int.fdiv (IntKind.u64.wrap (IntKind.i64.wrap (s + q))) (2 : Int))))) default), I.lopen (List.getD xs ((0 : Nat) + Int.toNat (IntKind.i64.wrap (p - IntKind.i64.wrap (Int.fdiv (IntKind.u64.wrap (IntKind.i64.wrap (s + q))) (2 : Int))))) default), false⟩ ⟨I.lo (List.getD xs ((0 : Nat) + Int.toNat (IntKind.i64.wrap (Int.fdiv (IntKind.u64.wrap (IntKind.i64.wrap (s + q))) (2 : Int)))) default), I.lopen (List.getD xs ((0 : Nat) + Int.toNat (IntKind.i64.wrap (Int.fdiv (IntKind.u64.wrap (IntKind.i64.wrap (s + q))) (2 : Int)))) default), false⟩ < (0 : Int))) = false →
 ∀ (j' : Nat → AV) (jr' : Nat → Row) (g' : Nat), LoopAtC E1 Tryz.f155 1 v rs 4 (slices_symMergeCmpFunc_api_Interval_S4 l n fu a m b mid nn p s (IntKind.i64.wrap (Int.fdiv (IntKind.u64.wrap (IntKind.i64.wrap (s + q))) (2 : Int))) (List.map I.p xs) j' jr' g'))) ∧
 ((decide (s < q)) = false →
 ((decide (s < m)) = true →
 ((decide (m < IntKind.i64.wrap (nn - s))) = true →
 ((0 : Nat) = 0) ∧
 (DenC E1 178 [.msl 0 0 0 0 n fu, intA s, intA m, intA (IntKind.i64.wrap (nn - s)), .pv (.clo (.func 98) [] [])] [⟨0, .row 11 63 (List.map I.p xs) false⟩] (.pv (.tup [])) [⟨0, .row 11 63 (List.map I.p (cRot (Int.toNat s) (Int.toNat m) (Int.toNat (IntKind.i64.wrap (nn - s))) xs)) false⟩]) ∧
 ((decide (a < s)) = true →
 ((decide (s < mid)) = true →
 ((0 : Nat) = 0) ∧
 (DenC E1 155 [.msl 0 0 0 0 n fu, intA a, intA s, intA mid, .pv (.clo (.func 98) [] [])] [⟨0, .row 11 63 (List.map I.p (cRot (Int.toNat s) (Int.toNat m) (Int.toNat (IntKind.i64.wrap (nn - s))) xs)) false⟩] (.pv (.tup [])) [⟨0, .row 11 63 (List.map I.p (cSym (Int.toNat a) (Int.toNat s) (Int.toNat mid) (cRot (Int.toNat s) (Int.toNat m) (Int.toNat (IntKind.i64.wrap (nn - s))) xs))) false⟩]) ∧
 ((decide (mid < IntKind.i64.wrap (nn - s))) = true →
 ((decide (IntKind.i64.wrap (nn - s) < b)) = true →
 ((0 : Nat) = 0) ∧
 (DenC E1 155 [.msl 0 0 0 0 n fu, intA mid, intA (IntKind.i64.wrap (nn - s)), intA b, .pv (.clo (.func 98) [] [])] [⟨0, .row 11 63 (List.map I.p (cSym (Int.toNat a) (Int.toNat s) (Int.toNat mid) (cRot (Int.toNat s) (Int.toNat m) (Int.toNat (IntKind.i64.wrap (nn - s))) xs))) false⟩] (.pv (.tup [])) [⟨0, .row 11 63 (List.map I.p (cSym (Int.toNat mid) (Int.toNat (IntKind.i64.wrap (nn - s))) (Int.toNat b) (cSym (Int.toNat a) (Int.toNat s) (Int.toNat mid) (cRot (Int.toNat s) (Int.toNat m) (Int.toNat (IntKind.i64.wrap (nn - s))) xs)))) false⟩]) ∧
 ((0 : Nat) = 0) ∧
 ((.pv (.tup [])) = v) ∧
 [⟨0, .row 11 63 (List.map I.p (cSym (Int.toNat mid) (Int.toNat (IntKind.i64.wrap (nn - s))) (Int.toNat b) (cSym (Int.toNat a) (Int.toNat s) (Int.toNat mid) (cRot (Int.toNat s) (Int.toNat m) (Int.toNat (IntKind.i64.wrap (nn - s))) xs)))) false⟩] = rs) ∧
 ((decide (IntKind.i64.wrap (nn - s) < b)) = false →
 ((0 : Nat) = 0) ∧
 ((.pv (.tup [])) = v) ∧
 [⟨0, .row 11 63 (List.map I.p (cSym (Int.toNat a) (Int.toNat s) (Int.toNat mid) (cRot (Int.toNat s) (Int.toNat m) (Int.toNat (IntKind.i64.wrap (nn - s))) xs))) false⟩] = rs)) ∧
 ((decide (mid < IntKind.i64.wrap (nn - s))) = false →
 ((0 : Nat) = 0) ∧
 ((.pv (.tup [])) = v) ∧
 [⟨0, .row 11 63 (List.map I.p (cSym (Int.toNat a) (Int.toNat s) (Int.toNat mid) (cRot (Int.toNat s) (Int.toNat m) (Int.toNat (IntKind.i64.wrap (nn - s))) xs))) false⟩] = rs)) ∧
 ((decide (s < mid)) = false →
 ((decide (mid < IntKind.i64.wrap (nn - s))) = true →
 ((decide (IntKind.i64.wrap (nn - s) < b)) = true →
 ((0 : Nat) = 0) ∧
 (DenC E1 155 [.msl 0 0 0 0 n fu, intA mid, intA (IntKind.i64.wrap (nn - s)), intA b, .pv (.clo (.func 98) [] [])] [⟨0, .row 11 63 (List.map I.p (cRot (Int.toNat s) (Int.toNat m) (Int.toNat (IntKind.i64.wrap (nn - s))) xs)) false⟩] (.pv (.tup [])) [⟨0, .row 11 63 (List.map I.p (cSym (Int.toNat mid) (Int.toNat (IntKind.i64.wrap (nn - s))) (Int.toNat b) (cRot (Int.toNat s) (Int.toNat m) (Int.toNat (IntKind.i64.wrap (nn - s))) xs))) false⟩]) ∧
 ((0 : Nat) = 0) ∧
 ((.pv (.tup [])) = v) ∧
 [⟨0, .row 11 63 (List.map I.p (cSym (Int.toNat mid) (Int.toNat (IntKind.i64.wrap (nn - s))) (Int.toNat b) (cRot (Int.toNat s) (Int.toNat m) (Int.toNat (IntKind.i64.wrap (nn - s))) xs))) false⟩] = rs) ∧
 ((decide (IntKind.i64.wrap (nn - s) < b)) = false →
 ((0 : Nat) = 0) ∧
 ((.pv (.tup [])) = v) ∧
 [⟨0, .row 11 63 (List.map I.p (cRot (Int.toNat s) (Int.toNat m) (Int.toNat (IntKind.i64.wrap (nn - s))) xs)) false⟩] = rs)) ∧
 ((decide (mid < IntKind.i64.wrap (nn - s))) = false →
 ((0 : Nat) = 0) ∧
 ((.pv (.tup [])) = v) ∧
 [⟨0, .row 11 63 (List.map I.p (cRot (Int.toNat s) (Int.toNat m) (Int.toNat (IntKind.i64.wrap (nn - s))) xs)) false⟩] = rs))) ∧
 ((decide (a < s)) = false →
 ((decide (mid < IntKind.i64.wrap (nn - s))) = true →
 ((decide (IntKind.i64.wrap (nn - s) < b)) = true →
 ((0 : Nat) = 0) ∧
 (DenC E1 155 [.msl 0 0 0 0 n fu, intA mid, intA (IntKind.i64.wrap (nn - s)), intA b, .pv (.clo (.func 98) [] [])] [⟨0, .row 11 63 (List.map I.p (cRot (Int.toNat s) (Int.toNat m) (Int.toNat (IntKind.i64.wrap (nn - s))) xs)) false⟩] (.pv (.tup [])) [⟨0, .row 11 63 (List.map I.p (cSym (Int.toNat mid) (Int.toNat (IntKind.i64.wrap (nn - s))) (Int.toNat b) (cRot (Int.toNat s) (Int.toNat m) (Int.toNat (IntKind.i64.wrap (nn - s))) xs))) false⟩]) ∧
 ((0 : Nat) = 0) ∧
 ((.pv (.tup [])) = v) ∧
 [⟨0, .row 11 63 (List.map I.p (cSym (Int.toNat mid) (Int.toNat (IntKind.i64.wrap (nn - s))) (Int.toNat b) (cRot (Int.toNat s) (Int.toNat m) (Int.toNat (IntKind.i64.wrap (nn - s))) xs))) false⟩] = rs) ∧
 ((decide (IntKind.i64.wrap (nn - s) < b)) = false →
 ((0 : Nat) = 0) ∧
 ((.pv (.tup [])) = v) ∧
 [⟨0, .row 11 63 (List.map I.p (cRot (Int.toNat s) (Int.toNat m) (Int.toNat (IntKind.i64.wrap (nn - s))) xs)) false⟩] = rs)) ∧
 ((decide (mid < IntKind.i64.wrap (nn - s))) = false →
 ((0 : Nat) = 0) ∧
 ((.pv (.tup [])) = v) ∧
 [⟨0, .row 11 63 (List.map I.p (cRot (Int.toNat s) (Int.toNat m) (Int.toNat (IntKind.i64.wrap (nn - s))) xs)) false⟩] = rs))) ∧
 ((decide (m < IntKind.i64.wrap (nn - s))) = false →
 ((decide (a < s)) = true →
 ((decide (s < mid)) = true →
 ((0 : Nat) = 0) ∧
 (DenC E1 155 [.msl 0 0 0 0 n fu, intA a, intA s, intA mid, .pv (.clo (.func 98) [] [])] [⟨0, .row 11 63 (List.map I.p xs) false⟩] (.pv (.tup [])) [⟨0, .row 11 63 (List.map I.p (cSym (Int.toNat a) (Int.toNat s) (Int.toNat mid) xs)) false⟩]) ∧
 ((decide (mid < IntKind.i64.wrap (nn - s))) = true →
 ((decide (IntKind.i64.wrap (nn - s) < b)) = true →
 ((0 : Nat) = 0) ∧
 (DenC E1 155 [.msl 0 0 0 0 n fu, intA mid, intA (IntKind.i64.wrap (nn - s)), intA b, .pv (.clo (.func 98) [] [])] [⟨0, .row 11 63 (List.map I.p (cSym (Int.toNat a) (Int.toNat s) (Int.toNat mid) xs)) false⟩] (.pv (.tup [])) [⟨0, .row 11 63 (List.map I.p (cSym (Int.toNat mid) (Int.toNat (IntKind.i64.wrap (nn - s))) (Int.toNat b) (cSym (Int.toNat a) (Int.toNat s) (Int.toNat mid) xs))) false⟩]) ∧
 ((0 : Nat) = 0) ∧
 ((.pv (.tup [])) = v) ∧
 [⟨0, .row 11 63 (List.map I.p (cSym (Int.toNat mid) (Int.toNat (IntKind.i64.wrap (nn - s))) (Int.toNat b) (cSym (Int.toNat a) (Int.toNat s) (Int.toNat mid) xs))) false⟩] = rs) ∧
 ((decide (IntKind.i64.wrap (nn - s) < b)) = false →
 ((0 : Nat) = 0) ∧
 ((.pv (.tup [])) = v) ∧
 [⟨0, .row 11 63 (List.map I.p (cSym (Int.toNat a) (Int.toNat s) (Int.toNat mid) xs)) false⟩] = rs)) ∧
 ((decide (mid < IntKind.i64.wrap (nn - s))) = false →
 ((0 : Nat) = 0) ∧
 ((.pv (.tup [])) = v) ∧
 [⟨0, .row 11 63 (List.map I.p (cSym (Int.toNat a) (Int.toNat s) (Int.toNat mid) xs)) false⟩] = rs)) ∧
 ((decide (s < mid)) = false →
 ((decide (mid < IntKind.i64.wrap (nn - s))) = true →
 ((decide (IntKind.i64.wrap (nn - s) < b)) = true →
 ((0 : Nat) = 0) ∧
 (DenC E1 155 [.msl 0 0 0 0 n fu, intA mid, intA (IntKind.i64.wrap (nn - s)), intA b, .pv (.clo (.func 98) [] [])] [⟨0, .row 11 63 (List.map I.p xs) false⟩] (.pv (.tup [])) [⟨0, .row 11 63 (List.map I.p (cSym (Int.toNat mid) (Int.toNat (IntKind.i64.wrap (nn - s))) (Int.toNat b) xs)) false⟩]) ∧
 ((0 : Nat) = 0) ∧
 ((.pv (.tup [])) = v) ∧
 [⟨0, .row 11 63 (List.map I.p (cSym (Int.toNat mid) (Int.toNat (IntKind.i64.wrap (nn - s))) (Int.toNat b) xs)) false⟩] = rs) ∧
 ((decide (IntKind.i64.wrap (nn - s) < b)) = false →
 ((0 : Nat) = 0) ∧
 ((.pv (.tup [])) = v) ∧
 [⟨0, .row 11 63 (List.map I.p xs) false⟩] = rs)) ∧
 ((decide (mid < IntKind.i64.wrap (nn - s))) = false →
 ((0 : Nat) = 0) ∧
 ((.pv (.tup [])) = v) ∧
 [⟨0, .row 11 63 (List.map I.p xs) false⟩] = rs))) ∧
 ((decide (a < s)) = false →
 ((decide (mid < IntKind.i64.wrap (nn - s))) = true →
 ((decide (IntKind.i64.wrap (nn - s) < b)) = true →
 ((0 : Nat) = 0) ∧
 (DenC E1 155 [.msl 0 0 0 0 n fu, intA mid, intA (IntKind.i64.wrap (nn - s)), intA b, .pv (.clo (.func 98) [] [])] [⟨0, .row 11 63 (List.map I.p xs) false⟩] (.pv (.tup [])) [⟨0, .row 11 63 (List.map I.p (cSym (Int.toNat mid) (Int.toNat (IntKind.i64.wrap (nn - s))) (Int.toNat b) xs)) false⟩]) ∧
 ((0 : Nat) = 0) ∧
 ((.pv (.tup [])) = v) ∧
 [⟨0, .row 11 63 (List.map I.p (cSym (Int.toNat mid) (Int.toNat (IntKind.i64.wrap (nn - s))) (Int.toNat b) xs)) false⟩] = rs) ∧
 ((decide (IntKind.i64.wrap (nn - s) < b)) = false →
 ((0 : Nat) = 0) ∧
 ((.pv (.tup [])) = v) ∧
 [⟨0, .row 11 63 (List.map I.p xs) false⟩] = rs)) ∧
 ((decide (mid < IntKind.i64.wrap (nn - s))) = false →
 ((0 : Nat) = 0) ∧
 ((.pv (.tup [])) = v) ∧
 [⟨0, .row 11 63 (List.map I.p xs) false⟩] = rs)))) ∧
 ((decide (s < m)) = false →
 ((decide (a < s)) = true →
 ((decide (s < mid)) = true →
 ((0 : Nat) = 0) ∧
 (DenC E1 155 [.msl 0 0 0 0 n fu, intA a, intA s, intA mid, .pv (.clo (.func 98) [] [])] [⟨0, .row 11 63 (List.map I.p xs) false⟩] (.pv (.tup [])) [⟨0, .row 11 63 (List.map I.p (cSym (Int.toNat a) (Int.toNat s) (Int.toNat mid) xs)) false⟩]) ∧
 ((decide (mid < IntKind.i64.wrap (nn - s))) = true →
 ((decide (IntKind.i64.wrap (nn - s) < b)) = true →
 ((0 : Nat) = 0) ∧
 (DenC E1 155 [.msl 0 0 0 0 n fu, intA mid, intA (IntKind.i64.wrap (nn - s)), intA b, .pv (.clo (.func 98) [] [])] [⟨0, .row 11 63 (List.map I.p (cSym (Int.toNat a) (Int.toNat s) (Int.toNat mid) xs)) false⟩] (.pv (.tup [])) [⟨0, .row 11 63 (List.map I.p (cSym (Int.toNat mid) (Int.toNat (IntKind.i64.wrap (nn - s))) (Int.toNat b) (cSym (Int.toNat a) (Int.toNat s) (Int.toNat mid) xs))) false⟩]) ∧
 ((0 : Nat) = 0) ∧
 ((.pv (.tup [])) = v) ∧
 [⟨0, .row 11 63 (List.map I.p (cSym (Int.toNat mid) (Int.toNat (IntKind.i64.wrap (nn - s))) (Int.toNat b) (cSym (Int.toNat a) (Int.toNat s) (Int.toNat mid) xs))) false⟩] = rs) ∧
 ((decide (IntKind.i64.wrap (nn - s) < b)) = false →
 ((0 : Nat) = 0) ∧
 ((.pv (.tup [])) = v) ∧
 [⟨0, .row 11 63 (List.map I.p (cSym (Int.toNat a) (Int.toNat s) (Int.toNat mid) xs)) false⟩] = rs)) ∧
 ((decide (mid < IntKind.i64.wrap (nn - s))) = false →
 ((0 : Nat) = 0) ∧
 ((.pv (.tup [])) = v) ∧
 [⟨0, .row 11 63 (List.map I.p (cSym (Int.toNat a) (Int.toNat s) (Int.toNat mid) xs)) false⟩] = rs)) ∧
 ((decide (s < mid)) = false →
 ((decide (mid < IntKind.i64.wrap (nn - s))) = true →
 ((decide (IntKind.i64.wrap (nn - s) < b)) = true →
 ((0 : Nat) = 0) ∧
 (DenC E1 155 [.msl 0 0 0 0 n fu, intA mid, intA (IntKind.i64.wrap (nn - s)), intA b, .pv (.clo (.func 98) [] [])] [⟨0, .row 11 63 (List.map I.p xs) false⟩] (.pv (.tup [])) [⟨0, .row 11 63 (List.map I.p (cSym (Int.toNat mid) (Int.toNat (IntKind.i64.wrap (nn - s))) (Int.toNat b) xs)) false⟩]) ∧
 ((0 : Nat) = 0) ∧
 ((.pv (.tup [])) = v) ∧
 [⟨0, .row 11 63 (List.map I.p (cSym (Int.toNat mid) (Int.toNat (IntKind.i64.wrap (nn - s))) (Int.toNat b) xs)) false⟩] = rs) ∧
 ((decide (IntKind.i64.wrap (nn - s) < b)) = false →
 ((0 : Nat) = 0) ∧
 ((.pv (.tup [])) = v) ∧
 [⟨0, .row 11 63 (List.map I.p xs) false⟩] = rs)) ∧
 ((decide (mid < IntKind.i64.wrap (nn - s))) = false →
 ((0 : Nat) = 0) ∧
 ((.pv (.tup [])) = v) ∧
 [⟨0, .row 11 63 (List.map I.p xs) false⟩] = rs))) ∧
 ((decide (a < s)) = false →
 ((decide (mid < IntKind.i64.wrap (nn - s))) = true →
 ((decide (IntKind.i64.wrap (nn - s) < b)) = true →
 ((0 : Nat) = 0) ∧
 (DenC E1 155 [.msl 0 0 0 0 n fu, intA mid, intA (IntKind.i64.wrap (nn - s)), intA b, .pv (.clo (.func 98) [] [])] [⟨0, .row 11 63 (List.map I.p xs) false⟩] (.pv (.tup [])) [⟨0, .row 11 63 (List.map I.p (cSym (Int.toNat mid) (Int.toNat (IntKind.i64.wrap (nn - s))) (Int.toNat b) xs)) false⟩]) ∧
 ((0 : Nat) = 0) ∧
 ((.pv (.tup [])) = v) ∧
 [⟨0, .row 11 63 (List.map I.p (cSym (Int.toNat mid) (Int.toNat (IntKind.i64.wrap (nn - s))) (Int.toNat b) xs)) false⟩] = rs) ∧
 ((decide (IntKind.i64.wrap (nn - s) < b)) = false →
 ((0 : Nat) = 0) ∧
 ((.pv (.tup [])) = v) ∧
 [⟨0, .row 11 63 (List.map I.p xs) false⟩] = rs)) ∧
 ((decide (mid < IntKind.i64.wrap (nn - s))) = false →
 ((0 : Nat) = 0) ∧
 ((.pv (.tup [])) = v) ∧
 [⟨0, .row 11 63 (List.map I.p xs) false⟩] = rs))))) := by kernel_rfl
end Go.Proofs.YtlhfgonjcpapnaaGreatDoor.Abs

set_option maxRecDepth 20000
set_option maxHeartbeats 2000000
namespace Go.Proofs.YtlhfgonjcpapnaaGreatDoor.Abs
open Go Go.Proofs
theorem take_l {α : Type} {A B : List α} {n : Nat} (h : n = A.length) : (A ++ B).take n = A := by subst h; exact List.take_left
theorem drop_l {α : Type} {A B : List α} {n : Nat} (h : n = A.length) : (A ++ B).drop n = B := by subst h; exact List.drop_left
theorem swap_app {A X M Y B : List I} (h : Y.length = X.length) {a b n : Nat} (ha : a = A.length) (hb : b = A.length + (X.length + M.length)) (hn : n = X.length) :
    swapL a b n (A ++ (X ++ (M ++ (Y ++ B)))) = A ++ (Y ++ (M ++ (X ++ B))) := by
  have e1 : A ++ (X ++ (M ++ (Y ++ B))) = (A ++ (X ++ M)) ++ (Y ++ B) := by simp
  have e2 : A ++ (X ++ M) = (A ++ X) ++ M := by simp
  have e3 : A ++ (X ++ (M ++ (Y ++ B))) = (A ++ (X ++ (M ++ Y))) ++ B := by simp
  have d1 : (A ++ (X ++ (M ++ (Y ++ B)))).drop b = Y ++ B := by rw [e1]; exact drop_l (by simp; omega)
  have d2 : (A ++ (X ++ (M ++ (Y ++ B)))).take b = A ++ (X ++ M) := by rw [e1]; exact take_l (by simp; omega)
  have d3 : (A ++ (X ++ M)).drop (a + n) = M := by rw [e2]; exact drop_l (by simp; omega)
  have d4 : (A ++ (X ++ (M ++ (Y ++ B)))).drop (b + n) = B := by rw [e3]; exact drop_l (by simp; omega)
  have d5 : (A ++ (X ++ (M ++ (Y ++ B)))).drop a = X ++ (M ++ (Y ++ B)) := drop_l ha
  unfold swapL
  rw [d1, d2, d3, d4, d5, take_l ha, take_l (A := Y) (by omega), take_l (A := X) (by omega)]
theorem rot_app {A X Y B : List I} {a m b : Nat} (ha : a = A.length) (hm : m = A.length + X.length) (hb : b = A.length + (X.length + Y.length)) :
    rotL a m b (A ++ (X ++ (Y ++ B))) = A ++ (Y ++ (X ++ B)) := by
  have e1 : A ++ (X ++ (Y ++ B)) = (A ++ (X ++ Y)) ++ B := by simp
  have e2 : A ++ (X ++ Y) = (A ++ X) ++ Y := by simp
  have e3 : A ++ (X ++ (Y ++ B)) = (A ++ X) ++ (Y ++ B) := by simp
  have d1 : (A ++ (X ++ (Y ++ B))).take b = A ++ (X ++ Y) := by rw [e1]; exact take_l (by simp; omega)
  have d2 : (A ++ (X ++ Y)).drop m = Y := by rw [e2]; exact drop_l (by simp; omega)
  have d3 : (A ++ (X ++ (Y ++ B))).take m = A ++ X := by rw [e3]; exact take_l (by simp; omega)
  have d4 : (A ++ X).drop a = X := drop_l ha
  have d5 : (A ++ (X ++ (Y ++ B))).drop b = B := by rw [e1]; exact drop_l (by simp; omega)
  unfold rotL
  rw [d1, d2, d3, d4, d5, take_l ha]
theorem set_at {P Q : List I} {x y : I} {k : Nat} (hk : k = P.length) : (P ++ x :: Q).set k y = P ++ y :: Q := by
  subst hk
  simp
theorem get_at {P Q : List I} {x : I} {k : Nat} (hk : k = P.length) : (P ++ x :: Q).getD k default = x := by
  subst hk
  simp
theorem swap_S0 (n : Nat) (fu : Bool) (l : List I) (A M B : List I) : ∀ (X2 Y2 X1 Y1 : List I) j jr g, X2.length = Y2.length → X1.length = Y1.length → (A ++ (X1 ++ (X2 ++ (M ++ (Y1 ++ Y2))))).length ≤ n → n < 1000000 →
    LoopAtC E1 Tryz.f191 1 (.pv (.tup [])) [⟨0, .row 11 63 (List.map I.p (A ++ (Y1 ++ (Y2 ++ (M ++ (X1 ++ (X2 ++ B))))))) false⟩] 0
      (slices_swapRangeCmpFunc_api_Interval_S0 l n fu (A.length : Nat) (A.length + (X1.length + X2.length + M.length) : Nat) (X1.length + X2.length : Nat) (X1.length : Nat) (List.map I.p (A ++ (Y1 ++ (X2 ++ (M ++ (X1 ++ (Y2 ++ B))))))) j jr g)
  | [], Y2, X1, Y1, j, jr, g, h1, h2, h3, h4 => by
    have : Y2 = [] := List.length_eq_zero_iff.1 (by simpa using h1.symm)
    subst this
    refine loopC_go 2000 _ (Eq.mpr (slices_swapRangeCmpFunc_api_Interval_go_S0 l n fu _ _ _ _ _ j jr g _ _) ⟨fun h => ?_, fun h => ⟨rfl, rfl, rfl⟩⟩)
    simp only [decide_eq_true_eq, List.length_nil] at h; omega
  | x :: X2, [], X1, Y1, j, jr, g, h1, h2, h3, h4 => by simp at h1
  | x :: X2, y :: Y2, X1, Y1, j0, jr0, g0, h1, h2, h3, h4 => by
    simp only [List.length_cons, List.length_append] at h1 h3
    have ih := swap_S0 n fu l A M B X2 Y2 (X1 ++ [x]) (Y1 ++ [y])
    have hwa : IntKind.wrap IntKind.i64 ((A.length : Int) + (X1.length : Int)) = ((A.length + X1.length : Nat) : Int) := wrap_i64 _ (by omega) (by omega)
    have hwb : IntKind.wrap IntKind.i64 (((A.length + (X1.length + (X2.length + 1) + M.length) : Nat) : Int) + (X1.length : Int)) = ((A.length + (X1.length + (X2.length + 1) + M.length) + X1.length : Nat) : Int) := wrap_i64 _ (by omega) (by omega)
    have hw1 : IntKind.wrap IntKind.i64 ((X1.length : Int) + 1) = ((X1.length + 1 : Nat) : Int) := wrap_i64 _ (by omega) (by omega)
    have exs : A ++ (Y1 ++ (x :: X2 ++ (M ++ (X1 ++ (y :: Y2 ++ B))))) = (A ++ Y1) ++ x :: (X2 ++ (M ++ (X1 ++ (y :: Y2 ++ B)))) := by simp
    have exs2 : (A ++ Y1) ++ y :: (X2 ++ (M ++ (X1 ++ (y :: Y2 ++ B)))) = (A ++ (Y1 ++ (y :: (X2 ++ (M ++ X1))))) ++ y :: (Y2 ++ B) := by simp
    have exs3 : A ++ (Y1 ++ (x :: X2 ++ (M ++ (X1 ++ (y :: Y2 ++ B))))) = (A ++ (Y1 ++ (x :: (X2 ++ (M ++ X1))))) ++ y :: (Y2 ++ B) := by simp
    have ga : (A ++ (Y1 ++ (x :: X2 ++ (M ++ (X1 ++ (y :: Y2 ++ B)))))).getD (A.length + X1.length) default = x := by
      rw [exs]; exact get_at (by simp only [List.length_append, List.length_cons]; omega)
    have gb : (A ++ (Y1 ++ (x :: X2 ++ (M ++ (X1 ++ (y :: Y2 ++ B)))))).getD (A.length + (X1.length + (X2.length + 1) + M.length) + X1.length) default = y := by
      rw [exs3]; exact get_at (by simp only [List.length_append, List.length_cons]; omega)
    have hs : ((A ++ (Y1 ++ (x :: X2 ++ (M ++ (X1 ++ (y :: Y2 ++ B)))))).set (A.length + X1.length) y).set (A.length + (X1.length + (X2.length + 1) + M.length) + X1.length) x = A ++ ((Y1 ++ [y]) ++ (X2 ++ (M ++ ((X1 ++ [x]) ++ (Y2 ++ B))))) := by
      rw [exs, set_at (by simp only [List.length_append, List.length_cons]; omega), exs2, set_at (by simp only [List.length_append, List.length_cons]; omega)]
      simp
    have hlen : (A ++ (Y1 ++ (x :: X2 ++ (M ++ (X1 ++ (y :: Y2 ++ B)))))).length = A.length + (Y1.length + (X2.length + 1 + (M.length + (X1.length + (Y2.length + 1 + B.length))))) := by
      simp only [List.length_append, List.length_cons, List.cons_append]
      try omega
    have hfin : A ++ (Y1 ++ (y :: Y2 ++ (M ++ (X1 ++ (x :: X2 ++ B))))) = A ++ ((Y1 ++ [y]) ++ (Y2 ++ (M ++ ((X1 ++ [x]) ++ (X2 ++ B))))) := by simp
    rw [hfin]
    generalize hxs : A ++ (Y1 ++ (x :: X2 ++ (M ++ (X1 ++ (y :: Y2 ++ B))))) = xs at ga gb hs hlen ⊢
    have gia := getI (l := xs) (i := A.length + X1.length) (by omega)
    have gib := getI (l := xs) (i := A.length + (X1.length + (X2.length + 1) + M.length) + X1.length) (by omega)
    have gib2 : (List.set (List.map I.p xs) (A.length + X1.length) (I.p y))[A.length + (X1.length + (X2.length + 1) + M.length) + X1.length]? = some (I.p y) := by
      rw [List.getElem?_set_ne (by omega), gib, gb]
    simp only [List.length_cons]
    refine loopC_go 2000 _ (Eq.mpr (slices_swapRangeCmpFunc_api_Interval_go_S0 l n fu _ _ _ _ xs j0 jr0 g0 _ _) ⟨fun h => ?_, fun h => ?_⟩)
    · rw [hwa, hwb, hw1]
      simp only [Nat.zero_add, Int.toNat_natCast]
      rw [ga, gb]
      have gia' := gia
      have gib' := gib
      rw [ga] at gia'
      rw [gb] at gib'
      have tt : True := trivial
      refine ⟨tt, ⟨by omega, by omega, tt⟩, tt, gib', tt, ⟨by omega, by omega, tt⟩, tt, gia', tt, ⟨by omega, by omega, tt⟩, tt, tt, gia', tt, ⟨by omega, by omega, tt⟩, tt, tt, gib2, fun j jr g => ?_⟩
      have := ih j jr g (by omega) (by simp; omega) (by simp only [List.length_append, List.length_cons, List.length_nil]; omega) h4
      rw [← hs, List.map_set, List.map_set] at this
      have e1 : (X1 ++ [x]).length = X1.length + 1 := by simp
      rw [e1, show X1.length + 1 + X2.length = X1.length + (X2.length + 1) by omega] at this
      exact this
    · simp only [decide_eq_false_iff_not] at h; omega
abbrev rowI (l : List I) : Row := ⟨0, .row 11 63 (List.map I.p l) false⟩
abbrev cmpClo : AV := .pv (.clo (.func 98) [] [])
theorem denC_swap (n : Nat) (fu : Bool) (A X M Y B : List I) (h : X.length = Y.length) (hn : (A ++ (X ++ (M ++ Y))).length ≤ n) (h4 : n < 1000000) (a b c : Int) (ha : a = (A.length : Nat)) (hb : b = (A.length + (X.length + M.length) : Nat)) (hc : c = (X.length : Nat)) :
    DenC E1 191 [.msl 0 0 0 0 n fu, intA a, intA b, intA c, cmpClo] [rowI (A ++ (X ++ (M ++ (Y ++ B))))] (.pv (.tup [])) [rowI (A ++ (Y ++ (M ++ (X ++ B))))] := by
  subst ha; subst hb; subst hc
  refine denC_go 2000 _ (fn := Tryz.f191) (by kernel_rfl) rfl (Eq.mpr (slices_swapRangeCmpFunc_api_Interval_go _ n fu _ _ _ _ _) fun j jr g => ?_)
  have := swap_S0 n fu (A ++ (X ++ (M ++ (Y ++ B)))) A M B X Y [] [] j jr g h rfl (by simp only [List.length_append, List.nil_append] at hn ⊢; omega) h4
  simp only [List.nil_append, List.length_nil, Nat.zero_add] at this
  exact this
theorem denC_cSwap (n : Nat) (fu : Bool) (A X M Y B : List I) (h : X.length = Y.length) (hn : (A ++ (X ++ (M ++ Y))).length ≤ n) (h4 : n < 1000000) (a b c : Int) (ha : a = (A.length : Nat)) (hb : b = (A.length + (X.length + M.length) : Nat)) (hc : c = (X.length : Nat)) :
    DenC E1 191 [.msl 0 0 0 0 n fu, intA a, intA b, intA c, cmpClo] [rowI (A ++ (X ++ (M ++ (Y ++ B))))] (.pv (.tup [])) [rowI (cSwap a.toNat b.toNat c.toNat (A ++ (X ++ (M ++ (Y ++ B)))))] ∧ cSwap a.toNat b.toNat c.toNat (A ++ (X ++ (M ++ (Y ++ B)))) = A ++ (Y ++ (M ++ (X ++ B))) := by
  have e : cSwap a.toNat b.toNat c.toNat (A ++ (X ++ (M ++ (Y ++ B)))) = A ++ (Y ++ (M ++ (X ++ B))) := by
    rw [cSwap_eq]
    exact swap_app h.symm (by omega) (by omega) (by omega)
  rw [e]
  exact ⟨denC_swap n fu A X M Y B h hn h4 a b c ha hb hc, rfl⟩
theorem rot_S0 (n : Nat) (fu : Bool) (l : List I) (h4 : n < 1000000) (a m b : Int) : ∀ (k : Nat) (A X Y B : List I) j jr g, X.length + Y.length ≤ k → X ≠ [] → Y ≠ [] → (A ++ (X ++ Y)).length ≤ n → m = (A.length + X.length : Nat) →
    LoopAtC E1 Tryz.f178 1 (.pv (.tup [])) [rowI (A ++ (Y ++ (X ++ B)))] 0 (slices_rotateCmpFunc_api_Interval_S0 l n fu a m b (X.length : Nat) (Y.length : Nat) (List.map I.p (A ++ (X ++ (Y ++ B)))) j jr g) := by
  intro k
  induction k with
  | zero =>
    intro A X Y B j jr g hk hX
    exact absurd (List.length_eq_zero_iff.1 (by omega)) hX
  | succ k ih =>
    intro A X Y B j jr g hk hX hY hn hm
    subst hm
    have lX := List.length_pos_iff.2 hX
    have lY := List.length_pos_iff.2 hY
    simp only [List.length_append] at hn
    have hw1 : IntKind.wrap IntKind.i64 (((A.length + X.length : Nat) : Int) - (X.length : Int)) = ((A.length : Nat) : Int) := by rw [wrap_i64 _ (by omega) (by omega)]; omega
    refine loopC_go 2000 _ (Eq.mpr (slices_rotateCmpFunc_api_Interval_go_S0 l n fu a _ b _ _ _ j jr g _ _) ⟨fun h => ⟨fun h2 => ?_, fun h2 => ?_⟩, fun h => ?_⟩)
    · simp only [decide_eq_true_eq] at h2
      rw [hw1]
      -- the first of X change places with Y
      have hX12 : X = X.take Y.length ++ X.drop Y.length := (List.take_append_drop _ _).symm
      have l1 : (X.take Y.length).length = Y.length := by rw [List.length_take]; omega
      have l2 : (X.drop Y.length).length = X.length - Y.length := by rw [List.length_drop]
      generalize hX1 : X.take Y.length = X1 at hX12 l1
      generalize hX2 : X.drop Y.length = X2 at hX12 l2
      subst hX12
      rw [List.length_append] at h2 hn hk ⊢
      have hd := denC_cSwap n fu A X1 X2 Y B l1 (by simp only [List.length_append]; omega) h4 (A.length : Nat) (A.length + (X1.length + X2.length) : Nat) (Y.length : Nat) rfl rfl (by omega)
      rw [List.append_assoc X1]
      refine ⟨rfl, hd.1, fun j jr g => ?_⟩
      rw [hd.2]
      have hw2 : IntKind.wrap IntKind.i64 (((X1.length + X2.length : Nat) : Int) - (Y.length : Int)) = ((X2.length : Nat) : Int) := by rw [wrap_i64 _ (by omega) (by omega)]; omega
      rw [hw2]
      have := ih (A ++ Y) X2 X1 B j jr g (by omega) (by rintro rfl; simp at h2; omega) (by rintro rfl; simp at l1; omega) (by simp only [List.length_append]; omega) (by simp only [List.length_append]; omega)
      rw [l1] at this
      simp only [List.append_assoc, List.length_append] at this ⊢
      exact this
    · simp only [decide_eq_false_iff_not] at h2
      have h' : ¬ X.length = Y.length := by
        intro e
        rw [e] at h; simp at h
      rw [hw1]
      have hw3 : IntKind.wrap IntKind.i64 (IntKind.wrap IntKind.i64 (((A.length + X.length : Nat) : Int) + (Y.length : Int)) - (X.length : Int)) = ((A.length + Y.length : Nat) : Int) := by
        rw [wrap_i64 (((A.length + X.length : Nat) : Int) + (Y.length : Int)) (by omega) (by omega), wrap_i64 _ (by omega) (by omega)]; omega
      rw [hw3]
      have hY12 : Y = Y.take (Y.length - X.length) ++ Y.drop (Y.length - X.length) := (List.take_append_drop _ _).symm
      have l1 : (Y.take (Y.length - X.length)).length = Y.length - X.length := by rw [List.length_take]; omega
      have l2 : (Y.drop (Y.length - X.length)).length = X.length := by rw [List.length_drop]; omega
      generalize hY1 : Y.take (Y.length - X.length) = Y1 at hY12 l1
      generalize hY2 : Y.drop (Y.length - X.length) = Y2 at hY12 l2
      subst hY12
      rw [List.length_append] at h2 hn hk h' l1 ⊢
      have hd := denC_cSwap n fu A X Y1 Y2 B l2.symm (by simp only [List.length_append]; omega) h4 (A.length : Nat) (A.length + (X.length + Y1.length) : Nat) (X.length : Nat) rfl rfl rfl
      rw [List.append_assoc Y1, show A.length + (Y1.length + Y2.length) = A.length + (X.length + Y1.length) by omega]
      refine ⟨rfl, hd.1, fun j jr g => ?_⟩
      rw [hd.2]
      have hw2 : IntKind.wrap IntKind.i64 (((Y1.length + Y2.length : Nat) : Int) - (X.length : Int)) = ((Y1.length : Nat) : Int) := by rw [wrap_i64 _ (by omega) (by omega)]; omega
      rw [hw2]
      have := ih A Y2 Y1 (X ++ B) j jr g (by omega) (by rintro rfl; simp at l2; omega) (by rintro rfl; simp only [List.length_nil, Nat.zero_add] at h'; omega) (by simp only [List.length_append]; omega) (by omega)
      rw [l2] at this
      simp only [List.append_assoc, List.length_append] at this ⊢
      exact this
    · have h' : X.length = Y.length := by
        have : ((X.length : Int) == (Y.length : Int)) = true := by
          cases hb : ((X.length : Int) == (Y.length : Int)) with
          | true => rfl
          | false => simp [bne, hb] at h
        have := eq_of_beq this
        omega
      rw [hw1]
      have hd := denC_cSwap n fu A X [] Y B h' (by simp only [List.length_append, List.nil_append]; omega) h4 (A.length : Nat) (A.length + X.length : Nat) (X.length : Nat) rfl (by simp) rfl
      simp only [List.nil_append] at hd
      refine ⟨rfl, hd.1, rfl, rfl, ?_⟩
      rw [hd.2]
theorem denC_rotate (n : Nat) (fu : Bool) (h4 : n < 1000000) (A X Y B : List I) (hX : X ≠ []) (hY : Y ≠ []) (hn : (A ++ (X ++ Y)).length ≤ n) (a m b : Int) (ha : a = (A.length : Nat)) (hm : m = (A.length + X.length : Nat)) (hb : b = (A.length + (X.length + Y.length) : Nat)) :
    DenC E1 178 [.msl 0 0 0 0 n fu, intA a, intA m, intA b, cmpClo] [rowI (A ++ (X ++ (Y ++ B)))] (.pv (.tup [])) [rowI (A ++ (Y ++ (X ++ B)))] := by
  have hn' := hn
  simp only [List.length_append] at hn'
  refine denC_go 2000 _ (fn := Tryz.f178) (by kernel_rfl) rfl (Eq.mpr (slices_rotateCmpFunc_api_Interval_go _ n fu _ _ _ _ _) fun j jr g => ?_)
  have e1 : IntKind.wrap IntKind.i64 (m - a) = (X.length : Nat) := by rw [wrap_i64 _ (by omega) (by omega)]; omega
  have e2 : IntKind.wrap IntKind.i64 (b - m) = (Y.length : Nat) := by rw [wrap_i64 _ (by omega) (by omega)]; omega
  rw [e1, e2]
  exact rot_S0 n fu _ h4 a m b _ A X Y B j jr g (Nat.le_refl _) hX hY hn hm
theorem denC_cRot (n : Nat) (fu : Bool) (h4 : n < 1000000) (A X Y B : List I) (hX : X ≠ []) (hY : Y ≠ []) (hn : (A ++ (X ++ Y)).length ≤ n) (a m b : Int) (ha : a = (A.length : Nat)) (hm : m = (A.length + X.length : Nat)) (hb : b = (A.length + (X.length + Y.length) : Nat)) :
    DenC E1 178 [.msl 0 0 0 0 n fu, intA a, intA m, intA b, cmpClo] [rowI (A ++ (X ++ (Y ++ B)))] (.pv (.tup [])) [rowI (cRot a.toNat m.toNat b.toNat (A ++ (X ++ (Y ++ B))))] ∧ cRot a.toNat m.toNat b.toNat (A ++ (X ++ (Y ++ B))) = A ++ (Y ++ (X ++ B)) := by
  have e : cRot a.toNat m.toNat b.toNat (A ++ (X ++ (Y ++ B))) = A ++ (Y ++ (X ++ B)) := by
    rw [cRot_eq]
    exact rot_app (by omega) (by omega) (by omega)
  rw [e]
  exact ⟨denC_rotate n fu h4 A X Y B hX hY hn a m b ha hm hb, rfl⟩
end Go.Proofs.YtlhfgonjcpapnaaGreatDoor.Abs

set_option maxRecDepth 20000
set_option maxHeartbeats 4000000
namespace Go.Proofs.YtlhfgonjcpapnaaGreatDoor.Abs
open Go Go.Proofs
theorem sym_app {A X Y B : List I} {a m b : Nat} (ha : a = A.length) (hm : m = A.length + X.length) (hb : b = A.length + (X.length + Y.length)) :
    symL a m b (A ++ (X ++ (Y ++ B))) = A ++ (X.merge Y leI ++ B) := by
  have e1 : A ++ (X ++ (Y ++ B)) = (A ++ (X ++ Y)) ++ B := by simp
  have e2 : A ++ (X ++ Y) = (A ++ X) ++ Y := by simp
  have e3 : A ++ (X ++ (Y ++ B)) = (A ++ X) ++ (Y ++ B) := by simp
  have d1 : (A ++ (X ++ (Y ++ B))).take b = A ++ (X ++ Y) := by rw [e1]; exact take_l (by simp; omega)
  have d2 : (A ++ (X ++ Y)).drop m = Y := by rw [e2]; exact drop_l (by simp; omega)
  have d3 : (A ++ (X ++ (Y ++ B))).take m = A ++ X := by rw [e3]; exact take_l (by simp; omega)
  have d4 : (A ++ X).drop a = X := drop_l ha
  have d5 : (A ++ (X ++ (Y ++ B))).drop b = B := by rw [e1]; exact drop_l (by simp; omega)
  unfold symL
  rw [d1, d2, d3, d4, d5, take_l ha, List.append_assoc]
  rfl
theorem half_i (i q : Nat) (h : i + q < 4000000) : IntKind.wrap IntKind.i64 (Int.fdiv (IntKind.wrap IntKind.u64 (IntKind.wrap IntKind.i64 ((i : Int) + (q : Int)))) 2) = (((i + q) / 2 : Nat) : Int) := by
  rw [wrap_i64 ((i : Int) + (q : Int)) (by omega) (by omega), wrap_u64 _ (by omega) (by omega), Int.fdiv_eq_ediv_of_nonneg _ (by omega), wrap_i64 _ (by omega) (by omega)]
  omega
theorem get_mid {P Q R : List I} {t : Nat} (h : t < Q.length) : (P ++ (Q ++ R)).getD (P.length + t) default = Q.getD t default := by
  rw [List.getD_eq_getElem?_getD, List.getElem?_append_right (by omega), Nat.add_sub_cancel_left, List.getElem?_append_left h, ← List.getD_eq_getElem?_getD]
theorem lt_le {x y : I} : (befE y.low x.low < 0) ↔ leI x y = false := by
  unfold leI
  rw [decide_eq_false_iff_not]
  omega
section
variable (l : List I) (n : Nat) (fu : Bool) (h4 : n < 1000000)
include h4
theorem sm_S0 (a m b : Nat) (xs : List I) (x : I) (Y : List I) (hx : xs.getD a default = x) (hY : ∀ t, t < Y.length → xs.getD (m + t) default = Y.getD t default) (ha : a < n) (hm : m + Y.length ≤ n) (hn : n ≤ xs.length) (hok : ∀ z ∈ xs, z.ok)
    (mono : ∀ t t', t ≤ t' → t' < Y.length → leI x (Y.getD t' default) = false → leI x (Y.getD t default) = false) {v : AV} {rs : List Row}
    (next : ∀ i, i ≤ Y.length → (∀ t, t < i → leI x (Y.getD t default) = false) → (∀ t, i ≤ t → t < Y.length → leI x (Y.getD t default) = true) → ∀ j jr g, LoopAtC E1 Tryz.f155 1 v rs 1 (slices_symMergeCmpFunc_api_Interval_S1 l n fu a m b (m + i : Nat) a (List.map I.p xs) j jr g)) :
    ∀ (d i q : Nat) j jr g, q - i ≤ d → i ≤ q → q ≤ Y.length → (∀ t, t < i → leI x (Y.getD t default) = false) → (∀ t, q ≤ t → t < Y.length → leI x (Y.getD t default) = true) →
      LoopAtC E1 Tryz.f155 1 v rs 0 (slices_symMergeCmpFunc_api_Interval_S0 l n fu a m b (m + i : Nat) (m + q : Nat) (List.map I.p xs) j jr g) := by
  intro d
  induction d with
  | zero =>
    intro i q j jr g hd hiq hq h1 h2
    have : i = q := by omega
    subst this
    refine loopC_go 2000 _ (Eq.mpr (slices_symMergeCmpFunc_api_Interval_go_S0 l n fu _ _ _ _ _ xs j jr g _ _) ⟨fun h => ?_, fun h j jr g => next i hq h1 h2 j jr g⟩)
    simp only [decide_eq_true_eq] at h; omega
  | succ d ih =>
    intro i q j0 jr0 g0 hd hiq hq h1 h2
    by_cases he : i = q
    · subst he
      refine loopC_go 2000 _ (Eq.mpr (slices_symMergeCmpFunc_api_Interval_go_S0 l n fu _ _ _ _ _ xs j0 jr0 g0 _ _) ⟨fun h => ?_, fun h j jr g => next i hq h1 h2 j jr g⟩)
      simp only [decide_eq_true_eq] at h; omega
    have hh := half_i (m + i) (m + q) (by omega)
    have e1 : (m + i + (m + q)) / 2 = m + (i + q) / 2 := by omega
    rw [e1] at hh
    have ht : (i + q) / 2 < Y.length := by omega
    have hw : IntKind.wrap IntKind.i64 (((m + (i + q) / 2 : Nat) : Int) + 1) = ((m + ((i + q) / 2 + 1) : Nat) : Int) := by rw [wrap_i64 _ (by omega) (by omega)]; omega
    have gh := hY _ ht
    have gih := getI (l := xs) (i := m + (i + q) / 2) (by omega)
    have gia := getI (l := xs) (i := a) (by omega)
    have okh : (xs.getD (m + (i + q) / 2) default).ok := ok_get hok (by omega)
    have oka : (xs.getD a default).ok := ok_get hok (by omega)
    have hg0 := slices_symMergeCmpFunc_api_Interval_go_S0 l n fu a m b (m + i : Nat) (m + q : Nat) xs j0 jr0 g0 v rs
    rw [hh, hw] at hg0
    simp only [Nat.zero_add, Int.toNat_natCast] at hg0
    refine loopC_go 2000 _ (Eq.mpr hg0 ⟨fun h => ⟨(by trivial), ⟨by omega, by omega, (by trivial)⟩, (by trivial), gih, (by trivial), ⟨by omega, by omega, (by trivial)⟩, (by trivial), gia, den_ordS _ _ okh oka, fun h3 j jr g => ?_, fun h3 j jr g => ?_⟩, fun h => ?_⟩)
    · have h3' : leI x (Y.getD ((i + q) / 2) default) = false := by
        have := of_decide_eq_true h3
        rw [← gh, ← hx]
        exact lt_le.1 this
      exact ih ((i + q) / 2 + 1) q j jr g (by omega) (by omega) hq (fun t ht' => mono t _ (by omega) ht h3') h2
    · have h3' : leI x (Y.getD ((i + q) / 2) default) = true := by
        have h5 := of_decide_eq_false h3
        rw [← gh, ← hx]
        cases h6 : leI (xs.getD a default) (xs.getD (m + (i + q) / 2) default) with
        | true => rfl
        | false => exact absurd (lt_le.2 h6) h5
      refine ih i ((i + q) / 2) j jr g (by omega) (by omega) (by omega) h1 fun t h7 h8 => ?_
      cases h6 : leI x (Y.getD t default) with
      | true => rfl
      | false => rw [mono _ t h7 h8 h6] at h3'; cases h3'
    · simp only [decide_eq_false_iff_not] at h; omega
theorem sm_S1 (a m b i : Int) (x : I) (R : List I) : ∀ (Y A : List I) j jr g, (A ++ (x :: Y)).length ≤ n → i = (A.length + Y.length + 1 : Nat) →
    LoopAtC E1 Tryz.f155 1 (.pv (.tup [])) [rowI (A ++ (Y ++ (x :: R)))] 1 (slices_symMergeCmpFunc_api_Interval_S1 l n fu a m b i (A.length : Nat) (List.map I.p (A ++ (x :: (Y ++ R)))) j jr g)
  | [], A, j, jr, g, hn, hi => by
    simp only [List.length_append, List.length_cons, List.length_nil] at hn
    have hw : IntKind.wrap IntKind.i64 (i - 1) = ((A.length : Nat) : Int) := by rw [wrap_i64 _ (by simp at hi; omega) (by simp at hi; omega)]; simp at hi; omega
    refine loopC_go 2000 _ (Eq.mpr (slices_symMergeCmpFunc_api_Interval_go_S1 l n fu a m b i _ _ j jr g _ _) ⟨fun h => ?_, fun h => ⟨rfl, rfl, rfl⟩⟩)
    rw [hw] at h
    simp only [decide_eq_true_eq] at h; omega
  | y :: Y, A, j0, jr0, g0, hn, hi => by
    simp only [List.length_append, List.length_cons] at hn hi
    have hw : IntKind.wrap IntKind.i64 (i - 1) = ((A.length + Y.length + 1 : Nat) : Int) := by rw [wrap_i64 _ (by omega) (by omega)]; omega
    have hw1 : IntKind.wrap IntKind.i64 ((A.length : Int) + 1) = ((A.length + 1 : Nat) : Int) := by rw [wrap_i64 _ (by omega) (by omega)]; omega
    have ih := sm_S1 a m b i x R Y (A ++ [y])
    have hlen : (A ++ (x :: (y :: Y ++ R))).length = A.length + (Y.length + R.length + 2) := by
      simp only [List.length_append, List.length_cons, List.cons_append]
      try omega
    have e2 : A ++ (x :: (y :: Y ++ R)) = (A ++ [x]) ++ y :: (Y ++ R) := by simp
    have ga : (A ++ (x :: (y :: Y ++ R))).getD A.length default = x := get_at rfl
    have gb : (A ++ (x :: (y :: Y ++ R))).getD (A.length + 1) default = y := by rw [e2]; exact get_at (by simp)
    have hs : ((A ++ (x :: (y :: Y ++ R))).set A.length y).set (A.length + 1) x = (A ++ [y]) ++ (x :: (Y ++ R)) := by
      rw [set_at rfl, show A ++ y :: (y :: Y ++ R) = (A ++ [y]) ++ y :: (Y ++ R) by simp, set_at (by simp)]
    have hfin : A ++ (y :: Y ++ (x :: R)) = (A ++ [y]) ++ (Y ++ (x :: R)) := by simp
    rw [hfin]
    generalize hxs : A ++ (x :: (y :: Y ++ R)) = xs at ga gb hs hlen ⊢
    have gia := getI (l := xs) (i := A.length) (by omega)
    have gib := getI (l := xs) (i := A.length + 1) (by omega)
    have gib2 : (List.set (List.map I.p xs) A.length (I.p y))[A.length + 1]? = some (I.p y) := by
      rw [List.getElem?_set_ne (by omega), gib, gb]
    rw [ga] at gia
    rw [gb] at gib
    have hg0 := slices_symMergeCmpFunc_api_Interval_go_S1 l n fu a m b i (A.length : Nat) xs j0 jr0 g0 (.pv (.tup [])) [rowI ((A ++ [y]) ++ (Y ++ (x :: R)))]
    rw [hw, hw1] at hg0
    simp only [Nat.zero_add, Int.toNat_natCast] at hg0
    rw [ga, gb] at hg0
    have tt : True := trivial
    refine loopC_go 2000 _ (Eq.mpr hg0 ⟨fun h => ⟨tt, ⟨by omega, by omega, tt⟩, tt, gib, tt, ⟨by omega, by omega, tt⟩, tt, gia, tt, ⟨by omega, by omega, tt⟩, tt, tt, gia, tt, ⟨by omega, by omega, tt⟩, tt, tt, gib2, fun j jr g => ?_⟩, fun h => ?_⟩)
    · have := ih j jr g (by simp only [List.length_append, List.length_cons, List.length_nil]; omega) (by simp only [List.length_append, List.length_cons, List.length_nil]; omega)
      rw [← hs, List.map_set, List.map_set] at this
      have e1 : (A ++ [y]).length = A.length + 1 := by simp
      rw [e1] at this
      exact this
    · simp only [decide_eq_false_iff_not] at h; omega
theorem sm_S2 (a m b : Nat) (xs : List I) (y : I) (X : List I) (hy : xs.getD m default = y) (hX : ∀ t, t < X.length → xs.getD (a + t) default = X.getD t default) (hm : m < n) (ha : a + X.length ≤ n) (hn : n ≤ xs.length) (hok : ∀ z ∈ xs, z.ok)
    (mono : ∀ t t', t ≤ t' → t' < X.length → leI (X.getD t' default) y = true → leI (X.getD t default) y = true) {v : AV} {rs : List Row}
    (next : ∀ i, i ≤ X.length → (∀ t, t < i → leI (X.getD t default) y = true) → (∀ t, i ≤ t → t < X.length → leI (X.getD t default) y = false) → ∀ j jr g, LoopAtC E1 Tryz.f155 1 v rs 3 (slices_symMergeCmpFunc_api_Interval_S3 l n fu a m b (a + i : Nat) m (List.map I.p xs) j jr g)) :
    ∀ (d i q : Nat) j jr g, q - i ≤ d → i ≤ q → q ≤ X.length → (∀ t, t < i → leI (X.getD t default) y = true) → (∀ t, q ≤ t → t < X.length → leI (X.getD t default) y = false) →
      LoopAtC E1 Tryz.f155 1 v rs 2 (slices_symMergeCmpFunc_api_Interval_S2 l n fu a m b (a + i : Nat) (a + q : Nat) (List.map I.p xs) j jr g) := by
  intro d
  induction d with
  | zero =>
    intro i q j jr g hd hiq hq h1 h2
    have : i = q := by omega
    subst this
    refine loopC_go 2000 _ (Eq.mpr (slices_symMergeCmpFunc_api_Interval_go_S2 l n fu _ _ _ _ _ xs j jr g _ _) ⟨fun h => ?_, fun h j jr g => next i hq h1 h2 j jr g⟩)
    simp only [decide_eq_true_eq] at h; omega
  | succ d ih =>
    intro i q j0 jr0 g0 hd hiq hq h1 h2
    by_cases he : i = q
    · subst he
      refine loopC_go 2000 _ (Eq.mpr (slices_symMergeCmpFunc_api_Interval_go_S2 l n fu _ _ _ _ _ xs j0 jr0 g0 _ _) ⟨fun h => ?_, fun h j jr g => next i hq h1 h2 j jr g⟩)
      simp only [decide_eq_true_eq] at h; omega
    have hh := half_i (a + i) (a + q) (by omega)
    have e1 : (a + i + (a + q)) / 2 = a + (i + q) / 2 := by omega
    rw [e1] at hh
    have ht : (i + q) / 2 < X.length := by omega
    have hw : IntKind.wrap IntKind.i64 (((a + (i + q) / 2 : Nat) : Int) + 1) = ((a + ((i + q) / 2 + 1) : Nat) : Int) := by rw [wrap_i64 _ (by omega) (by omega)]; omega
    have gh := hX _ ht
    have gih := getI (l := xs) (i := a + (i + q) / 2) (by omega)
    have gim := getI (l := xs) (i := m) (by omega)
    have okh : (xs.getD (a + (i + q) / 2) default).ok := ok_get hok (by omega)
    have okm : (xs.getD m default).ok := ok_get hok (by omega)
    have hg0 := slices_symMergeCmpFunc_api_Interval_go_S2 l n fu a m b (a + i : Nat) (a + q : Nat) xs j0 jr0 g0 v rs
    rw [hh, hw] at hg0
    simp only [Nat.zero_add, Int.toNat_natCast] at hg0
    refine loopC_go 2000 _ (Eq.mpr hg0 ⟨fun h => ⟨(by trivial), ⟨by omega, by omega, (by trivial)⟩, (by trivial), gim, (by trivial), ⟨by omega, by omega, (by trivial)⟩, (by trivial), gih, den_ordS _ _ okm okh, fun h3 j jr g => ?_, fun h3 j jr g => ?_⟩, fun h => ?_⟩)
    · have h3' : leI (X.getD ((i + q) / 2) default) y = true := by
        have h5 := of_decide_eq_false (not_eq.1 h3)
        rw [← gh, ← hy]
        cases h6 : leI (xs.getD (a + (i + q) / 2) default) (xs.getD m default) with
        | true => rfl
        | false => exact absurd (lt_le.2 h6) h5
      exact ih ((i + q) / 2 + 1) q j jr g (by omega) (by omega) hq (fun t ht' => mono t _ (by omega) ht h3') h2
    · have h3' : leI (X.getD ((i + q) / 2) default) y = false := by
        have := of_decide_eq_true (not_eq.2 h3)
        rw [← gh, ← hy]
        exact lt_le.1 this
      refine ih i ((i + q) / 2) j jr g (by omega) (by omega) (by omega) h1 fun t h7 h8 => ?_
      cases h6 : leI (X.getD t default) y with
      | false => rfl
      | true => rw [mono _ t h7 h8 h6] at h3'; cases h3'
    · simp only [decide_eq_false_iff_not] at h; omega
theorem sm_S3 (a m b i : Int) (y : I) (A : List I) (hi : i = (A.length : Nat)) : ∀ (k : Nat) (X R : List I) j jr g, X.length = k → (A ++ (X ++ [y])).length ≤ n →
    LoopAtC E1 Tryz.f155 1 (.pv (.tup [])) [rowI (A ++ (y :: (X ++ R)))] 3 (slices_symMergeCmpFunc_api_Interval_S3 l n fu a m b i (A.length + X.length : Nat) (List.map I.p (A ++ (X ++ (y :: R)))) j jr g) := by
  intro k
  induction k with
  | zero =>
    intro X R j jr g hk hn
    have : X = [] := List.length_eq_zero_iff.1 hk
    subst this
    refine loopC_go 2000 _ (Eq.mpr (slices_symMergeCmpFunc_api_Interval_go_S3 l n fu a m b i _ _ j jr g _ _) ⟨fun h => ?_, fun h => ⟨rfl, rfl, rfl⟩⟩)
    simp only [decide_eq_true_eq, List.length_nil] at h; omega
  | succ k ih =>
    intro X R j0 jr0 g0 hk hn
    rcases List.eq_nil_or_concat X with rfl | ⟨D, z, hD⟩
    · simp at hk
    rw [List.concat_eq_append] at hD
    subst hD
    simp only [List.length_append, List.length_cons, List.length_nil] at hk hn
    have hw1 : IntKind.wrap IntKind.i64 (((A.length + (D ++ [z]).length : Nat) : Int) - 1) = ((A.length + D.length : Nat) : Int) := by rw [wrap_i64 _ (by simp; omega) (by simp; omega)]; simp; omega
    have hk1 : A.length + (D ++ [z]).length = A.length + D.length + 1 := by simp; omega
    have exs : A ++ ((D ++ [z]) ++ (y :: R)) = (A ++ D) ++ z :: (y :: R) := by simp
    have exs2 : (A ++ D) ++ z :: (y :: R) = (A ++ (D ++ [z])) ++ y :: R := by simp
    have hlen : (A ++ ((D ++ [z]) ++ (y :: R))).length = A.length + D.length + R.length + 2 := by
      simp only [List.length_append, List.length_cons, List.length_nil]
      omega
    have ga : (A ++ ((D ++ [z]) ++ (y :: R))).getD (A.length + D.length) default = z := by rw [exs]; exact get_at (by simp)
    have gb : (A ++ ((D ++ [z]) ++ (y :: R))).getD (A.length + D.length + 1) default = y := by rw [exs, exs2]; exact get_at (by simp; omega)
    have hs : ((A ++ ((D ++ [z]) ++ (y :: R))).set (A.length + D.length + 1) z).set (A.length + D.length) y = A ++ (D ++ (y :: (z :: R))) := by
      rw [exs, exs2, set_at (by simp; omega), show (A ++ (D ++ [z])) ++ z :: R = (A ++ D) ++ z :: (z :: R) by simp, set_at (by simp)]
      simp
    have hfin : A ++ (y :: ((D ++ [z]) ++ R)) = A ++ (y :: (D ++ (z :: R))) := by simp
    rw [hfin]
    generalize hxs : A ++ ((D ++ [z]) ++ (y :: R)) = xs at ga gb hs hlen ⊢
    have gia := getI (l := xs) (i := A.length + D.length) (by omega)
    have gib := getI (l := xs) (i := A.length + D.length + 1) (by omega)
    have gia2 : (List.set (List.map I.p xs) (A.length + D.length + 1) (I.p z))[A.length + D.length]? = some (I.p z) := by
      rw [List.getElem?_set_ne (by omega), gia, ga]
    rw [ga] at gia
    rw [gb] at gib
    have hg0 := slices_symMergeCmpFunc_api_Interval_go_S3 l n fu a m b i (A.length + (D ++ [z]).length : Nat) xs j0 jr0 g0 (.pv (.tup [])) [rowI (A ++ (y :: (D ++ (z :: R))))]
    rw [hw1, hk1] at hg0
    simp only [Nat.zero_add, Int.toNat_natCast] at hg0
    rw [ga, gb] at hg0
    rw [hk1]
    have tt : True := trivial
    refine loopC_go 2000 _ (Eq.mpr hg0 ⟨fun h => ⟨tt, ⟨by omega, by omega, tt⟩, tt, gia, tt, ⟨by omega, by omega, tt⟩, tt, gib, tt, ⟨by omega, by omega, tt⟩, tt, tt, gib, tt, ⟨by omega, by omega, tt⟩, tt, tt, gia2, fun j jr g => ?_⟩, fun h => ?_⟩)
    · have := ih D (z :: R) j jr g (by omega) (by simp only [List.length_append, List.length_cons, List.length_nil]; omega)
      rw [← hs, List.map_set, List.map_set] at this
      exact this
    · simp only [decide_eq_false_iff_not] at h; omega
end
end Go.Proofs.YtlhfgonjcpapnaaGreatDoor.Abs

set_option maxRecDepth 20000
set_option maxHeartbeats 4000000
namespace Go.Proofs.YtlhfgonjcpapnaaGreatDoor.Abs
open Go Go.Proofs
theorem merge_one {x : I} {Y : List I} (h : ∀ y ∈ Y, leI x y = true) : [x].merge Y leI = x :: Y := by
  cases Y with
  | nil => simp
  | cons y Y =>
    rw [List.cons_merge_cons, if_pos (h y (by simp))]
    simp
theorem merge_last {y : I} {X : List I} (h : ∀ x ∈ X, leI x y = false) : X.merge [y] leI = y :: X := by
  cases X with
  | nil => simp
  | cons x X =>
    rw [List.cons_merge_cons, h x (by simp)]
    simp
theorem getD_take {P : List I} {t i : Nat} (h : t < i) : (P.take i).getD t default = P.getD t default := by
  rw [List.getD_eq_getElem?_getD, List.getElem?_take, if_pos h, ← List.getD_eq_getElem?_getD]
theorem getD_drop {P : List I} {t i : Nat} : (P.drop i).getD t default = P.getD (i + t) default := by
  rw [List.getD_eq_getElem?_getD, List.getElem?_drop, ← List.getD_eq_getElem?_getD]
theorem mem_at {P : List I} {x : I} (h : x ∈ P) : ∃ t, t < P.length ∧ P.getD t default = x := by
  obtain ⟨t, ht, he⟩ := List.getElem_of_mem h
  exact ⟨t, ht, by rw [List.getD_eq_getElem?_getD, List.getElem?_eq_getElem ht, he]; rfl⟩
theorem srt_at {X : List I} (hs : Srt X) (hl : ∀ x ∈ X, lo2 x) {t t' : Nat} (h : t ≤ t') (h' : t' < X.length) : lowB (X.getD t default).lb (X.getD t' default).lb ≤ 0 := by
  by_cases e : t = t'
  · subst e
    have := an_lowB (X.getD t default).lb (X.getD t default).lb
    omega
  · have h1 := List.pairwise_iff_getElem.1 hs t t' (by omega) h' (by omega)
    have g1 : X.getD t default = X[t] := by rw [List.getD_eq_getElem?_getD, List.getElem?_eq_getElem (by omega)]; rfl
    have g2 : X.getD t' default = X[t'] := by rw [List.getD_eq_getElem?_getD, List.getElem?_eq_getElem h']; rfl
    rw [g1, g2]
    exact (le_iff (hl _ (List.getElem_mem _)) (hl _ (List.getElem_mem _))).1 h1
theorem lo_at {X : List I} (hl : ∀ x ∈ X, lo2 x) {t : Nat} (h : t < X.length) : lo2 (X.getD t default) := hl _ (getD_mem h default)
theorem cut_merge {X Y : List I} (sX : Srt X) (sY : Srt Y) (lX : ∀ x ∈ X, lo2 x) (lY : ∀ y ∈ Y, lo2 y) {i k : Nat} (hi : i ≤ X.length) (hk : k ≤ Y.length)
    (h1 : 0 < i → k < Y.length → leI (X.getD (i - 1) default) (Y.getD k default) = true) (h2 : i < X.length → 0 < k → leI (X.getD i default) (Y.getD (k - 1) default) = false) :
    X.merge Y leI = (X.take i).merge (Y.take k) leI ++ (X.drop i).merge (Y.drop k) leI := by
  have e := mergeL_split (X.take i) (X.drop i) (Y.take k) (Y.drop k) (fun x hx y hy => ?_) (fun y hy x hx => ?_)
  · rw [List.take_append_drop, List.take_append_drop] at e
    exact e
  · obtain ⟨t, ht, rfl⟩ := mem_at hx
    obtain ⟨u, hu, rfl⟩ := mem_at hy
    rw [List.length_take] at ht
    rw [List.length_drop] at hu
    rw [getD_take (by omega), getD_drop]
    have a1 := srt_at sX lX (t := t) (t' := i - 1) (by omega) (by omega)
    have a2 := srt_at sY lY (t := k) (t' := k + u) (by omega) (by omega)
    have a3 := (le_iff (lo_at lX (by omega)) (lo_at lY (by omega))).1 (h1 (by omega) (by omega))
    exact (le_iff (lo_at lX (by omega)) (lo_at lY (by omega))).2 (low_tr (low_tr a1 a3) a2)
  · obtain ⟨t, ht, rfl⟩ := mem_at hy
    obtain ⟨u, hu, rfl⟩ := mem_at hx
    rw [List.length_take] at ht
    rw [List.length_drop] at hu
    rw [getD_take (by omega), getD_drop]
    have a1 := srt_at sY lY (t := t) (t' := k - 1) (by omega) (by omega)
    have a2 := srt_at sX lX (t := i) (t' := i + u) (by omega) (by omega)
    have a3 := (lt_iff (lo_at lX (by omega)) (lo_at lY (by omega))).1 (h2 (by omega) (by omega))
    exact (lt_iff (lo_at lX (by omega)) (lo_at lY (by omega))).2 (low_tr1 (low_tr2 a1 a3) a2)
theorem tree3 {p q : Bool} {D T T' : Prop} (h1 : p = true → q = true → D ∧ T) (h2 : (p && q) = false → T') : (p = true → (q = true → (0 : Nat) = 0 ∧ D ∧ T) ∧ (q = false → T')) ∧ (p = false → T') :=
  ⟨fun hp => ⟨fun hq => ⟨rfl, h1 hp hq⟩, fun hq => h2 (by rw [hq, Bool.and_false])⟩, fun hp => h2 (by rw [hp, Bool.false_and])⟩
section
variable (l : List I) (n : Nat) (fu : Bool) (h4 : n < 1000000)
include h4
theorem sm_S4 (a m b mid nn : Int) (p s0 r0 : Nat) (xs : List I) (hr0 : r0 ≤ n) (hp1 : r0 ≤ p + 1) (hp2 : p < n + s0) (hn : n ≤ xs.length) (hok : ∀ z ∈ xs, z.ok)
    (mono : ∀ c c', s0 ≤ c → c ≤ c' → c' < r0 → leI (xs.getD c' default) (xs.getD (p - c') default) = true → leI (xs.getD c default) (xs.getD (p - c) default) = true) {v : AV} {rs : List Row}
    (next : ∀ s, s0 ≤ s → s ≤ r0 → (∀ c, s0 ≤ c → c < s → leI (xs.getD c default) (xs.getD (p - c) default) = true) → (∀ c, s ≤ c → c < r0 → leI (xs.getD c default) (xs.getD (p - c) default) = false) → ∀ j jr g, LoopAtC E1 Tryz.f155 1 v rs 4 (slices_symMergeCmpFunc_api_Interval_S4 l n fu a m b mid nn (p : Nat) (s : Nat) (s : Nat) (List.map I.p xs) j jr g)) :
    ∀ (d s q : Nat) j jr g, q - s ≤ d → s0 ≤ s → s ≤ q → q ≤ r0 → (∀ c, s0 ≤ c → c < s → leI (xs.getD c default) (xs.getD (p - c) default) = true) → (∀ c, q ≤ c → c < r0 → leI (xs.getD c default) (xs.getD (p - c) default) = false) →
      LoopAtC E1 Tryz.f155 1 v rs 4 (slices_symMergeCmpFunc_api_Interval_S4 l n fu a m b mid nn (p : Nat) (s : Nat) (q : Nat) (List.map I.p xs) j jr g) := by
  intro d
  induction d with
  | zero =>
    intro s q j jr g hd h0 hsq hq h1 h2
    have : s = q := by omega
    subst this
    exact next s h0 hq h1 h2 j jr g
  | succ d ih =>
    intro s q j0 jr0 g0 hd h0 hsq hq h1 h2
    by_cases he : s = q
    · subst he; exact next s h0 hq h1 h2 j0 jr0 g0
    have hh := half_i s q (by omega)
    have hc1 : (s + q) / 2 < q := by omega
    have hc2 : s ≤ (s + q) / 2 := by omega
    generalize hc : (s + q) / 2 = c at hh hc1 hc2
    have hw : IntKind.wrap IntKind.i64 (((c : Nat) : Int) + 1) = ((c + 1 : Nat) : Int) := by rw [wrap_i64 _ (by omega) (by omega)]; omega
    have hw2 : IntKind.wrap IntKind.i64 (((p : Nat) : Int) - ((c : Nat) : Int)) = ((p - c : Nat) : Int) := by rw [wrap_i64 _ (by omega) (by omega)]; omega
    have gic := getI (l := xs) (i := c) (by omega)
    have gip := getI (l := xs) (i := p - c) (by omega)
    have okc : (xs.getD c default).ok := ok_get hok (by omega)
    have okp : (xs.getD (p - c) default).ok := ok_get hok (by omega)
    have hg0 := slices_symMergeCmpFunc_api_Interval_go_S4 l n fu a m b mid nn p s q xs j0 jr0 g0 v rs
    rw [hh, hw, hw2] at hg0
    simp only [Nat.zero_add, Int.toNat_natCast] at hg0
    refine loopC_go 2000 _ (Eq.mpr hg0 ⟨fun h => ⟨(by trivial), ⟨by omega, by omega, (by trivial)⟩, (by trivial), gip, (by trivial), ⟨by omega, by omega, (by trivial)⟩, (by trivial), gic, den_ordS _ _ okp okc, fun h3 j jr g => ?_, fun h3 j jr g => ?_⟩, fun h => ?_⟩)
    · have h3' : leI (xs.getD c default) (xs.getD (p - c) default) = true := by
        have h5 := of_decide_eq_false (not_eq.1 h3)
        cases h6 : leI (xs.getD c default) (xs.getD (p - c) default) with
        | true => rfl
        | false => exact absurd (lt_le.2 h6) h5
      exact ih (c + 1) q j jr g (by omega) (by omega) (by omega) hq (fun c' h7 h8 => mono c' c h7 (by omega) (by omega) h3') h2
    · have h3' : leI (xs.getD c default) (xs.getD (p - c) default) = false := lt_le.1 (of_decide_eq_true (not_eq.2 h3))
      refine ih s c j jr g (by omega) h0 (by omega) (by omega) h1 fun c' h7 h8 => ?_
      cases h6 : leI (xs.getD c' default) (xs.getD (p - c') default) with
      | false => rfl
      | true => rw [mono c c' (by omega) h7 h8 h6] at h3'; cases h3'
    · simp only [decide_eq_false_iff_not] at h; omega
end
end Go.Proofs.YtlhfgonjcpapnaaGreatDoor.Abs

set_option maxRecDepth 20000
set_option maxHeartbeats 4000000
namespace Go.Proofs.YtlhfgonjcpapnaaGreatDoor.Abs
open Go Go.Proofs
theorem dec_t {p : Prop} [Decidable p] (h : decide p = true) : p := of_decide_eq_true h
theorem dec_f {p q : Prop} [Decidable p] [Decidable q] (h : (decide p && decide q) = false) : ¬ (p ∧ q) := by
  rintro ⟨a, b⟩
  rw [decide_eq_true a, decide_eq_true b] at h
  cases h
section
variable (n : Nat) (fu : Bool) (h4 : n < 1000000)
include h4
theorem sm_out (l A X1 X2 Y1 Y2 B : List I) (hn : (A ++ (X1 ++ (X2 ++ (Y1 ++ Y2)))).length ≤ n) (j : Nat → AV) (jr : Nat → Row) (g : Nat)
    (a m b mid nn p s : Int) (ha : a = (A.length : Nat)) (hm : m = (A.length + (X1.length + X2.length) : Nat)) (hb : b = (A.length + (X1.length + X2.length) + (Y1.length + Y2.length) : Nat)) (hmid : mid = (A.length + (X1.length + Y1.length) : Nat)) (hnn : nn = mid + m) (hs : s = (A.length + X1.length : Nat))
    (ih1 : X1 ≠ [] → Y1 ≠ [] → DenC E1 155 [.msl 0 0 0 0 n fu, intA (A.length : Nat), intA (A.length + X1.length : Nat), intA (A.length + X1.length + Y1.length : Nat), cmpClo] [rowI (A ++ (X1 ++ (Y1 ++ (X2 ++ (Y2 ++ B)))))] (.pv (.tup [])) [rowI (A ++ (X1.merge Y1 leI ++ (X2 ++ (Y2 ++ B))))])
    (ih2 : X2 ≠ [] → Y2 ≠ [] → DenC E1 155 [.msl 0 0 0 0 n fu, intA ((A ++ X1.merge Y1 leI).length : Nat), intA ((A ++ X1.merge Y1 leI).length + X2.length : Nat), intA ((A ++ X1.merge Y1 leI).length + X2.length + Y2.length : Nat), cmpClo] [rowI ((A ++ X1.merge Y1 leI) ++ (X2 ++ (Y2 ++ B)))] (.pv (.tup [])) [rowI ((A ++ X1.merge Y1 leI) ++ (X2.merge Y2 leI ++ B))]) :
    LoopAtC E1 Tryz.f155 1 (.pv (.tup [])) [rowI (A ++ ((X1.merge Y1 leI ++ X2.merge Y2 leI) ++ B))] 4 (slices_symMergeCmpFunc_api_Interval_S4 l n fu a m b mid nn p s s (List.map I.p (A ++ (X1 ++ (X2 ++ (Y1 ++ (Y2 ++ B)))))) j jr g) := by
  subst ha hm hb hmid hnn hs
  simp only [List.length_append] at hn
  have hw : IntKind.wrap IntKind.i64 (((A.length + (X1.length + Y1.length) : Nat) : Int) + ((A.length + (X1.length + X2.length) : Nat) : Int) - ((A.length + X1.length : Nat) : Int)) = ((A.length + (X1.length + (X2.length + Y1.length)) : Nat) : Int) := by
    rw [wrap_i64 _ (by omega) (by omega)]; omega
  have pos : ∀ {Z : List I}, 0 < Z.length ↔ Z ≠ [] := List.length_pos_iff
  have hM : (X1.merge Y1 leI).length = X1.length + Y1.length := List.length_merge ..
  rw [List.length_append, hM] at ih2
  -- the row after the turn, after the first half and after the second
  have hg0 := slices_symMergeCmpFunc_api_Interval_go_S4 l n fu (A.length : Nat) (A.length + (X1.length + X2.length) : Nat) (A.length + (X1.length + X2.length) + (Y1.length + Y2.length) : Nat) (A.length + (X1.length + Y1.length) : Nat) (((A.length + (X1.length + Y1.length) : Nat) : Int) + ((A.length + (X1.length + X2.length) : Nat) : Int)) p (A.length + X1.length : Nat) (A.length + X1.length : Nat) (A ++ (X1 ++ (X2 ++ (Y1 ++ (Y2 ++ B))))) j jr g (.pv (.tup [])) [rowI (A ++ ((X1.merge Y1 leI ++ X2.merge Y2 leI) ++ B))]
  rw [hw] at hg0
  have d1 : 0 < X2.length → 0 < Y1.length → _ := fun h5 h6 => denC_cRot n fu h4 (A ++ X1) X2 Y1 (Y2 ++ B) (pos.1 h5) (pos.1 h6) (by simp only [List.length_append]; omega) (A.length + X1.length : Nat) (A.length + (X1.length + X2.length) : Nat) (A.length + (X1.length + (X2.length + Y1.length)) : Nat) (by simp) (by simp [Nat.add_assoc]) (by simp [Nat.add_assoc])
  have e0 : A ++ (X1 ++ (X2 ++ (Y1 ++ (Y2 ++ B)))) = (A ++ X1) ++ (X2 ++ (Y1 ++ (Y2 ++ B))) := by simp
  have e1 : (A ++ X1) ++ (Y1 ++ (X2 ++ (Y2 ++ B))) = A ++ (X1 ++ (Y1 ++ (X2 ++ (Y2 ++ B)))) := by simp
  have e2 : A ++ (X1.merge Y1 leI ++ (X2 ++ (Y2 ++ B))) = (A ++ X1.merge Y1 leI) ++ (X2 ++ (Y2 ++ B)) := by simp
  have e3 : (A ++ X1.merge Y1 leI) ++ (X2.merge Y2 leI ++ B) = A ++ ((X1.merge Y1 leI ++ X2.merge Y2 leI) ++ B) := by simp
  rw [← e0] at d1
  have k1 : ¬ (X2 ≠ [] ∧ Y1 ≠ []) → A ++ (X1 ++ (X2 ++ (Y1 ++ (Y2 ++ B)))) = A ++ (X1 ++ (Y1 ++ (X2 ++ (Y2 ++ B)))) := by
    intro h
    by_cases h5 : X2 = []
    · subst h5; simp
    · by_cases h6 : Y1 = []
      · subst h6; simp
      · exact absurd ⟨h5, h6⟩ h
  have k2 : ¬ (X1 ≠ [] ∧ Y1 ≠ []) → A ++ (X1 ++ (Y1 ++ (X2 ++ (Y2 ++ B)))) = A ++ (X1.merge Y1 leI ++ (X2 ++ (Y2 ++ B))) := by
    intro h
    by_cases h5 : X1 = []
    · subst h5; simp
    · by_cases h6 : Y1 = []
      · subst h6; simp
      · exact absurd ⟨h5, h6⟩ h
  have k3 : ¬ (X2 ≠ [] ∧ Y2 ≠ []) → A ++ (X1.merge Y1 leI ++ (X2 ++ (Y2 ++ B))) = A ++ ((X1.merge Y1 leI ++ X2.merge Y2 leI) ++ B) := by
    intro h
    by_cases h5 : X2 = []
    · subst h5; simp
    · by_cases h6 : Y2 = []
      · subst h6; simp
      · exact absurd ⟨h5, h6⟩ h
  have c1 : cSym (Int.toNat (A.length : Nat)) (Int.toNat (A.length + X1.length : Nat)) (Int.toNat (A.length + (X1.length + Y1.length) : Nat)) (A ++ (X1 ++ (Y1 ++ (X2 ++ (Y2 ++ B))))) = A ++ (X1.merge Y1 leI ++ (X2 ++ (Y2 ++ B))) := by
    rw [cSym_eq]; exact sym_app (by omega) (by omega) (by omega)
  have c2 : cSym (Int.toNat (A.length + (X1.length + Y1.length) : Nat)) (Int.toNat (A.length + (X1.length + (X2.length + Y1.length)) : Nat)) (Int.toNat (A.length + (X1.length + X2.length) + (Y1.length + Y2.length) : Nat)) (A ++ (X1.merge Y1 leI ++ (X2 ++ (Y2 ++ B)))) = A ++ ((X1.merge Y1 leI ++ X2.merge Y2 leI) ++ B) := by
    rw [cSym_eq, e2, ← e3]
    exact sym_app (by rw [List.length_append, hM]; omega) (by rw [List.length_append, hM]; omega) (by rw [List.length_append, hM]; omega)
  have d2 : X1 ≠ [] → Y1 ≠ [] → DenC E1 155 [.msl 0 0 0 0 n fu, intA (A.length : Nat), intA (A.length + X1.length : Nat), intA (A.length + (X1.length + Y1.length) : Nat), cmpClo] [rowI (A ++ (X1 ++ (Y1 ++ (X2 ++ (Y2 ++ B)))))] (.pv (.tup [])) [rowI (A ++ (X1.merge Y1 leI ++ (X2 ++ (Y2 ++ B))))] := by
    intro h5 h6
    rw [← Nat.add_assoc]
    exact ih1 h5 h6
  have d3 : X2 ≠ [] → Y2 ≠ [] → DenC E1 155 [.msl 0 0 0 0 n fu, intA (A.length + (X1.length + Y1.length) : Nat), intA (A.length + (X1.length + (X2.length + Y1.length)) : Nat), intA (A.length + (X1.length + X2.length) + (Y1.length + Y2.length) : Nat), cmpClo] [rowI (A ++ (X1.merge Y1 leI ++ (X2 ++ (Y2 ++ B))))] (.pv (.tup [])) [rowI (A ++ ((X1.merge Y1 leI ++ X2.merge Y2 leI) ++ B))] := by
    intro h5 h6
    have := ih2 h5 h6
    rw [show A.length + (X1.length + Y1.length) + X2.length + Y2.length = A.length + (X1.length + X2.length) + (Y1.length + Y2.length) by omega, show A.length + (X1.length + Y1.length) + X2.length = A.length + (X1.length + (X2.length + Y1.length)) by omega, ← e2, e3] at this
    exact this
  generalize hr1 : A ++ (X1 ++ (X2 ++ (Y1 ++ (Y2 ++ B)))) = r1 at hg0 d1 k1 ⊢
  generalize hr2 : A ++ (X1 ++ (Y1 ++ (X2 ++ (Y2 ++ B)))) = r2 at hg0 d1 e1 k1 k2 c1 d2
  generalize hr3 : A ++ (X1.merge Y1 leI ++ (X2 ++ (Y2 ++ B))) = r3 at k2 c1 d2 k3 c2 d3 e2
  generalize hr4 : A ++ ((X1.merge Y1 leI ++ X2.merge Y2 leI) ++ B) = r4 at hg0 k3 c2 d3 e3 ⊢
  rw [e1] at d1
  refine loopC_go 2000 _ (Eq.mpr hg0 ⟨fun h => absurd (dec_t h) (by omega), fun _ => tree3 (fun q1 q2 => ?_) (fun q => ?_)⟩)
  · have q1 := dec_t q1
    have q2 := dec_t q2
    have hd := d1 (by omega) (by omega)
    refine ⟨hd.1, ?_⟩
    rw [hd.2]
    refine tree3 (fun q1 q2 => ?_) (fun q => ?_)
    · have q1 := dec_t q1
      have q2 := dec_t q2
      have hd := d2 (pos.1 (by omega)) (pos.1 (by omega))
      rw [c1]
      refine ⟨hd, tree3 (fun q1 q2 => ?_) (fun q => ?_)⟩
      · have q1 := dec_t q1
        have q2 := dec_t q2
        rw [c2]
        exact ⟨d3 (pos.1 (by omega)) (pos.1 (by omega)), rfl, rfl, rfl⟩
      · have := dec_f q
        rw [k3 (by rw [← pos, ← pos]; omega)]
        exact ⟨rfl, rfl, rfl⟩
    · have := dec_f q
      rw [k2 (by rw [← pos, ← pos]; omega)]
      refine tree3 (fun q1 q2 => ?_) (fun q => ?_)
      · have q1 := dec_t q1
        have q2 := dec_t q2
        rw [c2]
        exact ⟨d3 (pos.1 (by omega)) (pos.1 (by omega)), rfl, rfl, rfl⟩
      · have := dec_f q
        rw [k3 (by rw [← pos, ← pos]; omega)]
        exact ⟨rfl, rfl, rfl⟩
  · have := dec_f q
    rw [k1 (by rw [← pos, ← pos]; omega)]
    refine tree3 (fun q1 q2 => ?_) (fun q => ?_)
    · have q1 := dec_t q1
      have q2 := dec_t q2
      have hd := d2 (pos.1 (by omega)) (pos.1 (by omega))
      rw [c1]
      refine ⟨hd, tree3 (fun q1 q2 => ?_) (fun q => ?_)⟩
      · have q1 := dec_t q1
        have q2 := dec_t q2
        rw [c2]
        exact ⟨d3 (pos.1 (by omega)) (pos.1 (by omega)), rfl, rfl, rfl⟩
      · have := dec_f q
        rw [k3 (by rw [← pos, ← pos]; omega)]
        exact ⟨rfl, rfl, rfl⟩
    · have := dec_f q
      rw [k2 (by rw [← pos, ← pos]; omega)]
      refine tree3 (fun q1 q2 => ?_) (fun q => ?_)
      · have q1 := dec_t q1
        have q2 := dec_t q2
        rw [c2]
        exact ⟨d3 (pos.1 (by omega)) (pos.1 (by omega)), rfl, rfl, rfl⟩
      · have := dec_f q
        rw [k3 (by rw [← pos, ← pos]; omega)]
        exact ⟨rfl, rfl, rfl⟩
end
end Go.Proofs.YtlhfgonjcpapnaaGreatDoor.Abs

set_option maxRecDepth 20000
set_option maxHeartbeats 4000000
namespace Go.Proofs.YtlhfgonjcpapnaaGreatDoor.Abs
open Go Go.Proofs
theorem srt_take {X : List I} (h : Srt X) (i : Nat) : Srt (X.take i) := List.Pairwise.sublist (List.take_sublist i X) h
theorem srt_drop {X : List I} (h : Srt X) (i : Nat) : Srt (X.drop i) := List.Pairwise.sublist (List.drop_sublist i X) h
theorem lo_take {X : List I} (h : ∀ x ∈ X, lo2 x) (i : Nat) : ∀ x ∈ X.take i, lo2 x := fun x hx => h x (List.take_subset _ _ hx)
theorem lo_drop {X : List I} (h : ∀ x ∈ X, lo2 x) (i : Nat) : ∀ x ∈ X.drop i, lo2 x := fun x hx => h x (List.drop_subset _ _ hx)
section
variable (n : Nat) (fu : Bool) (h4 : n < 1000000)
include h4
theorem sm_one_l (A B : List I) (x : I) (Y : List I) (hY0 : Y ≠ []) (hn : A.length + 1 + Y.length ≤ n) (hl : n ≤ (A ++ ([x] ++ (Y ++ B))).length) (hok : ∀ z ∈ A ++ ([x] ++ (Y ++ B)), z.ok) (lx : lo2 x) (lY : ∀ y ∈ Y, lo2 y) (sY : Srt Y) :
    DenC E1 155 [.msl 0 0 0 0 n fu, intA (A.length : Nat), intA (A.length + 1 : Nat), intA (A.length + 1 + Y.length : Nat), cmpClo] [rowI (A ++ ([x] ++ (Y ++ B)))] (.pv (.tup [])) [rowI (A ++ ([x].merge Y leI ++ B))] := by
  have lY0 := List.length_pos_iff.2 hY0
  have hw : IntKind.wrap IntKind.i64 (((A.length + 1 : Nat) : Int) - (A.length : Nat)) = 1 := by rw [wrap_i64 _ (by omega) (by omega)]; omega
  refine denC_go 2000 _ (fn := Tryz.f155) (by kernel_rfl) rfl (Eq.mpr (slices_symMergeCmpFunc_api_Interval_go _ n fu _ _ _ _ _) ?_)
  rw [hw]
  refine ⟨fun _ j jr g => ?_, fun h => by simp at h⟩
  have hx : (A ++ ([x] ++ (Y ++ B))).getD A.length default = x := get_at rfl
  have hYg : ∀ t, t < Y.length → (A ++ ([x] ++ (Y ++ B))).getD (A.length + 1 + t) default = Y.getD t default := by
    intro t ht
    have := get_mid (P := A ++ [x]) (Q := Y) (R := B) ht
    simp only [List.append_assoc, List.length_append, List.length_cons, List.length_nil, Nat.zero_add] at this
    exact this
  have key := sm_S0 (A ++ ([x] ++ (Y ++ B))) n fu h4 A.length (A.length + 1) (A.length + 1 + Y.length) (A ++ ([x] ++ (Y ++ B))) x Y hx hYg (by omega) hn hl hok
    (fun t t' h1 h2 h3 => (lt_iff lx (lo_at lY (by omega))).2 (low_tr2 (srt_at sY lY h1 h2) ((lt_iff lx (lo_at lY h2)).1 h3)))
    (v := .pv (.tup [])) (rs := [rowI (A ++ ([x].merge Y leI ++ B))]) (fun i hi h1 h2 j jr g => ?_) Y.length 0 Y.length j jr g (by omega) (by omega) (Nat.le_refl _) (fun t ht => by omega) (fun t h5 h6 => by omega)
  · rw [Nat.add_zero] at key
    exact key
  · have hm : [x].merge Y leI = Y.take i ++ x :: Y.drop i := by
      have e := mergeL_split [] [x] (Y.take i) (Y.drop i) (by simp) (fun y hy z hz => by
        obtain ⟨t, ht, rfl⟩ := mem_at hy
        rw [List.length_take] at ht
        rw [List.mem_singleton.1 hz, getD_take (by omega)]
        exact h1 t (by omega))
      rw [List.take_append_drop, List.nil_append, List.nil_merge, merge_one (Y := Y.drop i) (fun y hy => by
        obtain ⟨t, ht, rfl⟩ := mem_at hy
        rw [List.length_drop] at ht
        rw [getD_drop]
        exact h2 _ (by omega) (by omega))] at e
      exact e
    rw [hm]
    have lt : (Y.take i).length = i := by rw [List.length_take]; omega
    have := sm_S1 (A ++ ([x] ++ (Y ++ B))) n fu h4 (A.length : Nat) (A.length + 1 : Nat) (A.length + 1 + Y.length : Nat) (A.length + 1 + i : Nat) x (Y.drop i ++ B) (Y.take i) A j jr g (by simp only [List.length_append, List.length_cons]; omega) (by omega)
    rw [← List.append_assoc (Y.take i), List.take_append_drop] at this
    have e5 : A ++ (Y.take i ++ x :: Y.drop i ++ B) = A ++ (Y.take i ++ x :: (Y.drop i ++ B)) := by simp
    rw [e5]
    exact this
theorem sm_one_r (A B : List I) (y : I) (X : List I) (hX0 : 1 < X.length) (hn : A.length + X.length + 1 ≤ n) (hl : n ≤ (A ++ (X ++ ([y] ++ B))).length) (hok : ∀ z ∈ A ++ (X ++ ([y] ++ B)), z.ok) (ly : lo2 y) (lX : ∀ x ∈ X, lo2 x) (sX : Srt X) :
    DenC E1 155 [.msl 0 0 0 0 n fu, intA (A.length : Nat), intA (A.length + X.length : Nat), intA (A.length + X.length + 1 : Nat), cmpClo] [rowI (A ++ (X ++ ([y] ++ B)))] (.pv (.tup [])) [rowI (A ++ (X.merge [y] leI ++ B))] := by
  have hw0 : IntKind.wrap IntKind.i64 (((A.length + X.length : Nat) : Int) - (A.length : Nat)) = (X.length : Nat) := by rw [wrap_i64 _ (by omega) (by omega)]; omega
  have hw : IntKind.wrap IntKind.i64 (((A.length + X.length + 1 : Nat) : Int) - (A.length + X.length : Nat)) = 1 := by rw [wrap_i64 _ (by omega) (by omega)]; omega
  refine denC_go 2000 _ (fn := Tryz.f155) (by kernel_rfl) rfl (Eq.mpr (slices_symMergeCmpFunc_api_Interval_go _ n fu _ _ _ _ _) ?_)
  rw [hw0, hw]
  refine ⟨fun h => by have := eq_of_beq h; omega, fun _ => ⟨fun _ j jr g => ?_, fun h => by simp at h⟩⟩
  have hy : (A ++ (X ++ ([y] ++ B))).getD (A.length + X.length) default = y := by
    have := get_at (P := A ++ X) (Q := B) (x := y) rfl
    rw [List.length_append, List.append_assoc] at this
    exact this
  have hXg : ∀ t, t < X.length → (A ++ (X ++ ([y] ++ B))).getD (A.length + t) default = X.getD t default := fun t ht => get_mid ht
  have key := sm_S2 (A ++ (X ++ ([y] ++ B))) n fu h4 A.length (A.length + X.length) (A.length + X.length + 1) (A ++ (X ++ ([y] ++ B))) y X hy hXg (by omega) (by omega) hl hok
    (fun t t' h1 h2 h3 => (le_iff (lo_at lX (by omega)) ly).2 (low_tr (srt_at sX lX h1 h2) ((le_iff (lo_at lX h2) ly).1 h3)))
    (v := .pv (.tup [])) (rs := [rowI (A ++ (X.merge [y] leI ++ B))]) (fun i hi h1 h2 j jr g => ?_) X.length 0 X.length j jr g (by omega) (by omega) (Nat.le_refl _) (fun t ht => by omega) (fun t h5 h6 => by omega)
  · rw [Nat.add_zero] at key
    exact key
  · have hm : X.merge [y] leI = X.take i ++ y :: X.drop i := by
      have e := mergeL_split (X.take i) (X.drop i) [] [y] (fun x hx z hz => by
        obtain ⟨t, ht, rfl⟩ := mem_at hx
        rw [List.length_take] at ht
        rw [List.mem_singleton.1 hz, getD_take (by omega)]
        exact h1 t (by omega)) (by simp)
      rw [List.take_append_drop, List.nil_append, List.merge_right, merge_last (X := X.drop i) (fun x hx => by
        obtain ⟨t, ht, rfl⟩ := mem_at hx
        rw [List.length_drop] at ht
        rw [getD_drop]
        exact h2 _ (by omega) (by omega))] at e
      exact e
    rw [hm]
    have lt : (X.take i).length = i := by rw [List.length_take]; omega
    have ld : (X.drop i).length = X.length - i := by rw [List.length_drop]
    have := sm_S3 (A ++ (X ++ ([y] ++ B))) n fu h4 (A.length : Nat) (A.length + X.length : Nat) (A.length + X.length + 1 : Nat) (A.length + i : Nat) y (A ++ X.take i) (by rw [List.length_append, lt]) _ (X.drop i) B j jr g rfl (by simp only [List.length_append, List.length_cons, List.length_nil]; omega)
    have e5 : A ++ (X.take i ++ y :: X.drop i ++ B) = (A ++ X.take i) ++ (y :: (X.drop i ++ B)) := by simp
    have e6 : A ++ (X ++ ([y] ++ B)) = (A ++ X.take i) ++ (X.drop i ++ (y :: B)) := by
      rw [List.append_assoc, ← List.append_assoc (X.take i), List.take_append_drop]; rfl
    rw [e5]
    rw [← e6, List.length_append, lt, ld, show A.length + i + (X.length - i) = A.length + X.length by omega] at this
    exact this
theorem denC_symMerge : ∀ (k : Nat) (A X Y B : List I), X.length + Y.length ≤ k → X ≠ [] → Y ≠ [] → A.length + X.length + Y.length ≤ n → n ≤ (A ++ (X ++ (Y ++ B))).length → (∀ z ∈ A ++ (X ++ (Y ++ B)), z.ok) → (∀ x ∈ X, lo2 x) → (∀ y ∈ Y, lo2 y) → Srt X → Srt Y →
    DenC E1 155 [.msl 0 0 0 0 n fu, intA (A.length : Nat), intA (A.length + X.length : Nat), intA (A.length + X.length + Y.length : Nat), cmpClo] [rowI (A ++ (X ++ (Y ++ B)))] (.pv (.tup [])) [rowI (A ++ (X.merge Y leI ++ B))] := by
  intro k
  induction k with
  | zero =>
    intro A X Y B hk hX
    exact absurd (List.length_eq_zero_iff.1 (by omega)) hX
  | succ k ih =>
    intro A X Y B hk hX hY hn hl hok lX lY sX sY
    have pX := List.length_pos_iff.2 hX
    have pY := List.length_pos_iff.2 hY
    by_cases h1 : X.length = 1
    · obtain ⟨x, rfl⟩ := List.length_eq_one_iff.1 h1
      exact sm_one_l n fu h4 A B x Y hY hn hl hok (lX x (by simp)) lY sY
    by_cases h2 : Y.length = 1
    · obtain ⟨y, rfl⟩ := List.length_eq_one_iff.1 h2
      exact sm_one_r n fu h4 A B y X (by omega) hn hl hok (lY y (by simp)) lX sX
    have hw0 : IntKind.wrap IntKind.i64 (((A.length + X.length : Nat) : Int) - (A.length : Nat)) = (X.length : Nat) := by rw [wrap_i64 _ (by omega) (by omega)]; omega
    have hw : IntKind.wrap IntKind.i64 (((A.length + X.length + Y.length : Nat) : Int) - (A.length + X.length : Nat)) = (Y.length : Nat) := by rw [wrap_i64 _ (by omega) (by omega)]; omega
    have hh := half_i A.length (A.length + X.length + Y.length) (by omega)
    have hd1 : (A.length + (A.length + X.length + Y.length)) / 2 = A.length + (X.length + Y.length) / 2 := by omega
    rw [hd1] at hh
    have hq1 : (X.length + Y.length) / 2 + (X.length + Y.length) / 2 ≤ X.length + Y.length := by omega
    have hq2 : X.length + Y.length ≤ (X.length + Y.length) / 2 + (X.length + Y.length) / 2 + 1 := by omega
    generalize (X.length + Y.length) / 2 = q at hh hq1 hq2
    have hnn : IntKind.wrap IntKind.i64 (((A.length + q : Nat) : Int) + (A.length + X.length : Nat)) = ((A.length + q : Nat) : Int) + (A.length + X.length : Nat) := wrap_i64 _ (by omega) (by omega)
    have hp : IntKind.wrap IntKind.i64 (((A.length + q : Nat) : Int) + (A.length + X.length : Nat) - 1) = ((A.length + q + (A.length + X.length) - 1 : Nat) : Int) := by rw [wrap_i64 _ (by omega) (by omega)]; omega
    have gX : ∀ t, t < X.length → (A ++ (X ++ (Y ++ B))).getD (A.length + t) default = X.getD t default := fun t ht => get_mid ht
    have gY : ∀ t, t < Y.length → (A ++ (X ++ (Y ++ B))).getD (A.length + X.length + t) default = Y.getD t default := by
      intro t ht
      have := get_mid (P := A ++ X) (Q := Y) (R := B) ht
      rw [List.length_append, List.append_assoc] at this
      exact this
    -- from any range that holds the cut
    have go : ∀ s0 r0 : Nat, A.length ≤ s0 → s0 ≤ r0 → r0 ≤ A.length + X.length → r0 ≤ A.length + q → A.length + q ≤ s0 + Y.length → (s0 = A.length ∨ s0 + Y.length = A.length + q) → (r0 = A.length + X.length ∨ r0 = A.length + q) → ∀ j jr g,
        LoopAtC E1 Tryz.f155 1 (.pv (.tup [])) [rowI (A ++ (X.merge Y leI ++ B))] 4 (slices_symMergeCmpFunc_api_Interval_S4 (A ++ (X ++ (Y ++ B))) n fu (A.length : Nat) (A.length + X.length : Nat) (A.length + X.length + Y.length : Nat) (A.length + q : Nat) (((A.length + q : Nat) : Int) + (A.length + X.length : Nat)) ((A.length + q + (A.length + X.length) - 1 : Nat) : Int) (s0 : Nat) (r0 : Nat) (List.map I.p (A ++ (X ++ (Y ++ B)))) j jr g) := by
      intro s0 r0 b1 b2 b3 b4 b5 b6 b7 j jr g
      have gp : ∀ c, s0 ≤ c → c < r0 → (A ++ (X ++ (Y ++ B))).getD c default = X.getD (c - A.length) default ∧ (A ++ (X ++ (Y ++ B))).getD (A.length + q + (A.length + X.length) - 1 - c) default = Y.getD (A.length + q - 1 - c) default := by
        intro c h5 h6
        have e1 := gX (c - A.length) (by omega)
        have e2 := gY (A.length + q - 1 - c) (by omega)
        rw [show A.length + (c - A.length) = c by omega] at e1
        rw [show A.length + X.length + (A.length + q - 1 - c) = A.length + q + (A.length + X.length) - 1 - c by omega] at e2
        exact ⟨e1, e2⟩
      refine sm_S4 (A ++ (X ++ (Y ++ B))) n fu h4 _ _ _ _ _ (A.length + q + (A.length + X.length) - 1) s0 r0 (A ++ (X ++ (Y ++ B))) (by omega) (by omega) (by omega) hl hok (fun c c' h5 h6 h7 h8 => ?_) (fun s h5 h6 h7 h8 j jr g => ?_) (r0 - s0) s0 r0 j jr g (Nat.le_refl _) (Nat.le_refl _) b2 (Nat.le_refl _) (fun c h9 h10 => by omega) (fun c h9 h10 => by omega)
      · have g1 := gp c h5 (by omega)
        have g2 := gp c' (by omega) h7
        rw [g2.1, g2.2] at h8
        rw [g1.1, g1.2]
        have x1 := srt_at sX lX (t := c - A.length) (t' := c' - A.length) (by omega) (by omega)
        have y1 := srt_at sY lY (t := A.length + q - 1 - c') (t' := A.length + q - 1 - c) (by omega) (by omega)
        exact (le_iff (lo_at lX (by omega)) (lo_at lY (by omega))).2 (low_tr (low_tr x1 ((le_iff (lo_at lX (by omega)) (lo_at lY (by omega))).1 h8)) y1)
      · have hcut := cut_merge sX sY lX lY (i := s - A.length) (k := A.length + q - s) (by omega) (by omega) (fun c1 c2 => by
          by_cases hs : s = s0
          · omega
          · have := h7 (s - 1) (by omega) (by omega)
            have g1 := gp (s - 1) (by omega) (by omega)
            rw [g1.1, g1.2] at this
            rw [show s - A.length - 1 = s - 1 - A.length by omega, show A.length + q - s = A.length + q - 1 - (s - 1) by omega]
            exact this) (fun c1 c2 => by
          by_cases hs : s = r0
          · omega
          · have := h8 s (by omega) (by omega)
            have g1 := gp s (by omega) (by omega)
            rw [g1.1, g1.2] at this
            rw [show A.length + q - s - 1 = A.length + q - 1 - s by omega]
            exact this)
        have hX12 := List.take_append_drop (s - A.length) X
        have hY12 := List.take_append_drop (A.length + q - s) Y
        have l1 : (X.take (s - A.length)).length = s - A.length := by rw [List.length_take]; omega
        have l2 : (X.drop (s - A.length)).length = X.length - (s - A.length) := by rw [List.length_drop]
        have l3 : (Y.take (A.length + q - s)).length = A.length + q - s := by rw [List.length_take]; omega
        have l4 : (Y.drop (A.length + q - s)).length = Y.length - (A.length + q - s) := by rw [List.length_drop]
        have s1 := srt_take sX (s - A.length)
        have s2 := srt_drop sX (s - A.length)
        have s3 := srt_take sY (A.length + q - s)
        have s4 := srt_drop sY (A.length + q - s)
        have m1 := lo_take lX (s - A.length)
        have m2 := lo_drop lX (s - A.length)
        have m3 := lo_take lY (A.length + q - s)
        have m4 := lo_drop lY (A.length + q - s)
        rw [hcut]
        generalize X.take (s - A.length) = X1 at *
        generalize X.drop (s - A.length) = X2 at *
        generalize Y.take (A.length + q - s) = Y1 at *
        generalize Y.drop (A.length + q - s) = Y2 at *
        have er : A ++ (X ++ (Y ++ B)) = A ++ (X1 ++ (X2 ++ (Y1 ++ (Y2 ++ B)))) := by rw [← hX12, ← hY12]; simp
        rw [er] at hok hl
        have hM : (X1.merge Y1 leI).length = X1.length + Y1.length := List.length_merge ..
        have := sm_out n fu h4 (A ++ (X ++ (Y ++ B))) A X1 X2 Y1 Y2 B (by simp only [List.length_append]; omega) j jr g (A.length : Nat) (A.length + X.length : Nat) (A.length + X.length + Y.length : Nat) (A.length + q : Nat) (((A.length + q : Nat) : Int) + (A.length + X.length : Nat)) ((A.length + q + (A.length + X.length) - 1 : Nat) : Int) (s : Nat) rfl (by omega) (by omega) (by omega) rfl (by omega)
          (fun z1 z2 => ih A X1 Y1 (X2 ++ (Y2 ++ B)) (by omega) z1 z2 (by omega) (by simp only [List.length_append] at hl ⊢; omega) (fun z hz => hok z (by simp only [List.mem_append] at hz ⊢; rcases hz with h | h | h | h | h | h <;> simp [h])) m1 m3 s1 s3)
          (fun z1 z2 => ih (A ++ X1.merge Y1 leI) X2 Y2 B (by omega) z1 z2 (by rw [List.length_append, hM]; omega) (by simp only [List.length_append, hM] at hl ⊢; omega) (fun z hz => hok z (by
            simp only [List.mem_append] at hz ⊢
            rcases hz with (h | h) | h | h | h
            · exact Or.inl h
            · rcases mem_merge h with h | h <;> simp [h]
            · simp [h]
            · simp [h]
            · simp [h])) m2 m4 s2 s4)
        rw [← er] at this
        exact this
    refine denC_go 2000 _ (fn := Tryz.f155) (by kernel_rfl) rfl (Eq.mpr (slices_symMergeCmpFunc_api_Interval_go _ n fu _ _ _ _ _) ?_)
    rw [hw0, hw, hh, hnn, hp]
    have hs0 : ∀ (_ : A.length + X.length > A.length + q), IntKind.wrap IntKind.i64 (((A.length + q : Nat) : Int) + (A.length + X.length : Nat) - (A.length + X.length + Y.length : Nat)) = ((A.length + q - Y.length : Nat) : Int) := by
      intro h
      rw [wrap_i64 _ (by omega) (by omega)]; omega
    refine ⟨fun h => by have := eq_of_beq h; omega, fun _ => ⟨fun h => by have := eq_of_beq h; omega, fun _ => ⟨fun h j jr g => ?_, fun h j jr g => ?_⟩⟩⟩
    · have h := dec_t h
      rw [hs0 (by omega)]
      exact go (A.length + q - Y.length) (A.length + q) (by omega) (by omega) (by omega) (by omega) (by omega) (Or.inr (by omega)) (Or.inr rfl) j jr g
    · have h := of_decide_eq_false h
      exact go A.length (A.length + X.length) (by omega) (by omega) (by omega) (by omega) (by omega) (Or.inl rfl) (Or.inl rfl) j jr g
end
end Go.Proofs.YtlhfgonjcpapnaaGreatDoor.Abs

set_option maxRecDepth 20000
set_option maxHeartbeats 4000000
namespace Go.Proofs.YtlhfgonjcpapnaaGreatDoor.Abs
open Go Go.Proofs
theorem sortS_ok {l : List I} (h : ∀ x ∈ l, x.ok) : ∀ x ∈ sortS l, x.ok := fun x hx => h x (sortS_mem hx)
theorem denC_stableTwo (P Q T : List I) (n : Nat) (fu : Bool) (hP : P.length = 20) (hn : n = 20 + Q.length) (hQ : Q.length < 20) (hok : ∀ x ∈ P ++ (Q ++ T), x.ok) (lP : ∀ x ∈ P, lo2 x) (lQ : ∀ x ∈ Q, lo2 x) :
    DenC E1 132 [.msl 0 0 0 0 n fu, intA n, cmpClo] [rowI (P ++ (Q ++ T))] (.pv (.tup [])) [rowI (sortS (P ++ Q) ++ T)] := by
  have z0 : Int.toNat 0 = 0 := rfl
  have z20 : Int.toNat 20 = 20 := rfl
  have oP : ∀ x ∈ P, x.ok := fun x hx => hok x (by simp [hx])
  have oQ : ∀ x ∈ Q, x.ok := fun x hx => hok x (by simp [hx])
  have oT : ∀ x ∈ T, x.ok := fun x hx => hok x (by simp [hx])
  have i1 : insRange 0 20 (P ++ (Q ++ T)) = sortS P ++ (Q ++ T) := by
    have := insRange_eq [] P (Q ++ T)
    simp only [List.nil_append, List.length_nil, Nat.zero_add, hP] at this
    exact this
  have sP : (sortS P).length = 20 := by rw [sortS_len, hP]
  have i2 : insRange 20 n (sortS P ++ (Q ++ T)) = sortS P ++ (sortS Q ++ T) := by
    have := insRange_eq (sortS P) Q T
    rw [sP, ← hn, List.append_assoc, List.append_assoc] at this
    exact this
  have o1 : ∀ x ∈ sortS P ++ (Q ++ T), x.ok := by
    intro x hx
    simp only [List.mem_append] at hx
    rcases hx with h | h | h
    · exact sortS_ok oP x h
    · exact oQ x h
    · exact oT x h
  have o2 : ∀ x ∈ sortS P ++ (sortS Q ++ T), x.ok := by
    intro x hx
    simp only [List.mem_append] at hx
    rcases hx with h | h | h
    · exact sortS_ok oP x h
    · exact sortS_ok oQ x h
    · exact oT x h
  have g1 := srt_sort lP
  have g2 := srt_sort lQ
  have dA := denC_insertion (P ++ (Q ++ T)) fu 0 20 n (by omega) (by simp only [List.length_append]; omega) (by omega) (by omega) hok
  have dB := denC_insertion (sortS P ++ (Q ++ T)) fu 20 n n (by omega) (by simp only [List.length_append, sP]; omega) (by omega) (by omega) o1
  have hw : IntKind.wrap IntKind.i64 ((20 : Int) + 20) = 40 := by decide
  have hw2 : IntKind.wrap IntKind.i64 ((2 : Int) * 20) = 40 := by decide
  have hw3 : IntKind.wrap IntKind.i64 ((0 : Int) + 20) = 20 := by decide
  have hw4 : IntKind.wrap IntKind.i64 ((20 : Int) * 2) = 40 := by decide
  rw [i1] at dA
  rw [i2] at dB
  have S0a := slices_stableCmpFunc_api_Interval_go_S0 (P ++ (Q ++ T)) n fu 0 20 (P ++ (Q ++ T))
  have S0b := slices_stableCmpFunc_api_Interval_go_S0 (P ++ (Q ++ T)) n fu 20 40 (sortS P ++ (Q ++ T))
  rw [z0, z20, hw, i1] at S0a
  rw [z20, Int.toNat_natCast, i2] at S0b
  refine denC_go 2000 _ (fn := Tryz.f132) (by kernel_rfl) rfl (Eq.mpr (slices_stableCmpFunc_api_Interval_go _ n fu _ _) fun j jr g => ?_)
  refine loopC_go 2000 _ (Eq.mpr (S0a j jr g _ _) ⟨fun h => ⟨rfl, dA, fun j jr g => ?_⟩, fun h => absurd (of_decide_eq_false h) (by omega)⟩)
  refine loopC_go 2000 _ (Eq.mpr (S0b j jr g _ _) ⟨fun h => absurd (of_decide_eq_true h) (by omega), fun h => ⟨rfl, dB, fun j jr g => ?_⟩⟩)
  have hs : (sortS P).merge (sortS Q) leI = sortS (P ++ Q) := sort_merge lP lQ
  by_cases hq : Q = []
  · subst hq
    refine loopC_go 2000 _ (Eq.mpr (slices_stableCmpFunc_api_Interval_go_S1 _ n fu _ _ _ _ j jr g _ _) ⟨fun h => ?_, fun h => ⟨rfl, rfl, ?_⟩⟩)
    · simp only [List.length_nil] at hn
      exact absurd (of_decide_eq_true h) (by omega)
    · rw [List.append_nil]
      rfl
  · have hq' := List.length_pos_iff.2 hq
    have hsl : symL 0 20 n (sortS P ++ (sortS Q ++ T)) = sortS (P ++ Q) ++ T := by
      have := sym_app (A := []) (X := sortS P) (Y := sortS Q) (B := T) (a := 0) (m := 20) (b := n) rfl (by simp [sP]) (by simp only [List.length_nil, sP, sortS_len]; omega)
      rw [hs] at this
      simpa using this
    have dC := denC_symMerge n fu (by omega) _ [] (sortS P) (sortS Q) T (Nat.le_refl _) (by rintro h; rw [h] at sP; simp at sP) (by rintro h; have := sortS_len Q; rw [h] at this; simp at this; omega) (by simp only [List.length_nil, sP, sortS_len]; omega) (by simp only [List.nil_append, List.length_append, sP, sortS_len]; omega) (by simpa using o2) g1.2 g2.2 g1.1 g2.1
    rw [hs] at dC
    simp only [List.nil_append, List.length_nil, Nat.zero_add, sP, sortS_len, ← hn] at dC
    have S2 := slices_stableCmpFunc_api_Interval_go_S2 (P ++ (Q ++ T)) n fu 0 40 20 (sortS P ++ (sortS Q ++ T))
    rw [hw3, hw4, z0, z20, Int.toNat_natCast, hsl] at S2
    refine loopC_go 2000 _ (Eq.mpr (slices_stableCmpFunc_api_Interval_go_S1 _ n fu _ _ _ _ j jr g _ _) ⟨fun h j jr g => ?_, fun h => absurd (of_decide_eq_false h) (by omega)⟩)
    rw [hw2]
    refine loopC_go 2000 _ (Eq.mpr (S2 j jr g _ _) ⟨fun h => absurd (of_decide_eq_true h) (by omega), fun h => ⟨fun _ => ⟨rfl, dC, fun j jr g => ?_⟩, fun h => absurd (of_decide_eq_false h) (by omega)⟩⟩)
    exact loopC_go 2000 _ (Eq.mpr (slices_stableCmpFunc_api_Interval_go_S1 _ n fu _ _ _ _ j jr g _ _) ⟨fun h => absurd (of_decide_eq_true h) (by omega), fun h => ⟨rfl, rfl, rfl⟩⟩)
theorem denC_SortStable40 (l : List I) (n : Nat) (fu : Bool) (hnl : n ≤ l.length) (hn : n < 40) (hok : ∀ x ∈ l, x.ok) (hlo : ∀ x ∈ l.take n, lo2 x) :
    DenC E1 97 [.msl 0 0 0 0 n fu, cmpClo] [rowI l] (.pv (.tup [])) [rowI (sortN n l)] := by
  by_cases h20 : n < 20
  · exact denC_SortStable20 l n fu hnl h20 hok
  · have e1 := List.take_append_drop n l
    have e2 := List.take_append_drop 20 (l.take n)
    have hP : ((l.take n).take 20).length = 20 := by simp only [List.length_take]; omega
    have hQ : ((l.take n).drop 20).length = n - 20 := by simp only [List.length_drop, List.length_take]; omega
    have hl : (l.take n).take 20 ++ ((l.take n).drop 20 ++ l.drop n) = l := by rw [← List.append_assoc, e2, e1]
    have := denC_stableTwo ((l.take n).take 20) ((l.take n).drop 20) (l.drop n) n fu hP (by omega) (by omega) (by rw [hl]; exact hok) (fun x hx => hlo x (List.take_subset _ _ hx)) (fun x hx => hlo x (List.drop_subset _ _ hx))
    rw [hl, e2] at this
    exact denC_go 2000 _ (fn := Tryz.f97) (by kernel_rfl) rfl (Eq.mpr (slices_SortStableFunc_api_Interval_api_Interval_go l n fu _ _) ⟨rfl, this, rfl, rfl, rfl⟩)
theorem den_join40 (l : List I) (k : Nat) (nl full : Bool) (hsl : slOk 11 k nl l.length) (hll : l.length < 1000000) (hfew : delN l < 40) (hok : ∀ x ∈ l, x.ok) (hlo : ∀ x ∈ l, deadI x = false → lo2 x) : Den E1 54 [listP k nl full l] (resL (joinS l)) :=
  den_join_of l k nl full hsl hll hok (denC_SortStable40 (delL l) (delN l) false (by rw [delL_len]; exact delN_le l) hfew (delL_ok hok) (fun x hx => by
    rw [delL_take, List.mem_filter] at hx
    exact hlo x hx.1 (not_eq.1 hx.2)))
end Go.Proofs.YtlhfgonjcpapnaaGreatDoor.Abs

namespace Go.Proofs.YtlhfgonjcpapnaaGreatDoor.Abs
open Go Go.Proofs
theorem touch_no {x y : I} (h : touchI x y = false) : x.less = false ∧ lowB x.hb y.lb < 0 := by
  have h1 : ¬ (x.less = true ∨ lowB y.lb x.hb ≤ 0) := fun h2 => by rw [touch_iff.2 h2] at h; cases h
  have h2 := low_neg x.hb y.lb
  refine ⟨?_, ?_⟩
  · cases hl : x.less with
    | false => rfl
    | true => exact absurd (.inl hl) h1
  · by_cases h3 : lowB y.lb x.hb ≤ 0
    · exact absurd (.inr h3) h1
    · omega
theorem touch_of {x y : I} (h : x.less = false) (h2 : lowB x.hb y.lb < 0) : touchI x y = false := by
  cases ht : touchI x y with
  | false => rfl
  | true =>
    rcases touch_iff.1 ht with h3 | h3
    · rw [h] at h3; cases h3
    · have := low_neg x.hb y.lb; omega
theorem pairs_form : ∀ {l : List I}, (∀ x ∈ l, emptyI x = false) → pairsS l = true → Form l
  | [], _, _ => form_nil
  | [x], h, _ => ⟨h, List.pairwise_singleton _ _⟩
  | x :: y :: l, h, hp => by
    simp only [pairsS, Bool.and_eq_true, decide_eq_true_eq, Bool.not_eq_true'] at hp
    obtain ⟨⟨h1, h2⟩, h3⟩ := hp
    have ih := pairs_form (l := y :: l) (fun z hz => h z (List.mem_cons_of_mem _ hz)) h3
    have ht := touch_no h2
    refine ⟨h, List.pairwise_cons.2 ⟨fun z hz => ⟨ht.1, ?_⟩, ih.ap⟩⟩
    rcases List.mem_cons.1 hz with rfl | hz
    · exact ht.2
    · have h5 := (List.pairwise_cons.1 ih.ap).1 z hz
      have h6 := ne_iff.1 (h y (by simp))
      rcases h6 with h6 | h6
      · rw [h6] at h5; cases h5.1
      · exact low_tr1 (low_tr1 ht.2 (show lowB y.lb y.hb ≤ 0 by omega)) (by have := h5.2; omega)
theorem may_form {l : List I} (h : mayR l = true) : Form l := by
  have h1 := right_all h
  simp only [mayR, Bool.and_eq_true] at h
  exact pairs_form (fun x hx => (h1 x hx).2) h.2
theorem form_pairs : ∀ {l : List I}, Form l → pairsS l = true
  | [], _ => rfl
  | [x], _ => rfl
  | x :: y :: l, h => by
    have h1 := (List.pairwise_cons.1 h.ap).1 y (by simp)
    have ih := form_pairs (form_tail h)
    simp only [pairsS, Bool.and_eq_true, decide_eq_true_eq, Bool.not_eq_true']
    refine ⟨⟨?_, touch_of h1.1 h1.2⟩, ih⟩
    rcases ne_iff.1 (h.ne x (by simp)) with h2 | h2
    · rw [h2] at h1; cases h1.1
    · exact low_tr1 h2 (by have := h1.2; omega)
theorem meet_cut {x y : I} (h : emptyI (meet1 x y) = false) : ∃ c, cov x c ∧ cov y c :=
  ⟨(meet1 x y).lb, cov_meet.1 ⟨by rw [low_self]; omega, ne_iff.1 h⟩⟩
theorem emp_apart {x y : I} (h : x.less = false) (h2 : lowB x.hb y.lb ≤ 0) : emptyI (meet1 x y) = true := by
  cases he : emptyI (meet1 x y) with
  | true => rfl
  | false =>
    obtain ⟨c, h3, h4⟩ := meet_cut he
    have h5 := h3.2
    rw [h] at h5
    rcases h5 with h5 | h5
    · cases h5
    · have := low_tr1 (low_tr1 h5 h2) h4.1
      rw [low_self] at this
      omega
theorem emp_apart' {x y : I} (h : y.less = false) (h2 : lowB y.hb x.lb ≤ 0) : emptyI (meet1 x y) = true := by
  cases he : emptyI (meet1 x y) with
  | true => rfl
  | false =>
    obtain ⟨c, h3, h4⟩ := meet_cut he
    have h5 := h4.2
    rw [h] at h5
    rcases h5 with h5 | h5
    · cases h5
    · have := low_tr1 (low_tr1 h5 h2) h3.1
      rw [low_self] at this
      omega
def bothN : List I → List I → Nat
  | [], _ => 0
  | x :: l, m => (m.filter fun y => !emptyI (meet1 x y)).length + bothN l m
theorem bothN_nil : ∀ l : List I, bothN l [] = 0
  | [] => rfl
  | x :: l => by rw [bothN, bothN_nil l]; rfl
theorem bothN_cons (y : I) (m : List I) : ∀ l : List I, bothN l (y :: m) = (l.filter fun x => !emptyI (meet1 x y)).length + bothN l m
  | [] => rfl
  | x :: l => by
    rw [bothN, bothN, bothN_cons y m l, List.filter_cons, List.filter_cons]
    split <;> (try simp only [List.length_cons]) <;> omega
theorem bothN_eq (m : List I) : ∀ l : List I, ((l.flatMap fun x => m.map fun y => meet1 x y).filter fun z => !emptyI z).length = bothN l m
  | [] => rfl
  | x :: l => by
    rw [List.flatMap_cons, List.filter_append, List.length_append, bothN_eq m l, bothN, List.filter_map, List.length_map]
    rfl
theorem filter_none {α : Type} {p : α → Bool} {l : List α} (h : ∀ x ∈ l, p x = false) : l.filter p = [] := by
  rw [List.filter_eq_nil_iff]
  intro x hx
  rw [h x hx]
  simp
theorem one_more {α : Type} {p : α → Bool} {x : α} {l : List α} (h : ∀ x ∈ l, p x = false) : ((x :: l).filter p).length ≤ 1 := by
  rw [List.filter_cons, filter_none h]
  split <;> simp
theorem both_few : ∀ (n : Nat) (l m : List I), l.length + m.length ≤ n → Form l → Form m → bothN l m ≤ l.length + m.length := by
  intro n
  induction n with
  | zero =>
    intro l m hn _ _
    have : l = [] := List.length_eq_zero_iff.1 (by omega)
    subst this
    exact Nat.zero_le _
  | succ n ih =>
    intro l m hn hl hm
    cases l with
    | nil => exact Nat.zero_le _
    | cons x l =>
      cases m with
      | nil => rw [bothN_nil]; exact Nat.zero_le _
      | cons y m =>
        simp only [List.length_cons] at hn ⊢
        have al := (List.pairwise_cons.1 hl.ap).1
        have am := (List.pairwise_cons.1 hm.ap).1
        by_cases hc : x.less = false ∧ (y.less = true ∨ lowB x.hb y.hb ≤ 0)
        · rw [bothN]
          have h1 : ((y :: m).filter fun y => !emptyI (meet1 x y)).length ≤ 1 := one_more fun z hz => by
            have h2 := am z hz
            have h3 : lowB x.hb y.hb ≤ 0 := by
              rcases hc.2 with h3 | h3
              · rw [h3] at h2; cases h2.1
              · exact h3
            rw [emp_apart hc.1 (by have := low_tr2 h3 h2.2; omega)]
            rfl
          have h2 := ih l (y :: m) (by simp only [List.length_cons]; omega) (form_tail hl) hm
          simp only [List.length_cons] at h2
          omega
        · rw [bothN_cons]
          have h1 : ((x :: l).filter fun x => !emptyI (meet1 x y)).length ≤ 1 := one_more fun z hz => by
            have h2 := al z hz
            have hy : y.less = false := by
              cases hy : y.less with
              | false => rfl
              | true => exact absurd ⟨h2.1, .inl hy⟩ hc
            have h3 : ¬ lowB x.hb y.hb ≤ 0 := fun h3 => hc ⟨h2.1, .inr h3⟩
            have h4 := low_neg x.hb y.hb
            rw [emp_apart' hy (by have := low_tr2 (show lowB y.hb x.hb ≤ 0 by omega) h2.2; omega)]
            rfl
          have h2 := ih (x :: l) m (by simp only [List.length_cons]; omega) hl (form_tail hm)
          simp only [List.length_cons] at h2
          omega
theorem may_few16 {l : List I} (h : mayR l = true) : l.length ≤ 16 := by
  simp only [mayR, Bool.and_eq_true, decide_eq_true_eq] at h
  exact h.1.1
theorem may_rts {l : List I} (h : mayR l = true) : ∀ x ∈ l, rt x := fun x hx => right_rt (right_all h x hx).1
theorem delN_meets {l m : List I} (hl : ∀ x ∈ l, rt x) (hm : ∀ x ∈ m, rt x) : delN (l.flatMap fun x => m.map fun y => meet1S x y) = bothN l m := by
  rw [← bothN_eq m l]
  unfold delN
  have h : ∀ l : List I, (∀ x ∈ l, rt x) → ((l.flatMap fun x => m.map fun y => meet1S x y).filter fun z => !deadI z).length = ((l.flatMap fun x => m.map fun y => meet1 x y).filter fun z => !emptyI z).length := by
    intro l
    induction l with
    | nil => intro _; rfl
    | cons x l ih =>
      intro hl
      have hx := hl x (by simp)
      rw [List.flatMap_cons, List.flatMap_cons, List.filter_append, List.filter_append, List.length_append, List.length_append, ih fun z hz => hl z (List.mem_cons_of_mem _ hz)]
      congr 1
      rw [List.filter_map, List.filter_map, List.length_map, List.length_map]
      congr 1
      apply List.filter_congr
      intro y hy
      have h1 := rt_meet1 hx (hm y hy)
      show (!deadI (meet1S x y)) = !emptyI (meet1 x y)
      rw [rt_dead h1.2, n_emp h1.1]
  exact h l hl
theorem few_both {l m : List I} (hl : mayR l = true) (hm : mayR m = true) : delN (l.flatMap fun x => m.map fun y => meet1S x y) < 40 := by
  rw [delN_meets (may_rts hl) (may_rts hm)]
  have := both_few _ l m (Nat.le_refl _) (may_form hl) (may_form hm)
  have h1 := may_few16 hl
  have h2 := may_few16 hm
  omega
end Go.Proofs.YtlhfgonjcpapnaaGreatDoor.Abs

namespace Go.Proofs.YtlhfgonjcpapnaaGreatDoor.Abs
open Go Go.Proofs
def gapsS : Ed → List I → List I
  | e, [] => if e.less then [] else [betE e ⟨zV, false, true⟩]
  | e, x :: l => betE e ⟨x.lo, x.lopen, false⟩ :: gapsS ⟨x.hi, !x.hopen, x.less⟩ l
def notS (l : List I) : List I := joinS (gapsS ⟨bottomV, false, false⟩ l)
def sideR (x : I) : List I := joinR [downI x.lo (!x.lopen)] ++ if x.less then [] else [fromI x.hi (!x.hopen)]
def notR (l : List I) : List I := l.foldl (fun c x => meetR c (sideR x)) [everyI]
end Go.Proofs.YtlhfgonjcpapnaaGreatDoor.Abs

namespace Go.Proofs.YtlhfgonjcpapnaaGreatDoor.Abs
open Go Go.Proofs
theorem span_Meet_go (l : List I) (m : List I) (k : Nat) (k' : Nat) (nl : Bool) (full : Bool) (nl' : Bool) (full' : Bool) (r : PV) : FnGo E1 Tryz.f28 [.sl k nl full (List.map I.p l), .sl k' nl' full' (List.map I.p m)] r 2000 (.res (intP (errS (mayR l))) (.fork (.lts 5 (.hole 0)) (.lit (.lit (.res (intP (errS (mayR m))) (.lit (.lit (.fork (.hole 0) (.res (resL (meetS l m)) (.res (.tup [LF.p (Prod.fst (limS (meetS l m))), intP (Prod.snd (limS (meetS l m)))]) (.hole 0))))))))))) =
  ((Den E1 12 [.sl k nl full (List.map I.p l)] (intP (errS (mayR l)))) ∧
 ((errS (mayR l) != (0 : Int)) = true →
 ((.tup [.sl 0 true true [], intP 80]) : PV) = r) ∧
 ((errS (mayR l) != (0 : Int)) = false →
 (Den E1 12 [.sl k' nl' full' (List.map I.p m)] (intP (errS (mayR m)))) ∧
 ((errS (mayR m) != (0 : Int)) = true →
 ((.tup [.sl 0 true true [], intP 80]) : PV) = r) ∧
 ((errS (mayR m) != (0 : Int)) = false →
 (Den E1 62 [.sl k nl full (List.map I.p l), .sl k' nl' full' (List.map I.p m)] (resL (meetS l m))) ∧
 (Den E1 53 [resL (meetS l m)] (.tup [LF.p (Prod.fst (limS (meetS l m))), intP (Prod.snd (limS (meetS l m)))])) ∧
 ((.tup [LF.p (Prod.fst (limS (meetS l m))), intP (Prod.snd (limS (meetS l m)))]) : PV) = r))) := by kernel_rfl
theorem span_Join_go (l : List I) (m : List I) (k : Nat) (k' : Nat) (nl : Bool) (full : Bool) (nl' : Bool) (full' : Bool) (r : PV) : FnGo E1 Tryz.f29 [.sl k nl full (List.map I.p l), .sl k' nl' full' (List.map I.p m)] r 2000 (.res (intP (errS (mayR l))) (.fork (.lts 5 (.hole 0)) (.lit (.lit (.res (intP (errS (mayR m))) (.lit (.lit (.fork (.hole 0) (.ev (.res (resL (l ++ m)) (.res (resL (joinS (l ++ m))) (.res (.tup [LF.p (Prod.fst (limS (joinS (l ++ m)))), intP (Prod.snd (limS (joinS (l ++ m))))]) (.hole 0))))))))))))) =
  ((Den E1 12 [.sl k nl full (List.map I.p l)] (intP (errS (mayR l)))) ∧
 ((errS (mayR l) != (0 : Int)) = true →
 ((.tup [.sl 0 true true [], intP 80]) : PV) = r) ∧
 ((errS (mayR l) != (0 : Int)) = false →
 (Den E1 12 [.sl k' nl' full' (List.map I.p m)] (intP (errS (mayR m)))) ∧
 ((errS (mayR m) != (0 : Int)) = true →
 ((.tup [.sl 0 true true [], intP 80]) : PV) = r) ∧
 ((errS (mayR m) != (0 : Int)) = false →
 (Den E1 63 [.sl 1 false true [.sl k nl full (List.map I.p l), .sl k' nl' full' (List.map I.p m)]] (resL (l ++ m))) ∧
 (Den E1 54 [resL (l ++ m)] (resL (joinS (l ++ m)))) ∧
 (Den E1 53 [resL (joinS (l ++ m))] (.tup [LF.p (Prod.fst (limS (joinS (l ++ m)))), intP (Prod.snd (limS (joinS (l ++ m))))])) ∧
 ((.tup [LF.p (Prod.fst (limS (joinS (l ++ m)))), intP (Prod.snd (limS (joinS (l ++ m))))]) : PV) = r))) := by kernel_rfl
theorem span_Not_go (l : List I) (k : Nat) (nl : Bool) (full : Bool) (r : PV) : FnGo E1 Tryz.f30 [.sl k nl full (List.map I.p l)] r 2000 (.res (intP (errS (mayR l))) (.fork (.hole 0) (.res (resL (notS l)) (.res (.tup [LF.p (Prod.fst (limS (notS l))), intP (Prod.snd (limS (notS l)))]) (.hole 0))))) =
  ((Den E1 12 [.sl k nl full (List.map I.p l)] (intP (errS (mayR l)))) ∧
 ((errS (mayR l) != (0 : Int)) = true →
 ((.tup [.sl 0 true true [], intP 80]) : PV) = r) ∧
 ((errS (mayR l) != (0 : Int)) = false →
 (Den E1 64 [.sl k nl full (List.map I.p l)] (resL (notS l))) ∧
 (Den E1 53 [resL (notS l)] (.tup [LF.p (Prod.fst (limS (notS l))), intP (Prod.snd (limS (notS l)))])) ∧
 ((.tup [LF.p (Prod.fst (limS (notS l))), intP (Prod.snd (limS (notS l)))]) : PV) = r)) := by kernel_rfl
end Go.Proofs.YtlhfgonjcpapnaaGreatDoor.Abs

namespace Go.Proofs.YtlhfgonjcpapnaaGreatDoor.Abs
open Go Go.Proofs
theorem slices_Grow_api_Interval_api_Interval_O_go (n : Nat) (kk : Nat) (ee : TypeId) (xs : List PV) (off m : Nat) (fu : Bool) : FnGoO E1 Tryz.f105 [.sl 0 true true [], intP ((↑(Nat.succ n) : Int))] kk ee xs off m fu 2000 (.lit (.fork (.hole 0) (.hole 0))) =
  (((decide (IntKind.i64.wrap (↑(Nat.succ n + 0) : Int) > (0 : Int))) = true →
 (((0 : Int) ≤ (0 : Int)) ∧ ((0 : Int) ≤ (0 : Int))) ∧
 ((true = true) ∨ ((0 : Nat) = 11)) ∧
 ((true = true) ∧ (((0 : Nat) = 0) ∧ (((1 : Int) ≤ IntKind.i64.wrap (↑(Nat.succ n + 0) : Int)) ∧ ((fitsRow (Int.toNat (IntKind.i64.wrap (↑(Nat.succ n + 0) : Int))) (104 : Nat)) = true)))) ∧
 (((0 : Int) ≤ (0 : Int)) ∧ ((0 : Int) ≤ (↑(Int.toNat (IntKind.i64.wrap (↑(Nat.succ n + 0) : Int))) : Int))) ∧
 ((18 : Nat) = 18) ∧
 ((11 : Nat) = 11) ∧
 (((0 : Nat) = off) ∧ (((0 : Nat) = m) ∧ (false = fu))) ∧
 ((18 : Nat) = 18) ∧
 ((11 : Nat) = kk) ∧
 ((63 : Nat) = ee) ∧
 ([] : List PV) = xs) ∧
 ((decide (IntKind.i64.wrap (↑(Nat.succ n + 0) : Int) > (0 : Int))) = false →
 False)) := by kernel_rfl
theorem slices_Grow_api_Interval_api_Interval_Z_P_go (r : PV) : FnGoP E1 Tryz.f105 [.sl 0 true true [], intP 0] r 2000 (.lit (.lit (.hole 0))) =
  (((.sl 0 true true []) : PV) = r) := by kernel_rfl
theorem slices_Concat_api_Interval_api_Interval_N_go (k : Nat) (k' : Nat) (nl : Bool) (full : Bool) (nl' : Bool) (full' : Bool) (r : PV) : FnGo E1 Tryz.f63 [.sl 1 false true [.sl k nl full [], .sl k' nl' full' []]] r 2000 (.go (.lit (.val (.sl k nl full []) (.lit (.go (.lit (.val (.sl k' nl' full' []) (.lit (.go (.lit (.res (.sl 0 true true []) (.go (.lit (.val (.sl k nl full []) (.lit (.go (.lit (.val (.sl k' nl' full' []) (.lit (.go (.lit (.hole 0)))))))))))))))))))))) =
  ((((0 : Int) ≤ (0 : Int)) ∧ ((false = false) ∧ ((1 : Nat) = 1))) ∧
 ((some (PV.sl k nl full [])) = some (.sl k nl full [])) ∧
 (((0 : Int) ≤ (1 : Int)) ∧ ((false = false) ∧ ((1 : Nat) = 1))) ∧
 ((some (PV.sl k' nl' full' [])) = some (.sl k' nl' full' [])) ∧
 (Den E1 105 [.sl 0 true true [], intP 0] (.sl 0 true true [])) ∧
 (((0 : Int) ≤ (0 : Int)) ∧ ((false = false) ∧ ((1 : Nat) = 1))) ∧
 ((some (PV.sl k nl full [])) = some (.sl k nl full [])) ∧
 (((nl = true → ([] : List PV) = [])) ∧ ((nl = false → k = 11))) ∧
 (((0 : Int) ≤ (1 : Int)) ∧ ((false = false) ∧ ((1 : Nat) = 1))) ∧
 ((some (PV.sl k' nl' full' [])) = some (.sl k' nl' full' [])) ∧
 (((nl' = true → ([] : List PV) = [])) ∧ ((nl' = false → k' = 11))) ∧
 ((.sl 0 true true []) : PV) = r) := by kernel_rfl
theorem slices_Concat_api_Interval_api_Interval_go (l : List I) (m : List I) (k : Nat) (k' : Nat) (nl : Bool) (full : Bool) (nl' : Bool) (full' : Bool) (r : PV) : FnGo E1 Tryz.f63 [.sl 1 false true [.sl k nl full (List.map I.p l), .sl k' nl' full' (List.map I.p m)]] r 2000 (.go (.lit (.val (.sl k nl full (List.map I.p l)) (.fork (.hole 0) (.go (.lit (.val (.sl k' nl' full' (List.map I.p m)) (.fork (.hole 0) (.go (.lit (.resO 11 63 [] 0 0 false (.go (.lit (.val (.sl k nl full (List.map I.p l)) (.lit (.go (.lit (.val (.sl k' nl' full' (List.map I.p m)) (.lit (.go (.lit (.hole 0)))))))))))))))))))))) =
  ((((0 : Int) ≤ (0 : Int)) ∧ ((false = false) ∧ ((1 : Nat) = 1))) ∧
 ((some (PV.sl k nl full (List.map I.p l))) = some (.sl k nl full (List.map I.p l))) ∧
 ((decide (IntKind.i64.wrap (↑((0 : Nat) + List.length (List.map I.p l)) : Int) < (0 : Int))) = true →
 Bad ({ dst := none, op := Op.panic (Operand.tmp (21 : Nat)), type := (0 : Nat), pos := "slices.go:496", after := #[{ on := (0 : Nat), ground := Ground.data }], guard := none }) { t := [.pv (.sl 1 false true [.sl k nl full (List.map I.p l), .sl k' nl' full' (List.map I.p m)]), undefA, .pv (.sl 0 true true []), intA (IntKind.i64.wrap (↑((0 : Nat) + List.length (List.map I.p l)) : Int)), undefA, .pv (.sl k nl full (List.map I.p l)), undefA, undefA, undefA, .pv (.sl 1 false true [.sl k nl full (List.map I.p l), .sl k' nl' full' (List.map I.p m)]), intA 2, intA 0, bolA true, .pv (.ptr (.sl k nl full (List.map I.p l)) 0), .pv (.sl k nl full (List.map I.p l)), intA 0, .pv (.sl k nl full (List.map I.p l)), intA ((↑(List.length (List.map I.p l)) : Int)), intA (IntKind.i64.wrap (↑((0 : Nat) + List.length (List.map I.p l)) : Int)), intA (IntKind.i64.wrap (↑((0 : Nat) + List.length (List.map I.p l)) : Int)), bolA (decide (IntKind.i64.wrap (↑((0 : Nat) + List.length (List.map I.p l)) : Int) < (0 : Int))), .pv (.iface 9 (strP [108, 101, 110, 32, 111, 117, 116, 32, 111, 102, 32, 114, 97, 110, 103, 101])), undefA, undefA, undefA, undefA, undefA, undefA, undefA, undefA, undefA, undefA, undefA, undefA, undefA, undefA], h := [List.replicate 36 row0], g := 18 }) ∧
 ((decide (IntKind.i64.wrap (↑((0 : Nat) + List.length (List.map I.p l)) : Int) < (0 : Int))) = false →
 (((0 : Int) ≤ (1 : Int)) ∧ ((false = false) ∧ ((1 : Nat) = 1))) ∧
 ((some (PV.sl k' nl' full' (List.map I.p m))) = some (.sl k' nl' full' (List.map I.p m))) ∧
 ((decide (IntKind.i64.wrap (IntKind.i64.wrap (↑((0 : Nat) + List.length (List.map I.p l)) : Int) + (↑(List.length (List.map I.p m)) : Int)) < (0 : Int))) = true →
 Bad ({ dst := none, op := Op.panic (Operand.tmp (21 : Nat)), type := (0 : Nat), pos := "slices.go:496", after := #[{ on := (0 : Nat), ground := Ground.data }], guard := none }) { t := [.pv (.sl 1 false true [.sl k nl full (List.map I.p l), .sl k' nl' full' (List.map I.p m)]), undefA, .pv (.sl 0 true true []), intA (IntKind.i64.wrap (IntKind.i64.wrap (↑((0 : Nat) + List.length (List.map I.p l)) : Int) + (↑(List.length (List.map I.p m)) : Int))), undefA, .pv (.sl k' nl' full' (List.map I.p m)), undefA, undefA, undefA, .pv (.sl 1 false true [.sl k nl full (List.map I.p l), .sl k' nl' full' (List.map I.p m)]), intA 2, intA 1, bolA true, .pv (.ptr (.sl k' nl' full' (List.map I.p m)) 0), .pv (.sl k' nl' full' (List.map I.p m)), intA (IntKind.i64.wrap (↑((0 : Nat) + List.length (List.map I.p l)) : Int)), .pv (.sl k' nl' full' (List.map I.p m)), intA ((↑(List.length (List.map I.p m)) : Int)), intA (IntKind.i64.wrap (IntKind.i64.wrap (↑((0 : Nat) + List.length (List.map I.p l)) : Int) + (↑(List.length (List.map I.p m)) : Int))), intA (IntKind.i64.wrap (IntKind.i64.wrap (↑((0 : Nat) + List.length (List.map I.p l)) : Int) + (↑(List.length (List.map I.p m)) : Int))), bolA (decide (IntKind.i64.wrap (IntKind.i64.wrap (↑((0 : Nat) + List.length (List.map I.p l)) : Int) + (↑(List.length (List.map I.p m)) : Int)) < (0 : Int))), .pv (.iface 9 (strP [108, 101, 110, 32, 111, 117, 116, 32, 111, 102, 32, 114, 97, 110, 103, 101])), intA 1, undefA, undefA, undefA, undefA, undefA, undefA, undefA, undefA, undefA, undefA, undefA, undefA, undefA], h := [List.replicate 36 row0], g := 31 }) ∧
 ((decide (IntKind.i64.wrap (IntKind.i64.wrap (↑((0 : Nat) + List.length (List.map I.p l)) : Int) + (↑(List.length (List.map I.p m)) : Int)) < (0 : Int))) = false →
 (DenO E1 105 [.sl 0 true true [], intP (IntKind.i64.wrap (IntKind.i64.wrap (↑((0 : Nat) + List.length (List.map I.p l)) : Int) + (↑(List.length (List.map I.p m)) : Int)))] 11 63 [] 0 0 false) ∧
 (((0 : Int) ≤ (0 : Int)) ∧ ((false = false) ∧ ((1 : Nat) = 1))) ∧
 ((some (PV.sl k nl full (List.map I.p l))) = some (.sl k nl full (List.map I.p l))) ∧
 (((nl = true → (List.map I.p l) = [])) ∧ ((nl = false → k = 11))) ∧
 ((33 : Nat) = 33) ∧
 ((false = false) ∧ (((11 : Nat) = 11) ∧ (((63 : Nat) = 63) ∧ (((0 : Nat) = 0) ∧ ((fitsRow ((0 : Nat) + List.length (List.map I.p l)) (104 : Nat)) = true))))) ∧
 (((0 : Int) ≤ (1 : Int)) ∧ ((false = false) ∧ ((1 : Nat) = 1))) ∧
 ((some (PV.sl k' nl' full' (List.map I.p m))) = some (.sl k' nl' full' (List.map I.p m))) ∧
 (((nl' = true → (List.map I.p m) = [])) ∧ ((nl' = false → k' = 11))) ∧
 ((44 : Nat) = 44) ∧
 ((false = false) ∧ (((11 : Nat) = 11) ∧ (((63 : Nat) = 63) ∧ ((((0 : Nat) + ((0 : Nat) + List.length (List.map I.p l))) = List.length (List.drop (0 : Nat) [] ++ List.map I.p l)) ∧ ((fitsRow ((0 : Nat) + List.length (List.map I.p l) + List.length (List.map I.p m)) (104 : Nat)) = true))))) ∧
 ∃ hp, frz frzDepth (.msl 0 24 54 0 ((0 : Nat) + List.length (List.map I.p l) + List.length (List.map I.p m)) false) [List.replicate 24 row0 ++ [⟨54, .row 11 63 (List.drop (0 : Nat) (List.drop (0 : Nat) [] ++ List.map I.p l) ++ List.map I.p m) false⟩] ++ List.replicate 11 row0] = some (r, hp)))) := by kernel_rfl
end Go.Proofs.YtlhfgonjcpapnaaGreatDoor.Abs

set_option maxRecDepth 20000
namespace Go.Proofs.YtlhfgonjcpapnaaGreatDoor.Abs
open Go Go.Proofs
theorem denO_Grow (n : Nat) (hn : n < 1000000) : DenO E1 105 [.sl 0 true true [], intP ((Nat.succ n : Nat) : Int)] 11 63 [] 0 0 false := by
  have hw : IntKind.wrap IntKind.i64 ((Nat.succ n + 0 : Nat) : Int) = ((Nat.succ n : Nat) : Int) := by rw [wrap_i64 _ (by omega) (by omega)]
  have hg := slices_Grow_api_Interval_api_Interval_O_go n 11 63 [] 0 0 false
  rw [hw] at hg
  refine denO_go 2000 _ rfl (by kernel_rfl) rfl rfl rfl rfl (Eq.mpr hg ⟨fun _ => ⟨⟨by omega, by omega⟩, Or.inl rfl, ⟨rfl, rfl, by omega, ?_⟩, ⟨by omega, by omega⟩, rfl, rfl, ⟨rfl, rfl, rfl⟩, rfl, rfl, rfl, rfl⟩, fun h => absurd (of_decide_eq_false h) (by omega)⟩)
  rw [Int.toNat_natCast]
  exact fits_104 (by omega)
theorem den_Grow0 : Den E1 105 [.sl 0 true true [], intP 0] (.sl 0 true true []) :=
  denP_go 2000 _ rfl (by kernel_rfl) rfl rfl rfl rfl (Eq.mpr (slices_Grow_api_Interval_api_Interval_Z_P_go _) rfl)
theorem nl_nil {l : List I} {k : Nat} {nl : Bool} (h : slOk 11 k nl l.length) : (nl = true → List.map I.p l = []) ∧ (nl = false → k = 11) :=
  ⟨fun e => by rw [List.length_eq_zero_iff.1 (h.1 e)]; rfl, fun e => h.2 e⟩
theorem den_Concat (l m : List I) (k k' : Nat) (nl full nl' full' : Bool) (hsl : slOk 11 k nl l.length) (hsm : slOk 11 k' nl' m.length) (hll : l.length < 400000) (hlm : m.length < 400000) :
    Den E1 63 [.sl 1 false true [listP k nl full l, listP k' nl' full' m]] (resL (l ++ m)) := by
  have ho := nl_nil hsl
  have ho' := nl_nil hsm
  by_cases h0 : l = [] ∧ m = []
  · obtain ⟨rfl, rfl⟩ := h0
    have e1 : (0 : Int) ≤ 0 ∧ false = false ∧ (1 : Nat) = 1 := ⟨by decide, rfl, rfl⟩
    have e2 : (0 : Int) ≤ 1 ∧ false = false ∧ (1 : Nat) = 1 := ⟨by decide, rfl, rfl⟩
    exact den1 2000 _ rfl (by kernel_rfl) rfl rfl rfl (Eq.mpr (slices_Concat_api_Interval_api_Interval_N_go k k' nl full nl' full' _) ⟨e1, rfl, e2, rfl, den_Grow0, e1, rfl, ho, e2, rfl, ho', rfl⟩)
  · have hpos : 0 < l.length + m.length := by
      rcases Nat.eq_zero_or_pos (l.length + m.length) with h | h
      · exact absurd ⟨List.length_eq_zero_iff.1 (by omega), List.length_eq_zero_iff.1 (by omega)⟩ h0
      · exact h
    have hne : l ++ m ≠ [] := fun h => by rw [← List.length_append, h] at hpos; simp at hpos
    obtain ⟨q, hq⟩ : ∃ q, l.length + m.length = q.succ := ⟨l.length + m.length - 1, by omega⟩
    have hw1 : IntKind.wrap IntKind.i64 ((0 + (List.map I.p l).length : Nat) : Int) = (l.length : Nat) := by rw [wrap_i64 _ (by simp) (by simp; omega)]; simp
    have hw2 : IntKind.wrap IntKind.i64 (((l.length : Nat) : Int) + ((List.map I.p m).length : Nat)) = (q.succ : Nat) := by rw [wrap_i64 _ (by simp; omega) (by simp; omega)]; simp only [List.length_map]; omega
    have hg := slices_Concat_api_Interval_api_Interval_go l m k k' nl full nl' full' (resL (l ++ m))
    rw [hw1, hw2] at hg
    have e1 : (0 : Int) ≤ 0 ∧ false = false ∧ (1 : Nat) = 1 := ⟨by decide, rfl, rfl⟩
    have e2 : (0 : Int) ≤ 1 ∧ false = false ∧ (1 : Nat) = 1 := ⟨by decide, rfl, rfl⟩
    refine den1 2000 _ rfl (by kernel_rfl) rfl rfl rfl (Eq.mpr hg ⟨e1, rfl, fun h => absurd (of_decide_eq_true h) (by omega), fun _ => ⟨e2, rfl, fun h => absurd (of_decide_eq_true h) (by omega), fun _ => ⟨denO_Grow q (by omega), e1, rfl, ho, rfl, ⟨rfl, rfl, rfl, rfl, fits_104 (by simp; omega)⟩, e2, rfl, ho', rfl, ⟨rfl, rfl, rfl, by simp, fits_104 (by simp; omega)⟩, ?_⟩⟩⟩)
    rw [resL_cons hne]
    have e3 : List.drop 0 (List.drop 0 [] ++ List.map I.p l) ++ List.map I.p m = List.map I.p (l ++ m) := by simp
    rw [e3]
    exact frz_msl rfl (by simp) rfl
end Go.Proofs.YtlhfgonjcpapnaaGreatDoor.Abs

namespace Go.Proofs.YtlhfgonjcpapnaaGreatDoor.Abs
open Go Go.Proofs
def mtS0 (l m : List I) : LF × Int := if mayR l && mayR m then limS (meetS l m) else (lf0, 80)
def jnS0 (l m : List I) : LF × Int := if mayR l && mayR m then limS (joinS (l ++ m)) else (lf0, 80)
def ntS0 (l : List I) : LF × Int := if mayR l then limS (notS l) else (lf0, 80)
noncomputable def cMtS : List I → List I → LF × Int := shut mtS0
noncomputable def cJnS : List I → List I → LF × Int := shut jnS0
noncomputable def cNtS : List I → LF × Int := shut ntS0
noncomputable def cSame : List I → List I → Bool := shut sameLs
noncomputable def cHasP : List I → V → Bool × Int := shut hasS
theorem cMtS_eq (l m : List I) : cMtS l m = mtS0 l m := by rw [cMtS, shut_eq]
theorem cJnS_eq (l m : List I) : cJnS l m = jnS0 l m := by rw [cJnS, shut_eq]
theorem cNtS_eq (l : List I) : cNtS l = ntS0 l := by rw [cNtS, shut_eq]
theorem cSame_eq (l m : List I) : cSame l m = sameLs l m := by rw [cSame, shut_eq]
theorem cHasP_eq (l : List I) (v : V) : cHasP l v = hasS l v := by rw [cHasP, shut_eq]
end Go.Proofs.YtlhfgonjcpapnaaGreatDoor.Abs

set_option maxRecDepth 20000
namespace Go.Proofs.YtlhfgonjcpapnaaGreatDoor.Abs
open Go Go.Proofs
theorem errS_tf {b : Bool} : ((errS b != (0 : Int)) = true → b = false) ∧ ((errS b != (0 : Int)) = false → b = true) := by cases b <;> simp [errS]
theorem den_span_MayR (l : List I) (k : Nat) (nl full : Bool) (hsl : slOk 11 k nl l.length) (hok : ∀ x ∈ l, x.ok) : Den E1 12 [listP k nl full l] (intP (errS (mayR l))) := by
  rw [← may_same]; exact den_span_May l k nl full hsl hok
section
variable (l m : List I) (k k' : Nat) (nl full nl' full' : Bool) (hsl : slOk 11 k nl l.length) (hsm : slOk 11 k' nl' m.length) (ol : ∀ x ∈ l, x.ok) (om : ∀ x ∈ m, x.ok)
include hsl hsm ol om
theorem den_span_Meet (pl : mayR l = true → ∀ x ∈ l, x.np) (pm : mayR m = true → ∀ x ∈ m, x.np) : Den E1 28 [listP k nl full l, listP k' nl' full' m] (.tup [(mtS0 l m).1.p, intP (mtS0 l m).2]) := by
  refine den1 2000 _ rfl (by kernel_rfl) rfl rfl rfl (Eq.mpr (span_Meet_go l m k k' nl full nl' full' _) ⟨den_span_MayR l k nl full hsl ol, fun h => ?_, fun h => ⟨den_span_MayR m k' nl' full' hsm om, fun h2 => ?_, fun h2 => ?_⟩⟩)
  · have e : mtS0 l m = (lf0, 80) := by unfold mtS0; rw [errS_tf.1 h]; rfl
    rw [e]; rfl
  · have e : mtS0 l m = (lf0, 80) := by unfold mtS0; rw [errS_tf.1 h2, Bool.and_false]; rfl
    rw [e]; rfl
  · have h := errS_tf.2 h
    have h2 := errS_tf.2 h2
    have e : mtS0 l m = limS (meetS l m) := by unfold mtS0; rw [h, h2]; rfl
    have b1 := may_few16 h
    have b2 := may_few16 h2
    have hb : l.length * m.length ≤ 16 * 16 := Nat.mul_le_mul b1 b2
    have hl := meetS_len l m
    have ho := meetS_ok ol om
    have r1 := may_rts h
    have r2 := may_rts h2
    rw [e]
    refine ⟨den_span_meet l m k k' nl full nl' full' (by omega) (by omega) (by omega) hsl hsm ol om (fun n1 n2 => ?_), den_limited _ _ _ _ (tw_sl _) (by omega) ho (all_meetS bet_np (pl h) (pm h2)), rfl⟩
    have hlen := meets_len l m
    have q1 := List.length_pos_iff.2 n1
    have q2 := List.length_pos_iff.2 n2
    have q3 := Nat.mul_pos q1 q2
    refine den_join40 _ 11 false false ⟨fun h => by simp at h, fun _ => rfl⟩ (by rw [hlen]; omega) (few_both h h2) (meets_ok l m ol om) fun z hz _ => ?_
    obtain ⟨x, hx, hz⟩ := List.mem_flatMap.1 hz
    obtain ⟨y, hy, rfl⟩ := List.mem_map.1 hz
    exact (rt_meet1 (r1 x hx) (r2 y hy)).2.lo
theorem den_span_Join (pl : mayR l = true → ∀ x ∈ l, x.np) (pm : mayR m = true → ∀ x ∈ m, x.np) (bl : l.length ≤ 40) (bm : m.length ≤ 40) : Den E1 29 [listP k nl full l, listP k' nl' full' m] (.tup [(jnS0 l m).1.p, intP (jnS0 l m).2]) := by
  refine den1 2000 _ rfl (by kernel_rfl) rfl rfl rfl (Eq.mpr (span_Join_go l m k k' nl full nl' full' _) ⟨den_span_MayR l k nl full hsl ol, fun h => ?_, fun h => ⟨den_span_MayR m k' nl' full' hsm om, fun h2 => ?_, fun h2 => ?_⟩⟩)
  · have e : jnS0 l m = (lf0, 80) := by unfold jnS0; rw [errS_tf.1 h]; rfl
    rw [e]; rfl
  · have e : jnS0 l m = (lf0, 80) := by unfold jnS0; rw [errS_tf.1 h2, Bool.and_false]; rfl
    rw [e]; rfl
  · have h := errS_tf.2 h
    have h2 := errS_tf.2 h2
    have e : jnS0 l m = limS (joinS (l ++ m)) := by unfold jnS0; rw [h, h2]; rfl
    have b1 := may_few16 h
    have b2 := may_few16 h2
    have r1 := may_rts h
    have r2 := may_rts h2
    have o3 : ∀ x ∈ l ++ m, x.ok := fun x hx => (List.mem_append.1 hx).elim (ol x) (om x)
    have p3 : ∀ x ∈ l ++ m, x.np := fun x hx => (List.mem_append.1 hx).elim (pl h x) (pm h2 x)
    have hl := joinS_len (l ++ m)
    have hd := delN_le (l ++ m)
    rw [List.length_append] at hl hd
    rw [e]
    exact ⟨den_Concat l m k k' nl full nl' full' hsl hsm (by omega) (by omega), den_join40 _ _ _ _ (tw_sl _) (by rw [List.length_append]; omega) (by omega) o3 (fun z hz _ => (List.mem_append.1 hz).elim (fun h => (r1 z h).lo) (fun h => (r2 z h).lo)), den_limited _ _ _ _ (tw_sl _) (by omega) (joinS_ok o3) (joinS_all bet_np p3), rfl⟩
end
end Go.Proofs.YtlhfgonjcpapnaaGreatDoor.Abs

namespace Go.Proofs.YtlhfgonjcpapnaaGreatDoor.Abs
open Go Go.Proofs
def span_not_S0 (l : List I) (k : Nat) (nl : Bool) (full : Bool) (j : Nat → AV) (jr : Nat → Row) (g : Nat) : St :=
  { t := [j 0, j 1, j 2, .pv (.sl 0 true true []), .mptr 0 4 3 0 0, j 5, j 6, j 7, .pv (.sl k nl full (List.map I.p l)), intA ((↑(List.length (List.map I.p l)) : Int)), intA 0] ++ jj j 11 24, h := [[row0, row0, row0, row0, ⟨3, .box (.pv (edgP 0 0 0 (.sl 1 false true [strP [48]]) false false)) false⟩, row0, jr 6, row0, row0, row0, row0, row0, row0, row0, row0, row0, row0, row0, row0, jr 19, row0, row0, row0, row0, row0, row0, row0, row0, row0, row0, row0, jr 31, jr 32, row0, row0]], g := g }
def span_not_S1 (l : List I) (k : Nat) (nl : Bool) (full : Bool) (i : Int) (e : Ed) (gm : Nat) (n : Nat) (xsI : List PV) (j : Nat → AV) (jr : Nat → Row) (g : Nat) : St :=
  { t := [j 0, j 1, j 2, .msl 0 20 gm 0 n false, .mptr 0 4 3 0 0, j 5, j 6, j 7, .pv (.sl k nl full (List.map I.p l)), intA ((↑(List.length (List.map I.p l)) : Int)), intA i] ++ jj j 11 24, h := [[row0, row0, row0, row0, ⟨3, .box (.pv (Ed.p ⟨(Ed.v e), (Ed.behind e), (Ed.less e)⟩)) false⟩, row0, jr 6, row0, row0, row0, row0, row0, row0, row0, row0, row0, row0, row0, row0, jr 19, ⟨gm, .row 11 63 xsI false⟩, row0, row0, row0, row0, row0, row0, row0, row0, row0, row0, jr 31, jr 32, row0, row0]], g := g }
theorem span_not_go (l : List I) (k : Nat) (nl : Bool) (full : Bool) (r : PV) : FnGo E1 Tryz.f64 [.sl k nl full (List.map I.p l)] r 2000 (.res (edgP 0 0 0 (.sl 1 false true [strP [48]]) false false) (.mask (iv [(0, 2), (5, 7), (11, 34)]) [6, 19, 31, 32])) =
  ((Den E1 76 [] (edgP 0 0 0 (.sl 1 false true [strP [48]]) false false)) ∧
 ((3 : Nat) = 3) ∧
 (AtAll Tryz.f64 r 0 (span_not_S0 l k nl full))) := by kernel_rfl
theorem span_not_go_S0 (l : List I) (k : Nat) (nl : Bool) (full : Bool) (j : Nat → AV) (jr : Nat → Row) (g : Nat) (r : PV) : LoopGo E1 Tryz.f64 r 0 2000 (.fork (.val (I.p (List.getD l (0 : Nat) default)) (.res (Ed.p ⟨(I.lo (List.getD l (0 : Nat) default)), (I.lopen (List.getD l (0 : Nat) default)), false⟩) (.res (itvP 0 0 0 (.sl 1 false true [strP [48]]) false (V.a (I.lo (List.getD l (0 : Nat) default))) (V.b (I.lo (List.getD l (0 : Nat) default))) (V.c (I.lo (List.getD l (0 : Nat) default))) (V.q (I.lo (List.getD l (0 : Nat) default))) (if Ed.less ⟨I.lo (List.getD l (0 : Nat) default), I.lopen (List.getD l (0 : Nat) default), false⟩ = true then false else !I.lopen (List.getD l (0 : Nat) default)) false) (.lit (.lit (.res (Ed.p ⟨(I.hi (List.getD l (0 : Nat) default)), (!I.hopen (List.getD l (0 : Nat) default)), (I.less (List.getD l (0 : Nat) default))⟩) (.mask (iv [(0, 2), (5, 7), (11, 34)]) [6, 19, 31, 32]))))))) (.lit (.res (edgP 0 0 0 (.sl 0 true true []) false true) (.res (itvP 0 0 0 (.sl 1 false true [strP [48]]) false 0 0 0 (.sl 0 true true []) false true) (.lit (.lit (.frz [.sl 11 false false [itvP 0 0 0 (.sl 1 false true [strP [48]]) false 0 0 0 (.sl 0 true true []) false true]] [[row0, row0, row0, row0, ⟨3, .box (.pv (edgP 0 0 0 (.sl 1 false true [strP [48]]) false false)) false⟩, row0, jr 6, row0, row0, row0, row0, row0, row0, row0, row0, row0, row0, row0, row0, jr 19, row0, row0, row0, row0, row0, row0, row0, row0, row0, row0, row0, ⟨g + 1 + 3 + 4, .row 11 63 [itvP 0 0 0 (.sl 1 false true [strP [48]]) false 0 0 0 (.sl 0 true true []) false true] false⟩, ⟨g + 1 + 3 + 5, .row 11 63 [itvP 0 0 0 (.sl 1 false true [strP [48]]) false 0 0 0 (.sl 0 true true []) false true] true⟩, row0, row0]] (.res (.sl 11 false false [itvP 0 0 0 (.sl 1 false true [strP [48]]) false 0 0 0 (.sl 0 true true []) false true]) (.hole 0))))))))) (span_not_S0 l k nl full j jr g) =
  (((decide ((0 : Int) < (↑(List.length (List.map I.p l)) : Int))) = true →
 (((0 : Int) ≤ (0 : Int)) ∧ ((nl = false) ∧ (k = 11))) ∧
 (((List.map I.p l)[(0 : Nat)]?) = some (I.p (List.getD l (0 : Nat) default))) ∧
 ((g + 1 + 2) = g + 1 + 2) ∧
 ((3 : Nat) = 3) ∧
 ((g + 1 + 2) = g + 1 + 2) ∧
 (Den E1 37 [I.p (List.getD l (0 : Nat) default)] (Ed.p ⟨(I.lo (List.getD l (0 : Nat) default)), (I.lopen (List.getD l (0 : Nat) default)), false⟩)) ∧
 (Den E1 89 [edgP 0 0 0 (.sl 1 false true [strP [48]]) false false, Ed.p ⟨(I.lo (List.getD l (0 : Nat) default)), (I.lopen (List.getD l (0 : Nat) default)), false⟩] (itvP 0 0 0 (.sl 1 false true [strP [48]]) false (V.a (I.lo (List.getD l (0 : Nat) default))) (V.b (I.lo (List.getD l (0 : Nat) default))) (V.c (I.lo (List.getD l (0 : Nat) default))) (V.q (I.lo (List.getD l (0 : Nat) default))) (if Ed.less ⟨I.lo (List.getD l (0 : Nat) default), I.lopen (List.getD l (0 : Nat) default), false⟩ = true then false else !I.lopen (List.getD l (0 : Nat) default)) false)) ∧
 ((g + 1 + 4 + 5) = g + 1 + 4 + 5) ∧
 (((11 : Nat) = 11) ∧ ((1 : Nat) ≤ (1 : Nat))) ∧
 (((0 : Nat) = 0) ∧ (true = true)) ∧
 ((g + 1 + 2) = g + 1 + 2) ∧
 (Den E1 38 [I.p (List.getD l (0 : Nat) default)] (Ed.p ⟨(I.hi (List.getD l (0 : Nat) default)), (!I.hopen (List.getD l (0 : Nat) default)), (I.less (List.getD l (0 : Nat) default))⟩)) ∧
 ((3 : Nat) = 3) ∧
 (∀ (j' : Nat → AV) (jr' : Nat → Row) (g' : Nat), LoopAt E1 Tryz.f64 r 0 { t := [j' 0, j' 1, j' 2, .msl 0 20 (g + 1 + 4 + 6) 0 1 false, .mptr 0 4 3 0 0, j' 5, j' 6, j' 7, .pv (.sl k nl full (List.map I.p l)), intA ((↑(List.length (List.map I.p l)) : Int)), intA 1] ++ jj j' 11 24, h := [[row0, row0, row0, row0, ⟨3, .box (.pv (Ed.p ⟨(I.hi (List.getD l (0 : Nat) default)), (!I.hopen (List.getD l (0 : Nat) default)), (I.less (List.getD l (0 : Nat) default))⟩)) false⟩, row0, jr' 6, row0, row0, row0, row0, row0, row0, row0, row0, row0, row0, row0, row0, jr' 19, ⟨g + 1 + 4 + 6, .row 11 63 [itvP 0 0 0 (.sl 1 false true [strP [48]]) false (V.a (I.lo (List.getD l (0 : Nat) default))) (V.b (I.lo (List.getD l (0 : Nat) default))) (V.c (I.lo (List.getD l (0 : Nat) default))) (V.q (I.lo (List.getD l (0 : Nat) default))) (if Ed.less ⟨I.lo (List.getD l (0 : Nat) default), I.lopen (List.getD l (0 : Nat) default), false⟩ = true then false else !I.lopen (List.getD l (0 : Nat) default)) false] false⟩, row0, row0, row0, row0, row0, row0, row0, row0, row0, row0, jr' 31, jr' 32, row0, row0]], g := g' })) ∧
 ((decide ((0 : Int) < (↑(List.length (List.map I.p l)) : Int))) = false →
 ((3 : Nat) = 3) ∧
 ((3 : Nat) = 3) ∧
 (Den E1 90 [] (edgP 0 0 0 (.sl 0 true true []) false true)) ∧
 (Den E1 89 [edgP 0 0 0 (.sl 1 false true [strP [48]]) false false, edgP 0 0 0 (.sl 0 true true []) false true] (itvP 0 0 0 (.sl 1 false true [strP [48]]) false 0 0 0 (.sl 0 true true []) false true)) ∧
 ((g + 1 + 3 + 4) = g + 1 + 3 + 4) ∧
 (((11 : Nat) = 11) ∧ ((1 : Nat) ≤ (1 : Nat))) ∧
 (((0 : Nat) = 0) ∧ (true = true)) ∧
 (frzs frzDepth [.msl 0 32 (g + 1 + 3 + 5) 0 1 false] [[row0, row0, row0, row0, ⟨3, .box (.pv (edgP 0 0 0 (.sl 1 false true [strP [48]]) false false)) false⟩, row0, jr 6, row0, row0, row0, row0, row0, row0, row0, row0, row0, row0, row0, row0, jr 19, row0, row0, row0, row0, row0, row0, row0, row0, row0, row0, row0, ⟨g + 1 + 3 + 4, .row 11 63 [itvP 0 0 0 (.sl 1 false true [strP [48]]) false 0 0 0 (.sl 0 true true []) false true] false⟩, ⟨g + 1 + 3 + 5, .row 11 63 [itvP 0 0 0 (.sl 1 false true [strP [48]]) false 0 0 0 (.sl 0 true true []) false true] false⟩, row0, row0]] = some ([.sl 11 false false [itvP 0 0 0 (.sl 1 false true [strP [48]]) false 0 0 0 (.sl 0 true true []) false true]], [[row0, row0, row0, row0, ⟨3, .box (.pv (edgP 0 0 0 (.sl 1 false true [strP [48]]) false false)) false⟩, row0, jr 6, row0, row0, row0, row0, row0, row0, row0, row0, row0, row0, row0, row0, jr 19, row0, row0, row0, row0, row0, row0, row0, row0, row0, row0, row0, ⟨g + 1 + 3 + 4, .row 11 63 [itvP 0 0 0 (.sl 1 false true [strP [48]]) false 0 0 0 (.sl 0 true true []) false true] false⟩, ⟨g + 1 + 3 + 5, .row 11 63 [itvP 0 0 0 (.sl 1 false true [strP [48]]) false 0 0 0 (.sl 0 true true []) false true] true⟩, row0, row0]])) ∧
 (Den E1 54 [.sl 11 false false [itvP 0 0 0 (.sl 1 false true [strP [48]]) false 0 0 0 (.sl 0 true true []) false true]] (.sl 11 false false [itvP 0 0 0 (.sl 1 false true [strP [48]]) false 0 0 0 (.sl 0 true true []) false true])) ∧
 ((.sl 11 false false [itvP 0 0 0 (.sl 1 false true [strP [48]]) false 0 0 0 (.sl 0 true true []) false true]) : PV) = r)) := by kernel_rfl
theorem span_not_go_S1 (l : List I) (k : Nat) (nl : Bool) (full : Bool) (i : Int) (e : Ed) (gm : Nat) (n : Nat) (xs : List I) (j : Nat → AV) (jr : Nat → Row) (g : Nat) (r : PV) : LoopGo E1 Tryz.f64 r 0 2000 (.fork (.val (I.p (gI l i)) (.res (Ed.p ⟨(I.lo (gI l i)), (I.lopen (gI l i)), false⟩) (.res (I.p ⟨(Ed.v e), (Ed.behind e), (I.lo (gI l i)), (if Ed.less ⟨I.lo (gI l i), I.lopen (gI l i), false⟩ = true then false else !I.lopen (gI l i)), false⟩) (.lit (.res (Ed.p ⟨(I.hi (gI l i)), (!I.hopen (gI l i)), (I.less (gI l i))⟩) (.mask (iv [(0, 2), (5, 7), (11, 34)]) [6, 19, 31, 32])))))) (.fork (.res (edgP 0 0 0 (.sl 0 true true []) false true) (.res (itvP (V.a (Ed.v e)) (V.b (Ed.v e)) (V.c (Ed.v e)) (V.q (Ed.v e)) (Ed.behind e) 0 0 0 (.sl 0 true true []) false true) (.lit (.frz [.sl 11 false false (List.drop (0 : Nat) (List.map I.p xs) ++ List.take (1 : Nat) (List.drop (0 : Nat) [PV.agg [PV.lit (Value.int IntKind.u32 (V.a (Ed.v e))), PV.lit (Value.int IntKind.u32 (V.b (Ed.v e))), PV.lit (Value.int IntKind.u32 (V.c (Ed.v e))), V.q (Ed.v e), PV.lit (Value.bool (Ed.behind e)), PV.lit (Value.int IntKind.u32 (0 : Int)), PV.lit (Value.int IntKind.u32 (0 : Int)), PV.lit (Value.int IntKind.u32 (0 : Int)), PV.sl (0 : Nat) true true [], PV.lit (Value.bool false), PV.lit (Value.bool true)]]))] [[row0, row0, row0, row0, ⟨3, .box (.pv (Ed.p ⟨(Ed.v e), (Ed.behind e), (Ed.less e)⟩)) false⟩, row0, jr 6, row0, row0, row0, row0, row0, row0, row0, row0, row0, row0, row0, row0, jr 19, ⟨g + 1 + 3 + 5, .row 11 63 (List.drop (0 : Nat) (List.map I.p xs) ++ List.take (1 : Nat) (List.drop (0 : Nat) [PV.agg [PV.lit (Value.int IntKind.u32 (V.a (Ed.v e))), PV.lit (Value.int IntKind.u32 (V.b (Ed.v e))), PV.lit (Value.int IntKind.u32 (V.c (Ed.v e))), V.q (Ed.v e), PV.lit (Value.bool (Ed.behind e)), PV.lit (Value.int IntKind.u32 (0 : Int)), PV.lit (Value.int IntKind.u32 (0 : Int)), PV.lit (Value.int IntKind.u32 (0 : Int)), PV.sl (0 : Nat) true true [], PV.lit (Value.bool false), PV.lit (Value.bool true)]])) true⟩, row0, row0, row0, row0, row0, row0, row0, row0, row0, row0, ⟨g + 1 + 3 + 4, .row 11 63 [itvP (V.a (Ed.v e)) (V.b (Ed.v e)) (V.c (Ed.v e)) (V.q (Ed.v e)) (Ed.behind e) 0 0 0 (.sl 0 true true []) false true] false⟩, jr 32, row0, row0]] (.res (resL (joinS (xs ++ [⟨Ed.v e, Ed.behind e, zV, false, true⟩]))) (.hole 0)))))) (.frz [.sl 11 false false (List.map I.p xs)] [[row0, row0, row0, row0, ⟨3, .box (.pv (Ed.p ⟨(Ed.v e), (Ed.behind e), (Ed.less e)⟩)) false⟩, row0, jr 6, row0, row0, row0, row0, row0, row0, row0, row0, row0, row0, row0, row0, jr 19, ⟨gm, .row 11 63 (List.map I.p xs) true⟩, row0, row0, row0, row0, row0, row0, row0, row0, row0, row0, jr 31, jr 32, row0, row0]] (.res (resL (joinS xs)) (.hole 0))))) (span_not_S1 l k nl full i e gm n (List.map I.p xs) j jr g) =
  (((decide (i < (↑(List.length (List.map I.p l)) : Int))) = true →
 (((0 : Int) ≤ i) ∧ ((nl = false) ∧ (k = 11))) ∧
 (((List.map I.p l)[Int.toNat i]?) = some (I.p (gI l i))) ∧
 ((g + 1 + 2) = g + 1 + 2) ∧
 ((3 : Nat) = 3) ∧
 ((g + 1 + 2) = g + 1 + 2) ∧
 (Den E1 37 [I.p (gI l i)] (Ed.p ⟨(I.lo (gI l i)), (I.lopen (gI l i)), false⟩)) ∧
 (Den E1 89 [Ed.p ⟨(Ed.v e), (Ed.behind e), (Ed.less e)⟩, Ed.p ⟨(I.lo (gI l i)), (I.lopen (gI l i)), false⟩] (I.p ⟨(Ed.v e), (Ed.behind e), (I.lo (gI l i)), (if Ed.less ⟨I.lo (gI l i), I.lopen (gI l i), false⟩ = true then false else !I.lopen (gI l i)), false⟩)) ∧
 ((g + 1 + 4 + 5) = g + 1 + 4 + 5) ∧
 (((11 : Nat) = 11) ∧ ((1 : Nat) ≤ (1 : Nat))) ∧
 (gm = gm) ∧
 ((false = false) ∧ (((11 : Nat) = 11) ∧ (((63 : Nat) = 63) ∧ ((((0 : Nat) + n) = List.length (List.map I.p xs)) ∧ ((fitsRow (n + 1) (104 : Nat)) = true))))) ∧
 ((g + 1 + 2) = g + 1 + 2) ∧
 (Den E1 38 [I.p (gI l i)] (Ed.p ⟨(I.hi (gI l i)), (!I.hopen (gI l i)), (I.less (gI l i))⟩)) ∧
 ((3 : Nat) = 3) ∧
 (∀ (j' : Nat → AV) (jr' : Nat → Row) (g' : Nat), LoopAt E1 Tryz.f64 r 0 { t := [j' 0, j' 1, j' 2, .msl 0 20 (g + 1 + 4 + 6) 0 (n + 1) false, .mptr 0 4 3 0 0, j' 5, j' 6, j' 7, .pv (.sl k nl full (List.map I.p l)), intA ((↑(List.length (List.map I.p l)) : Int)), intA (IntKind.i64.wrap (i + (1 : Int)))] ++ jj j' 11 24, h := [[row0, row0, row0, row0, ⟨3, .box (.pv (Ed.p ⟨(I.hi (gI l i)), (!I.hopen (gI l i)), (I.less (gI l i))⟩)) false⟩, row0, jr' 6, row0, row0, row0, row0, row0, row0, row0, row0, row0, row0, row0, row0, jr' 19, ⟨g + 1 + 4 + 6, .row 11 63 (List.drop (0 : Nat) (List.map I.p xs) ++ List.take (1 : Nat) (List.drop (0 : Nat) [PV.agg [PV.lit (Value.int IntKind.u32 (V.a (Ed.v e))), PV.lit (Value.int IntKind.u32 (V.b (Ed.v e))), PV.lit (Value.int IntKind.u32 (V.c (Ed.v e))), V.q (Ed.v e), PV.lit (Value.bool (Ed.behind e)), PV.lit (Value.int IntKind.u32 (V.a (I.lo (gI l i)))), PV.lit (Value.int IntKind.u32 (V.b (I.lo (gI l i)))), PV.lit (Value.int IntKind.u32 (V.c (I.lo (gI l i)))), V.q (I.lo (gI l i)), PV.lit (Value.bool (if Ed.less ⟨I.lo (gI l i), I.lopen (gI l i), false⟩ = true then false else !I.lopen (gI l i))), PV.lit (Value.bool false)]])) false⟩, row0, row0, row0, row0, row0, row0, row0, row0, row0, row0, jr' 31, jr' 32, row0, row0]], g := g' })) ∧
 ((decide (i < (↑(List.length (List.map I.p l)) : Int))) = false →
 ((3 : Nat) = 3) ∧
 ((!Ed.less e) = true →
 ((3 : Nat) = 3) ∧
 (Den E1 90 [] (edgP 0 0 0 (.sl 0 true true []) false true)) ∧
 (Den E1 89 [Ed.p ⟨(Ed.v e), (Ed.behind e), (Ed.less e)⟩, edgP 0 0 0 (.sl 0 true true []) false true] (itvP (V.a (Ed.v e)) (V.b (Ed.v e)) (V.c (Ed.v e)) (V.q (Ed.v e)) (Ed.behind e) 0 0 0 (.sl 0 true true []) false true)) ∧
 ((g + 1 + 3 + 4) = g + 1 + 3 + 4) ∧
 (((11 : Nat) = 11) ∧ ((1 : Nat) ≤ (1 : Nat))) ∧
 (gm = gm) ∧
 ((false = false) ∧ (((11 : Nat) = 11) ∧ (((63 : Nat) = 63) ∧ ((((0 : Nat) + n) = List.length (List.map I.p xs)) ∧ ((fitsRow (n + 1) (104 : Nat)) = true))))) ∧
 (frzs frzDepth [.msl 0 20 (g + 1 + 3 + 5) 0 (n + 1) false] [[row0, row0, row0, row0, ⟨3, .box (.pv (Ed.p ⟨(Ed.v e), (Ed.behind e), (Ed.less e)⟩)) false⟩, row0, jr 6, row0, row0, row0, row0, row0, row0, row0, row0, row0, row0, row0, row0, jr 19, ⟨g + 1 + 3 + 5, .row 11 63 (List.drop (0 : Nat) (List.map I.p xs) ++ List.take (1 : Nat) (List.drop (0 : Nat) [PV.agg [PV.lit (Value.int IntKind.u32 (V.a (Ed.v e))), PV.lit (Value.int IntKind.u32 (V.b (Ed.v e))), PV.lit (Value.int IntKind.u32 (V.c (Ed.v e))), V.q (Ed.v e), PV.lit (Value.bool (Ed.behind e)), PV.lit (Value.int IntKind.u32 (0 : Int)), PV.lit (Value.int IntKind.u32 (0 : Int)), PV.lit (Value.int IntKind.u32 (0 : Int)), PV.sl (0 : Nat) true true [], PV.lit (Value.bool false), PV.lit (Value.bool true)]])) false⟩, row0, row0, row0, row0, row0, row0, row0, row0, row0, row0, ⟨g + 1 + 3 + 4, .row 11 63 [itvP (V.a (Ed.v e)) (V.b (Ed.v e)) (V.c (Ed.v e)) (V.q (Ed.v e)) (Ed.behind e) 0 0 0 (.sl 0 true true []) false true] false⟩, jr 32, row0, row0]] = some ([.sl 11 false false (List.drop (0 : Nat) (List.map I.p xs) ++ List.take (1 : Nat) (List.drop (0 : Nat) [PV.agg [PV.lit (Value.int IntKind.u32 (V.a (Ed.v e))), PV.lit (Value.int IntKind.u32 (V.b (Ed.v e))), PV.lit (Value.int IntKind.u32 (V.c (Ed.v e))), V.q (Ed.v e), PV.lit (Value.bool (Ed.behind e)), PV.lit (Value.int IntKind.u32 (0 : Int)), PV.lit (Value.int IntKind.u32 (0 : Int)), PV.lit (Value.int IntKind.u32 (0 : Int)), PV.sl (0 : Nat) true true [], PV.lit (Value.bool false), PV.lit (Value.bool true)]]))], [[row0, row0, row0, row0, ⟨3, .box (.pv (Ed.p ⟨(Ed.v e), (Ed.behind e), (Ed.less e)⟩)) false⟩, row0, jr 6, row0, row0, row0, row0, row0, row0, row0, row0, row0, row0, row0, row0, jr 19, ⟨g + 1 + 3 + 5, .row 11 63 (List.drop (0 : Nat) (List.map I.p xs) ++ List.take (1 : Nat) (List.drop (0 : Nat) [PV.agg [PV.lit (Value.int IntKind.u32 (V.a (Ed.v e))), PV.lit (Value.int IntKind.u32 (V.b (Ed.v e))), PV.lit (Value.int IntKind.u32 (V.c (Ed.v e))), V.q (Ed.v e), PV.lit (Value.bool (Ed.behind e)), PV.lit (Value.int IntKind.u32 (0 : Int)), PV.lit (Value.int IntKind.u32 (0 : Int)), PV.lit (Value.int IntKind.u32 (0 : Int)), PV.sl (0 : Nat) true true [], PV.lit (Value.bool false), PV.lit (Value.bool true)]])) true⟩, row0, row0, row0, row0, row0, row0, row0, row0, row0, row0, ⟨g + 1 + 3 + 4, .row 11 63 [itvP (V.a (Ed.v e)) (V.b (Ed.v e)) (V.c (Ed.v e)) (V.q (Ed.v e)) (Ed.behind e) 0 0 0 (.sl 0 true true []) false true] false⟩, jr 32, row0, row0]])) ∧
 (Den E1 54 [.sl 11 false false (List.drop (0 : Nat) (List.map I.p xs) ++ List.take (1 : Nat) (List.drop (0 : Nat) [PV.agg [PV.lit (Value.int IntKind.u32 (V.a (Ed.v e))), PV.lit (Value.int IntKind.u32 (V.b (Ed.v e))), PV.lit (Value.int IntKind.u32 (V.c (Ed.v e))), V.q (Ed.v e), PV.lit (Value.bool (Ed.behind e)), PV.lit (Value.int IntKind.u32 (0 : Int)), PV.lit (Value.int IntKind.u32 (0 : Int)), PV.lit (Value.int IntKind.u32 (0 : Int)), PV.sl (0 : Nat) true true [], PV.lit (Value.bool false), PV.lit (Value.bool true)]]))] (resL (joinS (xs ++ [⟨Ed.v e, Ed.behind e, zV, false, true⟩])))) ∧
 ((resL (joinS (xs ++ [⟨Ed.v e, Ed.behind e, zV, false, true⟩]))) : PV) = r) ∧
 ((!Ed.less e) = false →
 (frzs frzDepth [.msl 0 20 gm 0 n false] [[row0, row0, row0, row0, ⟨3, .box (.pv (Ed.p ⟨(Ed.v e), (Ed.behind e), (Ed.less e)⟩)) false⟩, row0, jr 6, row0, row0, row0, row0, row0, row0, row0, row0, row0, row0, row0, row0, jr 19, ⟨gm, .row 11 63 (List.map I.p xs) false⟩, row0, row0, row0, row0, row0, row0, row0, row0, row0, row0, jr 31, jr 32, row0, row0]] = some ([.sl 11 false false (List.map I.p xs)], [[row0, row0, row0, row0, ⟨3, .box (.pv (Ed.p ⟨(Ed.v e), (Ed.behind e), (Ed.less e)⟩)) false⟩, row0, jr 6, row0, row0, row0, row0, row0, row0, row0, row0, row0, row0, row0, row0, jr 19, ⟨gm, .row 11 63 (List.map I.p xs) true⟩, row0, row0, row0, row0, row0, row0, row0, row0, row0, row0, jr 31, jr 32, row0, row0]])) ∧
 (Den E1 54 [.sl 11 false false (List.map I.p xs)] (resL (joinS xs))) ∧
 ((resL (joinS xs)) : PV) = r))) := by kernel_rfl
end Go.Proofs.YtlhfgonjcpapnaaGreatDoor.Abs

set_option maxRecDepth 20000
namespace Go.Proofs.YtlhfgonjcpapnaaGreatDoor.Abs
open Go Go.Proofs
section
variable (l : List I) (k : Nat) (nl full : Bool)
theorem snot_S1 (hll : l.length < 1000000) (hsl : slOk 11 k nl l.length) (ol : ∀ x ∈ l, x.ok) : ∀ (n i : Nat) (e : Ed) (gm : Nat) (xs : List I) j jr g, i + n = l.length → xs.length ≤ i →
    Den E1 54 [listP 11 false false (xs ++ gapsS e (l.drop i))] (resL (joinS (xs ++ gapsS e (l.drop i)))) →
    LoopAt E1 Tryz.f64 (resL (joinS (xs ++ gapsS e (l.drop i)))) 0 (span_not_S1 l k nl full i e gm xs.length (List.map I.p xs) j jr g) := by
  intro n
  induction n with
  | zero =>
    intro i e gm xs j jr g hi hx hj
    have hd : l.drop i = [] := List.drop_eq_nil_of_le (by omega)
    rw [hd] at hj ⊢
    refine loop_go 2000 _ (Eq.mpr (span_not_go_S1 l k nl full i e gm xs.length xs j jr g _) ⟨fun h => ?_, fun h => ⟨rfl, fun h2 => ?_, fun h2 => ?_⟩⟩)
    · simp only [decide_eq_true_eq, List.length_map] at h; omega
    · have hl : e.less = false := not_eq.1 h2
      have hg : gapsS e [] = [⟨e.v, e.behind, zV, false, true⟩] := by unfold gapsS; rw [hl]; rfl
      rw [hg] at hj ⊢
      have e3 : List.map I.p (xs ++ [⟨e.v, e.behind, zV, false, true⟩]) = List.drop 0 (List.map I.p xs) ++ List.take 1 (List.drop 0 [I.p ⟨e.v, e.behind, zV, false, true⟩]) := by simp
      have hj' := hj
      unfold listP at hj'
      rw [e3] at hj'
      exact ⟨rfl, den_top, den_between e ⟨zV, false, true⟩, rfl, ⟨rfl, Nat.le_refl _⟩, rfl, ⟨rfl, rfl, rfl, by simp, fits_104 (by omega)⟩, frzs_msl rfl (by simp) rfl, hj', rfl⟩
    · have hl : e.less = true := not_eq.2 h2
      have hg : gapsS e [] = [] := by unfold gapsS; rw [hl]; rfl
      rw [hg, List.append_nil] at hj ⊢
      exact ⟨frzs_msl rfl (by simp) rfl, hj, rfl⟩
  | succ n ih =>
    intro i e gm xs j0 jr0 g0 hi hx hj
    have hil : i < l.length := by omega
    have hw1 : IntKind.wrap IntKind.i64 ((i : Int) + 1) = ((i + 1 : Nat) : Int) := wrap_i64 _ (by omega) (by omega)
    have hd : l.drop i = l.getD i default :: l.drop (i + 1) := drop_get hil
    have ho : (l.getD i default).ok := ok_get ol hil
    rw [hd] at hj ⊢
    have hg : xs ++ gapsS e (l.getD i default :: l.drop (i + 1)) = (xs ++ [betE e ⟨(l.getD i default).lo, (l.getD i default).lopen, false⟩]) ++ gapsS ⟨(l.getD i default).hi, !(l.getD i default).hopen, (l.getD i default).less⟩ (l.drop (i + 1)) := by
      rw [gapsS]; simp
    rw [hg] at hj ⊢
    have hg0 := span_not_go_S1 l k nl full i e gm xs.length xs j0 jr0 g0 (resL (joinS ((xs ++ [betE e ⟨(l.getD i default).lo, (l.getD i default).lopen, false⟩]) ++ gapsS ⟨(l.getD i default).hi, !(l.getD i default).hopen, (l.getD i default).less⟩ (l.drop (i + 1)))))
    rw [hw1, Int.toNat_natCast, gI_nat] at hg0
    refine loop_go 2000 _ (Eq.mpr hg0 ⟨fun h => ⟨⟨by omega, sl_at hsl hil⟩, getI hil, rfl, rfl, rfl, den_low _, den_between e (l.getD i default).low, rfl, ⟨rfl, Nat.le_refl _⟩, rfl, ⟨rfl, rfl, rfl, by simp, fits_104 (by omega)⟩, rfl, den_high _, rfl, fun j jr g => ?_⟩, fun h => ?_⟩)
    · have := ih (i + 1) ⟨(l.getD i default).hi, !(l.getD i default).hopen, (l.getD i default).less⟩ (g0 + 1 + 4 + 6) (xs ++ [betE e ⟨(l.getD i default).lo, (l.getD i default).lopen, false⟩]) j jr g (by omega) (by simp; omega) hj
      rw [List.length_append, List.map_append] at this
      exact this
    · simp only [decide_eq_false_iff_not, List.length_map] at h; omega
theorem every_join : joinS [everyI] = [everyI] := by kernel_rfl
theorem den_span_not (hll : l.length < 1000000) (hsl : slOk 11 k nl l.length) (ol : ∀ x ∈ l, x.ok) (hj : Den E1 54 [listP 11 false false (gapsS bottomE l)] (resL (joinS (gapsS bottomE l)))) : Den E1 64 [listP k nl full l] (resL (notS l)) := by
  refine den1 2000 _ rfl (by kernel_rfl) rfl rfl rfl (Eq.mpr (span_not_go l k nl full _) ⟨den_bottom, rfl, fun j jr g => ?_⟩)
  by_cases h0 : l = []
  · subst h0
    have hj' : Den E1 54 [listP 11 false false [everyI]] (resL [everyI]) := by
      have : Den E1 54 [listP 11 false false [everyI]] (resL (joinS [everyI])) := hj
      rw [every_join] at this
      exact this
    have e : notS [] = [everyI] := every_join
    rw [e]
    refine loop_go 2000 _ (Eq.mpr (span_not_go_S0 [] k nl full j jr g _) ⟨fun h => ?_, fun h => ⟨rfl, rfl, den_top, den_between bottomE ⟨zV, false, true⟩, rfl, ⟨rfl, Nat.le_refl _⟩, ⟨rfl, rfl⟩, frzs_msl rfl (by simp) rfl, hj', rfl⟩⟩)
    simp at h
  · have hil := List.length_pos_iff.2 h0
    have hd := drop_get (l := l) (i := 0) hil
    rw [List.drop_zero, Nat.zero_add] at hd
    have hg : gapsS bottomE l = [betE bottomE ⟨(l.getD 0 default).lo, (l.getD 0 default).lopen, false⟩] ++ gapsS ⟨(l.getD 0 default).hi, !(l.getD 0 default).hopen, (l.getD 0 default).less⟩ (l.drop 1) := by
      conv => lhs; rw [hd]
      rw [gapsS]; rfl
    have e : notS l = joinS (gapsS bottomE l) := rfl
    rw [e]
    rw [hg] at hj ⊢
    refine loop_go 2000 _ (Eq.mpr (span_not_go_S0 l k nl full j jr g _) ⟨fun h => ⟨⟨by omega, sl_at hsl hil⟩, getI hil, rfl, rfl, rfl, den_low _, den_between bottomE (l.getD 0 default).low, rfl, ⟨rfl, Nat.le_refl _⟩, ⟨rfl, rfl⟩, rfl, den_high _, rfl, fun j jr g2 => ?_⟩, fun h => ?_⟩)
    · have := snot_S1 l k nl full hll hsl ol (l.length - 1) 1 ⟨(l.getD 0 default).hi, !(l.getD 0 default).hopen, (l.getD 0 default).less⟩ (g + 1 + 4 + 6) [betE bottomE ⟨(l.getD 0 default).lo, (l.getD 0 default).lopen, false⟩] j jr g2 (by omega) (by simp) hj
      exact this
    · simp only [decide_eq_false_iff_not, List.length_map] at h; omega
end
end Go.Proofs.YtlhfgonjcpapnaaGreatDoor.Abs

set_option maxRecDepth 20000
namespace Go.Proofs.YtlhfgonjcpapnaaGreatDoor.Abs
open Go Go.Proofs
theorem gaps_all {P : V → Prop} (hz : P zV) : ∀ {l : List I} {e : Ed}, (∀ x ∈ l, P x.lo ∧ P x.hi) → P e.v → ∀ g ∈ gapsS e l, P g.lo ∧ P g.hi
  | [], e, _, he, g, hg => by
    unfold gapsS at hg
    split at hg
    · cases hg
    · rw [List.mem_singleton.1 hg]
      exact ⟨he, hz⟩
  | x :: l, e, h, he, g, hg => by
    rw [gapsS] at hg
    rcases List.mem_cons.1 hg with rfl | hg
    · exact ⟨he, (h x (by simp)).1⟩
    · exact gaps_all hz (fun y hy => h y (List.mem_cons_of_mem _ hy)) (h x (by simp)).2 g hg
theorem gaps_len : ∀ (l : List I) (e : Ed), (gapsS e l).length ≤ l.length + 1
  | [], e => by unfold gapsS; split <;> simp
  | x :: l, e => by
    have := gaps_len l ⟨x.hi, !x.hopen, x.less⟩
    rw [gapsS]
    simp only [List.length_cons]
    omega
theorem den_span_Not (l : List I) (k : Nat) (nl full : Bool) (hsl : slOk 11 k nl l.length) (ol : ∀ x ∈ l, x.ok) (pl : mayR l = true → ∀ x ∈ l, x.np) : Den E1 30 [listP k nl full l] (.tup [(ntS0 l).1.p, intP (ntS0 l).2]) := by
  refine den1 2000 _ rfl (by kernel_rfl) rfl rfl rfl (Eq.mpr (span_Not_go l k nl full _) ⟨den_span_MayR l k nl full hsl ol, fun h => ?_, fun h => ?_⟩)
  · have e : ntS0 l = (lf0, 80) := by unfold ntS0; rw [errS_tf.1 h]; rfl
    rw [e]; rfl
  · have h := errS_tf.2 h
    have e : ntS0 l = limS (notS l) := by unfold ntS0; rw [h]; rfl
    have b1 := may_few16 h
    have r1 := may_rts h
    have g1 := gaps_len l bottomE
    have g2 := joinS_len (gapsS bottomE l)
    have g3 := delN_le (gapsS bottomE l)
    have hlen : (notS l).length ≤ 17 := by show (joinS (gapsS bottomE l)).length ≤ _; omega
    have go : ∀ x ∈ gapsS bottomE l, x.ok := fun x hx => by
      have := gaps_all (P := V.ok) zV_ok (fun y hy => ⟨(ol y hy).lo, (ol y hy).hi⟩) bottom_ok x hx
      exact ⟨this.1, this.2⟩
    have gp : ∀ x ∈ gapsS bottomE l, x.np := fun x hx => by
      have := gaps_all (P := V.np) zV_gd.np (fun y hy => ⟨(pl h y hy).lo, (pl h y hy).hi⟩) bottom_gd.np x hx
      exact ⟨this.1, this.2⟩
    have gm : ∀ x ∈ gapsS bottomE l, lo2 x := fun x hx => (gaps_all (P := fun v => mayV v = true) zV_may (fun y hy => ⟨(r1 y hy).lo, (r1 y hy).hi⟩) bottom_may x hx).1
    rw [e]
    exact ⟨den_span_not l k nl full (by omega) hsl ol (den_join40 _ 11 false false ⟨(fun h => nomatch h), fun _ => rfl⟩ (by omega) (by omega) go (fun x hx _ => gm x hx)), den_limited _ _ _ _ (tw_sl _) (by omega) (joinS_ok go) (joinS_all bet_np gp), rfl⟩
section
variable (l : List I) (k : Nat) (nl full : Bool)
end
end Go.Proofs.YtlhfgonjcpapnaaGreatDoor.Abs

set_option maxRecDepth 20000
namespace Go.Proofs.YtlhfgonjcpapnaaGreatDoor.Abs
open Go Go.Proofs
def Ed.at (e : Ed) : Bd := ⟨e.v, e.behind⟩
theorem not_cov {x : I} {c : Bd} : ¬ cov x c ↔ lowB c x.lb < 0 ∨ (x.less = false ∧ lowB x.hb c ≤ 0) := by
  have h1 := low_neg x.lb c
  have h2 := low_neg x.hb c
  unfold cov
  cases hl : x.less with
  | true =>
    constructor
    · intro h
      by_cases h3 : lowB c x.lb < 0
      · exact .inl h3
      · exact absurd ⟨by omega, .inl rfl⟩ h
    · rintro (h | ⟨h, _⟩) ⟨h3, _⟩
      · omega
      · cases h
  | false =>
    constructor
    · intro h
      by_cases h3 : lowB c x.lb < 0
      · exact .inl h3
      · by_cases h4 : lowB c x.hb < 0
        · exact absurd ⟨by omega, .inr h4⟩ h
        · exact .inr ⟨rfl, by omega⟩
    · rintro (h | ⟨_, h⟩) ⟨h3, h4⟩
      · omega
      · rcases h4 with h4 | h4
        · cases h4
        · omega
theorem cov_gap {e : Ed} {x : I} {c : Bd} : cov (betE e ⟨x.lo, x.lopen, false⟩) c ↔ lowB e.at c ≤ 0 ∧ lowB c x.lb < 0 := by
  have hb : (betE e ⟨x.lo, x.lopen, false⟩).hb = x.lb := by simp [betE, I.hb, I.lb]
  unfold cov
  rw [hb]
  constructor
  · rintro ⟨h1, h2⟩
    refine ⟨h1, ?_⟩
    rcases h2 with h2 | h2
    · exact absurd h2 (by simp [betE])
    · exact h2
  · rintro ⟨h1, h2⟩
    exact ⟨h1, .inr h2⟩
theorem cov_last {e : Ed} {c : Bd} : cov (betE e ⟨zV, false, true⟩) c ↔ lowB e.at c ≤ 0 :=
  ⟨fun h => h.1, fun h => ⟨h, .inl rfl⟩⟩
theorem gaps_cov {c : Bd} : ∀ {l : List I} {e : Ed}, Form l → (l ≠ [] → e.less = false) → (∀ x ∈ l.head?, lowB e.at x.lb ≤ 0) → (covL (gapsS e l) c ↔ e.less = false ∧ lowB e.at c ≤ 0 ∧ ¬ covL l c)
  | [], e, _, _, _ => by
    unfold gapsS
    cases he : e.less with
    | true =>
      rw [if_pos rfl]
      exact ⟨fun h => absurd h covL_nil, fun h => nomatch h.1⟩
    | false =>
      rw [if_neg (by simp), covL_cons]
      constructor
      · rintro (h | h)
        · exact ⟨rfl, cov_last.1 h, covL_nil⟩
        · exact absurd h covL_nil
      · exact fun h => .inl (cov_last.2 h.2.1)
  | x :: l, e, hf, hl, hh => by
    have he := hl (by simp)
    have hx := hh x (by simp)
    have al := (List.pairwise_cons.1 hf.ap).1
    have hne := ne_iff.1 (hf.ne x (by simp))
    have ih := gaps_cov (c := c) (l := l) (e := ⟨x.hi, !x.hopen, x.less⟩) (form_tail hf) (fun h => by
      obtain ⟨y, hy⟩ := List.exists_mem_of_ne_nil l h
      exact (al y hy).1) (fun y hy => by
      have := (al y (List.mem_of_mem_head? hy)).2
      show lowB x.hb y.lb ≤ 0
      omega)
    rw [gapsS, covL_cons, cov_gap, ih, covL_cons]
    show _ ∨ (x.less = false ∧ lowB x.hb c ≤ 0 ∧ ¬ covL l c) ↔ _
    constructor
    · rintro (⟨h1, h2⟩ | ⟨h1, h2, h3⟩)
      · refine ⟨he, h1, ?_⟩
        rintro (h | ⟨y, hy, h⟩)
        · exact not_cov.2 (.inl h2) h
        · have h5 := al y hy
          have h6 : lowB x.lb x.hb < 0 := by
            rcases hne with h | h
            · rw [h] at h5; cases h5.1
            · exact h
          have := low_tr1 (low_tr1 (low_tr1 h2 (show lowB x.lb x.hb ≤ 0 by omega)) (show lowB x.hb y.lb ≤ 0 by omega)) h.1
          rw [low_self] at this
          omega
      · have h6 : lowB x.lb x.hb < 0 := by
          rcases hne with h | h
          · rw [h] at h1; cases h1
          · exact h
        refine ⟨he, low_tr hx (low_tr (show lowB x.lb x.hb ≤ 0 by omega) h2), ?_⟩
        rintro (h | h)
        · exact not_cov.2 (.inr ⟨h1, h2⟩) h
        · exact h3 h
    · rintro ⟨_, h1, h2⟩
      have h3 : ¬ cov x c := fun h => h2 (.inl h)
      have h4 : ¬ covL l c := fun h => h2 (.inr h)
      rcases not_cov.1 h3 with h | ⟨h5, h6⟩
      · exact .inl ⟨h1, h⟩
      · exact .inr ⟨h5, h6, h4⟩
theorem bot_at {c : Bd} (hc : c.v.ok) : lowB ⟨bottomV, false⟩ c ≤ 0 := by
  have h := bot_low c.v hc c.op
  have h2 := low_neg c ⟨bottomV, false⟩
  have h3 : ¬ lowB c ⟨bottomV, false⟩ < 0 := h
  omega
theorem cov_side {x : I} {c : Bd} (hc : c.v.ok) : covL (sideR x) c ↔ ¬ cov x c := by
  have hd : cov (downI x.lo (!x.lopen)) c ↔ lowB c x.lb < 0 := by
    have hb : (downI x.lo (!x.lopen)).hb = x.lb := by simp [downI, I.hb, I.lb]
    unfold cov
    rw [hb]
    constructor
    · rintro ⟨_, h⟩
      rcases h with h | h
      · cases h
      · exact h
    · exact fun h => ⟨bot_at hc, .inr h⟩
  have hu : cov (fromI x.hi (!x.hopen)) c ↔ lowB x.hb c ≤ 0 := ⟨fun h => h.1, fun h => ⟨h, .inl rfl⟩⟩
  unfold sideR
  rw [covL_app, (join_form _).2, covL_cons, hd, not_cov]
  cases hl : x.less with
  | true =>
    rw [if_pos rfl]
    constructor
    · rintro ((h | h) | h)
      · exact .inl h
      · exact absurd h covL_nil
      · exact absurd h covL_nil
    · rintro (h | h)
      · exact .inl (.inl h)
      · cases h.1
  | false =>
    rw [if_neg (by simp), covL_cons, hu]
    constructor
    · rintro ((h | h) | h | h)
      · exact .inl h
      · exact absurd h covL_nil
      · exact .inr ⟨rfl, h⟩
      · exact absurd h covL_nil
    · rintro (h | h)
      · exact .inl (.inl h)
      · exact .inr (.inl h.2)
theorem every_form : Form [everyI] := ⟨fun x hx => by rw [List.mem_singleton.1 hx]; rfl, List.pairwise_singleton _ _⟩
theorem not_form : ∀ (l X : List I), Form X → Form (l.foldl (fun c x => meetR c (sideR x)) X) ∧ ∀ c : Bd, c.v.ok → (covL (l.foldl (fun c x => meetR c (sideR x)) X) c ↔ covL X c ∧ ¬ covL l c)
  | [], X, h => ⟨h, fun c _ => ⟨fun h => ⟨h, covL_nil⟩, fun h => h.1⟩⟩
  | x :: l, X, h => by
    obtain ⟨h1, h2⟩ := meet_form X (sideR x)
    obtain ⟨h3, h4⟩ := not_form l (meetR X (sideR x)) h1
    refine ⟨h3, fun c hc => ?_⟩
    rw [List.foldl_cons, h4 c hc, h2 c, cov_side hc, covL_cons]
    constructor
    · rintro ⟨⟨h5, h6⟩, h7⟩
      exact ⟨h5, fun h => h.elim h6 h7⟩
    · rintro ⟨h5, h6⟩
      exact ⟨⟨h5, fun h => h6 (.inl h)⟩, fun h => h6 (.inr h)⟩
theorem notR_form (l : List I) : Form (notR l) ∧ ∀ c : Bd, c.v.ok → (covL (notR l) c ↔ ¬ covL l c) := by
  obtain ⟨h1, h2⟩ := not_form l [everyI] every_form
  refine ⟨h1, fun c hc => ?_⟩
  unfold notR
  rw [h2 c hc]
  exact ⟨fun h => h.2, fun h => ⟨covL_cons.2 (.inl ⟨bot_at hc, .inl rfl⟩), h⟩⟩
def RO (x : I) : Prop := rt x ∧ x.ok
theorem up_RO (x y : I) (hx : RO x) (hy : RO y) : RO (upR x y) := ⟨rt_up hx.1 hy.1, ⟨hx.2.lo, hy.2.hi⟩⟩
theorem side_RO {x : I} (hx : RO x) : ∀ y ∈ sideR x, RO y := by
  intro y hy
  unfold sideR at hy
  rcases List.mem_append.1 hy with h | h
  · exact joinR_all up_RO (fun z hz => by rw [List.mem_singleton.1 hz]; exact ⟨⟨bottom_may, hx.1.lo, (fun h => nomatch h), (fun h => nomatch h)⟩, down_ok hx.2.lo _⟩) y h
  · split at h
    · cases h
    · rw [List.mem_singleton.1 h]
      exact ⟨⟨hx.1.hi, zV_may, fun _ => rfl, fun _ => rfl⟩, from_ok hx.2.hi _⟩
theorem every_rt : rt everyI := by
  constructor
  · exact bottom_may
  · exact zV_may
  · exact fun _ => rfl
  · exact fun _ => rfl
theorem every_RO : RO everyI := ⟨every_rt, every_ok⟩
theorem notR_RO {l : List I} (hl : ∀ x ∈ l, RO x) : ∀ y ∈ notR l, RO y := by
  have : ∀ (l X : List I), (∀ x ∈ l, RO x) → (∀ x ∈ X, RO x) → ∀ y ∈ l.foldl (fun c x => meetR c (sideR x)) X, RO y := by
    intro l
    induction l with
    | nil => intro X _ h; exact h
    | cons x l ih => intro X h1 h2; exact ih _ (fun y hy => h1 y (List.mem_cons_of_mem _ hy)) (all_meetR up_RO h2 (side_RO (h1 x (by simp))))
  exact this l [everyI] hl fun y hy => by rw [List.mem_singleton.1 hy]; exact every_RO
theorem gaps_rt : ∀ {l : List I} {e : Ed}, (∀ x ∈ l, rt x) → mayV e.v = true → ∀ g ∈ gapsS e l, rt g
  | [], e, _, he, g, hg => by
    unfold gapsS at hg
    split at hg
    · cases hg
    · rw [List.mem_singleton.1 hg]
      exact ⟨he, zV_may, fun _ => rfl, fun _ => rfl⟩
  | x :: l, e, h, he, g, hg => by
    rw [gapsS] at hg
    have hx := h x (by simp)
    rcases List.mem_cons.1 hg with rfl | hg
    · exact ⟨he, hx.lo, (fun h => nomatch h), (fun h => nomatch h)⟩
    · exact gaps_rt (fun y hy => h y (List.mem_cons_of_mem _ hy)) hx.hi g hg
theorem covL_n {l : List I} {c : Bd} : covL (l.map nI) c ↔ covL l c := by
  induction l with
  | nil => rfl
  | cons x l ih =>
    rw [List.map_cons, covL_cons, covL_cons, ih]
    exact Iff.rfl
theorem covL_same {l m : List I} (h : l.map nI = m.map nI) {c : Bd} : covL l c ↔ covL m c := by
  have h1 := covL_n (l := l) (c := c)
  rw [h] at h1
  exact h1.symm.trans covL_n
theorem not_same {l m : List I} (hm : mayR l = true) (ol : ∀ x ∈ l, x.ok) (om : ∀ x ∈ m, x.ok) (h : l.map nI = m.map nI) : (notS l).map nI = (notR m).map nI := by
  have hm' : mayR m = true := by rw [← n_mayR, ← h, n_mayR]; exact hm
  have fl := may_form hm
  have rl := may_rts hm
  have rm := may_rts hm'
  have go : ∀ x ∈ gapsS bottomE l, x.ok := fun x hx => by
    have := gaps_all (P := V.ok) zV_ok (fun y hy => ⟨(ol y hy).lo, (ol y hy).hi⟩) bottom_ok x hx
    exact ⟨this.1, this.2⟩
  have gr := gaps_rt (e := bottomE) rl bottom_may
  have e1 : (notS l).map nI = (joinR (gapsS bottomE l)).map nI := by
    have e : notS l = joinS (gapsS bottomE l) := rfl
    rw [e, rt_join gr, n_joinR]
  rw [e1]
  obtain ⟨j1, j2⟩ := join_form (gapsS bottomE l)
  obtain ⟨k1, k2⟩ := notR_form m
  refine form_unique j1 k1 (joinR_all up_RO fun x hx => ⟨gr x hx, go x hx⟩) (notR_RO fun x hx => ⟨rm x hx, om x hx⟩) fun c hc => ?_
  have eb : bottomE.at = ⟨bottomV, false⟩ := rfl
  have el : bottomE.less = false := rfl
  have hg := gaps_cov (c := c) (e := bottomE) fl (fun _ => el) (fun x hx => by rw [eb]; exact bot_at (ol x (List.mem_of_mem_head? hx)).lo)
  rw [eb, el] at hg
  rw [j2 c, k2 c hc, hg, covL_same h]
  exact ⟨fun h => h.2.2, fun h => ⟨rfl, bot_at hc, h⟩⟩
end Go.Proofs.YtlhfgonjcpapnaaGreatDoor.Abs

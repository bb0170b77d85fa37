/-
  The law SpanHas as a function of values. Conditions: the values are of their types.
-/
import Derived.Test.YtlhfgonjcpapnaaGreatDoorMj

set_option linter.all false
set_option linter.unnecessarySimpa false

/- The law SpanHas as a function of values: it is true. -/
set_option linter.unusedVariables false
set_option linter.unusedSimpArgs false
namespace Go.Proofs.YtlhfgonjcpapnaaGreatDoor.Abs
open Go Go.Proofs

/-! ### the order of versions, turned -/
def An {α : Type} (f : α → α → Int) : Prop := ∀ a b, f b a = - f a b
theorem An.lex {α : Type} {f g : α → α → Int} (hf : An f) (hg : An g) : An (lex2 f g) := by
  intro a b
  unfold lex2
  rw [hf a b, hg a b]
  by_cases h : f a b = 0
  · simp [h]
  · rw [if_pos (by omega), if_pos h]
theorem cmpI_neg (x y : Int) : cmpI y x = - cmpI x y := by
  unfold cmpI
  by_cases h1 : x < y
  · rw [if_neg (by omega), if_pos (by omega), if_pos h1]; rfl
  · by_cases h2 : x > y
    · rw [if_pos (by omega), if_neg h1, if_pos h2]
    · rw [if_neg (by omega), if_neg (by omega), if_neg h1, if_neg h2]; rfl
theorem An.key {α : Type} (k : α → Int) : An (fun a b => cmpI (k a) (k b)) := fun a b => cmpI_neg _ _
theorem An.list {α : Type} {f : α → α → Int} (hf : An f) : An (lexL f) := by
  intro x
  induction x with
  | nil => intro y; cases y <;> rfl
  | cons a x ih =>
    intro y
    cases y with
    | nil => rfl
    | cons b y =>
      simp only [lexL]
      rw [hf a b, ih y]
      by_cases h : f a b = 0
      · simp [h]
      · rw [if_pos (by omega), if_pos h]
theorem An.congr {α : Type} {f g : α → α → Int} (h : ∀ a b, f a b = g a b) (hg : An g) : An f := by
  have : f = g := by funext a b; exact h a b
  rw [this]; exact hg
theorem an_cmpV : An cmpV := An.congr cmpV_lex (An.lex (An.key V.a) (An.lex (An.key V.b) (An.lex (An.key V.c) (An.lex (An.key relV) fun v w => An.list (An.congr ordL_lex (An.lex (An.key rankL) (An.lex (An.key lenL) (An.congr cmpS_lex (An.list (An.key fun a : UInt8 => (a.toNat : Int))))))) v.pre w.pre))))
theorem cmpV_self (v : V) : cmpV v v = 0 := by
  have := an_cmpV v v
  omega

/-! ### what joins leave -/
theorem stepR_ne (out : List I) (x : I) : stepR out x ≠ [] := by
  unfold stepR
  split
  · simp
  · rename_i h
    have h0 : out ≠ [] := fun e => h (by rw [e]; rfl)
    split
    · split
      · intro e
        have := congrArg List.length e
        simp at this
        exact h0 (List.length_eq_zero_iff.1 (by simpa using this))
      · exact h0
    · simp
theorem foldl_stepR_ne : ∀ (s : List I) (out : List I), (s.foldl stepR out).isEmpty = (out.isEmpty && s.isEmpty)
  | [], out => by simp
  | x :: s, out => by
    rw [List.foldl_cons, foldl_stepR_ne s]
    have := stepR_ne out x
    cases h : stepR out x with
    | nil => exact absurd h this
    | cons y l => simp
theorem sortR_ne : ∀ (l s : List I), (sortR l s).isEmpty = (s.isEmpty && l.all emptyI)
  | [], s => by simp [sortR]
  | x :: l, s => by
    have h := sortR_ne l (if emptyI x then s else insR s x)
    have e : sortR (x :: l) s = sortR l (if emptyI x then s else insR s x) := rfl
    rw [e, h]
    cases he : emptyI x with
    | true => simp [he]
    | false =>
      have : (insR s x).isEmpty = false := by unfold insR; simp
      simp [he, this]
theorem joinR_ne (l : List I) : (joinR l).isEmpty = l.all emptyI := by
  unfold joinR
  rw [foldl_stepR_ne, sortR_ne]
  simp
def oneI (v : V) : I := ⟨v, false, v, false, false⟩
theorem hasR_eq (l : List I) (v : V) : hasR l v = l.any fun x => !emptyI (meet1 x (oneI v)) := by
  have e : meetR l [oneI v] = joinR (l.map fun x => meet1 x (oneI v)) := by
    unfold meetR
    congr 1
    induction l with
    | nil => rfl
    | cons x l ih =>
      rw [List.flatMap_cons, ih]; rfl
  have : hasR l v = !(meetR l [oneI v]).isEmpty := rfl
  rw [this, e, joinR_ne, List.all_map]
  clear this e
  induction l with
  | nil => rfl
  | cons x l ih =>
    simp only [List.all_cons, List.any_cons, Bool.not_and]
    rw [ih]
    rfl

/-! ### one interval -/
theorem inI_iff {x : I} {v : V} (hl : mayV x.lo = true) (hh : mayV x.hi = true) (hv : mayV v = true) : inI x v = true ↔ (cmpV x.lo v < 0 ∨ (cmpV x.lo v = 0 ∧ x.lopen = false)) ∧ (x.less = true ∨ cmpV v x.hi < 0 ∨ (cmpV v x.hi = 0 ∧ x.hopen = false)) := by
  have h1 : befE x.low ⟨v, false, false⟩ ≤ 0 ↔ (cmpV x.lo v < 0 ∨ (cmpV x.lo v = 0 ∧ x.lopen = false)) := by
    simp only [befE, I.low, ordV_may hl hv]
    by_cases h : cmpV x.lo v = 0
    · rcases Bool.eq_false_or_eq_true x.lopen with h9 | h9 <;> simp [h, h9]
    · simp [h]; omega
  have h2 : befE ⟨v, true, false⟩ x.high ≤ 0 ↔ (x.less = true ∨ cmpV v x.hi < 0 ∨ (cmpV v x.hi = 0 ∧ x.hopen = false)) := by
    simp only [befE, I.high, ordV_may hv hh]
    cases x.less with
    | true => simp
    | false =>
      by_cases h : cmpV v x.hi = 0
      · rcases Bool.eq_false_or_eq_true x.hopen with h9 | h9 <;> simp [h, h9]
      · simp [h]; omega
  unfold inI
  simp only [Bool.and_eq_true, decide_eq_true_eq, h1, h2]
theorem meet_one {x : I} {v : V} (hl : mayV x.lo = true) (hh : mayV x.hi = true) (hv : mayV v = true) (he : emptyI x = false) : (!emptyI (meet1 x (oneI v))) = inI x v := by
  rw [Bool.eq_iff_iff, inI_iff hl hh hv]
  have hlow : lowB x.lb (oneI v).lb < 0 ↔ cmpV x.lo v < 0 := by
    simp only [lowB, I.lb, oneI]
    by_cases h : cmpV x.lo v = 0
    · rcases Bool.eq_false_or_eq_true x.lopen with h9 | h9 <;> simp [h, h9]
    · simp [h]
  have hhi : ∀ y : I, y.less = x.less → y.hi = x.hi → y.hopen = x.hopen → (highI (oneI v) y < 0 ↔ x.less = true ∨ cmpV v x.hi < 0) := by
    intro y h1 h2 h3
    simp only [highI, oneI, h1, h2, h3]
    cases x.less with
    | true => simp
    | false =>
      by_cases h : cmpV v x.hi = 0
      · rcases Bool.eq_false_or_eq_true x.hopen with h9 | h9 <;> simp [h, h9]
      · simp [h]
  have hself := cmpV_self v
  by_cases h1 : cmpV x.lo v < 0
  · by_cases h2 : x.less = true ∨ cmpV v x.hi < 0
    · have e : meet1 x (oneI v) = oneI v := meet1_a (by simpa using hlow.2 h1) (by simpa using (hhi (mixL x (oneI v)) rfl rfl rfl).2 h2)
      rw [e]
      simp only [emptyI, oneI, hself]
      simp [h1, h2]
      rcases h2 with h2 | h2
      · exact .inl h2
      · exact .inr (.inl h2)
    · have e : meet1 x (oneI v) = mixL x (oneI v) := meet1_b (by simpa using hlow.2 h1) (by simpa using fun hh => h2 ((hhi (mixL x (oneI v)) rfl rfl rfl).1 hh))
      rw [e]
      have h3 : x.less = false := by simpa using fun h => h2 (.inl h)
      have h4 : ¬ cmpV v x.hi < 0 := fun h => h2 (.inr h)
      simp only [emptyI, mixL, oneI, h3]
      by_cases h5 : cmpV v x.hi = 0
      · simp [h1, h5]
      · simp [h1, h5, h4]; omega
  · by_cases h2 : x.less = true ∨ cmpV v x.hi < 0
    · have e : meet1 x (oneI v) = mixL (oneI v) x := meet1_c (by simpa using fun h => h1 (hlow.1 h)) (by simpa using (hhi x rfl rfl rfl).2 h2)
      rw [e]
      simp only [emptyI, mixL, oneI]
      by_cases h5 : cmpV x.lo v = 0
      · rcases Bool.eq_false_or_eq_true x.lopen with h9 | h9 <;> simp [h5, h9] <;> (rcases h2 with h2 | h2 <;> simp [h2])
      · simp [h1, h5]; omega
    · have e : meet1 x (oneI v) = x := meet1_d (by simpa using fun h => h1 (hlow.1 h)) (by simpa using fun hh => h2 ((hhi x rfl rfl rfl).1 hh))
      rw [e, he]
      have h3 : x.less = false := by simpa using fun h => h2 (.inl h)
      have h4 : ¬ cmpV v x.hi < 0 := fun h => h2 (.inr h)
      simp only [emptyI, h3, Bool.not_false, Bool.true_and, Bool.or_eq_false_iff, decide_eq_false_iff_not, Bool.and_eq_false_iff] at he
      have a1 := an_cmpV x.lo v
      have a2 := an_cmpV v x.hi
      have a3 := an_cmpV x.lo x.hi
      have T := tr_cmpV
      have c1 : cmpV x.lo v = 0 := by
        rcases Int.lt_trichotomy (cmpV x.lo v) 0 with h | h | h
        · exact absurd h h1
        · exact h
        · have k1 : cmpV v x.lo < 0 := by omega
          have k2 : cmpV x.hi x.lo < 0 := by
            rcases Int.lt_trichotomy (cmpV x.hi v) 0 with h' | h' | h'
            · exact T.ll _ _ _ h' k1
            · exact T.el _ _ _ h' k1
            · omega
          omega
      have c2 : cmpV v x.hi = 0 := by
        rcases Int.lt_trichotomy (cmpV v x.hi) 0 with h | h | h
        · exact absurd h h4
        · exact h
        · have k1 : cmpV x.hi v < 0 := by omega
          have k3 : cmpV v x.lo = 0 := by omega
          have k2 : cmpV x.hi x.lo < 0 := T.le _ _ _ k1 k3
          omega
      have c3 : cmpV x.lo x.hi = 0 := T.ee _ _ _ c1 c2
      have ho := he.2
      simp only [c3, beq_self_eq_true, Bool.true_eq_false, false_or, Bool.or_eq_false_iff] at ho
      simp [c1, c2, ho.1, ho.2]
theorem right_all {l : List I} (h : mayR l = true) : ∀ x ∈ l, rightI x = true ∧ emptyI x = false := by
  simp only [mayR, Bool.and_eq_true, List.all_eq_true] at h
  intro x hx
  have := h.1.2 x hx
  simpa using this
theorem good_of_right {x : I} (hx : x.ok) (h : rightI x = true) : good x := ⟨hx, right_lo h, right_hi h⟩
theorem tw_befE (x : I) (v : V) : inI (twI x) v = inI x v := by
  have h1 : ordV (twV x.lo) v = ordV x.lo v := by simp only [ordV, tw_mayV, tw_cmpV1]
  have h2 : ordV v (twV x.hi) = ordV v x.hi := by
    simp only [ordV, tw_mayV]
    have : cmpV v (twV x.hi) = cmpV v x.hi := by rw [an_cmpV (twV x.hi) v, tw_cmpV1, ← an_cmpV x.hi v]
    rw [this]
  unfold inI befE I.low I.high twI
  simp only [h1, h2]
theorem has_same {l : List I} {v : V} (hok : ∀ x ∈ l, x.ok) (hr : mayR l = true) (hv : mayV v = true) : ((l.map twI).any fun x => inI x v) = hasR l v := by
  rw [hasR_eq, List.any_map]
  have : ∀ x ∈ l, (inI (twI x) v) = !emptyI (meet1 x (oneI v)) := by
    intro x hx
    obtain ⟨h1, h2⟩ := right_all hr x hx
    have hg := good_of_right (hok x hx) h1
    rw [meet_one hg.lo hg.hi hv h2, tw_befE]
  clear hok hr
  induction l with
  | nil => rfl
  | cons x l ih =>
    simp only [List.any_cons, Function.comp]
    rw [this x (by simp)]
    rw [ih fun y hy => this y (by simp [hy])]

theorem hasS_no {l : List I} {v : V} (h : mayR l = false) : hasS (l.map twI) v = (false, 80) := by simp only [hasS, tw_mayR, h]; rfl
theorem hasS_nov {l : List I} {v : V} (h : mayR l = true) (h2 : mayV v = false) : hasS (l.map twI) v = (false, 70) := by simp only [hasS, tw_mayR, h, h2]; rfl
theorem hasS_yes {l : List I} {v : V} (hok : ∀ x ∈ l, x.ok) (h : mayR l = true) (h2 : mayV v = true) : hasS (l.map twI) v = (hasR l v, 0) := by
  have := has_same hok h h2
  simp only [hasS, tw_mayR, h, h2, if_true, this]
theorem not_eq {b : Bool} : ((!b) = true → b = false) ∧ ((!b) = false → b = true) := by cases b <;> simp
theorem den_SpanHas (l : List I) (k : Nat) (nl full : Bool) (v : V) (hsl : slOk 11 k nl l.length) (hok : ∀ x ∈ l, x.ok) (hfit : ∀ x ∈ l, fitV x.lo ∧ fitV x.hi) (hv : v.ok) :
    Den E1 7 [listP k nl full l, v.p] (bolP true) := by
  refine den1 2000 _ rfl (by kernel_rfl) rfl rfl rfl (Eq.mpr (law08_SpanHas_go l k nl full v _) ⟨fun h => ⟨den_alive, rfl⟩, fun h => ?_⟩)
  simp only [decide_eq_false_iff_not, List.length_map] at h
  have hlen : l.length ≤ 40 := by omega
  have htw := den_twin l k nl full hsl hok hfit hlen
  rw [twP_eq] at htw
  have hgl : mayR l = true → goods l := fun hm x hx => good_of_right (hok x hx) (right_all hm x hx).1
  refine ⟨htw, rfl, den_Has (l.map twI) _ _ _ v (tw_slOk l) (by simp; omega) (tw_ok hok) hv, den_ref08_May l k nl full hsl hok, fun hm => ?_, fun hm => ⟨rfl, den_ref07_May v hv, fun hmv => ?_, fun hmv => ?_⟩⟩
  · rw [hasS_no (not_eq.1 hm)]
    exact ⟨fun _ => ⟨fun _ => ⟨den_alive, rfl⟩, fun h => by cases h⟩, fun h => by cases h⟩
  · rw [hasS_nov (not_eq.2 hm) (not_eq.1 hmv)]
    exact ⟨fun _ => ⟨fun _ => ⟨den_alive, rfl⟩, fun h => by cases h⟩, fun h => by cases h⟩
  · have h1 := not_eq.2 hm
    have h2 := not_eq.2 hmv
    refine ⟨rfl, den_ref08_Has l k nl full v hsl (by omega) (hgl h1) hv h2, ?_⟩
    rw [hasS_yes hok h1 h2]
    have e1 : (hasR l v == hasR l v) = true := by simp
    simp only [e1]
    exact ⟨fun _ => ⟨fun _ => ⟨den_alive, trivial⟩, fun h => by cases h⟩, fun h => by cases h⟩
end Go.Proofs.YtlhfgonjcpapnaaGreatDoor.Abs

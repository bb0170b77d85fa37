/-
  The abstract machine over the model, its soundness, walks of the program's functions and what they compute. Conditions: the values are of their types.
-/
import Derived.Test.YtlhfgonjcpapnaaGreatDoorNl

set_option linter.all false
set_option linter.unnecessarySimpa false

namespace Go.Proofs.YtlhfgonjcpapnaaGreatDoor.Abs
open Go Go.Proofs
def nV (v : V) : V := ⟨v.a, v.b, v.c, 0, true, true, v.pre⟩
def nI (x : I) : I := ⟨nV x.lo, x.lopen, nV x.hi, x.hopen, x.less⟩
theorem n_cmpV (v w : V) : cmpV (nV v) (nV w) = cmpV v w := rfl
theorem n_empty (x : I) : emptyI (nI x) = emptyI x := rfl
theorem n_low (x y : I) : lowB (nI x).lb (nI y).lb = lowB x.lb y.lb := rfl
theorem n_touch (x y : I) : touchI (nI x) (nI y) = touchI x y := rfl
theorem n_high (x y : I) : highI (nI x) (nI y) = highI x y := rfl
theorem n_up (x y : I) : upR (nI x) (nI y) = nI (upR x y) := rfl
theorem n_getD {s : List I} {k : Nat} (h : k < s.length) : (s.map nI).getD k default = nI (s.getD k default) := by
  rw [getD_lt (by simpa using h), getD_lt h, List.getElem_map]
theorem n_insPos (s : List I) (x : I) : ∀ k, k ≤ s.length → insPos (s.map nI) (nI x) k = insPos s x k
  | 0, _ => rfl
  | k + 1, h => by
    unfold insPos
    rw [n_getD (by omega), n_low, n_insPos s x k (by omega)]
theorem n_insR (s : List I) (x : I) : insR (s.map nI) (nI x) = (insR s x).map nI := by
  unfold insR
  rw [List.length_map, n_insPos s x _ (Nat.le_refl _), List.map_append, List.map_cons, List.map_take, List.map_drop]
theorem n_sortR : ∀ (l s : List I), sortR (l.map nI) (s.map nI) = (sortR l s).map nI
  | [], s => rfl
  | x :: l, s => by
    have h1 : sortR ((x :: l).map nI) (s.map nI) = sortR (l.map nI) (if emptyI (nI x) then s.map nI else insR (s.map nI) (nI x)) := rfl
    have h2 : sortR (x :: l) s = sortR l (if emptyI x then s else insR s x) := rfl
    rw [h1, h2, n_empty, n_insR]
    split
    · exact n_sortR l s
    · exact n_sortR l (insR s x)
theorem n_stepR (out : List I) (x : I) : stepR (out.map nI) (nI x) = (stepR out x).map nI := by
  cases out with
  | nil => rfl
  | cons a out =>
    have hg := n_getD (s := a :: out) (k := (a :: out).length - 1) (by simp)
    unfold stepR
    rw [List.length_map, hg, n_touch, n_high, n_up]
    simp only [List.isEmpty_cons, List.map_cons, Bool.false_eq_true, if_false]
    split
    · split
      · rw [← List.map_cons, List.map_set]
      · rfl
    · rw [← List.map_cons, List.map_append]; rfl
theorem n_foldR : ∀ (l out : List I), (l.map nI).foldl stepR (out.map nI) = (l.foldl stepR out).map nI
  | [], out => rfl
  | x :: l, out => by
    rw [List.map_cons, List.foldl_cons, List.foldl_cons, n_stepR]
    exact n_foldR l _
theorem n_joinR (l : List I) : joinR (l.map nI) = (joinR l).map nI := by
  unfold joinR
  have := n_sortR l []
  rw [List.map_nil] at this
  rw [this]
  exact n_foldR _ []
theorem n_meet1 (x y : I) : meet1 (nI x) (nI y) = nI (meet1 x y) := by
  cases h1 : decide (lowB x.lb y.lb < 0) with
  | true =>
    cases h2 : decide (highI y (mixL x y) < 0) with
    | true => rw [meet1_a h1 h2, meet1_a (x := nI x) (y := nI y) h1 h2]
    | false => rw [meet1_b h1 h2, meet1_b (x := nI x) (y := nI y) h1 h2]; rfl
  | false =>
    cases h2 : decide (highI y x < 0) with
    | true => rw [meet1_c h1 h2, meet1_c (x := nI x) (y := nI y) h1 h2]; rfl
    | false => rw [meet1_d h1 h2, meet1_d (x := nI x) (y := nI y) h1 h2]
theorem n_meets (l m : List I) (f : I → I → I) (hf : ∀ x y, f (nI x) (nI y) = nI (f x y)) : (l.map nI).flatMap (fun x => (m.map nI).map fun y => f x y) = (l.flatMap fun x => m.map fun y => f x y).map nI := by
  induction l with
  | nil => rfl
  | cons x l ih =>
    rw [List.map_cons, List.flatMap_cons, List.flatMap_cons, List.map_append, ih, List.map_map, List.map_map]
    congr 1
    apply List.map_congr_left
    intro y _
    exact hf x y
theorem n_meetR (l m : List I) : meetR (l.map nI) (m.map nI) = (meetR l m).map nI := by
  unfold meetR
  rw [n_meets l m meet1 n_meet1, n_joinR]
structure rt (x : I) : Prop where
  lo : mayV x.lo = true
  hi : mayV x.hi = true
  ho : x.less = true → x.hopen = false
  hz : x.less = true → nV x.hi = nV zV
theorem ordV_of {v w : V} (h1 : mayV v = true) (h2 : mayV w = true) : ordV v w = cmpV v w := by unfold ordV; rw [h1, h2]; rfl
theorem rt_dead {x : I} (h : rt x) : deadI x = emptyI x := by
  unfold deadI emptyI befE I.low I.high
  rw [ordV_of h.lo h.hi]
  cases hl : x.less with
  | true => simp
  | false =>
    simp only [Bool.and_false, Bool.false_eq_true, if_false, Bool.not_false, Bool.true_and]
    by_cases h0 : cmpV x.lo x.hi = 0
    · cases h1 : x.lopen <;> cases h2 : x.hopen <;> simp [h0]
    · have : (cmpV x.lo x.hi != 0) = true := by simpa using h0
      rw [if_pos this]
      have h3 : (cmpV x.lo x.hi == 0) = false := by simpa using h0
      rw [h3, Bool.false_and, Bool.or_false]
      rw [Bool.eq_iff_iff, decide_eq_true_eq, decide_eq_true_eq]; omega
theorem rt_low {x y : I} (hx : rt x) (hy : rt y) : (befE x.low y.low < 0 ↔ lowB y.lb x.lb > 0) := by
  unfold befE lowB I.low I.lb
  have ha := an_cmpV y.lo x.lo
  rw [ordV_of hx.lo hy.lo, ha]
  simp only [Bool.and_false, Bool.false_eq_true, if_false]
  by_cases h0 : cmpV y.lo x.lo = 0
  · cases h1 : x.lopen <;> cases h2 : y.lopen <;> simp [h0]
  · have h3 : (-cmpV y.lo x.lo != 0) = true := by simp; exact h0
    have h4 : (cmpV y.lo x.lo != 0) = true := by simpa using h0
    rw [if_pos h3, h4, Bool.true_or, if_pos rfl]
    omega
theorem rt_low' {x y : I} (hx : rt x) (hy : rt y) : (befE x.low y.low < 0 ↔ lowB x.lb y.lb < 0) := by
  unfold befE lowB I.low I.lb
  rw [ordV_of hx.lo hy.lo]
  simp only [Bool.and_false, Bool.false_eq_true, if_false]
  by_cases h0 : cmpV x.lo y.lo = 0
  · cases h1 : x.lopen <;> cases h2 : y.lopen <;> simp [h0]
  · have h4 : (cmpV x.lo y.lo != 0) = true := by simpa using h0
    rw [if_pos h4, h4, Bool.true_or, if_pos rfl]
theorem rt_touch {x y : I} (hx : rt x) (hy : rt y) : (befE x.high y.low ≥ 0 ↔ touchI x y = true) := by
  unfold befE touchI I.low I.high
  rw [ordV_of hx.hi hy.lo]
  cases hl : x.less with
  | true => simp
  | false =>
    simp only [Bool.and_false, Bool.false_and, Bool.false_eq_true, if_false, Bool.false_or]
    by_cases h0 : cmpV x.hi y.lo = 0
    · cases h1 : x.hopen <;> cases h2 : y.lopen <;> simp [h0]
    · have h4 : (cmpV x.hi y.lo != 0) = true := by simpa using h0
      have h3 : (cmpV x.hi y.lo == 0) = false := by simpa using h0
      rw [if_pos h4, h3, Bool.false_and, Bool.or_false, decide_eq_true_eq]
      omega
theorem rt_high {x y : I} (hx : rt x) (hy : rt y) : (befE x.high y.high < 0 ↔ highI x y < 0) := by
  unfold befE highI I.high
  rw [ordV_of hx.hi hy.hi]
  cases hl : x.less <;> cases hm : y.less <;> simp only [Bool.and_false, Bool.and_true, Bool.false_and, Bool.false_eq_true, if_false, if_true]
  · by_cases h0 : cmpV x.hi y.hi = 0
    · cases h1 : x.hopen <;> cases h2 : y.hopen <;> simp [h0]
    · have h4 : (cmpV x.hi y.hi != 0) = true := by simpa using h0
      rw [if_pos h4, if_pos h4]
theorem rt_bet {x y : I} (hx : rt x) (hy : rt y) : nI (betE x.low y.high) = nI (upR x y) ∧ rt (betE x.low y.high) := by
  cases hl : y.less with
  | true =>
    have hz := hy.hz hl
    have ho := hy.ho hl
    refine ⟨?_, ⟨hx.lo, ?_, ?_, ?_⟩⟩
    · show I.mk (nV x.lo) x.lopen (nV (if y.less then zV else y.hi)) (if y.less then false else !!y.hopen) y.less = I.mk (nV x.lo) x.lopen (nV y.hi) y.hopen y.less
      rw [hl, hz, ho]
      rfl
    · show mayV (if y.less then zV else y.hi) = true
      rw [hl]; exact zV_may
    · intro _
      show (if y.less then false else !!y.hopen) = false
      rw [hl]; rfl
    · intro _
      show nV (if y.less then zV else y.hi) = nV zV
      rw [hl]; rfl
  | false =>
    refine ⟨?_, ⟨hx.lo, ?_, ?_, ?_⟩⟩
    · show I.mk (nV x.lo) x.lopen (nV (if y.less then zV else y.hi)) (if y.less then false else !!y.hopen) y.less = I.mk (nV x.lo) x.lopen (nV y.hi) y.hopen y.less
      rw [hl, Bool.not_not]
      rfl
    · show mayV (if y.less then zV else y.hi) = true
      rw [hl]; exact hy.hi
    · intro h
      have h : y.less = true := h
      rw [hl] at h; cases h
    · intro h
      have h : y.less = true := h
      rw [hl] at h; cases h
theorem rt_insPos {s : List I} {x : I} (hs : ∀ y ∈ s, rt y) (hx : rt x) : ∀ k, k ≤ s.length → insPosS s x k = insPos s x k
  | 0, _ => rfl
  | k + 1, h => by
    have hy := hs _ (getD_mem (i := k) (l := s) (by omega) default)
    unfold insPosS insPos
    rw [rt_insPos hs hx k (by omega)]
    have := rt_low hx hy
    by_cases h1 : befE x.low (s.getD k default).low < 0
    · rw [if_pos h1, if_pos (this.1 h1)]
    · rw [if_neg h1, if_neg (fun h2 => h1 (this.2 h2))]
theorem rt_ins {s : List I} {x : I} (hs : ∀ y ∈ s, rt y) (hx : rt x) : insS s x = insR s x := by
  unfold insS insR
  rw [rt_insPos hs hx _ (Nat.le_refl _)]
theorem rt_sort : ∀ (l s : List I), (∀ y ∈ l, rt y) → (∀ y ∈ s, rt y) → (l.filter fun x => !deadI x).foldl insS s = sortR l s
  | [], s, _, _ => rfl
  | x :: l, s, hl, hs => by
    have hx := hl x (List.mem_cons_self ..)
    have h2 : sortR (x :: l) s = sortR l (if emptyI x then s else insR s x) := rfl
    rw [h2, List.filter_cons, rt_dead hx]
    cases he : emptyI x with
    | true => exact rt_sort l s (fun y hy => hl y (List.mem_cons_of_mem _ hy)) hs
    | false =>
      simp only [Bool.not_false, if_true, List.foldl_cons, Bool.false_eq_true, if_false]
      rw [rt_ins hs hx]
      exact rt_sort l _ (fun y hy => hl y (List.mem_cons_of_mem _ hy)) fun y hy => (mem_insR hy).elim (hs y) fun e => e ▸ hx
theorem rt_step {out : List I} {x : I} (ho : ∀ y ∈ out, rt y) (hx : rt x) : (stepS out x).map nI = (stepR out x).map nI ∧ ∀ y ∈ stepS out x, rt y := by
  refine ⟨?_, stepS_all (P := rt) (fun x y hx hy => (rt_bet hx hy).2) ho hx⟩
  cases out with
  | nil => rfl
  | cons a out =>
    have hla : (a :: out).length - 1 < (a :: out).length := by simp
    have hy := ho _ (getD_mem hla default)
    have h1 := rt_touch hy hx
    have h2 := rt_high hy hx
    have h3 := (rt_bet hy hx).1
    unfold stepS stepR
    simp only [List.isEmpty_cons, Bool.false_eq_true, if_false]
    generalize (a :: out).getD ((a :: out).length - 1) default = y at hy h1 h2 h3 ⊢
    by_cases ht : touchI y x = true
    · rw [if_pos (h1.2 ht), if_pos ht]
      by_cases hh : highI y x < 0
      · rw [if_pos (h2.2 hh), if_pos hh, List.map_set, List.map_set, h3]
      · rw [if_neg (fun h => hh (h2.1 h)), if_neg hh]
    · rw [if_neg (fun h => ht (h1.1 h)), if_neg ht]
theorem rt_fold : ∀ (l out : List I), (∀ y ∈ l, rt y) → (∀ y ∈ out, rt y) → (l.foldl stepS out).map nI = (l.map nI).foldl stepR (out.map nI)
  | [], out, _, _ => rfl
  | x :: l, out, hl, ho => by
    obtain ⟨h1, h2⟩ := rt_step ho (hl x (List.mem_cons_self ..))
    rw [List.foldl_cons, rt_fold l _ (fun y hy => hl y (List.mem_cons_of_mem _ hy)) h2, List.map_cons, List.foldl_cons, h1, n_stepR]
theorem rt_join {l : List I} (hl : ∀ y ∈ l, rt y) : (joinS l).map nI = joinR (l.map nI) := by
  unfold joinS joinR sortS
  have hs := rt_sort l [] hl (by simp)
  have hn := n_sortR l []
  rw [List.map_nil] at hn
  rw [hs, hn, rt_fold _ [] (fun y hy => (mem_sortR l [] hy).elim (fun h => by simp at h) (hl y)) (by simp)]
  rfl
theorem rt_meet1 {x y : I} (hx : rt x) (hy : rt y) : nI (meet1S x y) = nI (meet1 x y) ∧ rt (meet1S x y) := by
  have h1 := rt_low' hx hy
  have hmix : rt (mixL x y) := ⟨hy.lo, hx.hi, hx.ho, hx.hz⟩
  have h2 := rt_high hy hx
  have hhm : highI y (mixL x y) = highI y x := rfl
  cases c1 : decide (lowB x.lb y.lb < 0) with
  | true =>
    have d1 : befE x.low y.low < 0 := h1.2 (by simpa using c1)
    cases c2 : decide (highI y x < 0) with
    | true =>
      have d2 : befE y.high x.high < 0 := h2.2 (by simpa using c2)
      rw [meet1_a c1 (by rw [hhm]; exact c2)]
      have e : meet1S x y = betE y.low y.high := by simp only [meet1S, d1, d2, if_true]
      rw [e]
      have := rt_bet hy hy
      exact ⟨this.1, this.2⟩
    | false =>
      have d2 : ¬ befE y.high x.high < 0 := fun h => by have := h2.1 h; simp at c2; omega
      rw [meet1_b c1 (by rw [hhm]; exact c2)]
      have e : meet1S x y = betE y.low x.high := by simp only [meet1S, d1, d2, if_true, if_false]
      rw [e]
      have := rt_bet hy hx
      exact ⟨this.1, this.2⟩
  | false =>
    have d1 : ¬ befE x.low y.low < 0 := fun h => by have := h1.1 h; simp at c1; omega
    cases c2 : decide (highI y x < 0) with
    | true =>
      have d2 : befE y.high x.high < 0 := h2.2 (by simpa using c2)
      rw [meet1_c c1 c2]
      have e : meet1S x y = betE x.low y.high := by simp only [meet1S, d1, d2, if_true, if_false]
      rw [e]
      have := rt_bet hx hy
      exact ⟨this.1, this.2⟩
    | false =>
      have d2 : ¬ befE y.high x.high < 0 := fun h => by have := h2.1 h; simp at c2; omega
      rw [meet1_d c1 c2]
      have e : meet1S x y = betE x.low x.high := by simp only [meet1S, d1, d2, if_false]
      rw [e]
      have := rt_bet hx hx
      exact ⟨this.1, this.2⟩
theorem rt_meets {l m : List I} (hl : ∀ y ∈ l, rt y) (hm : ∀ y ∈ m, rt y) : (meetS l m).map nI = meetR (l.map nI) (m.map nI) := by
  unfold meetS meetR
  have h1 : ∀ z ∈ (l.flatMap fun x => m.map fun y => meet1S x y), rt z := by
    intro z hz
    obtain ⟨x, hx, hz⟩ := List.mem_flatMap.1 hz
    obtain ⟨y, hy, rfl⟩ := List.mem_map.1 hz
    exact (rt_meet1 (hl x hx) (hm y hy)).2
  rw [rt_join h1, n_meets l m meet1 n_meet1]
  congr 1
  clear h1
  induction l with
  | nil => rfl
  | cons x l ih =>
    rw [List.flatMap_cons, List.flatMap_cons, List.map_append, List.map_append, ih (fun y hy => hl y (List.mem_cons_of_mem _ hy)), List.map_map, List.map_map]
    congr 1
    apply List.map_congr_left
    intro y hy
    exact (rt_meet1 (hl x (List.mem_cons_self ..)) (hm y hy)).1
end Go.Proofs.YtlhfgonjcpapnaaGreatDoor.Abs

namespace Go.Proofs.YtlhfgonjcpapnaaGreatDoor.Abs
open Go Go.Proofs
theorem rt_from {v : V} (o : Bool) (h : v.gd) : rt (fromI v o) := ⟨h.may, zV_may, fun _ => rfl, fun _ => rfl⟩
theorem rt_down {v : V} (o : Bool) (h : v.gd) : rt (downI v o) := ⟨bottom_may, h.may, (fun h => nomatch h), (fun h => nomatch h)⟩
theorem rt_bets (x y : I) (hx : rt x) (hy : rt y) : rt (betE x.low y.high) := (rt_bet hx hy).2
theorem n_rdV (s : List UInt8) : nV (rdV true s) = nV (rdV false s) := by
  rw [rdV_eq, rdV_eq, rdV0, rdV0]
  split <;> rfl
theorem nV_may {v w : V} (h : nV v = nV w) : mayV v = mayV w := by
  have : mayV (nV v) = mayV (nV w) := by rw [h]
  exact this
theorem nV_num {v w : V} (h : nV v = nV w) : v.a = w.a ∧ v.b = w.b ∧ v.c = w.c ∧ v.pre = w.pre := by
  injection h with h1 h2 h3 _ _ _ h4
  exact ⟨h1, h2, h3, h4⟩
theorem n_nextOk {v w : V} (h : nV v = nV w) (n : Int) : nextOk v n = nextOk w n := by
  obtain ⟨h1, h2, h3, _⟩ := nV_num h
  unfold nextOk
  rw [nV_may h, h1, h2, h3]
theorem n_nextV {v w : V} (h : nV v = nV w) (n : Int) : nextV v n = nextV w n := by
  obtain ⟨h1, h2, h3, _⟩ := nV_num h
  unfold nextV
  rw [n_nextOk h, h1, h2, h3]
theorem n_kind {v w : V} (h : nV v = nV w) : kindV v = kindV w := by
  obtain ⟨h1, h2, h3, _⟩ := nV_num h
  unfold kindV
  rw [h1, h2]
theorem n_from {v w : V} (h : nV v = nV w) (o : Bool) : nI (fromI v o) = nI (fromI w o) := by
  show I.mk (nV v) o (nV zV) false true = I.mk (nV w) o (nV zV) false true
  rw [h]
theorem n_down {v w : V} (h : nV v = nV w) (o : Bool) : nI (downI v o) = nI (downI w o) := by
  show I.mk (nV bottomV) false (nV v) o false = I.mk (nV bottomV) false (nV w) o false
  rw [h]
theorem j_down {v w : V} (h : nV v = nV w) (hv : v.gd) (o : Bool) : (joinS [downI v o]).map nI = (joinR [downI w o]).map nI := by
  rw [rt_join (all_one (rt_down o hv)), ← n_joinR, List.map_singleton, List.map_singleton, n_down h]
theorem m_fd {v w v' w' : V} (h : nV v = nV w) (h' : nV v' = nV w') (hv : v.gd) (hv' : v'.gd) (o p : Bool) : (meetS [fromI v o] (joinS [downI v' p])).map nI = (meetR [fromI w o] (joinR [downI w' p])).map nI := by
  rw [rt_meets (all_one (rt_from o hv)) (joinS_all rt_bets (all_one (rt_down p hv'))), j_down h' hv' p, ← n_meetR, List.map_singleton, List.map_singleton, n_from h]
theorem u_same {v w : V} (h : nV v = nV w) (hv : v.gd) {n : Int} (h0 : 0 ≤ n) (h2 : n ≤ 2) : (uptoS v n).l.map nI = (uptoR w n).l.map nI := by
  unfold uptoS uptoR
  rw [n_nextOk h, n_nextV h]
  split
  · have hg := least_gd hv h0 h2
    rw [n_nextV h] at hg
    exact m_fd h rfl hv hg false true
  · show [fromI v false].map nI = [fromI w false].map nI
    rw [List.map_singleton, List.map_singleton, n_from h]
theorem cmpr_same (s : List UInt8) : (cmprS s).1.l.map nI = (cmprR s).1.l.map nI ∧ (cmprS s).2 = (cmprR s).2 := by
  have h := n_rdV (trimL s)
  have hv := rd_gd true (trimL s)
  have hk := kind_is (rdV true (trimL s))
  have one : ∀ o, [fromI (rdV true (trimL s)) o].map nI = [fromI (rdV false (trimL s)) o].map nI := fun o => by rw [List.map_singleton, List.map_singleton, n_from h]
  unfold cmprS cmprR
  split
  · simp only []
    by_cases c1 : signL s = [] ∨ signL s = [61]
    · rw [if_pos c1, if_pos c1]; exact ⟨m_fd h h hv hv false false, rfl⟩
    rw [if_neg c1, if_neg c1]
    by_cases c2 : signL s = [60]
    · rw [if_pos c2, if_pos c2]; exact ⟨j_down h hv true, rfl⟩
    rw [if_neg c2, if_neg c2]
    by_cases c3 : signL s = [60, 61]
    · rw [if_pos c3, if_pos c3]; exact ⟨j_down h hv false, rfl⟩
    rw [if_neg c3, if_neg c3]
    by_cases c4 : signL s = [62]
    · rw [if_pos c4, if_pos c4]; exact ⟨one true, rfl⟩
    rw [if_neg c4, if_neg c4]
    by_cases c5 : signL s = [62, 61]
    · rw [if_pos c5, if_pos c5]; exact ⟨one false, rfl⟩
    rw [if_neg c5, if_neg c5]
    by_cases c6 : signL s = [94]
    · rw [if_pos c6, if_pos c6, n_kind h]
      rw [n_kind h] at hk
      exact ⟨u_same h hv hk.1 hk.2, rfl⟩
    rw [if_neg c6, if_neg c6]
    by_cases c7 : signL s = [126]
    · rw [if_pos c7, if_pos c7]; exact ⟨u_same h hv (by omega) (by omega), rfl⟩
    rw [if_neg c7, if_neg c7]
    exact ⟨rfl, rfl⟩
  · exact ⟨rfl, rfl⟩
theorem cmprS_rt (s : List UInt8) : ∀ y ∈ (cmprS s).1.l, rt y := all_cmprS rt_bets (fun v o h => rt_from o h) (fun v o h => rt_down o h) s
theorem altGo_same : ∀ (ps : List (List UInt8)) (c d : LF) (n : Nat), c.l.map nI = d.l.map nI → (∀ y ∈ c.l, rt y) → ps.length + n ≤ 16 → (altGoS ps c n).1.l.map nI = (altGoR ps d).1.l.map nI ∧ (altGoS ps c n).2 = (altGoR ps d).2
  | [], c, d, n, h, _, _ => ⟨h, rfl⟩
  | p :: ps, c, d, n, h, hc, hn => by
    obtain ⟨h1, h2⟩ := cmpr_same p
    simp only [List.length_cons] at hn
    rw [altGoS, altGoR, h2]
    by_cases hb : (cmprR p).2 = true
    · rw [if_pos ⟨hb, by omega⟩, if_pos hb]
      refine altGo_same ps _ _ (n + 1) ?_ (all_meetS rt_bets hc (cmprS_rt p)) (by omega)
      show (meetS c.l (cmprS p).1.l).map nI = (meetR d.l (cmprR p).1.l).map nI
      rw [rt_meets hc (cmprS_rt p), h, h1, n_meetR]
    · rw [if_neg (fun h => hb h.1), if_neg hb]
      exact ⟨rfl, rfl⟩
theorem altGo_long : ∀ (ps : List (List UInt8)) (c : LF) (n : Nat), n ≤ 16 → ¬ ps.length + n ≤ 16 → altGoS ps c n = (lf0, false)
  | [], c, n, h, h2 => by simp at h2; omega
  | p :: ps, c, n, h, h2 => by
    simp only [List.length_cons] at h2
    by_cases hb : (cmprS p).2 = true ∧ n + 1 ≤ 16
    · rw [altGo_yes hb.1 hb.2]
      exact altGo_long ps _ (n + 1) hb.2 (by omega)
    · exact altGo_no hb
theorem alt_same (s : List UInt8) : (altS s).1.l.map nI = (altR s).1.l.map nI ∧ (altS s).2 = (altR s).2 := by
  unfold altS altR
  split
  · exact ⟨rfl, rfl⟩
  · split
    · exact ⟨rfl, rfl⟩
    · split
      · rw [altGo_long _ _ 0 (by omega) (by omega)]
        exact ⟨rfl, rfl⟩
      · exact altGo_same _ _ _ 0 rfl (all_one (rt_from false bottom_gd)) (by omega)
theorem altS_rt (s : List UInt8) : ∀ y ∈ (altS s).1.l, rt y := all_altS rt_bets (fun v o h => rt_from o h) (fun v o h => rt_down o h) s
theorem readGo_same : ∀ (ps : List (List UInt8)) (a b : List I) (n : Nat), a.map nI = b.map nI → (∀ y ∈ a, rt y) → ps.length + n ≤ 16 →
    (readGoS ps a n = none ∧ readGoR ps b = none) ∨ ∃ x y, readGoS ps a n = some x ∧ readGoR ps b = some y ∧ x.map nI = y.map nI ∧ ∀ z ∈ x, rt z
  | [], a, b, n, h, ha, _ => .inr ⟨a, b, rfl, rfl, h, ha⟩
  | p :: ps, a, b, n, h, ha, hn => by
    obtain ⟨h1, h2⟩ := alt_same p
    simp only [List.length_cons] at hn
    rw [readGoS, readGoR, h2]
    by_cases hb : (altR p).2 = true
    · rw [if_pos ⟨hb, by omega⟩, if_pos hb]
      refine readGo_same ps _ _ (n + 1) ?_ (fun y hy => (List.mem_append.1 hy).elim (ha y) (altS_rt p y)) (by omega)
      rw [List.map_append, List.map_append, h, h1]
    · rw [if_neg (fun h => hb h.1), if_neg hb]
      exact .inl ⟨rfl, rfl⟩
theorem readGo_long : ∀ (ps : List (List UInt8)) (c : List I) (n : Nat), n ≤ 16 → ¬ ps.length + n ≤ 16 → readGoS ps c n = none
  | [], c, n, h, h2 => by simp at h2; omega
  | p :: ps, c, n, h, h2 => by
    simp only [List.length_cons] at h2
    by_cases hb : (altS p).2 = true ∧ n + 1 ≤ 16
    · rw [readGo_yes hb.1 hb.2]
      exact readGo_long ps _ (n + 1) hb.2 (by omega)
    · exact readGo_no hb
theorem n_len {l m : List I} (h : l.map nI = m.map nI) : l.length = m.length := by
  have := congrArg List.length h
  simpa using this
theorem lim_same {l m : List I} (h : l.map nI = m.map nI) : (limS l).1.l.map nI = (limR (lfR m)).1.l.map nI ∧ (limS l).2 = (limR (lfR m)).2 := by
  unfold limS limR
  rw [n_len h]
  show _ ∧ (if m.length > 16 then (lf0, 80) else _).2 = (if (lfR m).l.length > 16 then (lf0, 80) else _).2
  by_cases hm : m.length > 16
  · rw [if_pos hm, if_pos (show (lfR m).l.length > 16 from hm)]
    exact ⟨rfl, rfl⟩
  · rw [if_neg hm, if_neg (show ¬ (lfR m).l.length > 16 from hm)]
    refine ⟨?_, rfl⟩
    show (l.map clI).map nI = m.map nI
    rw [← h, List.map_map]
    apply List.map_congr_left
    intro x _
    rfl
theorem read_same (s : List UInt8) : (readS s).1.l.map nI = (readR s).1.l.map nI ∧ (readS s).2 = (readR s).2 := by
  unfold readS readR
  by_cases c1 : s.length > 128
  · rw [if_pos c1, if_pos c1]
    exact ⟨rfl, rfl⟩
  · rw [if_neg c1, if_neg c1]
    by_cases c2 : (Lib.split s orB).length > 16
    · rw [if_pos c2, readGo_long _ _ 0 (by omega) (by omega)]
      exact ⟨rfl, rfl⟩
    · rw [if_neg c2]
      rcases readGo_same (Lib.split s orB) [] [] 0 rfl (by simp) (by omega) with ⟨h1, h2⟩ | ⟨x, y, h1, h2, h3, h4⟩
      · rw [h1, h2]
        exact ⟨rfl, rfl⟩
      · rw [h1, h2]
        refine lim_same ?_
        rw [rt_join h4, h3, n_joinR]
end Go.Proofs.YtlhfgonjcpapnaaGreatDoor.Abs

set_option maxRecDepth 20000
namespace Go.Proofs.YtlhfgonjcpapnaaGreatDoor.Abs
open Go Go.Proofs
theorem readGoS_all {P : I → Prop} (hP : ∀ p, ∀ y ∈ (altS p).1.l, P y) : ∀ (ps : List (List UInt8)) (a x : List I) (n : Nat), (∀ y ∈ a, P y) → readGoS ps a n = some x → ∀ y ∈ x, P y
  | [], a, x, n, ha, h => by
    rw [readGoS] at h
    injection h with h
    subst h; exact ha
  | p :: ps, a, x, n, ha, h => by
    by_cases hb : (altS p).2 = true ∧ n + 1 ≤ 16
    · rw [readGo_yes hb.1 hb.2] at h
      exact readGoS_all hP ps _ x _ (fun y hy => (List.mem_append.1 hy).elim (ha y) (hP p y)) h
    · rw [readGo_no hb] at h; cases h
theorem readGoR_all {P : I → Prop} (hP : ∀ p, ∀ y ∈ (altR p).1.l, P y) : ∀ (ps : List (List UInt8)) (a x : List I), (∀ y ∈ a, P y) → readGoR ps a = some x → ∀ y ∈ x, P y
  | [], a, x, ha, h => by
    rw [readGoR] at h
    injection h with h
    subst h; exact ha
  | p :: ps, a, x, ha, h => by
    rw [readGoR] at h
    by_cases hb : (altR p).2 = true
    · rw [if_pos hb] at h
      exact readGoR_all hP ps _ x (fun y hy => (List.mem_append.1 hy).elim (ha y) (hP p y)) h
    · rw [if_neg hb] at h; cases h
theorem clV_ok {v : V} (h : v.ok) : (clV v).ok := ⟨h.a, h.b, h.c, ⟨h.sl.1, fun e => by
  have e : v.nl = false := e
  show cond v.nl 0 1 = 1
  rw [e]; rfl⟩, h.len, h.str⟩
theorem clI_ok {x : I} (h : x.ok) : (clI x).ok := ⟨clV_ok h.lo, clV_ok h.hi⟩
theorem cl_ok {l : List I} (h : ∀ x ∈ l, x.ok) : ∀ x ∈ l.map clI, x.ok := by
  intro y hy
  obtain ⟨x, hx, rfl⟩ := List.mem_map.1 hy
  exact clI_ok (h x hx)
theorem limS_is {l : List I} (h : ∀ x ∈ l, x.ok) : (limS l).1.is 16 := by
  unfold limS
  by_cases hl : l.length > 16
  · rw [if_pos hl]; exact is_lf0.mono (by omega)
  · rw [if_neg hl]
    refine ⟨?_, cl_ok h, by rw [List.length_map]; omega⟩
    rw [List.length_map]
    exact tw_sl l
theorem readS_is (s : List UInt8) : (readS s).1.is 16 := by
  unfold readS
  by_cases c1 : s.length > 128
  · rw [if_pos c1]; exact is_lf0.mono (by omega)
  · rw [if_neg c1]
    cases h : readGoS (Lib.split s orB) [] 0 with
    | none => exact is_lf0.mono (by omega)
    | some x => exact limS_is (joinS_ok (readGoS_all (fun p => (altS_is p).ok) _ _ _ _ (by simp) h))
theorem readR_is (s : List UInt8) : (readR s).1.is 16 := by
  unfold readR
  by_cases c1 : s.length > 128
  · rw [if_pos c1]; exact is_lf0.mono (by omega)
  · rw [if_neg c1]
    by_cases c2 : (Lib.split s orB).length > 16
    · rw [if_pos c2]; exact is_lf0.mono (by omega)
    · rw [if_neg c2]
      cases h : readGoR (Lib.split s orB) [] with
      | none => exact is_lf0.mono (by omega)
      | some x =>
        have hg : goods (joinR x) := joinR_all up_good (readGoR_all altR_good _ _ _ (by simp) h)
        show (limR (lfR (joinR x))).1.is 16
        unfold limR
        by_cases hl : (lfR (joinR x)).l.length > 16
        · rw [if_pos hl]; exact is_lf0.mono (by omega)
        · rw [if_neg hl]
          exact is_lfR (fun y hy => (hg y hy).ok) (by have : ¬ (joinR x).length > 16 := hl; omega)
theorem den_cReadS (s : List UInt8) : Den E1 19 [strP s] (.tup [(cReadS s).1.p, intP (cReadS s).2]) := by rw [cReadS_eq]; exact den_span_Read s
theorem den_cReadR (s : List UInt8) : Den E1 20 [strP s] (.tup [(cReadR s).1.p, intP (cReadR s).2]) := by rw [cReadR_eq]; exact den_ref08_Read s
end Go.Proofs.YtlhfgonjcpapnaaGreatDoor.Abs

namespace Go.Proofs.YtlhfgonjcpapnaaGreatDoor.Abs
open Go Go.Proofs
noncomputable def cCmp : V → V → Int := shut cmpV
theorem cCmp_eq (v w : V) : cCmp v w = cmpV v w := by rw [cCmp, shut_eq]
def hasS0 (l : List I) (v : V) : Bool := l.any fun x => inI x v
noncomputable def cHasS : List I → V → Bool := shut hasS0
noncomputable def cHasR : List I → V → Bool := shut hasR
theorem cHasS_eq (l : List I) (v : V) : cHasS l v = hasS0 l v := by rw [cHasS, shut_eq]
theorem cHasR_eq (l : List I) (v : V) : cHasR l v = hasR l v := by rw [cHasR, shut_eq]
noncomputable def ord0 (a b : List UInt8) : Int := if rdOk a && rdOk b then cmpV (rdV true a) (rdV true b) else 0
noncomputable def cOrd : List UInt8 → List UInt8 → Int := shut ord0
theorem cOrd_eq (a b : List UInt8) : cOrd a b = ord0 a b := by rw [cOrd, shut_eq]
noncomputable def pickGo (H : List UInt8 → Bool) : List (List UInt8) → List UInt8 → List UInt8 × Bool × Int
  | [], b => (b, b != [], 0)
  | p :: ps, b => if rdOk p then (if H p then pickGo H ps (if b = [] ∨ ord0 p b > 0 then p else b) else pickGo H ps b) else ([], false, 70)
noncomputable def pickS0 (s : List UInt8) (l : List (List UInt8)) : List UInt8 × Bool × Int := if (readS s).2 != 0 then ([], false, (readS s).2) else pickGo (fun p => hasS0 (readS s).1.l (rdV true p)) l []
noncomputable def pickR0 (s : List UInt8) (l : List (List UInt8)) : List UInt8 × Bool × Int := if (readR s).2 != 0 then ([], false, (readR s).2) else pickGo (fun p => hasR (readR s).1.l (rdV false p)) l []
noncomputable def cPickS : List UInt8 → List (List UInt8) → List UInt8 × Bool × Int := shut pickS0
noncomputable def cPickR : List UInt8 → List (List UInt8) → List UInt8 × Bool × Int := shut pickR0
theorem cPickS_eq (s : List UInt8) (l : List (List UInt8)) : cPickS s l = pickS0 s l := by rw [cPickS, shut_eq]
theorem cPickR_eq (s : List UInt8) (l : List (List UInt8)) : cPickR s l = pickR0 s l := by rw [cPickR, shut_eq]
end Go.Proofs.YtlhfgonjcpapnaaGreatDoor.Abs

namespace Go.Proofs.YtlhfgonjcpapnaaGreatDoor.Abs
open Go Go.Proofs
theorem version_Order_go (a : List UInt8) (b : List UInt8) (r : PV) : FnGo E1 Tryz.f48 [strP a, strP b] r 2000 (.res (.tup [V.p (rdV true a), intP (errV (rdOk a))]) (.res (.tup [V.p (rdV true b), intP (errV (rdOk b))]) (.fork (.lts 4 (.hole 0)) (.lts 3 (.fork (.hole 0) (.res (intP (cCmp (rdV true a) (rdV true b))) (.hole 0))))))) =
  ((Den E1 34 [strP a] (.tup [V.p (rdV true a), intP (errV (rdOk a))])) ∧
 ((7 : Nat) = 7) ∧
 (Den E1 34 [strP b] (.tup [V.p (rdV true b), intP (errV (rdOk b))])) ∧
 ((15 : Nat) = 15) ∧
 ((errV (rdOk a) != (0 : Int)) = true →
 ((.tup [intP 0, intP 70]) : PV) = r) ∧
 ((errV (rdOk a) != (0 : Int)) = false →
 ((errV (rdOk b) != (0 : Int)) = true →
 ((.tup [intP 0, intP 70]) : PV) = r) ∧
 ((errV (rdOk b) != (0 : Int)) = false →
 ((7 : Nat) = 7) ∧
 ((15 : Nat) = 15) ∧
 (Den E1 85 [V.p (rdV true a), V.p (rdV true b)] (intP (cCmp (rdV true a) (rdV true b)))) ∧
 ((.tup [intP (cCmp (rdV true a) (rdV true b)), intP 0]) : PV) = r))) := by kernel_rfl
theorem ref07_Order_go (a : List UInt8) (b : List UInt8) (r : PV) : FnGo E1 Tryz.f50 [strP a, strP b] r 2000 (.res (.tup [V.p (rdV false a), intP (errV (rdOk a))]) (.res (.tup [V.p (rdV false b), intP (errV (rdOk b))]) (.fork (.lts 4 (.hole 0)) (.lts 3 (.fork (.hole 0) (.res (intP (cCmp (rdV false a) (rdV false b))) (.hole 0))))))) =
  ((Den E1 49 [strP a] (.tup [V.p (rdV false a), intP (errV (rdOk a))])) ∧
 ((7 : Nat) = 7) ∧
 (Den E1 49 [strP b] (.tup [V.p (rdV false b), intP (errV (rdOk b))])) ∧
 ((15 : Nat) = 15) ∧
 ((errV (rdOk a) != (0 : Int)) = true →
 ((.tup [intP 0, intP 70]) : PV) = r) ∧
 ((errV (rdOk a) != (0 : Int)) = false →
 ((errV (rdOk b) != (0 : Int)) = true →
 ((.tup [intP 0, intP 70]) : PV) = r) ∧
 ((errV (rdOk b) != (0 : Int)) = false →
 ((7 : Nat) = 7) ∧
 ((15 : Nat) = 15) ∧
 (Den E1 80 [V.p (rdV false a), V.p (rdV false b)] (intP (cCmp (rdV false a) (rdV false b)))) ∧
 ((.tup [intP (cCmp (rdV false a) (rdV false b)), intP 0]) : PV) = r))) := by kernel_rfl
noncomputable def span_Pick_S0 (s : List UInt8) (k : Nat) (nl : Bool) (full : Bool) (x : List (List UInt8)) (i : Int) (b : List UInt8) (j : Nat → AV) (jr : Nat → Row) (g : Nat) : St :=
  { t := [j (0 : Nat), j (1 : Nat), j (2 : Nat), j (3 : Nat), j (4 : Nat), j (5 : Nat), j (6 : Nat), .pv (.sl (LF.k (Prod.fst (cReadS s))) (LF.nl (Prod.fst (cReadS s))) (LF.full (Prod.fst (cReadS s))) (List.map I.p (LF.l (Prod.fst (cReadS s))))), j (8 : Nat), strA (bs b), j (10 : Nat), j (11 : Nat), j (12 : Nat), j (13 : Nat), j (14 : Nat), j (15 : Nat), j (16 : Nat), j (17 : Nat), j (18 : Nat), j (19 : Nat), j (20 : Nat), j (21 : Nat), j (22 : Nat), j (23 : Nat), .pv (.sl k nl full (List.map strP x)), intA ((↑(List.length (List.map strP x)) : Int)), intA i, j (27 : Nat), j (28 : Nat), j (29 : Nat), j (30 : Nat), j (31 : Nat), j (32 : Nat), j (33 : Nat), j (34 : Nat), j (35 : Nat), j (36 : Nat), j (37 : Nat), j (38 : Nat), j (39 : Nat), j (40 : Nat), j (41 : Nat), j (42 : Nat), j (43 : Nat), j (44 : Nat), j (45 : Nat), j (46 : Nat), j (47 : Nat), j (48 : Nat), j (49 : Nat), j (50 : Nat), j (51 : Nat), j (52 : Nat), j (53 : Nat), j (54 : Nat), j (55 : Nat), j (56 : Nat), j (57 : Nat), j (58 : Nat)], h := [List.replicate 12 row0 ++ [jr (12 : Nat)] ++ List.replicate 46 row0], g := g }
theorem span_Pick_go (s : List UInt8) (k : Nat) (nl : Bool) (full : Bool) (x : List (List UInt8)) (r : PV) : FnGo E1 Tryz.f17 [strP s, .sl k nl full (List.map strP x)] r 2000 (.res (.tup [LF.p (Prod.fst (cReadS s)), intP (Prod.snd (cReadS s))]) (.fork (.hole 0) (.mask (iv [(0, 6), (8, 8), (10, 23), (27, 58)]) [12]))) =
  ((Den E1 19 [strP s] (.tup [LF.p (Prod.fst (cReadS s)), intP (Prod.snd (cReadS s))])) ∧
 ((Prod.snd (cReadS s) != (0 : Int)) = true →
 ((.tup [strP [], bolP false, intP (Prod.snd (cReadS s))]) : PV) = r) ∧
 ((Prod.snd (cReadS s) != (0 : Int)) = false →
 AtAll Tryz.f17 r 0 (span_Pick_S0 s k nl full x 0 []))) := by kernel_rfl
theorem span_Pick_go_S0 (s : List UInt8) (k : Nat) (nl : Bool) (full : Bool) (x : List (List UInt8)) (i : Int) (b : List UInt8) (j : Nat → AV) (jr : Nat → Row) (g : Nat) (r : PV) : LoopGo E1 Tryz.f17 r 0 2000 (.fork (.val (strP (List.getD x (Int.toNat i) default)) (.res (.tup [V.p (rdV true (List.getD x (Int.toNat i) default)), intP (errV (rdOk (List.getD x (Int.toNat i) default)))]) (.fork (.hole 0) (.res (bolP (cHasS (LF.l (Prod.fst (cReadS s))) (rdV true (List.getD x (Int.toNat i) default)))) (.fork (.mask (iv [(0, 6), (8, 8), (10, 23), (27, 58)]) [12]) (.res (.tup [intP (cOrd (List.getD x (Int.toNat i) default) b), intP (errV (rdOk (List.getD x (Int.toNat i) default) && rdOk b))]) (.fork (.lts 4 (.mask (iv [(0, 6), (8, 8), (10, 23), (27, 58)]) [12])) (.lts 3 (.fork (.mask (iv [(0, 6), (8, 8), (10, 23), (27, 58)]) [12]) (.mask (iv [(0, 6), (8, 8), (10, 23), (27, 58)]) [12])))))))))) (.hole 0)) (span_Pick_S0 s k nl full x i b j jr g) =
  (((decide (i < (↑(List.length (List.map strP x)) : Int))) = true →
 (((0 : Int) ≤ i) ∧ ((nl = false) ∧ (k = 1))) ∧
 (((List.map strP x)[Int.toNat i]?) = some (strP (List.getD x (Int.toNat i) default))) ∧
 (Den E1 34 [strP (List.getD x (Int.toNat i) default)] (.tup [V.p (rdV true (List.getD x (Int.toNat i) default)), intP (errV (rdOk (List.getD x (Int.toNat i) default)))])) ∧
 ((g + 1 + 3 + 5) = g + 1 + 3 + 5) ∧
 ((errV (rdOk (List.getD x (Int.toNat i) default)) != (0 : Int)) = true →
 ((.tup [strP [], bolP false, intP (errV (rdOk (List.getD x (Int.toNat i) default)))]) : PV) = r) ∧
 ((errV (rdOk (List.getD x (Int.toNat i) default)) != (0 : Int)) = false →
 ((g + 1 + 3 + 5) = g + 1 + 3 + 5) ∧
 (Den E1 47 [LF.p (Prod.fst (cReadS s)), V.p (rdV true (List.getD x (Int.toNat i) default))] (bolP (cHasS (LF.l (Prod.fst (cReadS s))) (rdV true (List.getD x (Int.toNat i) default))))) ∧
 ((!cHasS (LF.l (Prod.fst (cReadS s))) (rdV true (List.getD x (Int.toNat i) default))) = true →
 AtAll Tryz.f17 r 0 (span_Pick_S0 s k nl full x (IntKind.i64.wrap (i + (1 : Int))) b)) ∧
 ((!cHasS (LF.l (Prod.fst (cReadS s))) (rdV true (List.getD x (Int.toNat i) default))) = false →
 (Den E1 48 [strP (List.getD x (Int.toNat i) default), strP b] (.tup [intP (cOrd (List.getD x (Int.toNat i) default) b), intP (errV (rdOk (List.getD x (Int.toNat i) default) && rdOk b))])) ∧
 ((ByteArray.toList (bs b) == ByteArray.toList (bs [])) = true →
 AtAll Tryz.f17 r 0 (span_Pick_S0 s k nl full x (IntKind.i64.wrap (i + (1 : Int))) (List.getD x (Int.toNat i) default))) ∧
 ((ByteArray.toList (bs b) == ByteArray.toList (bs [])) = false →
 ((decide (cOrd (List.getD x (Int.toNat i) default) b > (0 : Int))) = true →
 AtAll Tryz.f17 r 0 (span_Pick_S0 s k nl full x (IntKind.i64.wrap (i + (1 : Int))) (List.getD x (Int.toNat i) default))) ∧
 ((decide (cOrd (List.getD x (Int.toNat i) default) b > (0 : Int))) = false →
 AtAll Tryz.f17 r 0 (span_Pick_S0 s k nl full x (IntKind.i64.wrap (i + (1 : Int))) b)))))) ∧
 ((decide (i < (↑(List.length (List.map strP x)) : Int))) = false →
 ((.tup [strP b, bolP (!ByteArray.toList (bs b) == ByteArray.toList (bs [])), intP 0]) : PV) = r)) := by kernel_rfl
noncomputable def ref08_Pick_S0 (s : List UInt8) (k : Nat) (nl : Bool) (full : Bool) (x : List (List UInt8)) (i : Int) (b : List UInt8) (j : Nat → AV) (jr : Nat → Row) (g : Nat) : St :=
  { t := [j (0 : Nat), .pv (.sl k nl full (List.map strP x)), j (2 : Nat), j (3 : Nat), j (4 : Nat), j (5 : Nat), j (6 : Nat), .pv (.sl (LF.k (Prod.fst (cReadR s))) (LF.nl (Prod.fst (cReadR s))) (LF.full (Prod.fst (cReadR s))) (List.map I.p (LF.l (Prod.fst (cReadR s))))), j (8 : Nat), strA (bs b), intA i, j (11 : Nat), j (12 : Nat), j (13 : Nat), j (14 : Nat), j (15 : Nat), j (16 : Nat), j (17 : Nat), j (18 : Nat), j (19 : Nat), j (20 : Nat), j (21 : Nat), j (22 : Nat), j (23 : Nat), j (24 : Nat), j (25 : Nat), j (26 : Nat), j (27 : Nat), j (28 : Nat), j (29 : Nat), j (30 : Nat), j (31 : Nat), j (32 : Nat), j (33 : Nat), j (34 : Nat), j (35 : Nat), j (36 : Nat), j (37 : Nat), j (38 : Nat), j (39 : Nat), j (40 : Nat), j (41 : Nat), j (42 : Nat), j (43 : Nat), j (44 : Nat), j (45 : Nat), j (46 : Nat), j (47 : Nat), j (48 : Nat), j (49 : Nat), j (50 : Nat), j (51 : Nat), j (52 : Nat), j (53 : Nat), j (54 : Nat), j (55 : Nat), j (56 : Nat), j (57 : Nat), j (58 : Nat), j (59 : Nat), j (60 : Nat), j (61 : Nat), j (62 : Nat)], h := [List.replicate 11 row0 ++ [jr (11 : Nat)] ++ List.replicate 51 row0], g := g }
theorem ref08_Pick_go (s : List UInt8) (k : Nat) (nl : Bool) (full : Bool) (x : List (List UInt8)) (r : PV) : FnGo E1 Tryz.f18 [strP s, .sl k nl full (List.map strP x)] r 2000 (.res (.tup [LF.p (Prod.fst (cReadR s)), intP (Prod.snd (cReadR s))]) (.fork (.hole 0) (.mask (iv [(0, 0), (2, 6), (8, 8), (11, 62)]) [11]))) =
  ((Den E1 20 [strP s] (.tup [LF.p (Prod.fst (cReadR s)), intP (Prod.snd (cReadR s))])) ∧
 ((Prod.snd (cReadR s) != (0 : Int)) = true →
 ((.tup [strP [], bolP false, intP (Prod.snd (cReadR s))]) : PV) = r) ∧
 ((Prod.snd (cReadR s) != (0 : Int)) = false →
 AtAll Tryz.f18 r 0 (ref08_Pick_S0 s k nl full x 0 []))) := by kernel_rfl
theorem ref08_Pick_go_S0 (s : List UInt8) (k : Nat) (nl : Bool) (full : Bool) (x : List (List UInt8)) (i : Int) (b : List UInt8) (j : Nat → AV) (jr : Nat → Row) (g : Nat) (r : PV) : LoopGo E1 Tryz.f18 r 0 2000 (.fork (.val (strP (List.getD x (Int.toNat i) default)) (.res (.tup [V.p (rdV false (List.getD x (Int.toNat i) default)), intP (errV (rdOk (List.getD x (Int.toNat i) default)))]) (.fork (.hole 0) (.res (bolP (cHasR (LF.l (Prod.fst (cReadR s))) (rdV false (List.getD x (Int.toNat i) default)))) (.fork (.mask (iv [(0, 0), (2, 6), (8, 8), (11, 62)]) [11]) (.fork (.val (strP (List.getD x (Int.toNat i) default)) (.res (.tup [intP (cOrd (List.getD x (Int.toNat i) default) b), intP (errV (rdOk (List.getD x (Int.toNat i) default) && rdOk b))]) (.fork (.val (strP (List.getD x (Int.toNat i) default)) (.mask (iv [(0, 0), (2, 6), (8, 8), (11, 62)]) [11])) (.mask (iv [(0, 0), (2, 6), (8, 8), (11, 62)]) [11])))) (.lit (.val (strP (List.getD x (Int.toNat i) default)) (.mask (iv [(0, 0), (2, 6), (8, 8), (11, 62)]) [11]))))))))) (.hole 0)) (ref08_Pick_S0 s k nl full x i b j jr g) =
  (((decide (i < (↑(List.length (List.map strP x)) : Int))) = true →
 (((0 : Int) ≤ i) ∧ ((nl = false) ∧ (k = 1))) ∧
 (((List.map strP x)[Int.toNat i]?) = some (strP (List.getD x (Int.toNat i) default))) ∧
 (Den E1 49 [strP (List.getD x (Int.toNat i) default)] (.tup [V.p (rdV false (List.getD x (Int.toNat i) default)), intP (errV (rdOk (List.getD x (Int.toNat i) default)))])) ∧
 ((g + 4 + 8) = g + 4 + 8) ∧
 ((errV (rdOk (List.getD x (Int.toNat i) default)) != (0 : Int)) = true →
 ((.tup [strP [], bolP false, intP (errV (rdOk (List.getD x (Int.toNat i) default)))]) : PV) = r) ∧
 ((errV (rdOk (List.getD x (Int.toNat i) default)) != (0 : Int)) = false →
 ((g + 4 + 8) = g + 4 + 8) ∧
 (Den E1 27 [LF.p (Prod.fst (cReadR s)), V.p (rdV false (List.getD x (Int.toNat i) default))] (bolP (cHasR (LF.l (Prod.fst (cReadR s))) (rdV false (List.getD x (Int.toNat i) default))))) ∧
 ((!cHasR (LF.l (Prod.fst (cReadR s))) (rdV false (List.getD x (Int.toNat i) default))) = true →
 AtAll Tryz.f18 r 0 (ref08_Pick_S0 s k nl full x (IntKind.i64.wrap (i + (1 : Int))) b)) ∧
 ((!cHasR (LF.l (Prod.fst (cReadR s))) (rdV false (List.getD x (Int.toNat i) default))) = false →
 ((!ByteArray.toList (bs b) == ByteArray.toList (bs [])) = true →
 (((0 : Int) ≤ i) ∧ ((nl = false) ∧ (k = 1))) ∧
 (((List.map strP x)[Int.toNat i]?) = some (strP (List.getD x (Int.toNat i) default))) ∧
 (Den E1 50 [strP (List.getD x (Int.toNat i) default), strP b] (.tup [intP (cOrd (List.getD x (Int.toNat i) default) b), intP (errV (rdOk (List.getD x (Int.toNat i) default) && rdOk b))])) ∧
 ((decide (cOrd (List.getD x (Int.toNat i) default) b > (0 : Int))) = true →
 (((0 : Int) ≤ i) ∧ ((nl = false) ∧ (k = 1))) ∧
 (((List.map strP x)[Int.toNat i]?) = some (strP (List.getD x (Int.toNat i) default))) ∧
 (AtAll Tryz.f18 r 0 (ref08_Pick_S0 s k nl full x (IntKind.i64.wrap (i + (1 : Int))) (List.getD x (Int.toNat i) default)))) ∧
 ((decide (cOrd (List.getD x (Int.toNat i) default) b > (0 : Int))) = false →
 AtAll Tryz.f18 r 0 (ref08_Pick_S0 s k nl full x (IntKind.i64.wrap (i + (1 : Int))) b))) ∧
 ((!ByteArray.toList (bs b) == ByteArray.toList (bs [])) = false →
 (((0 : Int) ≤ i) ∧ ((nl = false) ∧ (k = 1))) ∧
 (((List.map strP x)[Int.toNat i]?) = some (strP (List.getD x (Int.toNat i) default))) ∧
 (AtAll Tryz.f18 r 0 (ref08_Pick_S0 s k nl full x (IntKind.i64.wrap (i + (1 : Int))) (List.getD x (Int.toNat i) default))))))) ∧
 ((decide (i < (↑(List.length (List.map strP x)) : Int))) = false →
 ((.tup [strP b, bolP (!ByteArray.toList (bs b) == ByteArray.toList (bs [])), intP 0]) : PV) = r)) := by kernel_rfl
noncomputable def law08_SpanPicks_S0 (s : List UInt8) (k : Nat) (nl : Bool) (full : Bool) (x : List (List UInt8)) (i : Int) (j : Nat → AV) (jr : Nat → Row) (g : Nat) : St :=
  { t := [j (0 : Nat), .pv (.sl k nl full (List.map strP x)), j (2 : Nat), j (3 : Nat), j (4 : Nat), .pv (.sl 0 true true []), strA (bs (Prod.fst (cPickS s []))), bolA (Prod.fst (Prod.snd (cPickS s []))), intA (Prod.snd (Prod.snd (cPickS s []))), strA (bs (Prod.fst (cPickR s x))), bolA (Prod.fst (Prod.snd (cPickR s x))), intA (Prod.snd (Prod.snd (cPickR s x))), intA i, j (13 : Nat), j (14 : Nat), j (15 : Nat), j (16 : Nat), j (17 : Nat), j (18 : Nat), j (19 : Nat), j (20 : Nat), j (21 : Nat), j (22 : Nat), j (23 : Nat), j (24 : Nat), j (25 : Nat), j (26 : Nat), j (27 : Nat), j (28 : Nat), j (29 : Nat), j (30 : Nat), j (31 : Nat), j (32 : Nat), j (33 : Nat), j (34 : Nat), j (35 : Nat), j (36 : Nat), j (37 : Nat), j (38 : Nat), j (39 : Nat), j (40 : Nat), j (41 : Nat), j (42 : Nat), j (43 : Nat), j (44 : Nat), j (45 : Nat), j (46 : Nat), j (47 : Nat), j (48 : Nat), j (49 : Nat), j (50 : Nat), j (51 : Nat), j (52 : Nat), j (53 : Nat), j (54 : Nat), j (55 : Nat), j (56 : Nat), j (57 : Nat), j (58 : Nat), j (59 : Nat), j (60 : Nat), j (61 : Nat), j (62 : Nat), j (63 : Nat)], h := [List.replicate 64 row0], g := g }
noncomputable def law08_SpanPicks_S1 (s : List UInt8) (k : Nat) (nl : Bool) (full : Bool) (x : List (List UInt8)) (i : Int) (gm : Nat) (n : Nat) (j : Nat → AV) (jr : Nat → Row) (g : Nat) : St :=
  { t := [j (0 : Nat), .pv (.sl k nl full (List.map strP x)), j (2 : Nat), j (3 : Nat), j (4 : Nat), .msl 0 18 gm 0 n false, strA (bs (Prod.fst (cPickS s x))), bolA (Prod.fst (Prod.snd (cPickS s x))), intA (Prod.snd (Prod.snd (cPickS s x))), strA (bs (Prod.fst (cPickR s x))), bolA (Prod.fst (Prod.snd (cPickR s x))), intA (Prod.snd (Prod.snd (cPickR s x))), intA i, j (13 : Nat), j (14 : Nat), j (15 : Nat), j (16 : Nat), j (17 : Nat), j (18 : Nat), j (19 : Nat), j (20 : Nat), j (21 : Nat), j (22 : Nat), j (23 : Nat), j (24 : Nat), j (25 : Nat), j (26 : Nat), j (27 : Nat), j (28 : Nat), j (29 : Nat), j (30 : Nat), j (31 : Nat), j (32 : Nat), j (33 : Nat), j (34 : Nat), j (35 : Nat), j (36 : Nat), j (37 : Nat), j (38 : Nat), j (39 : Nat), j (40 : Nat), j (41 : Nat), j (42 : Nat), j (43 : Nat), j (44 : Nat), j (45 : Nat), j (46 : Nat), j (47 : Nat), j (48 : Nat), j (49 : Nat), j (50 : Nat), j (51 : Nat), j (52 : Nat), j (53 : Nat), j (54 : Nat), j (55 : Nat), j (56 : Nat), j (57 : Nat), j (58 : Nat), j (59 : Nat), j (60 : Nat), j (61 : Nat), j (62 : Nat), j (63 : Nat)], h := [List.replicate 18 row0 ++ [⟨gm, .row 1 9 (List.map strP x) true⟩] ++ List.replicate 45 row0], g := g }
theorem law08_SpanPicks_go (s : List UInt8) (k : Nat) (nl : Bool) (full : Bool) (x : List (List UInt8)) (r : PV) : FnGo E1 Tryz.f4 [strP s, .sl k nl full (List.map strP x)] r 2000 (.fork (.res (bolP true) (.hole 0)) (.fork (.res (.tup [strP (Prod.fst (cPickS s [])), bolP (Prod.fst (Prod.snd (cPickS s []))), intP (Prod.snd (Prod.snd (cPickS s [])))]) (.res (.tup [strP (Prod.fst (cPickR s x)), bolP (Prod.fst (Prod.snd (cPickR s x))), intP (Prod.snd (Prod.snd (cPickR s x)))]) (.mask (iv [(0, 0), (2, 4), (13, 63)]) []))) (.lit (.frz [strP s, .sl 1 false false (List.map strP x)] [List.replicate 18 row0 ++ [⟨5, .row 1 9 (List.map strP x) true⟩] ++ List.replicate 45 row0] (.res (.tup [strP (Prod.fst (cPickS s x)), bolP (Prod.fst (Prod.snd (cPickS s x))), intP (Prod.snd (Prod.snd (cPickS s x)))]) (.res (.tup [strP (Prod.fst (cPickR s x)), bolP (Prod.fst (Prod.snd (cPickR s x))), intP (Prod.snd (Prod.snd (cPickR s x)))]) (.mask (iv [(0, 0), (2, 4), (13, 63)]) []))))))) =
  (((decide ((↑(List.length (List.map strP x)) : Int) > (60 : Int))) = true →
 (Den E1 10 [] (bolP true)) ∧
 (bolP true) = r) ∧
 ((decide ((↑(List.length (List.map strP x)) : Int) > (60 : Int))) = false →
 (((nl = true → (List.map strP x) = [])) ∧ ((nl = false → k = 1))) ∧
 ((List.isEmpty (List.map strP x)) = true →
 (Den E1 17 [strP s, .sl 0 true true []] (.tup [strP (Prod.fst (cPickS s [])), bolP (Prod.fst (Prod.snd (cPickS s []))), intP (Prod.snd (Prod.snd (cPickS s [])))])) ∧
 (Den E1 18 [strP s, .sl k nl full (List.map strP x)] (.tup [strP (Prod.fst (cPickR s x)), bolP (Prod.fst (Prod.snd (cPickR s x))), intP (Prod.snd (Prod.snd (cPickR s x)))])) ∧
 (AtAll Tryz.f4 r 0 (law08_SpanPicks_S0 s k nl full x 0))) ∧
 ((List.isEmpty (List.map strP x)) = false →
 (((0 : Nat) = 0) ∧ ((fitsRow (List.length (List.map strP x)) (16 : Nat)) = true)) ∧
 (frzs frzDepth [strA (bs s), .msl 0 18 5 0 (List.length (List.map strP x)) false] [List.replicate 18 row0 ++ [⟨5, .row 1 9 (List.map strP x) false⟩] ++ List.replicate 45 row0] = some ([strP s, .sl 1 false false (List.map strP x)], [List.replicate 18 row0 ++ [⟨5, .row 1 9 (List.map strP x) true⟩] ++ List.replicate 45 row0])) ∧
 (Den E1 17 [strP s, .sl 1 false false (List.map strP x)] (.tup [strP (Prod.fst (cPickS s x)), bolP (Prod.fst (Prod.snd (cPickS s x))), intP (Prod.snd (Prod.snd (cPickS s x)))])) ∧
 (Den E1 18 [strP s, .sl k nl full (List.map strP x)] (.tup [strP (Prod.fst (cPickR s x)), bolP (Prod.fst (Prod.snd (cPickR s x))), intP (Prod.snd (Prod.snd (cPickR s x)))])) ∧
 (AtAll Tryz.f4 r 0 (law08_SpanPicks_S1 s k nl full x 0 5 (List.length (List.map strP x))))))) := by kernel_rfl
theorem law08_SpanPicks_go_S0 (s : List UInt8) (k : Nat) (nl : Bool) (full : Bool) (x : List (List UInt8)) (i : Int) (j : Nat → AV) (jr : Nat → Row) (g : Nat) (r : PV) : LoopGo E1 Tryz.f4 r 0 2000 (.fork (.val (strP []) (.val (strP (List.getD x (Int.toNat i) default)) (.fork (.hole 0) (.mask (iv [(0, 0), (2, 4), (13, 63)]) [])))) (.fork (.lts 4 (.fork (.lts 4 (.fork (.lit (.res (bolP true) (.lit (.hole 0)))) (.lit (.lit (.hole 0))))) (.lts 7 (.hole 0)))) (.lts 12 (.hole 0)))) (law08_SpanPicks_S0 s k nl full x i j jr g) =
  (((decide (i < (↑(List.length (List.map strP x)) : Int))) = true →
 (((0 : Int) ≤ i) ∧ ((true = false) ∧ ((0 : Nat) = 1))) ∧
 (none = some (strP [])) ∧
 (((0 : Int) ≤ i) ∧ ((nl = false) ∧ (k = 1))) ∧
 (((List.map strP x)[Int.toNat i]?) = some (strP (List.getD x (Int.toNat i) default))) ∧
 ((!ByteArray.toList (bs []) == ByteArray.toList (bs (List.getD x (Int.toNat i) default))) = true →
 (bolP false) = r) ∧
 ((!ByteArray.toList (bs []) == ByteArray.toList (bs (List.getD x (Int.toNat i) default))) = false →
 AtAll Tryz.f4 r 0 (law08_SpanPicks_S0 s k nl full x (IntKind.i64.wrap (i + (1 : Int)))))) ∧
 ((decide (i < (↑(List.length (List.map strP x)) : Int))) = false →
 ((ByteArray.toList (bs (Prod.fst (cPickS s []))) == ByteArray.toList (bs (Prod.fst (cPickR s x)))) = true →
 ((Prod.fst (Prod.snd (cPickS s [])) == Prod.fst (Prod.snd (cPickR s x))) = true →
 ((Prod.snd (Prod.snd (cPickS s [])) == Prod.snd (Prod.snd (cPickR s x))) = true →
 (Den E1 10 [] (bolP true)) ∧
 (bolP true) = r) ∧
 ((Prod.snd (Prod.snd (cPickS s [])) == Prod.snd (Prod.snd (cPickR s x))) = false →
 (bolP false) = r)) ∧
 ((Prod.fst (Prod.snd (cPickS s [])) == Prod.fst (Prod.snd (cPickR s x))) = false →
 (bolP false) = r)) ∧
 ((ByteArray.toList (bs (Prod.fst (cPickS s []))) == ByteArray.toList (bs (Prod.fst (cPickR s x)))) = false →
 (bolP false) = r))) := by kernel_rfl
theorem law08_SpanPicks_go_S1 (s : List UInt8) (k : Nat) (nl : Bool) (full : Bool) (x : List (List UInt8)) (i : Int) (gm : Nat) (n : Nat) (j : Nat → AV) (jr : Nat → Row) (g : Nat) (r : PV) : LoopGo E1 Tryz.f4 r 0 2000 (.fork (.val (strP (List.getD x ((0 : Nat) + Int.toNat i) default)) (.val (strP (List.getD x (Int.toNat i) default)) (.fork (.hole 0) (.mask (iv [(0, 0), (2, 4), (13, 63)]) [])))) (.fork (.lts 4 (.fork (.lts 4 (.fork (.lit (.res (bolP true) (.lit (.hole 0)))) (.lit (.lit (.hole 0))))) (.lts 7 (.hole 0)))) (.lts 12 (.hole 0)))) (law08_SpanPicks_S1 s k nl full x i gm n j jr g) =
  (((decide (i < (↑(List.length (List.map strP x)) : Int))) = true →
 (gm = gm) ∧
 (((0 : Int) ≤ i) ∧ ((i < (↑n : Int)) ∧ ((1 : Nat) = 1))) ∧
 (gm = gm) ∧
 (((List.map strP x)[(0 : Nat) + Int.toNat i]?) = some (strP (List.getD x ((0 : Nat) + Int.toNat i) default))) ∧
 (((0 : Int) ≤ i) ∧ ((nl = false) ∧ (k = 1))) ∧
 (((List.map strP x)[Int.toNat i]?) = some (strP (List.getD x (Int.toNat i) default))) ∧
 ((!ByteArray.toList (bs (List.getD x ((0 : Nat) + Int.toNat i) default)) == ByteArray.toList (bs (List.getD x (Int.toNat i) default))) = true →
 (bolP false) = r) ∧
 ((!ByteArray.toList (bs (List.getD x ((0 : Nat) + Int.toNat i) default)) == ByteArray.toList (bs (List.getD x (Int.toNat i) default))) = false →
 AtAll Tryz.f4 r 0 (law08_SpanPicks_S1 s k nl full x (IntKind.i64.wrap (i + (1 : Int))) gm n))) ∧
 ((decide (i < (↑(List.length (List.map strP x)) : Int))) = false →
 ((ByteArray.toList (bs (Prod.fst (cPickS s x))) == ByteArray.toList (bs (Prod.fst (cPickR s x)))) = true →
 ((Prod.fst (Prod.snd (cPickS s x)) == Prod.fst (Prod.snd (cPickR s x))) = true →
 ((Prod.snd (Prod.snd (cPickS s x)) == Prod.snd (Prod.snd (cPickR s x))) = true →
 (Den E1 10 [] (bolP true)) ∧
 (bolP true) = r) ∧
 ((Prod.snd (Prod.snd (cPickS s x)) == Prod.snd (Prod.snd (cPickR s x))) = false →
 (bolP false) = r)) ∧
 ((Prod.fst (Prod.snd (cPickS s x)) == Prod.fst (Prod.snd (cPickR s x))) = false →
 (bolP false) = r)) ∧
 ((ByteArray.toList (bs (Prod.fst (cPickS s x))) == ByteArray.toList (bs (Prod.fst (cPickR s x)))) = false →
 (bolP false) = r))) := by kernel_rfl
end Go.Proofs.YtlhfgonjcpapnaaGreatDoor.Abs

set_option maxRecDepth 20000
namespace Go.Proofs.YtlhfgonjcpapnaaGreatDoor.Abs
open Go Go.Proofs
theorem cmp_rd (a b : List UInt8) : cmpV (rdV false a) (rdV false b) = cmpV (rdV true a) (rdV true b) := by
  have h1 := n_cmpV (rdV false a) (rdV false b)
  have h2 := n_cmpV (rdV true a) (rdV true b)
  rw [← h1, ← h2, n_rdV, n_rdV]
theorem den_version_Order (a b : List UInt8) (ha : small a.length) (hb : small b.length) : Den E1 48 [strP a, strP b] (.tup [intP (cOrd a b), intP (errV (rdOk a && rdOk b))]) := by
  have h0 := version_Order_go a b (.tup [intP (cOrd a b), intP (errV (rdOk a && rdOk b))])
  rw [errV_ne, errV_ne] at h0
  refine den1 2000 _ rfl (by kernel_rfl) rfl rfl rfl (Eq.mpr h0 ⟨den_version_Read a ha, rfl, den_version_Read b hb, rfl, fun h => ?_, fun h => ⟨fun h2 => ?_, fun h2 => ⟨rfl, rfl, ?_, ?_⟩⟩⟩)
  · rw [cOrd_eq, ord0, not_eq.1 h]; rfl
  · rw [cOrd_eq, ord0, not_eq.1 h2, Bool.and_false]; rfl
  · rw [cCmp_eq]; exact den_compare _ _ (rd_ok true) (rd_ok true)
  · rw [cOrd_eq, ord0, not_eq.2 h, not_eq.2 h2, cCmp_eq]; rfl
theorem den_ref07_Order (a b : List UInt8) : Den E1 50 [strP a, strP b] (.tup [intP (cOrd a b), intP (errV (rdOk a && rdOk b))]) := by
  have h0 := ref07_Order_go a b (.tup [intP (cOrd a b), intP (errV (rdOk a && rdOk b))])
  rw [errV_ne, errV_ne] at h0
  refine den1 2000 _ rfl (by kernel_rfl) rfl rfl rfl (Eq.mpr h0 ⟨den_ref07_Read a, rfl, den_ref07_Read b, rfl, fun h => ?_, fun h => ⟨fun h2 => ?_, fun h2 => ⟨rfl, rfl, ?_, ?_⟩⟩⟩)
  · rw [cOrd_eq, ord0, not_eq.1 h]; rfl
  · rw [cOrd_eq, ord0, not_eq.1 h2, Bool.and_false]; rfl
  · rw [cCmp_eq]; exact den_ref07_Cmp _ _ (rd_ok false) (rd_ok false) (may_len (rd_may false)) (may_len (rd_may false))
  · rw [cOrd_eq, ord0, not_eq.2 h, not_eq.2 h2, cCmp_eq, cmp_rd]; rfl
theorem readR_good (s : List UInt8) : goods (readR s).1.l := by
  unfold readR
  by_cases c1 : s.length > 128
  · rw [if_pos c1]; intro x hx; simp [lf0] at hx
  · rw [if_neg c1]
    by_cases c2 : (Lib.split s orB).length > 16
    · rw [if_pos c2]; intro x hx; simp [lf0] at hx
    · rw [if_neg c2]
      cases h : readGoR (Lib.split s orB) [] with
      | none => intro x hx; simp [lf0] at hx
      | some x =>
        have hg : goods (joinR x) := joinR_all up_good (readGoR_all altR_good _ _ _ (by simp) h)
        show goods (limR (lfR (joinR x))).1.l
        unfold limR
        by_cases hl : (lfR (joinR x)).l.length > 16
        · rw [if_pos hl]; intro x hx; simp [lf0] at hx
        · rw [if_neg hl]; exact hg
abbrev resPk (p : List UInt8 × Bool × Int) : PV := .tup [strP p.1, bolP p.2.1, intP p.2.2]
section
variable (s : List UInt8) (k : Nat) (nl full : Bool) (x : List (List UInt8))
noncomputable def HS (p : List UInt8) : Bool := hasS0 (readS s).1.l (rdV true p)
noncomputable def HR (p : List UInt8) : Bool := hasR (readR s).1.l (rdV false p)
theorem cHS (p : List UInt8) : cHasS (cReadS s).1.l (rdV true p) = HS s p := by rw [cHasS_eq, cReadS_eq]; rfl
theorem cHR (p : List UInt8) : cHasR (cReadR s).1.l (rdV false p) = HR s p := by rw [cHasR_eq, cReadR_eq]; rfl
theorem den_HS (p : List UInt8) : Den E1 47 [(cReadS s).1.p, (rdV true p).p] (bolP (HS s p)) := by
  rw [cReadS_eq]
  have h := readS_is s
  exact den_has _ _ _ _ _ h.sl (by have := h.len; omega) h.ok (rd_ok true)
theorem den_HR (p : List UInt8) : Den E1 27 [(cReadR s).1.p, (rdV false p).p] (bolP (HR s p)) := by
  rw [cReadR_eq]
  have h := readR_is s
  exact den_ref08_Has _ _ _ _ _ h.sl (by have := h.len; omega) (readR_good s) (rd_ok false) (rd_may false)
theorem pick_S0 (hl : x.length < 1000000) (hsl : slOk 1 k nl x.length) (hsm : ∀ p ∈ x, small p.length) : ∀ (n i : Nat) (b : List UInt8) j jr g, i + n = x.length → small b.length →
    LoopAt E1 Tryz.f17 (resPk (pickGo (HS s) (x.drop i) b)) 0 (span_Pick_S0 s k nl full x i b j jr g) := by
  intro n
  induction n with
  | zero =>
    intro i b j jr g hi hb
    refine loop_go 2000 _ (Eq.mpr (span_Pick_go_S0 s k nl full x i b j jr g _) ⟨fun h => ?_, fun h => ?_⟩)
    · simp only [decide_eq_true_eq, List.length_map] at h; omega
    · rw [List.drop_eq_nil_of_le (by omega), pickGo, toList_bs, toList_bs]
      rfl
  | succ n ih =>
    intro i b j0 jr0 g0 hi hb
    have hil : i < x.length := by omega
    have hw1 : IntKind.wrap IntKind.i64 ((i : Int) + 1) = ((i + 1 : Nat) : Int) := wrap_i64 _ (by omega) (by omega)
    have hp := hsm _ (getD_mem hil default)
    have h0 := span_Pick_go_S0 s k nl full x i b j0 jr0 g0 (resPk (pickGo (HS s) (x.drop i) b))
    rw [Int.toNat_natCast, hw1, errV_ne, cHS s, toList_bs, toList_bs] at h0
    have hgt := getW hil
    generalize hpe : x.getD i default = p at h0 hp hgt
    have hd : x.drop i = p :: x.drop (i + 1) := by rw [drop_consW hil, hpe]
    rw [hd] at h0 ⊢
    rw [pickGo] at h0 ⊢
    refine loop_go 2000 _ (Eq.mpr h0 ⟨fun h => ⟨⟨by omega, sl_at hsl hil⟩, hgt, den_version_Read p hp, rfl, fun h1 => ?_, fun h1 => ⟨rfl, den_HS s p, fun h2 j jr g => ?_, fun h2 => ⟨den_version_Order p b hp hb, fun h3 j jr g => ?_, fun h3 => ⟨fun h4 j jr g => ?_, fun h4 j jr g => ?_⟩⟩⟩⟩, fun h => ?_⟩)
    · rw [not_eq.1 h1]; rfl
    · rw [not_eq.2 h1, not_eq.1 h2, if_pos rfl, if_neg (by simp)]
      exact ih (i + 1) b j jr g (by omega) hb
    · rw [not_eq.2 h1, not_eq.2 h2, if_pos rfl, if_pos rfl, if_pos (.inl (eq_of_beq h3))]
      exact ih (i + 1) p j jr g (by omega) hp
    · rw [cOrd_eq, decide_eq_true_eq] at h4
      rw [not_eq.2 h1, not_eq.2 h2, if_pos rfl, if_pos rfl, if_pos (.inr h4)]
      exact ih (i + 1) p j jr g (by omega) hp
    · rw [cOrd_eq, decide_eq_false_iff_not] at h4
      have hb0 : ¬ b = [] := fun e => by rw [e] at h3; simp at h3
      rw [not_eq.2 h1, not_eq.2 h2, if_pos rfl, if_pos rfl, if_neg (fun h => h.elim hb0 h4)]
      exact ih (i + 1) b j jr g (by omega) hb
    · simp only [decide_eq_false_iff_not, List.length_map] at h; omega
theorem den_span_Pick (hl : x.length < 1000000) (hsl : slOk 1 k nl x.length) (hsm : ∀ p ∈ x, small p.length) : Den E1 17 [strP s, preP k nl full x] (resPk (cPickS s x)) := by
  refine den1 2000 _ rfl (by kernel_rfl) rfl rfl rfl (Eq.mpr (span_Pick_go s k nl full x _) ⟨den_cReadS s, fun h => ?_, fun h j jr g => ?_⟩)
  · rw [cReadS_eq] at h ⊢
    rw [cPickS_eq, pickS0, if_pos h]
    try rfl
  · rw [cReadS_eq] at h
    have e : cPickS s x = pickGo (HS s) (x.drop 0) [] := by rw [cPickS_eq, pickS0, h]; rfl
    rw [e]
    exact pick_S0 s k nl full x hl hsl hsm x.length 0 [] j jr g (by omega) (by simp [small])
theorem pickR_S0 (hl : x.length < 1000000) (hsl : slOk 1 k nl x.length) : ∀ (n i : Nat) (b : List UInt8) j jr g, i + n = x.length →
    LoopAt E1 Tryz.f18 (resPk (pickGo (HR s) (x.drop i) b)) 0 (ref08_Pick_S0 s k nl full x i b j jr g) := by
  intro n
  induction n with
  | zero =>
    intro i b j jr g hi
    refine loop_go 2000 _ (Eq.mpr (ref08_Pick_go_S0 s k nl full x i b j jr g _) ⟨fun h => ?_, fun h => ?_⟩)
    · simp only [decide_eq_true_eq, List.length_map] at h; omega
    · rw [List.drop_eq_nil_of_le (by omega), pickGo, toList_bs, toList_bs]
      rfl
  | succ n ih =>
    intro i b j0 jr0 g0 hi
    have hil : i < x.length := by omega
    have hw1 : IntKind.wrap IntKind.i64 ((i : Int) + 1) = ((i + 1 : Nat) : Int) := wrap_i64 _ (by omega) (by omega)
    have h0 := ref08_Pick_go_S0 s k nl full x i b j0 jr0 g0 (resPk (pickGo (HR s) (x.drop i) b))
    rw [Int.toNat_natCast, hw1, errV_ne, cHR s, toList_bs, toList_bs] at h0
    have hgt := getW hil
    generalize hpe : x.getD i default = p at h0 hgt
    have hd : x.drop i = p :: x.drop (i + 1) := by rw [drop_consW hil, hpe]
    rw [hd] at h0 ⊢
    rw [pickGo] at h0 ⊢
    have hix : (0 : Int) ≤ (i : Int) ∧ nl = false ∧ k = 1 := ⟨by omega, sl_at hsl hil⟩
    refine loop_go 2000 _ (Eq.mpr h0 ⟨fun h => ⟨hix, hgt, den_ref07_Read p, rfl, fun h1 => ?_, fun h1 => ⟨rfl, den_HR s p, fun h2 j jr g => ?_, fun h2 => ⟨fun h3 => ⟨hix, hgt, den_ref07_Order p b, fun h4 => ⟨hix, hgt, fun j jr g => ?_⟩, fun h4 j jr g => ?_⟩, fun h3 => ⟨hix, hgt, fun j jr g => ?_⟩⟩⟩⟩, fun h => ?_⟩)
    · rw [not_eq.1 h1]; rfl
    · rw [not_eq.2 h1, not_eq.1 h2, if_pos rfl, if_neg (by simp)]
      exact ih (i + 1) b j jr g (by omega)
    · rw [cOrd_eq, decide_eq_true_eq] at h4
      rw [not_eq.2 h1, not_eq.2 h2, if_pos rfl, if_pos rfl, if_pos (.inr h4)]
      exact ih (i + 1) p j jr g (by omega)
    · rw [cOrd_eq, decide_eq_false_iff_not] at h4
      have hb0 : ¬ b = [] := fun e => by rw [e] at h3; simp at h3
      rw [not_eq.2 h1, not_eq.2 h2, if_pos rfl, if_pos rfl, if_neg (fun h => h.elim hb0 h4)]
      exact ih (i + 1) b j jr g (by omega)
    · rw [not_eq.2 h1, not_eq.2 h2, if_pos rfl, if_pos rfl, if_pos (.inl (eq_of_beq (not_eq.2 h3)))]
      exact ih (i + 1) p j jr g (by omega)
    · simp only [decide_eq_false_iff_not, List.length_map] at h; omega
theorem den_ref08_Pick (hl : x.length < 1000000) (hsl : slOk 1 k nl x.length) : Den E1 18 [strP s, preP k nl full x] (resPk (cPickR s x)) := by
  refine den1 2000 _ rfl (by kernel_rfl) rfl rfl rfl (Eq.mpr (ref08_Pick_go s k nl full x _) ⟨den_cReadR s, fun h => ?_, fun h j jr g => ?_⟩)
  · rw [cReadR_eq] at h ⊢
    rw [cPickR_eq, pickR0, if_pos h]
    try rfl
  · rw [cReadR_eq] at h
    have e : cPickR s x = pickGo (HR s) (x.drop 0) [] := by rw [cPickR_eq, pickR0, h]; rfl
    rw [e]
    exact pickR_S0 s k nl full x hl hsl x.length 0 [] j jr g (by omega)
end
end Go.Proofs.YtlhfgonjcpapnaaGreatDoor.Abs

set_option maxRecDepth 20000
namespace Go.Proofs.YtlhfgonjcpapnaaGreatDoor.Abs
open Go Go.Proofs
theorem emp_iff {x : I} : emptyI x = false ↔ (x.less = true ∨ cmpV x.lo x.hi < 0 ∨ (cmpV x.lo x.hi = 0 ∧ x.lopen = false ∧ x.hopen = false)) := by
  unfold emptyI
  cases x.less <;> cases x.lopen <;> cases x.hopen <;> simp <;> omega
theorem emp_up {x y : I} (ex : emptyI x = false) (h : highI x y < 0) : emptyI (upR x y) = false := by
  rw [emp_iff] at ex ⊢
  show y.less = true ∨ cmpV x.lo y.hi < 0 ∨ (cmpV x.lo y.hi = 0 ∧ x.lopen = false ∧ y.hopen = false)
  unfold highI at h
  cases hx : x.less with
  | true =>
    rw [hx] at h
    cases hy : y.less <;> rw [hy] at h <;> simp at h
  | false =>
    cases hy : y.less with
    | true => exact .inl rfl
    | false =>
      rw [hx, hy] at h
      rw [hx] at ex
      simp only [Bool.false_eq_true, if_false] at h
      right
      rcases ex with ex | ex | ⟨e1, e2, e3⟩
      · cases ex
      · by_cases h0 : cmpV x.hi y.hi = 0
        · exact .inl (tr_cmpV.le _ _ _ ex h0)
        · have h4 : (cmpV x.hi y.hi != 0) = true := by simpa using h0
          rw [if_pos h4] at h
          exact .inl (tr_cmpV.ll _ _ _ ex h)
      · by_cases h0 : cmpV x.hi y.hi = 0
        · have h4 : (cmpV x.hi y.hi != 0) = false := by simpa using h0
          rw [h4, e3] at h
          simp only [Bool.false_eq_true, if_false] at h
          cases hh : y.hopen <;> rw [hh] at h <;> simp [h0] at h
        · have h4 : (cmpV x.hi y.hi != 0) = true := by simpa using h0
          rw [if_pos h4] at h
          exact .inl (tr_cmpV.el _ _ _ e1 h)
theorem emp_step {out : List I} {x : I} (ho : ∀ y ∈ out, emptyI y = false) (hx : emptyI x = false) : ∀ y ∈ stepR out x, emptyI y = false := by
  unfold stepR
  split
  · intro y hy; rw [List.mem_singleton.1 hy]; exact hx
  · rename_i hne
    have hlt : out.length - 1 < out.length := by
      have : out ≠ [] := by rintro rfl; simp at hne
      have := List.length_pos_iff.2 this
      omega
    split
    · split
      · rename_i hh
        intro y hy
        rcases List.mem_or_eq_of_mem_set hy with hy | rfl
        · exact ho y hy
        · exact emp_up (ho _ (getD_mem hlt default)) hh
      · exact ho
    · intro y hy
      rcases List.mem_append.1 hy with hy | hy
      · exact ho y hy
      · rw [List.mem_singleton.1 hy]; exact hx
theorem emp_sort : ∀ (l s : List I), (∀ y ∈ s, emptyI y = false) → ∀ y ∈ sortR l s, emptyI y = false
  | [], s, h => h
  | x :: l, s, h => by
    have h1 : sortR (x :: l) s = sortR l (if emptyI x then s else insR s x) := rfl
    rw [h1]
    refine emp_sort l _ ?_
    cases he : emptyI x with
    | true => exact h
    | false =>
      intro y hy
      rcases mem_insR hy with hy | rfl
      · exact h y hy
      · exact he
theorem emp_join (l : List I) : ∀ y ∈ joinR l, emptyI y = false := by
  have : ∀ (l out : List I), (∀ x ∈ l, emptyI x = false) → (∀ y ∈ out, emptyI y = false) → ∀ y ∈ l.foldl stepR out, emptyI y = false := by
    intro l
    induction l with
    | nil => intro out _ h; exact h
    | cons x l ih => intro out h1 h2; exact ih _ (fun y hy => h1 y (List.mem_cons_of_mem _ hy)) (emp_step h2 (h1 x (List.mem_cons_self ..)))
  unfold joinR
  exact this _ [] (emp_sort l [] (by simp)) (by simp)
theorem readR_emp (s : List UInt8) : ∀ y ∈ (readR s).1.l, emptyI y = false := by
  unfold readR
  by_cases c1 : s.length > 128
  · rw [if_pos c1]; intro x hx; simp [lf0] at hx
  · rw [if_neg c1]
    by_cases c2 : (Lib.split s orB).length > 16
    · rw [if_pos c2]; intro x hx; simp [lf0] at hx
    · rw [if_neg c2]
      cases h : readGoR (Lib.split s orB) [] with
      | none => intro x hx; simp [lf0] at hx
      | some x =>
        show ∀ y ∈ (limR (lfR (joinR x))).1.l, emptyI y = false
        unfold limR
        by_cases hl : (lfR (joinR x)).l.length > 16
        · rw [if_pos hl]; intro x hx; simp [lf0] at hx
        · rw [if_neg hl]; exact emp_join x
theorem n_inI {x y : I} {v w : V} (h : nI x = nI y) (hv : nV v = nV w) : inI x v = inI y w := by
  have e : ∀ (x : I) (v : V), inI x v = inI (nI x) (nV v) := fun _ _ => rfl
  rw [e x v, e y w, h, hv]
theorem n_any : ∀ {l m : List I} {v w : V}, l.map nI = m.map nI → nV v = nV w → (l.any fun x => inI x v) = m.any fun x => inI x w
  | [], [], _, _, _, _ => rfl
  | x :: l, y :: m, v, w, h, hv => by
    rw [List.map_cons, List.map_cons] at h
    injection h with h1 h2
    rw [List.any_cons, List.any_cons, n_inI h1 hv, n_any h2 hv]
  | [], _ :: _, _, _, h, _ => by simp at h
  | _ :: _, [], _, _, h, _ => by simp at h
theorem has_of {l : List I} {v : V} (hg : goods l) (he : ∀ y ∈ l, emptyI y = false) (hv : mayV v = true) : hasR l v = l.any fun x => inI x v := by
  rw [hasR_eq]
  induction l with
  | nil => rfl
  | cons x l ih =>
    have h1 := hg x (List.mem_cons_self ..)
    rw [List.any_cons, List.any_cons, meet_one h1.lo h1.hi hv (he x (List.mem_cons_self ..)), ih (fun y hy => hg y (List.mem_cons_of_mem _ hy)) (fun y hy => he y (List.mem_cons_of_mem _ hy))]
theorem has_rd (s p : List UInt8) : HS s p = HR s p := by
  unfold HS HR hasS0
  rw [has_of (readR_good s) (readR_emp s) (rd_may false)]
  exact n_any (read_same s).1 (n_rdV p)
theorem pick_same (s : List UInt8) (l : List (List UInt8)) : pickS0 s l = pickR0 s l := by
  have h2 := (read_same s).2
  have hf : (fun p => hasS0 (readS s).1.l (rdV true p)) = fun p => hasR (readR s).1.l (rdV false p) := by
    funext p; exact has_rd s p
  unfold pickS0 pickR0
  rw [h2, hf]
theorem pick_eq (s : List UInt8) (l : List (List UInt8)) : cPickS s l = cPickR s l := by rw [cPickS_eq, cPickR_eq, pick_same]
theorem frzs_pmsl {h h1 : Heap} {d s g n k : Nat} {full fz : Bool} {e : TypeId} {xs : List PV} {p : PV} (hb : hget h d s = ⟨g, .row k e xs fz⟩) (hn : xs.length = n) (hm : marks [(d, s)] h = h1) : frzs frzDepth [.pv p, .msl d s g 0 n full] h = some ([p, .sl k false full xs], h1) := by
  have h2 := pk_msl (m := 7) (full := full) hb hn
  have h3 : pk h 8 (.pv p) = some (p, []) := rfl
  show (pks (pk h 8) [.pv p, .msl d s g 0 n full]).map _ = _
  simp only [pks, h2, h3, Option.bind_some, Option.map_some, List.append_nil, List.nil_append, hm]
section
variable (s : List UInt8) (k : Nat) (nl full : Bool) (x : List (List UInt8))
theorem law_S1 (hl : x.length < 1000000) (hsl : slOk 1 k nl x.length) : ∀ (n i : Nat) (gm : Nat) j jr g, i + n = x.length →
    LoopAt E1 Tryz.f4 (bolP true) 0 (law08_SpanPicks_S1 s k nl full x i gm x.length j jr g) := by
  have hp := pick_eq s x
  intro n
  induction n with
  | zero =>
    intro i gm j jr g hi
    refine loop_go 2000 _ (Eq.mpr (law08_SpanPicks_go_S1 s k nl full x i gm x.length j jr g _) ⟨fun h => ?_, fun h => ⟨fun _ => ⟨fun _ => ⟨fun _ => ⟨den_alive, rfl⟩, fun h => ?_⟩, fun h => ?_⟩, fun h => ?_⟩⟩)
    · simp only [decide_eq_true_eq, List.length_map] at h; omega
    all_goals rw [hp, beq_self_eq_true] at h
    all_goals cases h
  | succ n ih =>
    intro i gm j jr g hi
    have hil : i < x.length := by omega
    have hw1 : IntKind.wrap IntKind.i64 ((i : Int) + 1) = ((i + 1 : Nat) : Int) := wrap_i64 _ (by omega) (by omega)
    have h0 := law08_SpanPicks_go_S1 s k nl full x i gm x.length j jr g (bolP true)
    rw [Int.toNat_natCast, Nat.zero_add, hw1, beq_self_eq_true] at h0
    refine loop_go 2000 _ (Eq.mpr h0 ⟨fun h => ⟨rfl, ⟨by omega, by omega, rfl⟩, rfl, getW hil, ⟨by omega, sl_at hsl hil⟩, getW hil, fun h => (by cases h), fun _ j jr g => ih (i + 1) gm j jr g (by omega)⟩, fun h => ?_⟩)
    simp only [decide_eq_false_iff_not, List.length_map] at h; omega
theorem den_SpanPicks (hsl : slOk 1 k nl x.length) (hlx : x.length * 16 ≤ Go.reachBytes) (hsm : ∀ p ∈ x, small p.length) : Den E1 4 [strP s, preP k nl full x] (bolP true) := by
  have hp := pick_eq s x
  refine den1 2000 _ rfl (by kernel_rfl) rfl rfl rfl (Eq.mpr (law08_SpanPicks_go s k nl full x _) ⟨fun h => ⟨den_alive, rfl⟩, fun h => ?_⟩)
  simp only [decide_eq_false_iff_not, List.length_map] at h
  have hl : x.length ≤ 60 := by omega
  refine ⟨⟨fun h => by have := hsl.1 h; rw [List.length_eq_zero_iff.1 this]; rfl, hsl.2⟩, fun h2 => ?_, fun h2 => ⟨⟨rfl, by rw [List.length_map]; exact fits_small (by omega)⟩, frzs_pmsl rfl (by simp) rfl, den_span_Pick s 1 false false x (by omega) ⟨(by simp), fun _ => rfl⟩ hsm, den_ref08_Pick s k nl full x (by omega) hsl, fun j jr g => ?_⟩⟩
  · have hx : x = [] := by simpa using h2
    subst hx
    refine ⟨den_span_Pick s 0 true true [] (by simp) ⟨fun _ => rfl, (by simp)⟩ (by simp), den_ref08_Pick s k nl full [] (by simp) hsl, fun j jr g => ?_⟩
    refine loop_go 2000 _ (Eq.mpr (law08_SpanPicks_go_S0 s k nl full [] 0 j jr g _) ⟨fun h => ?_, fun h => ⟨fun _ => ⟨fun _ => ⟨fun _ => ⟨den_alive, rfl⟩, fun h => ?_⟩, fun h => ?_⟩, fun h => ?_⟩⟩)
    · simp at h
    all_goals rw [hp, beq_self_eq_true] at h
    all_goals cases h
  · rw [List.length_map]
    exact law_S1 s k nl full x (by omega) hsl x.length 0 5 j jr g (by omega)
end
end Go.Proofs.YtlhfgonjcpapnaaGreatDoor.Abs

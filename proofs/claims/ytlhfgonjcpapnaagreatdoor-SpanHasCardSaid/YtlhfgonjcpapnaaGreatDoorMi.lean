/-
  From the form's reading of arguments to the machine's values, and from a law of values to its row. Conditions: none.
-/
import Derived.Test.YtlhfgonjcpapnaaGreatDoorMc
import Derived.Test.YtlhfgonjcpapnaaGreatDoorMd
import Derived.Deep.Slices
import Derived.SizedLaws
import Derived.Test.YtlhfgonjcpapnaaGreatDoorMg
import Derived.Test.YtlhfgonjcpapnaaGreatDoorMl
import Derived.Test.YtlhfgonjcpapnaaGreatDoorRows
import Derived.ProofKit
import Derived.Stop.LaidErr
import Derived.MakeChecks
import Derived.Shelf.Vars

set_option linter.all false
set_option linter.unnecessarySimpa false

/- What the form's reading of an argument says, in the values of the machine. -/
set_option linter.unusedVariables false
set_option linter.unusedSimpArgs false
namespace Go.Proofs.YtlhfgonjcpapnaaGreatDoor.Abs
open Go Go.Proofs

inductive F2 (I : Blk) (w : World) : List PV → List Value → Prop
  | nil : F2 I w [] []
  | cons {p : PV} {v : Value} {ps : List PV} {vs : List Value} (h : PRep I w p v) (h1 : v.oneCell' = true) (r : F2 I w ps vs) : F2 I w (p :: ps) (v :: vs)
theorem F2.length {I : Blk} {w : World} {ps : List PV} {vs : List Value} (h : F2 I w ps vs) : ps.length = vs.length := by
  induction h with
  | nil => rfl
  | cons _ _ _ ih => simp [ih]
theorem F2.get {I : Blk} {w : World} {ps : List PV} {vs : List Value} (h : F2 I w ps vs) : ∀ {j : Nat} {p : PV} {v : Value}, ps[j]? = some p → vs[j]? = some v → PRep I w p v ∧ v.oneCell' = true := by
  induction h with
  | nil => intro j p v hp; simp at hp
  | cons a b r ih =>
    intro j p v hp hv
    cases j with
    | zero => simp only [List.getElem?_cons_zero, Option.some.injEq] at hp hv; subst hp; subst hv; exact ⟨a, b⟩
    | succ j => simp only [List.getElem?_cons_succ] at hp hv; exact ih hp hv
theorem F2.append {I : Blk} {w : World} {ps qs : List PV} {vs us : List Value} (h : F2 I w ps vs) (k : F2 I w qs us) : F2 I w (ps ++ qs) (vs ++ us) := by
  induction h with
  | nil => exact k
  | cons a b r ih => exact .cons a b ih

def isSt (P : Program) (t : TypeId) : Bool := match P.underlying t with
  | some (.struct _) => true
  | _ => false
def mkE (st : Bool) (cs : List PV) : PV := if st then .agg cs else cs.headD default
def wellF (W : TypeId → List PV → Prop) : List Field → List PV → Prop
  | [], r => r = []
  | f :: fs, r => ∃ a b, r = a ++ b ∧ W f.type a ∧ wellF W fs b
/-- what the cells of a value of this type may be -/
def wellP (P : Program) : Nat → TypeId → List PV → Prop
  | 0, _, _ => False
  | n + 1, t, cs => match P.underlying t with
    | some .bool => ∃ b, cs = [.lit (.bool b)]
    | some (.int k) => ∃ x, cs = [.lit (.int k x)] ∧ (Lit.int k x).wf = true
    | some .string => ∃ s : ByteArray, cs = [.lit (.string s)] ∧ s.size ≤ reachBytes
    | some (.slice e) => ∃ (k : Nat) (nl : Bool) (rs : List (List PV)), cs = [.sl k nl false (rs.map (mkE (isSt P e)))] ∧ slOk (P.cellsOf e) k nl rs.length ∧ rs.length * P.bytesOf e ≤ reachBytes ∧ ∀ r ∈ rs, wellP P n e r
    | some (.struct fs) => wellF (wellP P n) fs.toList cs
    | _ => False
def contigB (P : Program) : List Field → Nat → Nat → Bool
  | [], o, n => o == n
  | f :: fs, o, n => (f.offset == o) && contigB P fs (o + P.cellsOf f.type) n
/-- types of numbers, strings, slices and structs alone -/
def plainT (P : Program) : Nat → TypeId → Bool
  | 0, _ => false
  | m + 1, t => match P.underlying t with
    | some .bool | some (.int _) | some .string => P.cellsOf t == 1
    | some (.slice e) => P.cellsOf t == 1 && plainT P m e && decide (0 < P.cellsOf e)
    | some (.struct fs) => contigB P fs.toList 0 (P.cellsOf t) && fs.toList.all (fun f => plainT P m f.type)
    | _ => false

theorem wa_mem {H : Type} {P : Program} {e : TypeId} : ∀ {l : List (DataW H)} {d : DataW H} {n : Nat}, d ∈ l → n ∈ d.weights P e → n ∈ DataW.weightsAll P e l
  | x :: l, d, n, hd, hn => by
    simp only [DataW.weightsAll, List.mem_append]
    cases List.mem_cons.1 hd with
    | inl h => subst h; exact .inl hn
    | inr h => exact .inr (wa_mem h hn)
theorem well_one {P : Program} {n : Nat} {t : TypeId} {r : List PV} (hs : isSt P t = false) (h : wellP P n t r) : ∃ p, r = [p] ∧ p.cells = [p] ∧ p.ok = true := by
  cases n with
  | zero => exact h.elim
  | succ n =>
    unfold wellP at h
    unfold isSt at hs
    split at h
    · obtain ⟨b, rfl⟩ := h; exact ⟨_, rfl, rfl, rfl⟩
    · obtain ⟨b, rfl, _⟩ := h; exact ⟨_, rfl, rfl, rfl⟩
    · obtain ⟨b, rfl, _⟩ := h; exact ⟨_, rfl, rfl, rfl⟩
    · obtain ⟨k, nl, rs, rfl, _⟩ := h; exact ⟨_, rfl, rfl, rfl⟩
    · rename_i he; rw [he] at hs; cases hs
    · exact h.elim
theorem mkE_cells {P : Program} {n : Nat} {t : TypeId} {r : List PV} (h : wellP P n t r) : (mkE (isSt P t) r).cells = r ∧ (mkE (isSt P t) r).ok = true := by
  unfold mkE
  cases hs : isSt P t with
  | true => exact ⟨rfl, rfl⟩
  | false =>
    obtain ⟨p, rfl, h1, h2⟩ := well_one hs h
    exact ⟨h1, h2⟩
theorem list_of {α : Type} {q : Nat → α → Prop} : ∀ n, (∀ i, i < n → ∃ x, q i x) → ∃ l : List α, l.length = n ∧ ∀ i (h : i < l.length), q i l[i]
  | 0, _ => ⟨[], rfl, fun i h => absurd h (Nat.not_lt_zero _)⟩
  | n + 1, h => by
    obtain ⟨l, hl, hq⟩ := list_of n (fun i hi => h i (Nat.lt_succ_of_lt hi))
    obtain ⟨x, hx⟩ := h n (Nat.lt_succ_self n)
    refine ⟨l ++ [x], by simp [hl], fun i hi => ?_⟩
    by_cases hc : i < l.length
    · rw [List.getElem_append_left hc]; exact hq i hc
    · have : i = n := by simp at hi; omega
      subst this
      rw [List.getElem_append_right (by omega)]
      simpa [hl] using hx
theorem add_add (a : Addr) (i j : Nat) : (a.add i).add j = a.add (i + j) := by
  unfold Addr.add
  by_cases hi : i = 0 <;> by_cases hj : j = 0 <;> simp [hi, hj, Nat.add_assoc]
theorem cell_spot {w : World} {a : Addr} {v : Value} (h : w.cell? a = some v) : a.spot = none ∧ ∃ e n, w.shape? a.block = some (e, n) := by
  unfold World.cell? at h
  split at h
  · rename_i c t f hb
    split at h
    · cases h
    · rename_i hs
      refine ⟨by simpa using hs, t, c.size, ?_⟩
      unfold World.shape?
      rw [hb]
  · cases h
section
variable {H : Type} {enc : TypeId × Value → H} {P : Program} {w : World} {I : Blk} {held : Bool}
theorem fields_of {total : Nat} {cs : List Value} (hcs : cs.length = total) {W : TypeId → List PV → Prop} : ∀ (fs : List Field) (o : Nat), contigB P fs o total = true → o ≤ total →
    (∀ f ∈ fs, ∃ ps, W f.type ps ∧ F2 I w ps ((cs.drop f.offset).take (P.cellsOf f.type))) → ∃ ps, wellF W fs ps ∧ F2 I w ps (cs.drop o)
  | [], o, hc, _, _ => by
    simp only [contigB, beq_iff_eq] at hc
    rw [List.drop_of_length_le (by omega)]
    exact ⟨[], rfl, .nil⟩
  | f :: fs, o, hc, ho, h => by
    simp only [contigB, Bool.and_eq_true, beq_iff_eq] at hc
    obtain ⟨h1, h2⟩ := hc
    obtain ⟨a, ha, hfa⟩ := h f (by simp)
    rw [h1] at hfa
    have hle : o + P.cellsOf f.type ≤ total := by
      have : ∀ (fs : List Field) (o : Nat), contigB P fs o total = true → o ≤ total := by
        intro fs
        induction fs with
        | nil => intro o h; simp only [contigB, beq_iff_eq] at h; omega
        | cons g gs ih => intro o h; simp only [contigB, Bool.and_eq_true, beq_iff_eq] at h; have := ih _ h.2; omega
      exact this _ _ h2
    obtain ⟨b, hb, hfb⟩ := fields_of hcs fs (o + P.cellsOf f.type) h2 hle (fun g hg => h g (by simp [hg]))
    refine ⟨a ++ b, ⟨a, b, rfl, ha, hb⟩, ?_⟩
    have e : cs.drop o = (cs.drop o).take (P.cellsOf f.type) ++ cs.drop (o + P.cellsOf f.type) := by
      rw [← List.drop_drop, List.take_append_drop]
    rw [e]
    exact hfa.append hfb
theorem of_trod (hI : ∀ b e n, w.shape? b = some (e, n) → I b) : ∀ (fuel : Nat) (t : TypeId) (cs : List Value) (x : DataW H × List MemPlace) (m : Nat), DataW.trod enc P w 0 (fun _ => true) held fuel t cs = some x → plainT P m t = true →
    (∀ n ∈ x.1.weights P t, n ≤ reachBytes) → ∃ ps, wellP P fuel t ps ∧ F2 I w ps cs := by
  intro fuel
  induction fuel with
  | zero => intro t cs x m h; simp [DataW.trod] at h
  | succ fuel ih =>
    intro t cs x m h hp hw
    cases m with
    | zero => simp [plainT] at hp
    | succ m =>
      unfold plainT at hp
      unfold wellP
      split at hp
      · rename_i ht
        obtain ⟨b, rfl, rfl⟩ := DataW.trod_bool ht h
        exact ⟨_, ⟨b, rfl⟩, .cons (.lit _) rfl .nil⟩
      · rename_i k ht
        obtain ⟨b, rfl, rfl, hb⟩ := DataW.trod_int ht h
        exact ⟨_, ⟨b, rfl, hb⟩, .cons (.lit _) rfl .nil⟩
      · rename_i ht
        obtain ⟨s, rfl, rfl, _⟩ := DataW.trod_string ht h
        exact ⟨_, ⟨s, rfl, by
          have h1 := hw s.data.toList.length (by simp only [DataW.weights, List.mem_singleton])
          rw [Array.length_toList] at h1
          exact h1⟩, .cons (.lit _) rfl .nil⟩
      · rename_i e ht
        simp only [Bool.and_eq_true, beq_iff_eq, decide_eq_true_eq] at hp
        obtain ⟨⟨_, hp2⟩, hp3⟩ := hp
        rcases DataW.trod_slice ht h with ⟨rfl, rfl⟩ | ⟨a, len, cap, elems, rest, n, hn, rfl, rfl, _, hlen, hmax, hel, hx, _, _⟩
        · exact ⟨_, ⟨0, true, [], rfl, ⟨fun _ => rfl, fun e => Bool.noConfusion e⟩, by simp, fun r hr => absurd hr (List.not_mem_nil)⟩, .cons (.nil 0 false) rfl .nil⟩
        · obtain rfl : fuel = n := by omega
          have hwt := hw
          simp only [DataW.weights, ht, List.mem_cons, List.length_map] at hwt
          have hsz := hwt _ (.inl rfl)
          obtain ⟨rs, hrs, hq⟩ := list_of (q := fun i r => wellP P fuel e r ∧ ∃ cs', w.cells? 0 (a.add (i * P.cellsOf e)) (P.cellsOf e) = some cs' ∧ F2 I w r cs') len (fun i hi => by
            have h12 := hx i (by omega)
            rw [List.getElem?_eq_getElem (by omega)] at h12
            obtain ⟨cs', h1, h2⟩ := Option.bind_eq_some_iff.1 h12
            obtain ⟨ps, hps, hf⟩ := ih e cs' _ m h2 hp2 (fun k hk => hwt k (.inr (List.mem_append_left _ (wa_mem (List.mem_map.2 ⟨_, List.getElem_mem _, rfl⟩) hk))))
            exact ⟨ps, hps, cs', h1, hf⟩)
          have hlen2 : rs.length * P.bytesOf e ≤ reachBytes := by
            refine Nat.le_trans (Nat.mul_le_mul_right _ ?_) hsz
            omega
          have hwell : ∀ r ∈ rs, wellP P fuel e r := fun r hr => by
            obtain ⟨i, hi, rfl⟩ := List.getElem_of_mem hr
            exact (hq i hi).1
          refine ⟨_, ⟨P.cellsOf e, false, rs, rfl, ⟨fun e => Bool.noConfusion e, fun _ => rfl⟩, hlen2, hwell⟩, .cons ?_ rfl .nil⟩
          by_cases h0 : len = 0
          · have : rs = [] := List.length_eq_zero_iff.1 (by omega)
            subst this; subst h0
            exact .emp _ _ _ _ (fun e => Bool.noConfusion e)
          · have hget : ∀ (i : Nat) (x : PV), (rs.map (mkE (isSt P e)))[i]? = some x → ∃ hi : i < rs.length, x.cells = rs[i] := fun i x hx => by
              rw [List.getElem?_map] at hx
              obtain ⟨r, hr, rfl⟩ := Option.map_eq_some_iff.1 hx
              obtain ⟨hi, rfl⟩ := List.getElem?_eq_some_iff.1 hr
              exact ⟨hi, (mkE_cells (hq i hi).1).1⟩
            have hcell : ∀ (i j : Nat) (p : PV) (hi : i < rs.length), rs[i][j]? = some p → ∃ v, w.cell? (a.add (i * P.cellsOf e + j)) = some v ∧ v.oneCell' = true ∧ PRep I w p v := fun i j p hi hp => by
              obtain ⟨_, cs', h1, hf⟩ := hq i hi
              obtain ⟨_, hl, hc⟩ := World.cells?_some h1
              have hj : j < cs'.length := by rw [← hf.length]; exact (List.getElem?_eq_some_iff.1 hp).1
              have hv : cs'[j]? = some cs'[j] := List.getElem?_eq_getElem hj
              obtain ⟨h3, h4⟩ := hf.get hp hv
              have := hc j (by omega)
              rw [add_add, hv] at this
              exact ⟨_, this, h4, h3⟩
            have hk : a.spot = none ∧ I a.block := by
              obtain ⟨_, cs', h1, hf⟩ := hq 0 (by omega)
              obtain ⟨_, hl, hc⟩ := World.cells?_some h1
              have := hc 0 hp3
              rw [List.getElem?_eq_getElem (by omega)] at this
              obtain ⟨h5, e', n', h6⟩ := cell_spot this
              have ea : ((a.add (0 * P.cellsOf e)).add 0) = a := by unfold Addr.add; simp
              rw [ea] at h5 h6
              exact ⟨h5, hI _ _ _ h6⟩
            obtain ⟨b, o, sp⟩ := a
            obtain ⟨rfl, hIb⟩ := hk
            have hadd : ∀ n, (⟨b, o, none⟩ : Addr).add n = ⟨b, o + n, none⟩ := fun n => by
              unfold Addr.add
              by_cases hn : n = 0
              · subst hn; simp
              · simp [hn]
            have hc2 : ∀ (i : Nat) (x : PV), (rs.map (mkE (isSt P e)))[i]? = some x → ∀ (j : Nat) (p : PV), x.cells[j]? = some p →
                ∃ v, w.cell? ⟨b, o + i * P.cellsOf e + j, none⟩ = some v ∧ v.oneCell' = true ∧ PRep I w p v := fun i x hx j p hp => by
              obtain ⟨hi, e1⟩ := hget i x hx
              rw [e1] at hp
              obtain ⟨v, h1, h2, h3⟩ := hcell i j p hi hp
              rw [hadd, ← Nat.add_assoc] at h1
              exact ⟨v, h1, h2, h3⟩
            have hlm : (rs.map (mkE (isSt P e))).length = len := by simp [hrs]
            rw [← hlm]
            refine .sl _ _ _ b o cap (fun i j => (w.cell? ⟨b, o + i * P.cellsOf e + j, none⟩).getD default) (by omega) (fun e => Bool.noConfusion e) hIb (fun x hx => ?_) (fun i x hx j p hp => ?_) (fun i x hx j p hp => ?_)
            · obtain ⟨r, hr, rfl⟩ := List.mem_map.1 hx
              obtain ⟨i, hi, rfl⟩ := List.getElem_of_mem hr
              obtain ⟨h3, cs', h1, hf⟩ := hq i hi
              obtain ⟨_, hl, _⟩ := World.cells?_some h1
              refine ⟨?_, (mkE_cells h3).2⟩
              rw [(mkE_cells h3).1, hf.length, hl]
            · obtain ⟨v, h1, h2, h3⟩ := hc2 i x hx j p hp
              simp only [h1, Option.getD_some]
              exact ⟨trivial, h2⟩
            · obtain ⟨v, h1, h2, h3⟩ := hc2 i x hx j p hp
              simp only [h1, Option.getD_some]
              exact h3
      · rename_i fs ht
        simp only [Bool.and_eq_true, List.all_eq_true] at hp
        obtain ⟨xs, n, hn, rfl, hl, hxl, hf⟩ := DataW.trod_struct ht h
        obtain rfl : fuel = n := by omega
        have hwf : ∀ (fl : List Field) (l : List (DataW H)) (i : Nat) (f : Field) (d : DataW H) (k : Nat), fl[i]? = some f → l[i]? = some d → k ∈ d.weights P f.type → k ∈ DataW.weightsEach P (fl.map (·.type)) l := by
          intro fl l i f d k h1 h2 h3
          exact DataW.weights_mem_each (j := i) (t := f.type) (by simp [h1]) h2 k h3
        obtain ⟨ps, h1, h2⟩ := fields_of (I := I) (w := w) hl fs.toList 0 hp.1 (by omega) (W := wellP P fuel) (fun f hfm => by
          obtain ⟨i, hi, rfl⟩ := List.getElem_of_mem hfm
          have hfi : fs[i]? = some fs.toList[i] := by simp at hi ⊢
          have hx := hf i _ hfi
          have hi' : i < xs.length := by rw [hxl]; simpa using hi
          rw [List.getElem?_eq_getElem hi'] at hx
          obtain ⟨ps, hps, hf2⟩ := ih _ _ _ m hx (hp.2 _ hfm) (fun k hk => hw k (by
            simp only [DataW.weights, ht]
            exact hwf fs.toList (xs.map (·.1)) i _ _ k (List.getElem?_eq_getElem hi) (by simp [hi']) hk))
          exact ⟨ps, hps, hf2⟩)
        exact ⟨ps, h1, by simpa using h2⟩
      · cases hp
end
theorem well_bool0 {P : Program} {n : Nat} {t : TypeId} {cs : List PV} (ht : P.underlying t = some .bool) (h : wellP P n t cs) : ∃ b, cs = [.lit (.bool b)] := by
  cases n with
  | zero => exact h.elim
  | succ n => unfold wellP at h; rw [ht] at h; exact h
theorem well_int0 {P : Program} {n : Nat} {t : TypeId} {k : IntKind} {cs : List PV} (ht : P.underlying t = some (.int k)) (h : wellP P n t cs) : ∃ x, cs = [.lit (.int k x)] ∧ (Lit.int k x).wf = true := by
  cases n with
  | zero => exact h.elim
  | succ n => unfold wellP at h; rw [ht] at h; exact h
theorem well_str0 {P : Program} {n : Nat} {t : TypeId} {cs : List PV} (ht : P.underlying t = some .string) (h : wellP P n t cs) : ∃ s : ByteArray, cs = [.lit (.string s)] ∧ s.size ≤ reachBytes := by
  cases n with
  | zero => exact h.elim
  | succ n => unfold wellP at h; rw [ht] at h; exact h
theorem well_sl0 {P : Program} {n : Nat} {t e : TypeId} {cs : List PV} (ht : P.underlying t = some (.slice e)) (h : wellP P n t cs) :
    ∃ (m k : Nat) (nl : Bool) (rs : List (List PV)), cs = [.sl k nl false (rs.map (mkE (isSt P e)))] ∧ slOk (P.cellsOf e) k nl rs.length ∧ rs.length * P.bytesOf e ≤ reachBytes ∧ ∀ r ∈ rs, wellP P m e r := by
  cases n with
  | zero => exact h.elim
  | succ n => unfold wellP at h; rw [ht] at h; exact ⟨n, h⟩
theorem well_st0 {P : Program} {n : Nat} {t : TypeId} {fs : Array Field} {cs : List PV} (ht : P.underlying t = some (.struct fs)) (h : wellP P n t cs) : ∃ m, wellF (wellP P m) fs.toList cs := by
  cases n with
  | zero => exact h.elim
  | succ n => unfold wellP at h; rw [ht] at h; exact ⟨n, h⟩
theorem isSt_of {P : Program} {t : TypeId} {fs : Array Field} (ht : P.underlying t = some (.struct fs)) : isSt P t = true := by unfold isSt; rw [ht]
theorem isSt_str {P : Program} {t : TypeId} (ht : P.underlying t = some .string) : isSt P t = false := by unfold isSt; rw [ht]
end Go.Proofs.YtlhfgonjcpapnaaGreatDoor.Abs

/- What a value of the program's own types is: strings, versions, intervals, spans. -/
set_option linter.unusedVariables false
set_option linter.unusedSimpArgs false
namespace Go.Proofs.YtlhfgonjcpapnaaGreatDoor.Abs
open Go Go.Proofs

theorem reach_small {n : Nat} (h : n ≤ reachBytes) : small n := by
  have := reachBytes_lt
  unfold small
  omega
theorem well_bool {n : Nat} {r : List PV} (h : wellP Tryz.prog n 4 r) : ∃ b, r = [bolP b] := by
  exact well_bool0 Tryz.underlying4 h
theorem well_u32 {n : Nat} {r : List PV} (h : wellP Tryz.prog n 46 r) : ∃ x, r = [.lit (.int .u32 x)] ∧ u32 x := by
  have h := well_int0 Tryz.underlying46 h
  obtain ⟨x, h1, h2⟩ := h
  refine ⟨x, h1, ?_⟩
  simp [Lit.wf] at h2
  have e1 : IntKind.u32.min = 0 := rfl
  have e2 : IntKind.u32.max = 4294967295 := rfl
  rw [e1, e2] at h2
  unfold u32
  omega
theorem well_str {n : Nat} {r : List PV} (h : wellP Tryz.prog n 9 r) : ∃ s : List UInt8, r = [strP s] ∧ s.length ≤ reachBytes := by
  have h := well_str0 Tryz.underlying9 h
  obtain ⟨s, h1, h2⟩ := h
  refine ⟨s.data.toList, h1, ?_⟩
  rw [Array.length_toList]
  exact h2
theorem well_strs {n : Nat} {r : List PV} (h : wellP Tryz.prog n 33 r) : ∃ k nl l, r = [preP k nl false l] ∧ slOk 1 k nl l.length ∧ l.length * 16 ≤ reachBytes ∧ ∀ s ∈ l, s.length ≤ reachBytes := by
  obtain ⟨n, h⟩ := well_sl0 Tryz.underlying33 h
  obtain ⟨k, nl, rs, rfl, h1, h2, h3⟩ := h
  have hc : Tryz.prog.cellsOf 9 = 1 := by kernel_rfl
  have hb : Tryz.prog.bytesOf 9 = 16 := by kernel_rfl
  have hs : isSt Tryz.prog 9 = false := isSt_str Tryz.underlying9
  rw [hc] at h1
  rw [hb] at h2
  rw [hs]
  have hx : ∀ rs : List (List PV), (∀ r ∈ rs, wellP Tryz.prog n 9 r) → ∃ l : List (List UInt8), rs.map (mkE false) = l.map strP ∧ l.length = rs.length ∧ ∀ s ∈ l, s.length ≤ reachBytes := by
    intro rs
    induction rs with
    | nil => intro _; exact ⟨[], rfl, rfl, fun s hs => absurd hs List.not_mem_nil⟩
    | cons r rs ih =>
      intro h
      obtain ⟨s, h1, h2⟩ := well_str (h r (by simp))
      obtain ⟨l, h3, h4, h5⟩ := ih (fun r hr => h r (by simp [hr]))
      refine ⟨s :: l, ?_, by simp [h4], fun t ht => ?_⟩
      · rw [List.map_cons, List.map_cons, h3, h1]; rfl
      · cases List.mem_cons.1 ht with
        | inl e => rw [e]; exact h2
        | inr e => exact h5 t e
  obtain ⟨l, h4, h5, h6⟩ := hx rs h3
  refine ⟨k, nl, l, ?_, ?_, ?_, h6⟩
  · rw [h4]
  · rw [h5]; exact h1
  · rw [h5]; exact h2
theorem wellF4 {W : TypeId → List PV → Prop} {a b c d : Field} {r : List PV} (h : wellF W [a, b, c, d] r) : ∃ w x y z, r = w ++ (x ++ (y ++ z)) ∧ W a.type w ∧ W b.type x ∧ W c.type y ∧ W d.type z := by
  obtain ⟨w, _, rfl, h1, x, _, rfl, h2, y, _, rfl, h3, z, _, rfl, h4, rfl⟩ := h
  exact ⟨w, x, y, z, by simp, h1, h2, h3, h4⟩
theorem wellF3 {W : TypeId → List PV → Prop} {a b c : Field} {r : List PV} (h : wellF W [a, b, c] r) : ∃ w x y, r = w ++ (x ++ y) ∧ W a.type w ∧ W b.type x ∧ W c.type y := by
  obtain ⟨w, _, rfl, h1, x, _, rfl, h2, y, _, rfl, h3, rfl⟩ := h
  exact ⟨w, x, y, by simp, h1, h2, h3⟩
theorem wellF2 {W : TypeId → List PV → Prop} {a b : Field} {r : List PV} (h : wellF W [a, b] r) : ∃ w x, r = w ++ x ∧ W a.type w ∧ W b.type x := by
  obtain ⟨w, _, rfl, h1, x, _, rfl, h2, rfl⟩ := h
  exact ⟨w, x, by simp, h1, h2⟩
theorem well_ver {n : Nat} {r : List PV} (h : wellP Tryz.prog n 48 r) : ∃ v : V, r = [.lit (.int .u32 v.a), .lit (.int .u32 v.b), .lit (.int .u32 v.c), preP v.k v.nl v.full v.pre] ∧ v.ok ∧ fitV v := by
  obtain ⟨n, h⟩ := well_st0 Tryz.underlying48 h
  obtain ⟨w, x, y, z, rfl, h1, h2, h3, h4⟩ := wellF4 h
  obtain ⟨a, rfl, ha⟩ := well_u32 h1
  obtain ⟨b, rfl, hb⟩ := well_u32 h2
  obtain ⟨c, rfl, hc⟩ := well_u32 h3
  obtain ⟨k, nl, l, rfl, h5, h6, h7⟩ := well_strs h4
  refine ⟨⟨a, b, c, k, nl, false, l⟩, rfl, ⟨ha, hb, hc, h5, reach_small (Nat.le_trans (by omega : l.length ≤ l.length * 16) h6), fun s hs => reach_small (h7 s hs)⟩, ?_⟩
  have := reachBytes_lt
  unfold fitV
  simp only
  omega
theorem well_bound {n : Nat} {r : List PV} (h : wellP Tryz.prog n 61 r) : ∃ (v : V) (o : Bool), r = [.lit (.int .u32 v.a), .lit (.int .u32 v.b), .lit (.int .u32 v.c), preP v.k v.nl v.full v.pre, bolP o] ∧ v.ok ∧ fitV v := by
  obtain ⟨n, h⟩ := well_st0 Tryz.underlying61 h
  obtain ⟨w, x, rfl, h1, h2⟩ := wellF2 h
  obtain ⟨v, rfl, h3, h4⟩ := well_ver h1
  obtain ⟨o, rfl⟩ := well_bool h2
  exact ⟨v, o, rfl, h3, h4⟩
theorem well_itv {n : Nat} {r : List PV} (h : wellP Tryz.prog n 63 r) : ∃ x : I, .agg r = x.p ∧ x.ok ∧ fitV x.lo ∧ fitV x.hi := by
  obtain ⟨n, h⟩ := well_st0 Tryz.underlying63 h
  obtain ⟨w, x, y, rfl, h1, h2, h3⟩ := wellF3 h
  obtain ⟨v, o, rfl, h4, h5⟩ := well_bound h1
  obtain ⟨v', o', rfl, h6, h7⟩ := well_bound h2
  obtain ⟨e, rfl⟩ := well_bool h3
  exact ⟨⟨v, o, v', o', e⟩, rfl, ⟨h4, h6⟩, h5, h7⟩
theorem well_span {n : Nat} {r : List PV} (h : wellP Tryz.prog n 22 r) : ∃ k nl l, r = [listP k nl false l] ∧ slOk 11 k nl l.length ∧ (∀ x ∈ l, x.ok) ∧ (∀ x ∈ l, fitV x.lo ∧ fitV x.hi) ∧ l.length * 104 ≤ reachBytes := by
  obtain ⟨n, h⟩ := well_sl0 Tryz.underlying22 h
  obtain ⟨k, nl, rs, rfl, h1, h2, h3⟩ := h
  have hc : Tryz.prog.cellsOf 63 = 11 := by kernel_rfl
  have hb : Tryz.prog.bytesOf 63 = 104 := by kernel_rfl
  have hs : isSt Tryz.prog 63 = true := isSt_of Tryz.underlying63
  rw [hc] at h1
  rw [hb] at h2
  rw [hs]
  have hx : ∀ rs : List (List PV), (∀ r ∈ rs, wellP Tryz.prog n 63 r) → ∃ l : List I, rs.map (mkE true) = l.map I.p ∧ l.length = rs.length ∧ (∀ x ∈ l, x.ok) ∧ ∀ x ∈ l, fitV x.lo ∧ fitV x.hi := by
    intro rs
    induction rs with
    | nil => intro _; exact ⟨[], rfl, rfl, fun s hs => absurd hs List.not_mem_nil, fun s hs => absurd hs List.not_mem_nil⟩
    | cons r rs ih =>
      intro h
      obtain ⟨x, h1, h2, h3⟩ := well_itv (h r (by simp))
      obtain ⟨l, h4, h5, h6, h7⟩ := ih (fun r hr => h r (by simp [hr]))
      refine ⟨x :: l, ?_, by simp [h5], fun t ht => ?_, fun t ht => ?_⟩
      · rw [List.map_cons, List.map_cons, h4, ← h1]; rfl
      · cases List.mem_cons.1 ht with
        | inl e => rw [e]; exact h2
        | inr e => exact h6 t e
      · cases List.mem_cons.1 ht with
        | inl e => rw [e]; exact h3
        | inr e => exact h7 t e
  obtain ⟨l, h4, h5, h6, h7⟩ := hx rs h3
  refine ⟨k, nl, l, ?_, ?_, h6, h7, ?_⟩
  · rw [h4]
  · rw [h5]; exact h1
  · rw [h5]; exact h2
end Go.Proofs.YtlhfgonjcpapnaaGreatDoor.Abs

/- From a law as a function of values to what its row asks. -/
set_option linter.unusedVariables false
set_option linter.unusedSimpArgs false
namespace Go.Proofs.YtlhfgonjcpapnaaGreatDoor.Abs
open Go Go.Proofs Go.RowKit Go.ChangeShapes Go.WideShapes Go.ChangeAt

def inAll (w : World) : Blk := fun b => ∃ e n, w.shape? b = some (e, n)
theorem laidOut0 : laidOutB Tryz.prog = true := by kernel_rfl
theorem cell_shape {w : World} {b o : Nat} {v : Value} (h : w.cell? ⟨b, o, none⟩ = some v) : inAll w b := (cell_spot h).2
theorem pow10_tab : (YtlhfgonjcpapnaaGreatDoor.Rows.laid_internal_strconv_uint64pow10 : DataW Unit) = Lib.tabData .u64 Lib.pow10Tab := by kernel_rfl
/-- what the row's list of variables gives -/
theorem gl_of {W : World} {a b : String × DataW Unit} {rest : List (String × DataW Unit)} (hL : laidMet Tryz.prog (a :: b :: ("internal/strconv.uint64pow10", YtlhfgonjcpapnaaGreatDoor.Rows.laid_internal_strconv_uint64pow10) :: rest) W) (hsh : W.ShapedOpen Tryz.prog) : glE (inAll W) W := by
  have h1 := hL.tail.tail
  rw [pow10_tab] at h1
  have hg : Tryz.prog.globalNamed "internal/strconv.uint64pow10" = some 3 := by kernel_rfl
  have ht := Lib.tabIs_of_head (t := 200) (e := 125) (n := 20) hg (by kernel_rfl) Tryz.underlying200 Tryz.underlying125 (by kernel_rfl) (by kernel_rfl) h1
  obtain ⟨m, hm⟩ := Go.Proofs.cell_of_shapedOpen_int (g := 0) (zero := #[.int .i64 0]) (t := 3) hsh (of_decide_eq_true (by kernel_rfl)) (by kernel_rfl) rfl (by kernel_rfl) (by kernel_rfl) Tryz.underlying3
  refine ⟨⟨m, ?_⟩, ht, cell_shape (ht.cell hg 0 (by rw [Lib.pow10Tab_length]; omega))⟩
  refine .ptr _ 0 _ 0 (fun _ => .int .i64 m) (cell_shape hm) (fun j p hp => ?_) (fun j p hp => ?_)
  · cases j with
    | zero => exact ⟨hm, rfl⟩
    | succ j => simp [PV.cells] at hp
  · cases j with
    | zero => simp [PV.cells] at hp; subst hp; exact .lit _
    | succ j => simp [PV.cells] at hp
section
variable {H : Type} {enc : TypeId × Value → H}
theorem cells_one {P : Program} {W : World} {base : Nat} {t : TypeId} {v : Value} (hok : Value.okWide P W .any base t v) (hp : plainT P 9 t = true) (hs : isSt P t = false) : v.cells.toList = [v] := by
  unfold plainT at hp
  unfold isSt at hs
  unfold Value.okWide Cell.okWide Cell.ok at hok
  split at hp
  · rename_i he; rw [he] at hok; cases v <;> first | rfl | exact hok.elim | simp at hok
  · rename_i he; rw [he] at hok; cases v <;> first | rfl | exact hok.elim | simp at hok
  · rename_i he; rw [he] at hok; cases v <;> first | rfl | exact hok.elim | simp at hok
  · rename_i he; rw [he] at hok; cases v <;> first | rfl | exact hok.elim | simp at hok
  · rename_i he; rw [he] at hs; cases hs
  · cases hp
theorem arg_rep {P : Program} {W : World} {base : Nat} {t : TypeId} {v : Value} {d : DataW H} {ps : List MemPlace} (hok : Value.okWide P W .any base t v) (hd : DataW.Trod enc P W 0 (fun _ => true) true t v d ps)
    (hp : plainT P 9 t = true) (hw : ∀ n ∈ d.weights P t, n ≤ reachBytes) : ∃ n cs, wellP P n t cs ∧ PRep (inAll W) W (mkE (isSt P t) cs) v := by
  obtain ⟨fuel, h⟩ := hd
  obtain ⟨cs, hcs, hf⟩ := of_trod (I := inAll W) (fun b e n h => ⟨e, n, h⟩) fuel t _ _ 9 h hp hw
  refine ⟨fuel, cs, hcs, ?_⟩
  cases hs : isSt P t with
  | false =>
    have h1 := cells_one hok hp hs
    rw [h1] at hf
    obtain ⟨p, rfl, _, _⟩ := well_one hs hcs
    exact (hf.get (j := 0) rfl rfl).1
  | true =>
    have hv : ∃ a, v = .agg a := by
      unfold isSt at hs
      unfold Value.okWide at hok
      split at hs
      · rename_i he
        rw [he] at hok
        obtain ⟨a, ha, _⟩ := hok
        exact ⟨a, ha⟩
      · cases hs
    obtain ⟨a, rfl⟩ := hv
    have hf' : F2 (inAll W) W cs a.toList := hf
    have := PRep.agg (I := inAll W) (w := W) cs a.toList hf'.length.symm (fun x hx => ?_) (fun j p v hp hv => (hf'.get hp hv).1)
    · simpa [mkE] using this
    · obtain ⟨j, hj, rfl⟩ := List.getElem_of_mem hx
      have hj' : j < cs.length := by rw [hf'.length]; exact hj
      exact (hf'.get (List.getElem?_eq_getElem hj') (List.getElem?_eq_getElem hj)).2
/-- what the arguments are: values of their types -/
def argsWell (P : Program) : List TypeId → List PV → Prop
  | [], ps => ps = []
  | t :: ts, ps => ∃ n cs qs, ps = mkE (isSt P t) cs :: qs ∧ wellP P n t cs ∧ argsWell P ts qs
structure OkAll (P : Program) (W : World) (base : Nat) (ts : Array TypeId) (args : Array Value) : Prop where
  val : ∀ (j : Nat) t v, ts[j]? = some t → args[j]? = some v → Value.okWide P W .any base t v
structure OkAllL (P : Program) (W : World) (base : Nat) (ts : List TypeId) (args : List Value) : Prop where
  val : ∀ (j : Nat) t v, ts[j]? = some t → args[j]? = some v → Value.okWide P W .any base t v
theorem args_rep {P : Program} {W : World} {base : Nat} : ∀ (ts : List TypeId) (vs : List Value) (ds : List (DataW H)) (ps : List MemPlace), DataW.TrodAll enc P W 0 (fun _ => true) true ts vs ds ps →
    OkAllL P W base ts vs → (ts.all fun t => plainT P 9 t) = true → (∀ n ∈ DataW.weightsEach P ts ds, n ≤ reachBytes) →
    ∃ qs, argsWell P ts qs ∧ vs.length = qs.length ∧ ∀ (j : Nat) (p : PV) (u : Value), qs[j]? = some p → vs[j]? = some u → PRep (inAll W) W p u
  | [], [], [], ps, _, _, _, _ => ⟨[], rfl, rfl, fun j p u h => by simp at h⟩
  | t :: ts, v :: vs, d :: ds, ps, h, hok, hp, hw => by
    obtain ⟨p, q, h1, h2, rfl⟩ := h
    simp only [List.all_cons, Bool.and_eq_true] at hp
    simp only [DataW.weightsEach, List.mem_append] at hw
    obtain ⟨n, cs, hcs, hr⟩ := arg_rep (hok.val 0 t v rfl rfl) h1 hp.1 (fun n hn => hw n (.inl hn))
    obtain ⟨qs, g1, g2, g3⟩ := args_rep ts vs ds q h2 ⟨fun j t v a b => hok.val (j + 1) t v (by simpa using a) (by simpa using b)⟩ hp.2 (fun n hn => hw n (.inr hn))
    refine ⟨_, ⟨n, cs, qs, rfl, hcs, g1⟩, by simp [g2], fun j p u a b => ?_⟩
    cases j with
    | zero => simp only [List.getElem?_cons_zero, Option.some.injEq] at a b; subst a; subst b; exact hr
    | succ j => exact g3 j p u (by simpa using a) (by simpa using b)
  | [], _ :: _, _, _, h, _, _, _ => h.elim
  | [], [], _ :: _, _, h, _, _, _ => h.elim
  | _ :: _, [], _, _, h, _, _, _ => h.elim
  | _ :: _, _ :: _, [], _, h, _, _, _ => h.elim
theorem args_carry {P : Program} (hlo : laidOutB P = true) {W W' : World} (hb : Below W.heap.size W W') : ∀ (ts : List TypeId) (vs : List Value) (ds : List (DataW H)) (ps : List MemPlace), DataW.TrodAll enc P W 0 (fun _ => true) true ts vs ds ps →
    (ts.all fun t => P.readableRec t && decide (t < P.types.size)) = true → (∀ x ∈ ps, x.block < W.heap.size) → DataW.TrodAll enc P W' 0 (fun b => decide (b < W.heap.size)) true ts vs ds ps
  | [], [], [], ps, h, _, _ => h
  | t :: ts, v :: vs, d :: ds, ps, h, hp, hlt => by
    obtain ⟨p, q, h1, h2, rfl⟩ := h
    simp only [List.all_cons, Bool.and_eq_true, decide_eq_true_eq] at hp
    exact ⟨p, q, Below.trod hlo hp.1.1 hp.1.2 h1 hb (fun x hx => hlt x (List.mem_append_left _ hx)), args_carry hlo hb ts vs ds q h2 hp.2 (fun x hx => hlt x (List.mem_append_right _ hx)), rfl⟩
  | [], _ :: _, _, _, h, _, _ => h.elim
  | [], [], _ :: _, _, h, _, _ => h.elim
  | _ :: _, [], _, _, h, _, _ => h.elim
  | _ :: _, _ :: _, [], _, h, _, _ => h.elim
theorem trod_len {P : Program} {W : World} : ∀ (ts : List TypeId) (vs : List Value) (ds : List (DataW H)) (ps : List MemPlace), DataW.TrodAll enc P W 0 (fun _ => true) true ts vs ds ps → ds.length = ts.length := by
  intro ts
  induction ts with
  | nil => intro vs ds ps h; cases vs <;> cases ds <;> first | rfl | exact h.elim
  | cons t ts ih =>
    intro vs ds ps h
    cases vs with
    | nil => exact h.elim
    | cons v vs =>
      cases ds with
      | nil => exact h.elim
      | cons d ds =>
        obtain ⟨_, _, _, h2, _⟩ := h
        simp [ih _ _ _ h2]
theorem weights_more {P : Program} {n : Nat} : ∀ (ts us : List TypeId) (ds : List (DataW H)), n ∈ DataW.weightsEach P ts ds → n ∈ DataW.weightsEach P (ts ++ us) ds := by
  intro ts us
  induction ts with
  | nil => intro ds h; cases ds <;> simp [DataW.weightsEach] at h
  | cons t ts ih =>
    intro ds h
    cases ds with
    | nil => simp [DataW.weightsEach] at h
    | cons d ds =>
      simp only [DataW.weightsEach, List.mem_append, List.cons_append] at h ⊢
      exact h.imp id (ih ds)
theorem val_list {P : Program} {W : World} {base : Nat} {ts : Array TypeId} {args : Array Value} (h : OkAll P W base ts args) : OkAllL P W base ts.toList args.toList := by
  refine ⟨?_⟩
  intro j t v a b
  rw [Array.getElem?_toList] at a b
  exact h.val j t v a b
/-- A law that is true of all values of its parameters' types keeps its row's promise. -/
theorem law_contract {f : FuncId} {fn : Func} {c : Code} {s : ChangeSpec} {W : World} {base : Nat} {args : Array Value} {ds gs : List (DataW H)} {before : List MemPlace} {us : List TypeId}
    (hfn : Tryz.prog.funcs[f]? = some fn) (hname : (fn.name == "runtime.NumGoroutine") = false) (hbody : fn.body = some c) (hres : fn.resultTypes = #[4]) (hvars : s.vars = []) (hplain : (fn.params.toList.all fun t => plainT Tryz.prog 9 t) = true)
    (hread : (fn.params.toList.all fun t => Tryz.prog.readableRec t && decide (t < Tryz.prog.types.size)) = true)
    (hspec : ∀ ds : List (DataW H), ds.length = fn.params.toList.length → s.fn H ds = { results := [.lit (.bool true)], args := ds })
    (den : ∀ ps, argsWell Tryz.prog fn.params.toList ps → Den E1 f ps (bolP true))
    (hval : OkAll Tryz.prog W base fn.params args)
    (hW : DataW.Whole enc Tryz.prog fn.params.toList s.vars false W args.toList ds gs before)
    (hz : (DataW.weightsEach Tryz.prog (fn.params.toList ++ us) (ds ++ gs)).all (· ≤ reachBytes) = true) (hgl : glE (inAll W) W) :
    Calls Tryz.prog f args W fun e W' => ∃ v, e = .returned v ∧ s.post enc Tryz.prog fn false true false false W args v W' := by
  have hlt := hW.lt
  have hW' := hW
  obtain ⟨p, q, hA, hV, rfl, _, _⟩ := hW
  have hV' := hV
  rw [hvars] at hV
  obtain ⟨rfl, rfl⟩ := trodVars_none hV
  simp only [List.append_nil] at hz hW' hlt
  have hwt : ∀ n ∈ DataW.weightsEach Tryz.prog fn.params.toList ds, n ≤ reachBytes := fun n hn => by
    have h1 : n ∈ DataW.weightsEach Tryz.prog (fn.params.toList ++ us) ds := by
      exact weights_more _ _ _ hn
    simpa using List.all_eq_true.1 hz n h1
  have hval' := val_list hval
  obtain ⟨qs, hq, hl, hr⟩ := args_rep fn.params.toList args.toList ds p hA hval' hplain hwt
  have hdl : ds.length = fn.params.toList.length := by
    exact trod_len _ _ _ _ hA
  have hgl' : Gl E1 (inAll W) W := hgl
  have hin : ∀ b, inAll W b → Solid W b := fun b ⟨e, n, h⟩ => .of_shape h
  have hpure : PureDoes E1.P f args.toList.toArray W (inAll W) (bolP true) := den_sound envOk1 (den qs hq) hgl' hl hr hin
  have hc : Calls Tryz.prog f args W fun e W' => ∃ I' v, e = .returned v ∧ PRep I' W' (bolP true) v ∧ Below W.heap.size W W' := by
    have hent := enters_of (P := Tryz.prog) hfn hname hbody args W
    rcases hpure with ⟨v, w', h1, h2⟩ | ⟨h1, h2⟩ | ⟨row, ax, w1, h1, h2⟩
    · have h3 := hent.symm.trans h1; cases h3
    · refine h2.mono fun e W' he => ?_
      split at he
      · rename_i v
        obtain ⟨I', k1, _, _, k2, _⟩ := he
        exact ⟨I', v, rfl, k1, k2⟩
      · exact he.elim
    · have h3 := hent.symm.trans h1; cases h3
  refine hc.mono ?_
  rintro e W' ⟨I', v, rfl, hv, hb⟩
  obtain rfl : v = .bool true := by cases hv; rfl
  refine ⟨_, rfl, ds, [], p, [], p, [], hW', ?_, ?_, ?_, hb.frame _, fun h => by cases h⟩
  · rw [List.append_nil, hspec ds hdl, hres]
    exact trodAll_mk1 (shut_bool Tryz.underlying4 _)
  · rw [List.append_nil, hspec ds hdl]
    exact args_carry laidOut0 hb _ _ _ _ hA hread (fun x hx => by simpa using hlt x hx)
  · rw [List.append_nil, hspec ds hdl, hvars]
    rfl
end
end Go.Proofs.YtlhfgonjcpapnaaGreatDoor.Abs

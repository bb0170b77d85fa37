/-
  Each operation of the abstract machine stands for the model's operation. Conditions: none.
-/
import Derived.Test.YtlhfgonjcpapnaaGreatDoorMa
import Derived.Laws.Tables
import Derived.Great.BuildSlice
import Derived.Laws.BytesString
import Derived.IntWalk
import Derived.Deep.AppendSrc
import Derived.Deep.Upon

set_option linter.all false
set_option linter.unnecessarySimpa false

/- Each operation of the abstract machine is what the model does: reading and writing variables, addresses, arithmetic. -/
set_option linter.unusedVariables false
set_option linter.unusedSimpArgs false
namespace Go.Proofs.YtlhfgonjcpapnaaGreatDoor.Abs
open Go Go.RowKit

variable {σ σ' : Sig} {I I' : Blk} {base : Blk} {w w' : World} {h : Heap} {P : Program}

def OpOk (σ : Sig) (I : Blk) (base : Blk) (w : World) (gen : Nat) (run : Result Next) (v : AV) (h' : Heap) : Prop :=
  ∃ nx w' u σ' I', run = .ok nx w' ∧ (nx = .value u ∨ (nx = .skip ∧ u = undef)) ∧ Rep σ' I' w' v u ∧ HRep σ' I' base w' h' ∧ Ext base σ I w σ' I' w' ∧ ∀ g, g ≠ gen → σ' g = σ g

theorem More.ext (m : More I I' base) : Ext base σ I w σ I' w := ⟨fun _ _ h => h, m.1, m.2, Keep.refl _ _, Blw.refl _ _⟩

theorem OpOk.same {gen : Nat} {run : Result Next} {v : AV} (u : Value) (H : HRep σ I base w h) (hrun : run = .ok (.value u) w) (hr : Rep σ I w v u) : OpOk σ I base w gen run v h :=
  ⟨_, w, u, σ, I, hrun, .inl rfl, hr, H, Ext.refl _ _ _ _, fun _ _ => rfl⟩
theorem OpOk.frz {gen : Nat} {run : Result Next} {v : AV} {h' : Heap} (u : Value) (m : More I I' base) (H : HRep σ I' base w h') (hrun : run = .ok (.value u) w) (hr : Rep σ I' w v u) : OpOk σ I base w gen run v h' :=
  ⟨_, w, u, σ, I', hrun, .inl rfl, hr, H, m.ext, fun _ _ => rfl⟩

theorem run_value {s : Sem Value} {u : Value} {w w' : World} (hs : s.run P w = .ok u w') : (do let x ← s; pure (Next.value x) : Sem Next).run P w = .ok (.value u) w' := by
  simp [hs]
theorem run_skip {s : Sem Unit} {w w' : World} (hs : s.run P w = .ok () w') : (do s; pure Next.skip : Sem Next).run P w = .ok .skip w' := by
  simp [hs]

/-! ### types -/
theorem run_typeInfo_ok {t : TypeId} {i : TypeInfo} (hi : P.info? t = some i) : (typeInfo t).run P w = .ok i w := by simp [typeInfo, hi]
theorem run_sizeOf_ok {t : TypeId} {n : Nat} (hi : szOf P t = some n) : (sizeOf t).run P w = .ok n w := by
  unfold szOf at hi
  simp only [Option.map_eq_some_iff] at hi
  obtain ⟨i, hi, rfl⟩ := hi
  simp [sizeOf, run_typeInfo_ok hi]
theorem run_bytes_ok {t : TypeId} {n : Nat} (hi : byOf P t = some n) : ∃ i, P.info? t = some i ∧ i.bytes = n := by
  unfold byOf at hi
  simpa only [Option.map_eq_some_iff] using hi
theorem run_zero_ok {t : TypeId} {z : Value} (hi : zeroOf P t = some z) : (zeroValue t).run P w = .ok z w := by
  unfold zeroOf at hi
  simp only [Option.bind_eq_some_iff] at hi
  obtain ⟨i, hi, hz⟩ := hi
  simp [zeroValue, run_typeInfo_ok hi, hz]
theorem run_underlying_ok {t : TypeId} {d : TypeDesc} (hd : P.underlying t = some d) : (underlying t).run P w = .ok d w := by simp [underlying, hd]
theorem run_isAgg_ok {t : TypeId} {ag : Bool} (ha : aggT P t = some ag) : (isAgg t).run P w = .ok ag w := by
  unfold aggT at ha
  split at ha
  · rename_i fs hd; injection ha with ha; subst ha; simp [isAgg, run_underlying_ok hd]
  · rename_i n e hd; injection ha with ha; subst ha; simp [isAgg, run_underlying_ok hd]
  · rename_i d hd1 hd2 hd3
    injection ha with ha
    subst ha
    simp only [isAgg, Sem.run_bind, run_underlying_ok hd3, Result.andThen_ok]
    rfl
  · cases ha

/-! ### lists of cells -/
theorem mkAgg_rep {cs : List AV} {vs : List Value} (hl : vs.length = cs.length) (h1 : ∀ v ∈ vs, v.oneCell' = true)
    (hr : ∀ (j : Nat) (p : AV) (v : Value), cs[j]? = some p → vs[j]? = some v → Rep σ I w p v) : Rep σ I w (mkAgg cs) (.agg vs.toArray) := by
  have key : ∀ (cs : List AV) (ps : List PV), allPV cs = some ps → cs = ps.map .pv := by
    intro cs
    induction cs with
    | nil => intro ps hp; simp [allPV] at hp; subst hp; rfl
    | cons c cs ih =>
      intro ps hp
      cases c <;> simp only [allPV, Option.map_eq_some_iff] at hp
      · obtain ⟨qs, hq, rfl⟩ := hp
        rw [ih qs hq]; rfl
      all_goals cases hp
  unfold mkAgg
  cases ha : allPV cs with
  | none => exact .agg cs vs hl h1 hr
  | some ps =>
    have hcs := key cs ps ha
    subst hcs
    refine .pv _ _ (.agg ps vs (by simpa using hl) h1 fun j p v hp hv => ?_)
    have := hr j (.pv p) v (by simp [hp]) hv
    cases this with
    | pv _ _ h => exact h
theorem allPV_map {cs : List AV} {ps : List PV} (hp : allPV cs = some ps) : cs = ps.map .pv := by
  induction cs generalizing ps with
  | nil => simp [allPV] at hp; subst hp; rfl
  | cons c cs ih =>
    cases c <;> simp only [allPV, Option.map_eq_some_iff] at hp
    · obtain ⟨qs, hq, rfl⟩ := hp
      rw [ih hq]; rfl
    all_goals cases hp

theorem get_sub {α : Type} {l : List α} {off m j : Nat} {x : α} (hx : ((l.drop off).take m)[j]? = some x) : j < m ∧ l[off + j]? = some x := by
  rw [List.getElem?_take] at hx
  split at hx
  · rename_i hj; rw [List.getElem?_drop] at hx; exact ⟨hj, hx⟩
  · cases hx

theorem subP_sound {ag : Bool} {m off : Nat} {p p' : PV} {us : List Value} (hs : subP ag m off p = some p') (hl : us.length = p.cells.length) (h1 : ∀ x ∈ us, x.oneCell' = true)
    (hr : ∀ (j : Nat) (c : PV) (x : Value), p.cells[j]? = some c → us[j]? = some x → PRep I w c x) :
    (ag = true → off + m ≤ us.length ∧ PRep I w p' (.agg ((us.drop off).take m).toArray)) ∧ (ag = false → ∃ x, us[off]? = some x ∧ PRep I w p' x) := by
  cases ag with
  | true =>
    refine ⟨fun _ => ?_, fun hh => by cases hh⟩
    simp only [subP, if_true] at hs
    split at hs
    · injection hs with hs
      subst hs
      refine ⟨by omega, .agg _ _ (by simp [hl]) (fun x hx => h1 x (List.mem_of_mem_drop (List.mem_of_mem_take hx))) fun j c x hc hx => ?_⟩
      exact hr (off + j) c x (get_sub hc).2 (get_sub hx).2
    · cases hs
  | false =>
    refine ⟨fun hh => (by cases hh), fun _ => ?_⟩
    simp only [subP, Bool.false_eq_true, if_false] at hs
    have hj := (List.getElem?_eq_some_iff.1 hs).1
    exact ⟨us[off], List.getElem?_eq_getElem (by omega), hr off p' _ hs (List.getElem?_eq_getElem (by omega))⟩

theorem subA_sound {ag : Bool} {m off : Nat} {v v' : AV} {us : List Value} (hs : subA ag m off v = some v') (hl : us.length = v.cells.length) (h1 : ∀ x ∈ us, x.oneCell' = true)
    (hr : ∀ (j : Nat) (c : AV) (x : Value), v.cells[j]? = some c → us[j]? = some x → Rep σ I w c x) :
    (ag = true → off + m ≤ us.length ∧ Rep σ I w v' (.agg ((us.drop off).take m).toArray)) ∧ (ag = false → ∃ x, us[off]? = some x ∧ Rep σ I w v' x) := by
  have other : (if ag then (if off + m ≤ v.cells.length then some (mkAgg ((v.cells.drop off).take m)) else none) else v.cells[off]?) = some v' →
      (ag = true → off + m ≤ us.length ∧ Rep σ I w v' (.agg ((us.drop off).take m).toArray)) ∧ (ag = false → ∃ x, us[off]? = some x ∧ Rep σ I w v' x) := by
    intro hs
    cases ag with
    | true =>
      refine ⟨fun _ => ?_, fun hh => by cases hh⟩
      simp only [if_true] at hs
      split at hs
      · injection hs with hs
        subst hs
        refine ⟨by omega, mkAgg_rep (by simp [hl]) (fun x hx => h1 x (List.mem_of_mem_drop (List.mem_of_mem_take hx))) fun j c x hc hx => ?_⟩
        exact hr (off + j) c x (get_sub hc).2 (get_sub hx).2
      · cases hs
    | false =>
      refine ⟨fun hh => (by cases hh), fun _ => ?_⟩
      simp only [Bool.false_eq_true, if_false] at hs
      have hj := (List.getElem?_eq_some_iff.1 hs).1
      exact ⟨us[off], List.getElem?_eq_getElem (by omega), hr off v' _ hs (List.getElem?_eq_getElem (by omega))⟩
  cases v with
  | pv p =>
    simp only [subA, Option.map_eq_some_iff] at hs
    obtain ⟨p', hp', rfl⟩ := hs
    have := subP_sound (I := I) (w := w) hp' (us := us) (by simpa [AV.cells] using hl) h1 fun j c x hc hx => by
      have := hr j (.pv c) x (by simp [AV.cells, hc]) hx
      cases this with
      | pv _ _ h => exact h
    exact ⟨fun ha => ⟨(this.1 ha).1, .pv _ _ (this.1 ha).2⟩, fun ha => by obtain ⟨x, h1, h2⟩ := this.2 ha; exact ⟨x, h1, .pv _ _ h2⟩⟩
  | mptr => exact other hs
  | msl => exact other hs
  | agg => exact other hs
  | tup => exact other hs
  | clo => exact other hs
  | yld => exact other hs

/-! ### reading a variable -/
theorem run_loadVar_cells {t : TypeId} {m : Nat} {ag : Bool} {b o : Nat} {us : List Value} (hm : szOf P t = some m) (ha : aggT P t = some ag) (off : Nat)
    (hc : ∀ (j : Nat) (x : Value), us[j]? = some x → w.cell? ⟨b, o + j, none⟩ = some x) :
    (ag = true → off + m ≤ us.length → (loadVar t ⟨b, o + off, none⟩).run P w = .ok (.agg ((us.drop off).take m).toArray) w) ∧
    (ag = false → ∀ x, us[off]? = some x → (loadVar t ⟨b, o + off, none⟩).run P w = .ok x w) := by
  refine ⟨?_, ?_⟩
  · rintro rfl hle
    have hlen : ((us.drop off).take m).length = m := by simp; omega
    have := run_loadCells_list (P := P) w ⟨b, o + off, none⟩ ((us.drop off).take m) fun j x hx => by
      rw [addr_add, Nat.add_assoc]
      exact hc (off + j) x (get_sub hx).2
    rw [hlen] at this
    simp [loadVar, run_isAgg_ok ha, run_sizeOf_ok hm, this]
  · rintro rfl x hx
    simp [loadVar, run_isAgg_ok ha, hc off x hx]

section
variable {ρ : Operand → AV} {ρc : Operand → Value} {d gen : Nat} {o : Oper}

theorem rep_mptr {d s g i off : Nat} {u : Value} (hr : Rep σ I w (.mptr d s g i off) u) : ∃ b o k, σ g = some (b, o, k) ∧ u = .pointer (some ⟨b, o + i * k + off, none⟩) := by
  cases hr with
  | mptr _ _ _ _ _ b o k h => exact ⟨b, o, k, h, rfl⟩
theorem rep_pv {p : PV} {u : Value} (hr : Rep σ I w (.pv p) u) : PRep I w p u := by
  cases hr with
  | pv _ _ h => exact h
theorem prep_lit {v u : Value} (hr : PRep I w (.lit v) u) : u = v := by
  cases hr; rfl
theorem prep_ptr {root : PV} {off : Nat} {u : Value} (hr : PRep I w (.ptr root off) u) : ∃ (b o : Nat) (vs : Nat → Value), u = .pointer (some ⟨b, o + off, none⟩) ∧ I b ∧
    (∀ (j : Nat) (p : PV), root.cells[j]? = some p → w.cell? ⟨b, o + j, none⟩ = some (vs j) ∧ (vs j).oneCell' = true ∧ PRep I w p (vs j)) := by
  cases hr with
  | ptr _ _ b o vs hI hc hr => exact ⟨b, o, vs, rfl, hI, fun j p hp => ⟨(hc j p hp).1, (hc j p hp).2, hr j p hp⟩⟩

/-- the values that lie from a place on -/
theorem vals_list {cs : List PV} {b o : Nat} (hv : ∀ (j : Nat) (p : PV), cs[j]? = some p → ∃ u, w.cell? ⟨b, o + j, none⟩ = some u ∧ u.oneCell' = true ∧ PRep I w p u) :
    ∃ us : List Value, us.length = cs.length ∧ (∀ x ∈ us, x.oneCell' = true) ∧ (∀ (j : Nat) (x : Value), us[j]? = some x → w.cell? ⟨b, o + j, none⟩ = some x) ∧
      ∀ (j : Nat) (c : PV) (x : Value), cs[j]? = some c → us[j]? = some x → PRep I w c x := by
  obtain ⟨us, hl, hu⟩ := list_of_cells (P := fun j u => w.cell? ⟨b, o + j, none⟩ = some u ∧ u.oneCell' = true ∧ ∀ c, cs[j]? = some c → PRep I w c u) cs.length fun j hj => by
    obtain ⟨u, h1, h2, h3⟩ := hv j cs[j] (List.getElem?_eq_getElem hj)
    exact ⟨u, h1, h2, fun c hc => by rw [List.getElem?_eq_getElem hj] at hc; injection hc with hc; subst hc; exact h3⟩
  refine ⟨us, hl, fun x hx => ?_, fun j x hx => (hu j x hx).1, fun j c x hc hx => (hu j x hx).2.2 c hc⟩
  obtain ⟨j, hj, rfl⟩ := List.mem_iff_getElem.1 hx
  exact (hu j _ (List.getElem?_eq_getElem hj)).2.1

theorem subP_load {t : TypeId} {m off b o : Nat} {ag : Bool} {root p' : PV} (hm : szOf P t = some m) (ha : aggT P t = some ag) (hs : subP ag m off root = some p')
    (hv : ∀ (j : Nat) (p : PV), root.cells[j]? = some p → ∃ u, w.cell? ⟨b, o + j, none⟩ = some u ∧ u.oneCell' = true ∧ PRep I w p u) :
    ∃ u, (loadVar t ⟨b, o + off, none⟩).run P w = .ok u w ∧ PRep I w p' u := by
  obtain ⟨us, hl, h1, hc, hr⟩ := vals_list hv
  have hsub := subP_sound (I := I) (w := w) hs hl h1 hr
  have hload := run_loadVar_cells (P := P) hm ha off hc
  cases ag with
  | true => exact ⟨_, hload.1 rfl (hsub.1 rfl).1, (hsub.1 rfl).2⟩
  | false =>
    obtain ⟨x, hx, hp⟩ := hsub.2 rfl
    exact ⟨x, hload.2 rfl x hx, hp⟩

theorem load_sound {t : TypeId} {a : Operand} {v : AV} {h' : Heap} (ho : o.op = .load t a) (hop : aop P o ρ d gen h = some (v, h')) (hρ : ∀ x, Rep σ I w (ρ x) (ρc x)) (H : HRep σ I base w h) :
    OpOk σ I base w gen ((execOp ρc o).run P w) v h' := by
  simp only [aop, ho, Option.bind_eq_bind, Option.bind_eq_some_iff] at hop
  obtain ⟨m, hm, ag, hag, hop⟩ := hop
  have hra := hρ a
  have fin : ∀ {u : Value} {ad : Addr}, ρc a = .pointer (some ad) → (loadVar t ad).run P w = .ok u w → (execOp ρc o).run P w = .ok (.value u) w := by
    intro u ad hp hl
    simp only [execOp, ho]
    exact run_value (by simp [Instr.loadAt, Instr.sureAddr, hp, hl])
  split at hop
  · rename_i d1 s g i off he
    rw [he] at hra
    obtain ⟨b, ob, k, hs, hu⟩ := rep_mptr hra
    split at hop
    · rename_i v0 fz hl
      split at hop
      · rename_i hi
        subst hi
        simp only [Option.map_eq_some_iff, Prod.mk.injEq] at hop
        obtain ⟨v', hv', rfl, rfl⟩ := hop
        obtain ⟨b0, k0, e0, u0, hs0, hsh, hok, hru, hz, hf, h1c, hsz, hcell⟩ := box_val (H.live hl (by simp))
        rw [hs] at hs0
        simp only [Option.some.injEq, Prod.mk.injEq] at hs0
        obtain ⟨rfl, rfl, rfl⟩ := hs0
        have hsub := subA_sound (σ := σ) (I := I) (w := w) hv' (us := u0.cells.toList) (by simpa using hsz) h1c fun j c x hc hx => (hru.cells hok).2.2 j c x hc (by simpa using hx)
        have hload := run_loadVar_cells (P := P) (w := w) (b := b) (o := 0) (us := u0.cells.toList) hm hag off fun j x hx => by simpa using hcell j x (by simpa using hx)
        simp only [Nat.zero_mul, Nat.add_zero, Nat.zero_add] at hu hload
        cases ag with
        | true => exact .same _ H (fin hu (hload.1 rfl (hsub.1 rfl).1)) (hsub.1 rfl).2
        | false =>
          obtain ⟨x, hx, hp⟩ := hsub.2 rfl
          exact .same _ H (fin hu (hload.2 rfl x hx)) hp
      · cases hop
    · rename_i k0 e0 xs fz hl
      simp only [Option.bind_eq_some_iff, Option.map_eq_some_iff, Prod.mk.injEq] at hop
      obtain ⟨x, hx, p', hp', rfl, rfl⟩ := hop
      obtain ⟨b', o', n', hs', _, _, _, _, _, _, hc, _⟩ := row_block (H.live hl (by simp))
      rw [hs] at hs'
      simp only [Option.some.injEq, Prod.mk.injEq] at hs'
      obtain ⟨rfl, rfl, rfl⟩ := hs'
      obtain ⟨u, hrun, hpr⟩ := subP_load (P := P) hm hag hp' (fun j p hp => hc i x hx j p hp)
      exact .same _ H (fin hu hrun) (.pv _ _ hpr)
    · cases hop
  · rename_i root off he
    rw [he] at hra
    simp only [Option.map_eq_some_iff, Prod.mk.injEq] at hop
    obtain ⟨p', hp', rfl, rfl⟩ := hop
    obtain ⟨b, ob, vs, hu, _, hv⟩ := prep_ptr (rep_pv hra)
    obtain ⟨u, hrun, hpr⟩ := subP_load (P := P) hm hag hp' (fun j p hp => ⟨vs j, hv j p hp⟩)
    exact .same _ H (fin hu hrun) (.pv _ _ hpr)
  · cases hop
end
end Go.Proofs.YtlhfgonjcpapnaaGreatDoor.Abs

/- The abstract machine's operations, II: arithmetic, addresses of parts, new variables. -/
set_option linter.unusedVariables false
set_option linter.unusedSimpArgs false
namespace Go.Proofs.YtlhfgonjcpapnaaGreatDoor.Abs
open Go Go.RowKit

variable {σ σ' : Sig} {I I' : Blk} {base : Blk} {w w' : World} {h : Heap} {P : Program}

theorem pureRun_run {α : Type} {s : Sem α} {a : α} (hs : pureRun P s = some a) : s.run P w = .ok a w := by
  induction s with
  | pure b => simp only [pureRun, Option.some.injEq] at hs; subst hs; rfl
  | program k ih => simp only [pureRun] at hs; simpa [Sem.run] using ih P hs
  | mark m k ih => simp only [pureRun] at hs; simpa [Sem.run] using ih hs
  | _ => simp [pureRun] at hs

theorem toVal1_rep {p : PV} {v u : Value} (hr : PRep I w p u) (ht : toVal1 p = some v) : u = v := by
  cases hr with
  | lit => simp only [toVal1, Option.some.injEq] at ht; exact ht
  | nil => simp only [toVal1, Option.some.injEq] at ht; exact ht
  | iface t p v h =>
    cases p <;> simp only [toVal1] at ht <;> try cases ht
    cases h; rfl
  | _ => simp [toVal1] at ht
theorem toVals_rep : ∀ {ps : List PV} {vs us : List Value}, toVals ps = some vs → us.length = ps.length → (∀ (j : Nat) (p : PV) (u : Value), ps[j]? = some p → us[j]? = some u → PRep I w p u) → us = vs
  | [], vs, us, ht, hl, _ => by
    simp only [toVals, Option.some.injEq] at ht
    subst ht
    exact List.eq_nil_of_length_eq_zero hl
  | p :: ps, vs, us, ht, hl, hr => by
    match us, hl with
    | u :: us, hl =>
      simp only [toVals, Option.bind_eq_some_iff, Option.map_eq_some_iff] at ht
      obtain ⟨v, hv, vs', hvs, rfl⟩ := ht
      have e1 := toVal1_rep (hr 0 p u rfl rfl) hv
      have e2 : us = vs' := toVals_rep hvs (by simpa using hl) fun j p' u' hp hu => hr (j + 1) p' u' (by simpa using hp) (by simpa using hu)
      rw [e1, e2]
theorem toVal_rep {p : PV} {v u : Value} (ht : toVal p = some v) (hr : PRep I w p u) : u = v := by
  cases p with
  | agg cs =>
    cases hr with
    | agg _ vs hl h1 hr =>
      simp only [toVal, Option.map_eq_some_iff] at ht
      obtain ⟨l, hl', rfl⟩ := ht
      rw [toVals_rep hl' hl hr]
  | _ => exact toVal1_rep hr ht
theorem valA_rep {p : AV} {v u : Value} (ht : valA p = some v) (hr : Rep σ I w p u) : u = v := by
  cases hr with
  | pv p v h => exact toVal_rep ht h
  | _ => cases ht

theorem allVals_rep {l : List AV} {ps : List PV} {vs us : List Value} (hp : allPV l = some ps) (ht : toVals ps = some vs) (hl : us.length = l.length)
    (hr : ∀ (j : Nat) (p : AV) (u : Value), l[j]? = some p → us[j]? = some u → Rep σ I w p u) : us = vs := by
  have := allPV_map hp
  subst this
  exact toVals_rep (I := I) (w := w) ht (by simpa using hl) fun j p u hp' hu => rep_pv (hr j (.pv p) u (by simp [hp']) hu)

section
variable {ρ : Operand → AV} {ρc : Operand → Value} {d gen : Nat} {o : Oper} {v : AV} {h' : Heap}

theorem move_sound {x : Operand} (ho : o.op = .move x ∨ o.op = .assign x) (hop : aop P o ρ d gen h = some (v, h')) (hρ : ∀ x, Rep σ I w (ρ x) (ρc x)) (H : HRep σ I base w h) :
    OpOk σ I base w gen ((execOp ρc o).run P w) v h' := by
  have : v = ρ x ∧ h' = h := by rcases ho with ho | ho <;> simp only [aop, ho, Option.some.injEq, Prod.mk.injEq] at hop <;> exact ⟨hop.1.symm, hop.2.symm⟩
  obtain ⟨rfl, rfl⟩ := this
  exact .same (ρc x) H (by rcases ho with ho | ho <;> simp [execOp, ho]) (hρ x)

theorem pick_sound {c a b : Operand} (ho : o.op = .pick c a b) (hop : aop P o ρ d gen h = some (v, h')) (hρ : ∀ x, Rep σ I w (ρ x) (ρc x)) (H : HRep σ I base w h) :
    OpOk σ I base w gen ((execOp ρc o).run P w) v h' := by
  have hrc := hρ c
  simp only [aop, ho] at hop
  split at hop
  · rename_i t he
    rw [he] at hrc
    have hc := prep_lit (rep_pv hrc)
    simp only [Option.some.injEq, Prod.mk.injEq] at hop
    obtain ⟨rfl, rfl⟩ := hop
    exact .same (if t then ρc a else ρc b) H (by simp [execOp, ho, hc, asBool]) (by cases t <;> simp [hρ])
  · cases hop

theorem nilCheck_sound {x : Operand} (ho : o.op = .nilCheck x) (hop : aop P o ρ d gen h = some (v, h')) (hρ : ∀ x, Rep σ I w (ρ x) (ρc x)) (H : HRep σ I base w h) :
    OpOk σ I base w gen ((execOp ρc o).run P w) v h' := by
  have hr := hρ x
  have hv : ρ x = v ∧ h = h' ∧ (execOp ρc o).run P w = .ok (.value (ρc x)) w := by
    simp only [aop, ho] at hop
    split at hop
    · rename_i d s g i off he
      rw [he] at hr
      obtain ⟨b, ob, k, _, hu⟩ := rep_mptr hr
      simp only [Option.some.injEq, Prod.mk.injEq] at hop
      exact ⟨he.trans hop.1, hop.2, by simp [execOp, ho, hu]⟩
    · rename_i r off he
      rw [he] at hr
      obtain ⟨b, ob, vs, hu, _⟩ := prep_ptr (rep_pv hr)
      simp only [Option.some.injEq, Prod.mk.injEq] at hop
      exact ⟨he.trans hop.1, hop.2, by simp [execOp, ho, hu]⟩
    · rename_i f a b he
      rw [he] at hr
      simp only [Option.some.injEq, Prod.mk.injEq] at hop
      refine ⟨he.trans hop.1, hop.2, ?_⟩
      generalize hu : ρc x = u at hr
      cases hr with
      | pv _ _ hr => cases hr with
        | clo _ _ _ va vb => simp [execOp, ho, hu]
    · rename_i f a b he
      rw [he] at hr
      simp only [Option.some.injEq, Prod.mk.injEq] at hop
      refine ⟨he.trans hop.1, hop.2, ?_⟩
      generalize hu : ρc x = u at hr
      cases hr with
      | clo _ _ _ va vb => simp [execOp, ho, hu]
    · cases hop
  obtain ⟨rfl, rfl, hrun⟩ := hv
  exact .same (ρc x) H hrun hr

theorem new_box {e : TypeId} {x : AV} {u : Value} {s : Nat} (H : HRep σ I base w h) (hr : Rep σ I w x u) (hok : x.ok = true) (hg : σ gen = none) (hB : Bnd base w.heap.size) {run : Result Next}
    (hrun : run = .ok (.value (.pointer (some ⟨w.heap.size, 0, none⟩))) (w.alloc (.cells u.cells e))) :
    OpOk σ I base w gen run (.mptr d s gen 0 0) (hput h d s ⟨gen, .box x false⟩) := by
  have hG : Grows w (w.alloc (.cells u.cells e)) (.cells u.cells e) := ⟨rfl, rfl, rfl, rfl⟩
  have hE := Ext.push (x := (w.heap.size, 0, 1)) H hB hg hG
  obtain ⟨h1, h2, h3⟩ := hr.cells hok
  refine ⟨_, _, _, _, I, hrun, .inl rfl, ?_, H.push hg hG d s ?_, hE, fun g hne => upd_other hne⟩
  · have := Rep.mptr (σ := upd σ gen (w.heap.size, 0, 1)) (I := I) (w := w.alloc (.cells u.cells e)) d s gen 0 0 w.heap.size 0 1 upd_same
    simpa using this
  · refine ⟨w.heap.size, e, upd_same, by rw [hG.shape, h1], hok, fun j p hp => ?_, ⟨fun hb => ?_, hB.up, fun j hj => hG.frozen j⟩⟩
    · have hj := (List.getElem?_eq_some_iff.1 hp).1
      refine ⟨u.cells[j], ?_, h2 _ (by simp), hE.rep (h3 j p _ hp (Array.getElem?_eq_getElem (by omega)))⟩
      rw [hG.cell]; exact Array.getElem?_eq_getElem (by omega)
    · exact absurd (H.lt _ hb) (by omega)

theorem ofVal1_rep (v : Value) : PRep I w (ofVal1 v) v := by
  unfold ofVal1
  split
  · split
    · rename_i hh; rw [hh.1, hh.2]; exact .nil 0 true
    · exact .lit _
  · rename_i f a b
    split
    · rename_i hh
      have ha : a = #[] := Array.eq_empty_of_size_eq_zero hh.1
      have hb : b = #[] := Array.eq_empty_of_size_eq_zero hh.2
      rw [ha, hb]
      exact .clo _ [] [] [] [] rfl rfl (fun j p v hp => by simp at hp) (fun j p v hp => by simp at hp)
    · exact .lit _
  · exact .lit _
theorem ofVal_rep (v : Value) : PRep I w (ofVal v) v := by
  unfold ofVal
  split
  · rename_i cs
    split
    · rename_i hall
      have := PRep.agg (I := I) (w := w) (cs.toList.map ofVal1) cs.toList (by simp) (fun v hv => List.all_eq_true.1 hall v hv) fun j p v hp hv => by
        simp only [List.getElem?_map, Option.map_eq_some_iff] at hp
        obtain ⟨v', hv', rfl⟩ := hp
        rw [hv] at hv'
        injection hv' with hv'
        subst hv'
        exact ofVal1_rep v
      simpa using this
    · exact .lit _
  · exact ofVal1_rep _
theorem ofVal1_ok {v : Value} (hv : v.oneCell' = true) : (ofVal1 v).ok = true := by
  unfold ofVal1
  split
  · split <;> rfl
  · split <;> rfl
  · exact hv

theorem eval_rep {t : List AV} {a : Act} (hT : ∀ i, Rep σ I w (getT t i) (a.tmps.getD i undef)) (x : Operand) : Rep σ I w (evalA t x) (a.eval x) := by
  cases x with
  | tmp i => exact hT i
  | const v => exact .pv _ _ (ofVal_rep v)
  | global g => exact .pv _ _ (.lit _)
  | func f => exact .pv _ _ (.clo _ [] [] [] [] rfl rfl (fun j p v hp => by simp at hp) (fun j p v hp => by simp at hp))

theorem alloc_sound {e : TypeId} (ho : o.op = .alloc e) (hop : aop P o ρ d gen h = some (v, h')) (H : HRep σ I base w h) (hg : σ gen = none) (hB : Bnd base w.heap.size) :
    OpOk σ I base w gen ((execOp ρc o).run P w) v h' := by
  simp only [aop, ho, Option.bind_eq_bind, Option.bind_eq_some_iff] at hop
  obtain ⟨z, hz, s, hs, hop⟩ := hop
  split at hop
  · rename_i hok
    simp only [Option.some.injEq, Prod.mk.injEq] at hop
    obtain ⟨rfl, rfl⟩ := hop
    refine new_box (e := e) H (.pv _ _ (ofVal_rep z)) hok hg hB ?_
    simp only [execOp, ho]
    exact run_value (by simp [Instr.alloc, run_zero_ok hz, newVar, newRow])
  · cases hop

theorem box_sound {e : TypeId} {x : Operand} (ho : o.op = .box e x) (hop : aop P o ρ d gen h = some (v, h')) (hρ : ∀ x, Rep σ I w (ρ x) (ρc x)) (H : HRep σ I base w h) (hg : σ gen = none) (hB : Bnd base w.heap.size) :
    OpOk σ I base w gen ((execOp ρc o).run P w) v h' := by
  simp only [aop, ho, Option.bind_eq_bind, Option.bind_eq_some_iff] at hop
  obtain ⟨s, hs, hop⟩ := hop
  split at hop
  · rename_i hok
    simp only [Option.some.injEq, Prod.mk.injEq] at hop
    obtain ⟨rfl, rfl⟩ := hop
    refine new_box (e := e) H (hρ x) hok hg hB ?_
    simp only [execOp, ho]
    exact run_value (by simp [Instr.box, newVar, newRow])
  · cases hop

/-! ### arithmetic -/
theorem equalIn_nil {t : TypeId} {dd : TypeDesc} {x y : AV} {a b : Value} (hd : P.underlying t = some dd) (hn : nilBeside dd x y = true) (hx : Rep σ I w x a) (hy : Rep σ I w y b) :
    (Op.equal t a b).run P w = .ok false w ∧ ∀ op xo yo, (eqGuard op t xo yo a b).run P w = .ok () w ∧ (binOp .eql t a b = (do pure (.bool (← Op.equal t a b)))) ∧ (binOp .neq t a b = (do pure (.bool (!(← Op.equal t a b))))) := by
  unfold nilBeside at hn
  split at hn <;> try cases hn
  all_goals cases hx
  all_goals (try (rename_i hp; cases hp))
  all_goals (cases hy; rename_i hp; cases hp)
  all_goals
    refine ⟨?_, fun op xo yo => ⟨?_, rfl, rfl⟩⟩
    · obtain ⟨dep, hdep⟩ : ∃ dep, Op.maxDepth = dep + 1 := ⟨9999, rfl⟩
      unfold Op.equal
      rw [hdep]
      unfold Op.equalIn
      simp only [Sem.run_bind, run_underlying_ok hd, Result.andThen_ok, Sem.run_pure, Option.isNone]
    · unfold eqGuard; split <;> simp
end
end Go.Proofs.YtlhfgonjcpapnaaGreatDoor.Abs

/- The abstract machine's operations, III. -/
set_option linter.unusedVariables false
set_option linter.unusedSimpArgs false
namespace Go.Proofs.YtlhfgonjcpapnaaGreatDoor.Abs
open Go Go.RowKit

variable {σ σ' : Sig} {I I' : Blk} {base : Blk} {w w' : World} {h : Heap} {P : Program}

section
variable {ρ : Operand → AV} {ρc : Operand → Value} {d gen : Nat} {o : Oper} {v : AV} {h' : Heap}

theorem binOp_sound {op : BinOp} {t ty : TypeId} {x y : Operand} (ho : o.op = .binOp op t x y ty) (hop : aop P o ρ d gen h = some (v, h')) (hρ : ∀ x, Rep σ I w (ρ x) (ρc x)) (H : HRep σ I base w h) :
    OpOk σ I base w gen ((execOp ρc o).run P w) v h' := by
  simp only [aop, ho, Option.map_eq_some_iff, Prod.mk.injEq] at hop
  obtain ⟨v', hv, rfl, rfl⟩ := hop
  have hx := hρ x
  have hy := hρ y
  have hex : execOp ρc o = (do let r ← (do eqGuard op t x y (ρc x) (ρc y); binOp op t (ρc x) (ρc y)); pure (Next.value r)) := by simp only [execOp, ho]
  rw [hex]
  unfold abin at hv
  split at hv
  · rename_i a b ha hb
    simp only [Option.map_eq_some_iff] at hv
    obtain ⟨r, hr, rfl⟩ := hv
    rw [valA_rep ha hx, valA_rep hb hy]
    exact .same r H (run_value (pureRun_run hr)) (.pv _ _ (.lit r))
  · split at hv
    · rename_i dd hd
      split at hv
      · rename_i hn
        injection hv with hv
        subst hv
        obtain ⟨h1, h2⟩ := equalIn_nil hd hn hx hy
        obtain ⟨h3, h4, _⟩ := h2 .eql x y
        refine .same (.bool false) H (run_value ?_) (.pv _ _ (.lit _))
        rw [h4]
        simp [h3, h1]
      · cases hv
    · rename_i dd hd
      split at hv
      · rename_i hn
        injection hv with hv
        subst hv
        obtain ⟨h1, h2⟩ := equalIn_nil hd hn hx hy
        obtain ⟨h3, _, h4⟩ := h2 .neq x y
        refine .same (.bool true) H (run_value ?_) (.pv _ _ (.lit _))
        rw [h4]
        simp [h3, h1]
      · cases hv
    · cases hv

theorem unOp_sound {op : UnOp} {t : TypeId} {x : Operand} (ho : o.op = .unOp op t x) (hop : aop P o ρ d gen h = some (v, h')) (hρ : ∀ x, Rep σ I w (ρ x) (ρc x)) (H : HRep σ I base w h) :
    OpOk σ I base w gen ((execOp ρc o).run P w) v h' := by
  simp only [aop, ho, Option.bind_eq_some_iff, Option.map_eq_some_iff, Prod.mk.injEq] at hop
  obtain ⟨a, ha, r, hr, rfl, rfl⟩ := hop
  refine .same r H ?_ (.pv _ _ (.lit r))
  simp only [execOp, ho]
  rw [valA_rep ha (hρ x)]
  exact run_value (pureRun_run hr)

theorem makeInterface_sound {t : TypeId} {x : Operand} (ho : o.op = .makeInterface t x) (hop : aop P o ρ d gen h = some (v, h')) (hρ : ∀ x, Rep σ I w (ρ x) (ρc x)) (H : HRep σ I base w h) :
    OpOk σ I base w gen ((execOp ρc o).run P w) v h' := by
  simp only [aop, ho] at hop
  split at hop
  · cases hop
  · cases hop
  · rename_i dd hn hd
    simp only [Option.map_eq_some_iff, Prod.exists, Prod.mk.injEq] at hop
    obtain ⟨p, h1, hp, rfl, rfl⟩ := hop
    obtain ⟨I', hpr, H', m⟩ := frz_sound _ _ _ _ _ _ _ hp (hρ x) H
    refine .frz _ m H' ?_ (.pv _ _ (.iface t p (ρc x) hpr))
    simp only [execOp, ho]
    refine run_value ?_
    simp only [Instr.makeInterface, Sem.run_bind, run_underlying_ok hd, Result.andThen_ok]
    first
      | rfl
      | (split
         · rename_i ms; exact absurd hd (hn ms)
         · rfl)

theorem makeFunc_sound {fn : Fn} {first captured : Array Operand} (ho : o.op = .makeFunc fn first captured) (hop : aop P o ρ d gen h = some (v, h')) (hρ : ∀ x, Rep σ I w (ρ x) (ρc x)) (H : HRep σ I base w h) :
    OpOk σ I base w gen ((execOp ρc o).run P w) v h' := by
  have hpw : ∀ (l : Array Operand) (j : Nat) (p : AV) (u : Value), (l.toList.map ρ)[j]? = some p → (l.toList.map ρc)[j]? = some u → Rep σ I w p u := by
    intro l j p u hp hu
    simp only [List.getElem?_map, Option.map_eq_some_iff] at hp hu
    obtain ⟨x, hx, rfl⟩ := hp
    obtain ⟨y, hy, rfl⟩ := hu
    rw [hx] at hy
    injection hy with hy
    subst hy
    exact hρ x
  have hrun : (execOp ρc o).run P w = .ok (.value (.func fn (first.toList.map ρc).toArray (captured.toList.map ρc).toArray)) w := by
    simp only [execOp, ho]
    refine run_value ?_
    simp only [Instr.makeFunc, Sem.run_pure]
    congr 2 <;> (apply Array.ext'; simp)
  simp only [aop, ho] at hop
  split at hop
  · rename_i a b ha hb
    simp only [Option.some.injEq, Prod.mk.injEq] at hop
    obtain ⟨rfl, rfl⟩ := hop
    have ea := allPV_map ha
    have eb := allPV_map hb
    refine .same _ H hrun (.pv _ _ (.clo fn a b _ _ ?_ ?_ ?_ ?_))
    · rw [List.length_map, ← List.length_map (f := ρ), ea, List.length_map]
    · rw [List.length_map, ← List.length_map (f := ρ), eb, List.length_map]
    · exact fun j p u hp hu => rep_pv (hpw first j (.pv p) u (by rw [ea]; simp [hp]) hu)
    · exact fun j p u hp hu => rep_pv (hpw captured j (.pv p) u (by rw [eb]; simp [hp]) hu)
  · simp only [Option.some.injEq, Prod.mk.injEq] at hop
    obtain ⟨rfl, rfl⟩ := hop
    exact .same _ H hrun (.clo fn _ _ _ _ (by simp) (by simp) (hpw first) (hpw captured))

theorem fieldAddr_sound {st : TypeId} {x : Operand} {f : Nat} (ho : o.op = .fieldAddr st x f) (hop : aop P o ρ d gen h = some (v, h')) (hρ : ∀ x, Rep σ I w (ρ x) (ρc x)) (H : HRep σ I base w h) :
    OpOk σ I base w gen ((execOp ρc o).run P w) v h' := by
  simp only [aop, ho] at hop
  split at hop
  · rename_i fields hd
    simp only [Option.bind_eq_some_iff] at hop
    obtain ⟨off, hoff, hop⟩ := hop
    unfold afield at hoff
    simp only [Option.bind_eq_some_iff] at hoff
    obtain ⟨fd, hfd, n, hn, hoff⟩ := hoff
    split at hoff
    · cases hoff
    · rename_i hne
      injection hoff with hoff
      subst hoff
      have fin : ∀ {b ob : Nat}, ρc x = .pointer (some ⟨b, ob, none⟩) → (execOp ρc o).run P w = .ok (.value (.pointer (some ⟨b, ob + fd.offset, none⟩))) w := by
        intro b ob hp
        simp only [execOp, ho]
        refine run_value ?_
        simp [Instr.fieldAt, run_underlying_ok hd, hfd, Instr.sureAddr, hp, fieldPlace, run_sizeOf_ok hn, hne, addr_add]
      have hr := hρ x
      split at hop
      · rename_i d1 s g i oo he
        rw [he] at hr
        obtain ⟨b, ob, k, hs, hu⟩ := rep_mptr hr
        simp only [Option.some.injEq, Prod.mk.injEq] at hop
        obtain ⟨rfl, rfl⟩ := hop
        refine .same _ H (fin hu) ?_
        rw [Nat.add_assoc]
        exact .mptr d1 s g i (oo + fd.offset) b ob k hs
      · rename_i r oo he
        rw [he] at hr
        simp only [Option.some.injEq, Prod.mk.injEq] at hop
        obtain ⟨rfl, rfl⟩ := hop
        have hr' := rep_pv hr
        generalize hu : ρc x = u at hr'
        cases hr' with
        | ptr _ _ b ob vs hI hc hr2 =>
          refine .same _ H (fin hu) ?_
          rw [Nat.add_assoc]
          exact .pv _ _ (.ptr r (oo + fd.offset) b ob vs hI hc hr2)
      · cases hop
  · cases hop

theorem intOf_rep {a : AV} {u : Value} {i : Int} (hi : intOf? a = some i) (hr : Rep σ I w a u) : ∃ k, u = .int k i := by
  unfold intOf? at hi
  split at hi
  · rename_i k n
    injection hi with hi
    subst hi
    exact ⟨k, prep_lit (rep_pv hr)⟩
  · cases hi

theorem indexAddr_sound {t : TypeId} {x ix : Operand} (ho : o.op = .indexAddr t x ix) (hop : aop P o ρ d gen h = some (v, h')) (hρ : ∀ x, Rep σ I w (ρ x) (ρc x)) (H : HRep σ I base w h) :
    OpOk σ I base w gen ((execOp ρc o).run P w) v h' := by
  simp only [aop, ho, Option.bind_eq_some_iff] at hop
  obtain ⟨i, hi, hop⟩ := hop
  obtain ⟨kind, hix⟩ := intOf_rep hi (hρ ix)
  have hr := hρ x
  split at hop
  · rename_i e k nl full xs hd he
    rw [he] at hr
    simp only [Option.bind_eq_some_iff] at hop
    obtain ⟨size, hsz, hop⟩ := hop
    split at hop
    · rename_i hc
      obtain ⟨h0, hnl, hk⟩ := hc
      subst hnl; subst hk
      simp only [Option.map_eq_some_iff, Prod.mk.injEq] at hop
      obtain ⟨y, hy, rfl, rfl⟩ := hop
      have hlt := (List.getElem?_eq_some_iff.1 hy).1
      have hr' := rep_pv hr
      generalize hu : ρc x = u at hr'
      cases hr' with
      | emp => simp at hy
      | sl _ _ _ b ob cap vs hcap hfull hI hk hcl hr2 =>
        have hlt' : i < (xs.length : Int) := by omega
        refine .same (.pointer (some ⟨b, ob + i.toNat * k, none⟩)) H ?_ (.pv _ _ ?_)
        · simp only [execOp, ho]
          refine run_value ?_
          simp [Instr.indexAt, asIntOf, hix, run_underlying_ok hd, hu, h0, hlt', run_sizeOf_ok hsz, addr_add]
        · have := PRep.ptr (I := I) (w := w) y 0 b (ob + i.toNat * k) (vs i.toNat) hI (fun j p hp => hcl _ y hy j p hp) (fun j p hp => hr2 _ y hy j p hp)
          simpa using this
    · cases hop
  · rename_i e d1 s g off n full hd he
    rw [he] at hr
    simp only [Option.bind_eq_some_iff] at hop
    obtain ⟨size, hsz, hop⟩ := hop
    split at hop
    · rename_i k0 e0 xs fz hl
      split at hop
      · rename_i hc
        obtain ⟨h0, hn, hk⟩ := hc
        subst hk
        simp only [Option.some.injEq, Prod.mk.injEq] at hop
        obtain ⟨rfl, rfl⟩ := hop
        obtain ⟨b', o', n', hs', _⟩ := row_block (H.live hl (by simp))
        generalize hu : ρc x = u at hr
        cases hr with
        | msl _ _ _ _ _ _ b ob k cap ad had hs hcap hfull hroom =>
          rw [hs] at hs'
          simp only [Option.some.injEq, Prod.mk.injEq] at hs'
          obtain ⟨rfl, rfl, rfl⟩ := hs'
          have had' := had (by omega)
          subst had'
          refine .same (.pointer (some ⟨b, ob + off * k + i.toNat * k, none⟩)) H ?_ ?_
          · simp only [execOp, ho]
            refine run_value ?_
            simp [Instr.indexAt, asIntOf, hix, run_underlying_ok hd, hu, h0, hn, run_sizeOf_ok hsz, addr_add]
          · have := Rep.mptr (σ := σ) (I := I) (w := w) d1 s g (off + i.toNat) 0 b ob k hs
            rw [Nat.add_zero, Nat.add_mul, ← Nat.add_assoc] at this
            exact this
      · cases hop
    · cases hop
  · rename_i n e d1 s g j oo hd he
    rw [he] at hr
    simp only [Option.bind_eq_some_iff] at hop
    obtain ⟨size, hsz, hop⟩ := hop
    split at hop
    · rename_i hc
      obtain ⟨b, ob, k, hs, hu⟩ := rep_mptr hr
      simp only [Option.some.injEq, Prod.mk.injEq] at hop
      obtain ⟨rfl, rfl⟩ := hop
      refine .same (.pointer (some ⟨b, ob + j * k + oo + i.toNat * size, none⟩)) H ?_ ?_
      · simp only [execOp, ho]
        refine run_value ?_
        simp [Instr.indexAt, asIntOf, hix, run_underlying_ok hd, hu, hc.1, hc.2, run_sizeOf_ok hsz, addr_add, Instr.sureAddr]
      · rw [Nat.add_assoc]
        exact .mptr d1 s g j (oo + i.toNat * size) b ob k hs
    · cases hop
  · rename_i n e r oo hd he
    rw [he] at hr
    simp only [Option.bind_eq_some_iff] at hop
    obtain ⟨size, hsz, hop⟩ := hop
    split at hop
    · rename_i hc
      simp only [Option.some.injEq, Prod.mk.injEq] at hop
      obtain ⟨rfl, rfl⟩ := hop
      have hr' := rep_pv hr
      generalize hu : ρc x = u at hr'
      cases hr' with
      | ptr _ _ b ob vs hI hcl hr2 =>
        refine .same (.pointer (some ⟨b, ob + oo + i.toNat * size, none⟩)) H ?_ ?_
        · simp only [execOp, ho]
          refine run_value ?_
          simp [Instr.indexAt, asIntOf, hix, run_underlying_ok hd, hu, hc.1, hc.2, run_sizeOf_ok hsz, addr_add, Instr.sureAddr]
        · rw [Nat.add_assoc]
          exact .pv _ _ (.ptr r (oo + i.toNat * size) b ob vs hI hcl hr2)
    · cases hop
  · cases hop

theorem run_part {t : TypeId} {m off : Nat} {ag : Bool} {us : List Value} (hm : szOf P t = some m) (ha : aggT P t = some ag) :
    (ag = true → off + m ≤ us.length → (part t us.toArray off).run P w = .ok (.agg ((us.drop off).take m).toArray) w) ∧
    (ag = false → ∀ x, us[off]? = some x → (part t us.toArray off).run P w = .ok x w) := by
  refine ⟨?_, ?_⟩
  · rintro rfl hle
    simp only [part, Sem.run_bind, run_isAgg_ok ha, Result.andThen_ok, if_true, run_sizeOf_ok hm, Sem.run_pure]
    congr 2
    apply Array.ext'
    simp [List.extract_eq_take_drop]
  · rintro rfl x hx
    simp [part, run_isAgg_ok ha, hx]

theorem agg_val {v : AV} {u : Value} (hv : v.isAgg = true) (hr : Rep σ I w v u) : v.ok = true ∧ ∃ us : List Value, u = .agg us.toArray ∧ u.cells.toList = us := by
  cases hr with
  | pv p _ hp =>
    cases hp with
    | agg cs vs hl h1 hr => exact ⟨rfl, vs, rfl, rfl⟩
    | _ => cases hv
  | agg cs vs hl h1 hr => exact ⟨rfl, vs, rfl, rfl⟩
  | _ => cases hv

theorem sub_part {t : TypeId} {m off : Nat} {ag : Bool} {x v' : AV} {u : Value} (hm : szOf P t = some m) (ha : aggT P t = some ag) (hx : x.isAgg = true) (hr : Rep σ I w x u) (hs : subA ag m off x = some v') :
    ∃ us y, u = .agg us ∧ (part t us off).run P w = .ok y w ∧ Rep σ I w v' y := by
  obtain ⟨hok, us, rfl, hus⟩ := agg_val hx hr
  obtain ⟨h1, h2, h3⟩ := hr.cells hok
  have hsub := subA_sound (σ := σ) (I := I) (w := w) hs (us := us) (by simpa [Value.cells] using h1) (by simpa [Value.cells] using h2) fun j c x hc hx => h3 j c x hc (by simpa [Value.cells] using hx)
  have hpart := run_part (P := P) (w := w) (off := off) (us := us) hm ha
  cases ag with
  | true => exact ⟨_, _, rfl, hpart.1 rfl (hsub.1 rfl).1, (hsub.1 rfl).2⟩
  | false =>
    obtain ⟨y, hy, hp⟩ := hsub.2 rfl
    exact ⟨_, y, rfl, hpart.2 rfl y hy, hp⟩

theorem index_sound {t : TypeId} {x ix : Operand} (ho : o.op = .index t x ix) (hop : aop P o ρ d gen h = some (v, h')) (hρ : ∀ x, Rep σ I w (ρ x) (ρc x)) (H : HRep σ I base w h) :
    OpOk σ I base w gen ((execOp ρc o).run P w) v h' := by
  simp only [aop, ho] at hop
  have hr := hρ x
  have hi := hρ ix
  split at hop
  · rename_i s k i hd he hei
    rw [he] at hr
    rw [hei] at hi
    have hu := prep_lit (rep_pv hr)
    have hix := prep_lit (rep_pv hi)
    split at hop
    · rename_i h0
      simp only [Option.some.injEq, Prod.mk.injEq] at hop
      obtain ⟨rfl, rfl⟩ := hop
      refine .same (.int .u8 (s[i.toNat]'h0.2).toNat) H ?_ (.pv _ _ (.lit _))
      simp only [execOp, ho]
      refine run_value ?_
      have : s[i.toNat]? = some (s[i.toNat]'h0.2) := by exact getElem?_pos s i.toNat h0.2
      simp [Instr.index, asIntOf, hix, run_underlying_ok hd, hu, h0.1, this]
    · cases hop
  · rename_i n e x' k i hd hei
    rw [hei] at hi
    have hix := prep_lit (rep_pv hi)
    split at hop
    · rename_i hc
      simp only [Option.bind_eq_some_iff] at hop
      obtain ⟨size, hsz, ag, hag, hop⟩ := hop
      split at hop
      · rename_i hagg
        simp only [Option.map_eq_some_iff, Prod.mk.injEq] at hop
        obtain ⟨v', hv', rfl, rfl⟩ := hop
        obtain ⟨us, y, hu, hpart, hry⟩ := sub_part (P := P) hsz hag hagg hr hv'
        refine .same y H ?_ hry
        simp only [execOp, ho]
        refine run_value ?_
        simp [Instr.index, asIntOf, hix, run_underlying_ok hd, hu, hc.1, hc.2, run_sizeOf_ok hsz, hpart]
      · cases hop
    · cases hop
  · cases hop

theorem field_sound {t : TypeId} {x : Operand} {f : Nat} (ho : o.op = .field t x f) (hop : aop P o ρ d gen h = some (v, h')) (hρ : ∀ x, Rep σ I w (ρ x) (ρc x)) (H : HRep σ I base w h) :
    OpOk σ I base w gen ((execOp ρc o).run P w) v h' := by
  simp only [aop, ho] at hop
  have hr := hρ x
  split at hop
  · rename_i fields hd
    simp only [Option.bind_eq_some_iff] at hop
    obtain ⟨fd, hfd, size, hsz, ag, hag, hop⟩ := hop
    split at hop
    · rename_i hagg
      simp only [Option.map_eq_some_iff, Prod.mk.injEq] at hop
      obtain ⟨v', hv', rfl, rfl⟩ := hop
      obtain ⟨us, y, hu, hpart, hry⟩ := sub_part (P := P) hsz hag hagg hr hv'
      refine .same y H ?_ hry
      simp only [execOp, ho]
      refine run_value ?_
      simp [Instr.field, run_underlying_ok hd, hfd, hu, asAgg, hpart]
    · cases hop
  · cases hop

theorem extract_sound {x : Operand} {i : Nat} (ho : o.op = .extract x i) (hop : aop P o ρ d gen h = some (v, h')) (hρ : ∀ x, Rep σ I w (ρ x) (ρc x)) (H : HRep σ I base w h) :
    OpOk σ I base w gen ((execOp ρc o).run P w) v h' := by
  simp only [aop, ho] at hop
  have hr := hρ x
  split at hop
  · rename_i vs he
    rw [he] at hr
    simp only [Option.map_eq_some_iff, Prod.mk.injEq] at hop
    obtain ⟨p, hp, rfl, rfl⟩ := hop
    have hr' := rep_pv hr
    generalize hu : ρc x = u at hr'
    cases hr' with
    | tup _ us hl hr2 =>
      have hi := (List.getElem?_eq_some_iff.1 hp).1
      have hy : us[i]? = some us[i] := List.getElem?_eq_getElem (by omega)
      refine .same us[i] H ?_ (.pv _ _ (hr2 i p _ hp hy))
      simp only [execOp, ho]
      refine run_value ?_
      simp [Instr.extract, hu, hy]
  · rename_i vs he
    rw [he] at hr
    simp only [Option.map_eq_some_iff, Prod.mk.injEq] at hop
    obtain ⟨p, hp, rfl, rfl⟩ := hop
    generalize hu : ρc x = u at hr
    cases hr with
    | tup _ us hl hr2 =>
      have hi := (List.getElem?_eq_some_iff.1 hp).1
      have hy : us[i]? = some us[i] := List.getElem?_eq_getElem (by omega)
      refine .same us[i] H ?_ (hr2 i p _ hp hy)
      simp only [execOp, ho]
      refine run_value ?_
      simp [Instr.extract, hu, hy]
  · cases hop
end
end Go.Proofs.YtlhfgonjcpapnaaGreatDoor.Abs

/- The abstract machine's operations, IV: stores, literals of structs and slices, make. -/
set_option linter.unusedVariables false
set_option linter.unusedSimpArgs false
namespace Go.Proofs.YtlhfgonjcpapnaaGreatDoor.Abs
open Go Go.RowKit

variable {σ σ' : Sig} {I I' : Blk} {base : Blk} {w w' : World} {h : Heap} {P : Program}

/-! ### lists with a part replaced -/
theorem splice_get {α : Type} {l new : List α} {off : Nat} (hle : off + new.length ≤ l.length) (k : Nat) :
    (splice l off new)[k]? = if off ≤ k ∧ k < off + new.length then new[k - off]? else l[k]? := by
  unfold splice
  have hl1 : (l.take off).length = off := by simp; omega
  rcases Nat.lt_or_ge k off with hk | hk
  · rw [if_neg (by omega), List.append_assoc, List.getElem?_append_left (by omega), List.getElem?_take, if_pos hk]
  · rcases Nat.lt_or_ge k (off + new.length) with hk2 | hk2
    · rw [if_pos ⟨hk, hk2⟩, List.append_assoc, List.getElem?_append_right (by omega), hl1, List.getElem?_append_left (by omega)]
    · rw [if_neg (by omega), List.getElem?_append_right (by simp [hl1]; omega), List.getElem?_drop]
      congr 1
      simp [hl1]
      omega
theorem splice_length {α : Type} {l new : List α} {off : Nat} (hle : off + new.length ≤ l.length) : (splice l off new).length = l.length := by
  unfold splice
  simp
  omega

theorem mkAgg_cells (l : List AV) : (mkAgg l).cells = l := by
  unfold mkAgg
  cases ha : allPV l with
  | none => rfl
  | some ps => rw [allPV_map ha]; rfl
theorem mkAgg_ok (l : List AV) : (mkAgg l).ok = true := by
  unfold mkAgg
  cases ha : allPV l <;> rfl

theorem ok_of_rep {v : AV} {u : Value} (hr : Rep σ I w v u) (hu : u.oneCell' = true) : v.ok = true ∧ v.cells = [v] := by
  cases hr with
  | pv p _ hp =>
    cases hp with
    | lit => exact ⟨hu, rfl⟩
    | agg => cases hu
    | tup => cases hu
    | _ => exact ⟨rfl, rfl⟩
  | agg => cases hu
  | tup => cases hu
  | _ => exact ⟨rfl, rfl⟩
theorem pok_of_rep {v : PV} {u : Value} (hr : PRep I w v u) (hu : u.oneCell' = true) : v.ok = true ∧ v.cells = [v] := by
  cases hr with
  | lit => exact ⟨hu, rfl⟩
  | agg => cases hu
  | tup => cases hu
  | _ => exact ⟨rfl, rfl⟩
/-! ### stores -/
theorem run_storeVar {t : TypeId} {m b o n : Nat} {e : TypeId} {u : Value} (hm : szOf P t = some m) (hu : u.cells.size = m) (hs : w.shape? b = some (e, n)) (hn : o + m ≤ n) (hf : Fr w n b)
    (h1 : ∀ x ∈ u.cells.toList, x.oneCell' = true) : (storeVar t ⟨b, o, none⟩ u).run P w = .ok () (w.setCells b o u.cells.toList) := by
  have := run_storeCells_row (P := P) (w := w) (b := b) (o := o) (vs := u.cells.toList) hs (by simpa [hu] using hn) hf h1
  simp only [storeVar, Sem.run_bind, run_sizeOf_ok hm, Result.andThen_ok]
  rw [if_neg (by simp [hu])]
  simpa using this

/-- a store into a row of the call's own -/
theorem HRep.store (H : HRep σ I base w h) {d s g : Nat} {bd bd' : Body} {b o k off : Nat} {us : List Value} (hl : Abs.live h d s g = bd) (hne : bd ≠ .dead) (hs : σ g = some (b, o, k))
    (hb : blkOf σ ⟨g, bd⟩ = some b) (hb' : blkOf σ ⟨g, bd'⟩ = some b) (hr : RowRep σ I base (w.setCells b off us) ⟨g, bd'⟩) :
    HRep σ I base (w.setCells b off us) (hput h d s ⟨g, bd'⟩) ∧ Ext base σ I w σ I (w.setCells b off us) := by
  have hrow := live_row hl hne
  have hf := blkOf_facts (H.rows d s) (by rw [hrow]; exact hb)
  have hk : Keep I w (w.setCells b off us) := setCells_keep hf.2.1
  refine ⟨H.put (fun _ _ h => h) (fun _ h => h) hk (hk.inW H.inW) d s _ hr ?_, ⟨fun _ _ h => h, fun _ h => h, fun _ h => .inl h, hk, setCells_below hf.2.2⟩⟩
  intro d' s' b' hne' hb2
  have hf' := blkOf_facts (H.rows d' s') hb2
  have hbb : b' ≠ b := fun e => hne' (H.apart d s d' s' b (by rw [hrow]; exact hb) (e ▸ hb2))
  exact ⟨setCells_other b us off w b' hbb, hf'.2.1, by rw [hb']; simpa using Ne.symm hbb⟩

theorem setA_sound {v v' : AV} {off : Nat} {new : List AV} (hs : setA v off new = some v') (hnew : ∀ (c : AV), c ∈ new → c.ok = true ∧ c.cells = [c]) (hne : v.isAgg = false → new.length ≠ 0) (hv : v.isAgg = false → v.cells = [v]) :
    off + new.length ≤ v.cells.length ∧ v'.cells = splice v.cells off new ∧ v'.ok = true := by
  unfold setA at hs
  split at hs
  · rename_i hle
    split at hs
    · injection hs with hs
      subst hs
      exact ⟨hle, mkAgg_cells _, mkAgg_ok _⟩
    · rename_i hag
      have hag : v.isAgg = false := by simpa using hag
      have hv := hv hag
      match new, hs with
      | c :: rest, hs =>
        simp only [List.head?_cons, Option.some.injEq] at hs
        subst hs
        rw [hv] at hle
        simp at hle
        have hrest : rest = [] := List.eq_nil_of_length_eq_zero (by omega)
        have hoff : off = 0 := by omega
        subst hrest; subst hoff
        have := hnew c (by simp)
        exact ⟨by rw [hv]; simp, by rw [hv, this.2]; simp [splice], this.1⟩
  · cases hs
theorem setP_sound {v v' : PV} {off : Nat} {new : List PV} (hs : setP v off new = some v') (hnew : ∀ (c : PV), c ∈ new → c.ok = true ∧ c.cells = [c]) (hne : v.isAgg = false → new.length ≠ 0) (hv : v.isAgg = false → v.cells = [v]) :
    off + new.length ≤ v.cells.length ∧ v'.cells = splice v.cells off new ∧ v'.ok = true := by
  unfold setP at hs
  split at hs
  · rename_i hle
    split at hs
    · injection hs with hs
      subst hs
      exact ⟨hle, rfl, rfl⟩
    · rename_i hag
      have hag : v.isAgg = false := by simpa using hag
      have hv := hv hag
      match new, hs with
      | c :: rest, hs =>
        simp only [List.head?_cons, Option.some.injEq] at hs
        subst hs
        rw [hv] at hle
        simp at hle
        have hrest : rest = [] := List.eq_nil_of_length_eq_zero (by omega)
        have hoff : off = 0 := by omega
        subst hrest; subst hoff
        have := hnew c (by simp)
        exact ⟨by rw [hv]; simp, by rw [hv, this.2]; simp [splice], this.1⟩
  · cases hs

theorem noAgg_cells {v : AV} (hv : v.isAgg = false) : v.cells = [v] := by
  cases v with
  | pv p => cases p <;> first | rfl | cases hv
  | agg => cases hv
  | _ => rfl
theorem noAgg_cellsP {v : PV} (hv : v.isAgg = false) : v.cells = [v] := by cases v <;> first | rfl | cases hv

theorem list_mem_get {α : Type} {l : List α} {x : α} (hx : x ∈ l) : ∃ j : Nat, l[j]? = some x := by
  obtain ⟨j, hj, rfl⟩ := List.mem_iff_getElem.1 hx
  exact ⟨j, List.getElem?_eq_getElem hj⟩

section
variable {ρ : Operand → AV} {ρc : Operand → Value} {d gen : Nat} {o : Oper} {v : AV} {h' : Heap}

theorem undef_rep : Rep σ I w undefA undef := .pv _ _ (.lit _)

/-- cells of a box are written -/
theorem box_put {d1 s g b off : Nat} {v0 v' : AV} {new : List AV} {vs : List Value} (H : HRep σ I base w h) (hl : live h d1 s g = .box v0 false) (hs : σ g = some (b, 0, 1)) (hlen : vs.length = new.length)
    (hx2 : ∀ x ∈ vs, x.oneCell' = true) (hx3 : ∀ (j : Nat) (p : AV) (u : Value), new[j]? = some p → vs[j]? = some u → Rep σ I w p u) (hne : new.length ≠ 0) (hv' : setA v0 off new = some v') :
    HRep σ I base (w.setCells b off vs) (hput h d1 s ⟨g, .box v' false⟩) ∧ Ext base σ I w σ I (w.setCells b off vs) ∧ ∃ e n, w.shape? b = some (e, n) ∧ off + vs.length ≤ n ∧ Fr w n b := by
  obtain ⟨b0, k0, e0, u0, hs0, hsh, hok0, hru, hz, hf, h1c, hszu, hcell⟩ := box_val (H.live hl (by simp))
  rw [hs] at hs0
  simp only [Option.some.injEq, Prod.mk.injEq] at hs0
  obtain ⟨rfl, _, _⟩ := hs0
  have hnew : ∀ (c : AV), c ∈ new → c.ok = true ∧ c.cells = [c] := by
    intro c hc
    obtain ⟨j, hj⟩ := list_mem_get hc
    have hlt := (List.getElem?_eq_some_iff.1 hj).1
    have hv : vs[j]? = some vs[j] := by simp
    exact ok_of_rep (hx3 j c _ hj hv) (hx2 _ (by simp))
  obtain ⟨hle, hvc, hvok⟩ := setA_sound hv' hnew (fun _ => hne) noAgg_cells
  have hrow : RowRep σ I base (w.setCells b off vs) ⟨g, .box v' false⟩ := by
    have hk : Keep I w (w.setCells b off vs) := setCells_keep hz.1
    refine ⟨b, e0, hs, ?_, hvok, fun j p hp => ?_, ⟨hz.1, hz.2.1, fun j hj => ?_⟩⟩
    · rw [setCells_shape, hsh, hvc, splice_length hle]
    · rw [hvc, splice_get hle] at hp
      split at hp
      · rename_i hj
        have hlt := (List.getElem?_eq_some_iff.1 hp).1
        refine ⟨vs[j - off]'(by omega), ?_, hx2 _ (by simp), (hx3 (j - off) p _ hp (by simp)).mono (fun _ _ h => h) (fun _ h => h) hk⟩
        have := setCells_in (w := w) (b := b) (o := off) (vs := vs) hsh (by omega) (j := j - off) (by omega)
        rw [show off + (j - off) = j by omega] at this
        exact this
      · rename_i hj
        have hlt := (List.getElem?_eq_some_iff.1 hp).1
        have hcj := Array.getElem?_eq_getElem (xs := u0.cells) (i := j) (by omega)
        refine ⟨u0.cells[j], ?_, h1c _ (by simp), ((hru.cells hok0).2.2 j p _ hp hcj).mono (fun _ _ h => h) (fun _ h => h) hk⟩
        rw [setCells_out (by omega)]
        exact hcell j _ hcj
    · rw [World.frozen?_setCells]
      exact hz.2.2 j (by rw [hvc, splice_length hle] at hj; exact hj)
  obtain ⟨H', E'⟩ := H.store hl (by simp) hs (by simp [blkOf, hs]) (bd' := .box v' false) (by simp [blkOf, hs]) hrow
  exact ⟨H', E', e0, _, hsh, by omega, hz.2.2⟩

theorem store_sound {t : TypeId} {a x : Operand} (ho : o.op = .store t a x) (hop : aop P o ρ d gen h = some (v, h')) (hρ : ∀ x, Rep σ I w (ρ x) (ρc x)) (H : HRep σ I base w h) :
    OpOk σ I base w gen ((execOp ρc o).run P w) v h' := by
  simp only [aop, ho, Option.bind_eq_bind, Option.bind_eq_some_iff] at hop
  obtain ⟨m, hm, hop⟩ := hop
  split at hop
  case isFalse => cases hop
  rename_i hsz
  obtain ⟨hsz, hm0, hok⟩ := hsz
  obtain ⟨hx1, hx2, hx3⟩ := (hρ x).cells hok
  have hra := hρ a
  have fin : ∀ {ad : Addr} {w' : World}, ρc a = .pointer (some ad) → (storeVar t ad (ρc x)).run P w = .ok () w' → (execOp ρc o).run P w = .ok .skip w' := by
    intro ad w' hp hl
    simp only [execOp, ho]
    exact run_skip (by simp [Instr.storeAt, Instr.sureAddr, hp, hl])
  split at hop
  case h_2 => cases hop
  rename_i d1 s g i off he
  rw [he] at hra
  obtain ⟨b, ob, k, hs, hu⟩ := rep_mptr hra
  split at hop
  · rename_i v0 hl
    split at hop
    case isFalse => cases hop
    rename_i hi
    subst hi
    simp only [Option.map_eq_some_iff, Prod.mk.injEq] at hop
    obtain ⟨v', hv', rfl, rfl⟩ := hop
    obtain ⟨b0, k0, e0, u0, hs0, hsh, hok0, hru, hz, hf, h1c, hszu, hcell⟩ := box_val (H.live hl (by simp))
    rw [hs] at hs0
    simp only [Option.some.injEq, Prod.mk.injEq] at hs0
    obtain ⟨rfl, rfl, rfl⟩ := hs0
    have hnew : ∀ (c : AV), c ∈ (ρ x).cells → c.ok = true ∧ c.cells = [c] := by
      intro c hc
      obtain ⟨j, hj⟩ := list_mem_get hc
      have hlt := (List.getElem?_eq_some_iff.1 hj).1
      exact ok_of_rep (hx3 j c _ hj (Array.getElem?_eq_getElem (by omega))) (hx2 _ (by simp))
    obtain ⟨hle, hvc, hvok⟩ := setA_sound hv' hnew (fun _ => by omega) noAgg_cells
    have hlenN : (ρc x).cells.toList.length = (ρ x).cells.length := by simpa using hx1
    have hrun := run_storeVar (P := P) (u := ρc x) (b := b) (o := 0 + 0 * k + off) hm (by omega) hsh (by omega) hz.2.2 hx2
    simp only [Nat.zero_mul, Nat.add_zero, Nat.zero_add] at hu hrun
    have hrow : RowRep σ I base (w.setCells b off (ρc x).cells.toList) ⟨g, .box v' false⟩ := by
      have hk : Keep I w (w.setCells b off (ρc x).cells.toList) := setCells_keep hz.1
      refine ⟨b, e0, by rw [hs, hf], ?_, hvok, fun j p hp => ?_, ⟨hz.1, hz.2.1, fun j hj => ?_⟩⟩
      · rw [setCells_shape, hsh, hvc, splice_length hle]
      · rw [hvc, splice_get hle] at hp
        split at hp
        · rename_i hj
          have hlt := (List.getElem?_eq_some_iff.1 hp).1
          refine ⟨(ρc x).cells.toList[j - off]'(by omega), ?_, hx2 _ (by simp), (hx3 (j - off) p _ hp (by simp)).mono (fun _ _ h => h) (fun _ h => h) hk⟩
          have := setCells_in (w := w) (b := b) (o := off) (vs := (ρc x).cells.toList) hsh (by omega) (j := j - off) (by omega)
          rw [show off + (j - off) = j by omega] at this
          exact this
        · rename_i hj
          have hlt := (List.getElem?_eq_some_iff.1 hp).1
          have hcj := Array.getElem?_eq_getElem (xs := u0.cells) (i := j) (by omega)
          refine ⟨u0.cells[j], ?_, h1c _ (by simp), ((hru.cells hok0).2.2 j p _ hp hcj).mono (fun _ _ h => h) (fun _ h => h) hk⟩
          rw [setCells_out (by omega)]
          exact hcell j _ hcj
      · rw [World.frozen?_setCells]
        exact hz.2.2 j (by rw [hvc, splice_length hle] at hj; exact hj)
    obtain ⟨H', E'⟩ := H.store hl (by simp) hs (by simp [blkOf, hs]) (bd' := .box v' false) (by simp [blkOf, hs]) hrow
    exact ⟨_, _, undef, σ, I, fin hu hrun, .inr ⟨rfl, rfl⟩, undef_rep, H', E', fun _ _ => rfl⟩
  · rename_i k0 e0 xs hl
    simp only [Option.bind_eq_some_iff, Prod.exists] at hop
    obtain ⟨p, h1, hp, hop⟩ := hop
    split at hop
    case h_2 => cases hop
    rename_i k1 e1 xs1 hl1
    simp only [Option.bind_eq_some_iff] at hop
    obtain ⟨y, hy, hop⟩ := hop
    split at hop
    case isFalse => cases hop
    simp only [Option.map_eq_some_iff, Prod.mk.injEq] at hop
    obtain ⟨y', hy', rfl, rfl⟩ := hop
    obtain ⟨I1, hpr, H1, m1⟩ := frz_sound _ _ _ _ _ _ _ hp (hρ x) H
    have hpok := frz_ok hp hok
    obtain ⟨hp1, hp2, hp3⟩ := hpr.cells hpok
    have hr1 := H1.live hl1 (by simp)
    obtain ⟨b', o', n', hs', hb', hbase, _, hn, hsh, hxk, hc, hz⟩ := row_block hr1
    rw [hs] at hs'
    simp only [Option.some.injEq, Prod.mk.injEq] at hs'
    obtain ⟨rfl, rfl, rfl⟩ := hs'
    have hnew : ∀ (c : PV), c ∈ p.cells → c.ok = true ∧ c.cells = [c] := by
      intro c hc
      obtain ⟨j, hj⟩ := list_mem_get hc
      have hlt := (List.getElem?_eq_some_iff.1 hj).1
      exact pok_of_rep (hp3 j c _ hj (Array.getElem?_eq_getElem (by omega))) (hp2 _ (by simp))
    obtain ⟨hle, hvc, hvok⟩ := setP_sound hy' hnew (fun _ => by omega) noAgg_cellsP
    obtain ⟨hyk, hyok⟩ := hxk y (List.mem_of_getElem? hy)
    have hi := (List.getElem?_eq_some_iff.1 hy).1
    have hlenN : (ρc x).cells.toList.length = p.cells.length := by simpa using hp1
    have hmul : (i + 1) * k ≤ xs1.length * k := Nat.mul_le_mul_right k (by omega)
    have hmul' : (i + 1) * k = i * k + k := by rw [Nat.add_mul]; omega
    have hin : ob + i * k + off + (ρc x).cells.toList.length ≤ n' := by omega
    have hrun := run_storeVar (P := P) (u := ρc x) (b := b) (o := ob + i * k + off) hm (by omega) hsh (by omega) hz.2.2 hx2
    have hk : Keep I1 w (w.setCells b (ob + i * k + off) (ρc x).cells.toList) := setCells_keep hz.1
    have hrow : RowRep σ I1 base (w.setCells b (ob + i * k + off) (ρc x).cells.toList) ⟨g, .row k e1 (xs1.set i y') false⟩ := by
      refine ⟨b, ob, n', hs, by rw [setCells_shape]; exact hsh, by simpa using hn, fun z hzm => ?_, fun i' z hz' j q hq => ?_, ⟨hz.1, hz.2.1, fun j hj => by rw [World.frozen?_setCells]; exact hz.2.2 j hj⟩⟩
      · rcases List.mem_or_eq_of_mem_set hzm with hmem | rfl
        · exact hxk z hmem
        · exact ⟨by rw [hvc, splice_length hle, hyk], hvok⟩
      · rw [List.getElem?_set] at hz'
        by_cases hii : i = i'
        · subst hii
          rw [if_pos rfl, if_pos hi] at hz'
          injection hz' with hz'
          subst hz'
          rw [hvc, splice_get hle] at hq
          split at hq
          · rename_i hj
            have hlt := (List.getElem?_eq_some_iff.1 hq).1
            refine ⟨(ρc x).cells.toList[j - off]'(by omega), ?_, hx2 _ (by simp), (hp3 (j - off) q _ hq (by simp)).mono (fun _ h => h) hk.keep⟩
            have := setCells_in (w := w) (b := b) (o := ob + i * k + off) (vs := (ρc x).cells.toList) hsh hin (j := j - off) (by omega)
            rw [show ob + i * k + off + (j - off) = ob + i * k + j by omega] at this
            exact this
          · rename_i hj
            have hlt := (List.getElem?_eq_some_iff.1 hq).1
            obtain ⟨u, hu1, hu2, hu3⟩ := hc i y hy j q hq
            exact ⟨u, by rw [setCells_out (by omega)]; exact hu1, hu2, hu3.mono (fun _ h => h) hk.keep⟩
        · rw [if_neg hii] at hz'
          obtain ⟨u, hu1, hu2, hu3⟩ := hc i' z hz' j q hq
          have hjk : j < k := by rw [← (hxk z (List.mem_of_getElem? hz')).1]; exact (List.getElem?_eq_some_iff.1 hq).1
          refine ⟨u, ?_, hu2, hu3.mono (fun _ h => h) hk.keep⟩
          rw [setCells_out]
          · exact hu1
          · rcases Nat.lt_or_ge i' i with hlt | hge
            · left
              have : (i' + 1) * k ≤ i * k := Nat.mul_le_mul_right k (by omega)
              rw [Nat.add_mul] at this
              omega
            · right
              have : (i + 1) * k ≤ i' * k := Nat.mul_le_mul_right k (by omega)
              omega
    obtain ⟨H', E'⟩ := H1.store hl1 (by simp) hs (by simp [blkOf, hs]) (bd' := .row k e1 (xs1.set i y') false) (by simp [blkOf, hs]) hrow
    exact ⟨_, _, undef, σ, I1, fin hu hrun, .inr ⟨rfl, rfl⟩, undef_rep, H', m1.ext.trans E', fun _ _ => rfl⟩
  · cases hop
end
end Go.Proofs.YtlhfgonjcpapnaaGreatDoor.Abs

/- The abstract machine's operations, V: literals of structs and slices, make, conversions. -/
set_option linter.unusedVariables false
set_option linter.unusedSimpArgs false
namespace Go.Proofs.YtlhfgonjcpapnaaGreatDoor.Abs
open Go Go.RowKit

variable {σ σ' : Sig} {I I' : Blk} {base : Blk} {w w' : World} {h : Heap} {P : Program}

/-- an array with a part's cells laid in -/
theorem fill_cells (off : Nat) (v : Value) (cells : Array Value) :
    ((v.cells.zipIdx.foldl (fun cs (x : Value × Nat) => cs.setIfInBounds (off + x.2) x.1) cells)).size = cells.size ∧
    ∀ k, (v.cells.zipIdx.foldl (fun cs (x : Value × Nat) => cs.setIfInBounds (off + x.2) x.1) cells)[k]? =
      if off ≤ k ∧ k < off + v.cells.size ∧ k < cells.size then v.cells[k - off]? else cells[k]? := by
  have := Great.foldl_set off v.cells.toList 0 cells
  rw [← Array.foldl_toList, Array.toList_zipIdx]
  simpa using this

structure PW (σ : Sig) (I : Blk) (w : World) (cs : List AV) (us : Array Value) : Prop where
  len : us.size = cs.length
  one : ∀ x ∈ us.toList, x.oneCell' = true
  rep : ∀ (j : Nat) (c : AV) (x : Value), cs[j]? = some c → us[j]? = some x → Rep σ I w c x

theorem fill_sound {place : Nat → Option (Nat × Nat)} : ∀ (parts : List (Nat × AV)) (pc : List (Nat × Value)) (cs cs' : List AV) (us : Array Value),
    fillA place cs parts = some cs' → PW σ I w cs us → pc.length = parts.length → (∀ (j : Nat) (p : Nat × AV) (q : Nat × Value), parts[j]? = some p → pc[j]? = some q → p.1 = q.1 ∧ Rep σ I w p.2 q.2) →
    ∃ us', Instr.fill place us pc = some us' ∧ PW σ I w cs' us'
  | [], [], cs, cs', us, hf, hp, _, _ => by
    simp only [fillA, Option.some.injEq] at hf
    subst hf
    exact ⟨us, rfl, hp⟩
  | (i, v) :: parts, (i', u) :: pc, cs, cs', us, hf, hp, hl, hr => by
    obtain ⟨hii, hru⟩ := hr 0 (i, v) (i', u) rfl rfl
    have hru : Rep σ I w v u := hru
    have hii : i = i' := hii
    subst hii
    simp only [fillA] at hf
    split at hf
    · cases hf
    · rename_i off size hpl
      split at hf
      · rename_i hc
        obtain ⟨hsz, hle, hok⟩ := hc
        obtain ⟨h1, h2, h3⟩ := Rep.cells hru hok
        have h1 : u.cells.size = v.cells.length := h1
        have hsz : v.cells.length = size := hsz
        obtain ⟨hs1, hs2⟩ := fill_cells off u us
        have hle' : off + v.cells.length ≤ cs.length := by omega
        have hlen := hp.len
        have hp' : PW σ I w (splice cs off v.cells) (u.cells.zipIdx.foldl (fun cs (x : Value × Nat) => cs.setIfInBounds (off + x.2) x.1) us) := by
          refine ⟨by rw [hs1, splice_length hle', hlen], fun x hx => ?_, fun j c x hc hx => ?_⟩
          · obtain ⟨j, hj⟩ := list_mem_get hx
            rw [Array.getElem?_toList, hs2] at hj
            split at hj
            · exact h2 x (List.mem_of_getElem? (i := j - off) (by simpa using hj))
            · exact hp.one x (List.mem_of_getElem? (i := j) (by simpa using hj))
          · rw [hs2] at hx
            rw [splice_get hle'] at hc
            by_cases hj : off ≤ j ∧ j < off + v.cells.length
            · rw [if_pos hj] at hc
              rw [if_pos (by omega)] at hx
              exact h3 _ c x hc hx
            · rw [if_neg hj] at hc
              rw [if_neg (by omega)] at hx
              exact hp.rep j c x hc hx
        obtain ⟨us', hf', hp''⟩ := fill_sound parts pc _ cs' _ hf hp' (by simpa using hl) fun j p q hpj hqj => hr (j + 1) p q (by simpa using hpj) (by simpa using hqj)
        refine ⟨us', ?_, hp''⟩
        simp only [Instr.fill, hpl]
        have e1 : u.cells.size = size := by omega
        have hcond : ¬ ((u.cells.size ≠ size || decide (off + u.cells.size > us.size)) = true) := by
          simp [e1]; omega
        rw [if_neg (by simpa using hcond)]
        exact hf'
      · cases hf

theorem zero_cells {z : Value} {n : Nat} (hn : (ofVal z).cells.length = n) (hok : (ofVal z).ok = true) :
    z.cells.size = n ∧ (∀ x ∈ z.cells.toList, x.oneCell' = true) ∧ ∀ (j : Nat) (c : PV) (x : Value), (ofVal z).cells[j]? = some c → z.cells[j]? = some x → PRep I w c x := by
  obtain ⟨h1, h2, h3⟩ := (ofVal_rep (I := I) (w := w) z).cells hok
  exact ⟨by omega, h2, h3⟩

section
variable {ρ : Operand → AV} {ρc : Operand → Value} {d gen : Nat} {o : Oper} {v : AV} {h' : Heap}

theorem parts_rep (hρ : ∀ x, Rep σ I w (ρ x) (ρc x)) (parts : List (Nat × Operand)) (j : Nat) (p : Nat × AV) (q : Nat × Value)
    (hp : (parts.map fun (i, x) => (i, ρ x))[j]? = some p) (hq : (parts.map fun (i, x) => (i, ρc x))[j]? = some q) : p.1 = q.1 ∧ Rep σ I w p.2 q.2 := by
  simp only [List.getElem?_map, Option.map_eq_some_iff] at hp hq
  obtain ⟨x, hx, rfl⟩ := hp
  obtain ⟨y, hy, rfl⟩ := hq
  rw [hx] at hy
  injection hy with hy
  subst hy
  exact ⟨rfl, hρ x.2⟩

theorem places_eq {fields : Array Field} {pl : List (Nat × Nat)} (hp : places P fields = some pl) :
    fields.toList.mapM (fun f => (P.info? f.type).map fun i => (f.offset, i.size)) = some pl := by
  unfold places at hp
  rw [← hp]
  congr 1
  funext f
  unfold szOf
  cases P.info? f.type <;> rfl

theorem build_sound {t : TypeId} {parts : Array (Nat × Operand)} (ho : o.op = .build t parts) (hop : aop P o ρ d gen h = some (v, h')) (hρ : ∀ x, Rep σ I w (ρ x) (ρc x)) (H : HRep σ I base w h) :
    OpOk σ I base w gen ((execOp ρc o).run P w) v h' := by
  simp only [aop, ho, Option.bind_eq_bind, Option.bind_eq_some_iff] at hop
  obtain ⟨z, hz, hop⟩ := hop
  split at hop
  case isFalse => cases hop
  rename_i hzok
  have hpw : PW σ I w ((ofVal z).cells.map AV.pv) z.cells := by
    obtain ⟨h1, h2, h3⟩ := zero_cells (I := I) (w := w) (z := z) rfl hzok
    refine ⟨by simpa using h1, h2, fun j c x hc hx => ?_⟩
    simp only [List.getElem?_map, Option.map_eq_some_iff] at hc
    obtain ⟨c', hc', rfl⟩ := hc
    exact .pv _ _ (h3 j c' x hc' hx)
  have hz' := hz
  unfold zeroOf at hz'
  simp only [Option.bind_eq_some_iff] at hz'
  obtain ⟨it, hit, hitz⟩ := hz'
  have fin : ∀ {cs' : List AV} {place : Nat → Option (Nat × Nat)}, fillA place ((ofVal z).cells.map AV.pv) (parts.toList.map fun (i, x) => (i, ρ x)) = some cs' →
      (∀ cells, Instr.fill place z.cells (parts.map fun (i, x) => (i, ρc x)).toList = some cells → P.built t (parts.map fun (i, x) => (i, ρc x)).toList = some cells) →
      OpOk σ I base w gen ((execOp ρc o).run P w) (mkAgg cs') h := by
    intro cs' place hf hb
    obtain ⟨us', hf', hp'⟩ := fill_sound (σ := σ) (I := I) (w := w) _ (parts.toList.map fun (i, x) => (i, ρc x)) _ cs' z.cells hf hpw (by simp) fun j p q hp hq => parts_rep hρ parts.toList j p q hp hq
    have hbt := hb us' (by simpa using hf')
    refine .same (.agg us') H ?_ ?_
    · simp only [execOp, ho]
      exact run_value (run_build w t _ us' hbt)
    · have := mkAgg_rep (σ := σ) (I := I) (w := w) (cs := cs') (vs := us'.toList) (by simpa using hp'.len) hp'.one fun j p v hp hv => hp'.rep j p v hp (by simpa using hv)
      simpa using this
  split at hop
  · rename_i fields hd
    simp only [Option.bind_eq_some_iff] at hop
    obtain ⟨pl, hpl, cs', hf, hop⟩ := hop
    simp only [Option.some.injEq, Prod.mk.injEq] at hop
    obtain ⟨rfl, rfl⟩ := hop
    refine fin hf fun cells hc => ?_
    have hm := places_eq hpl
    simp only [Program.built, hit, hd, hitz, hm]
    have e : (fun x : Nat => pl.toArray[x]?) = (fun x : Nat => pl[x]?) := by funext x; simp
    rw [e]
    exact hc
  · rename_i n e hd
    simp only [Option.bind_eq_some_iff] at hop
    obtain ⟨size, hsz, cs', hf, hop⟩ := hop
    simp only [Option.some.injEq, Prod.mk.injEq] at hop
    obtain ⟨rfl, rfl⟩ := hop
    refine fin hf fun cells hc => ?_
    unfold szOf at hsz
    simp only [Option.map_eq_some_iff] at hsz
    obtain ⟨ie, hie, rfl⟩ := hsz
    simp only [Program.built, hit, hd, hitz, hie]
    exact hc
  · cases hop

/-! ### rows made -/
/-- an array that holds the elements of a row -/
structure RowArr (I : Blk) (w : World) (k : Nat) (xs : List PV) (arr : Array Value) : Prop where
  size : xs.length * k ≤ arr.size
  elem : ∀ x ∈ xs, x.cells.length = k ∧ x.ok = true
  rep : ∀ i x, xs[i]? = some x → ∀ (j : Nat) (p : PV), x.cells[j]? = some p → ∃ u, arr[i * k + j]? = some u ∧ u.oneCell' = true ∧ PRep I w p u

theorem RowArr.mono {k : Nat} {xs : List PV} {arr : Array Value} (hr : RowArr I w k xs arr) (hI : ∀ b, I b → I' b) (hk : ∀ b, I b → w'.heap[b]? = w.heap[b]?) : RowArr I' w' k xs arr :=
  ⟨hr.size, hr.elem, fun i x hi j p hp => by obtain ⟨u, h1, h2, h3⟩ := hr.rep i x hi j p hp; exact ⟨u, h1, h2, h3.mono hI hk⟩⟩

/-- a new block with a row in it: the world w1 has drawn, w' has the block -/
theorem new_row {e : TypeId} {k n cap s : Nat} {full : Bool} {xs : List PV} {arr : Array Value} {fr : Nat × Nat} (H : HRep σ I base w h) (hra : RowArr I w k xs arr) (hg : σ gen = none) (hB : Bnd base w.heap.size)
    (hG : Grows w w' (.cells arr e fr)) (hfr : ∀ j, j < arr.size → w'.frozen? ⟨w.heap.size, j, none⟩ = false) (hn : n ≤ cap) (hfull : full = true → cap = n) (hcap : cap * k ≤ arr.size)
    {run : Result Next} (hrun : run = .ok (.value (.slice (some ⟨w.heap.size, 0, none⟩) n cap)) w') :
    OpOk σ I base w gen run (.msl d s gen 0 n full) (hput h d s ⟨gen, .row k e xs false⟩) := by
  have hE := Ext.push (x := (w.heap.size, 0, k)) H hB hg hG
  refine ⟨_, _, _, _, I, hrun, .inl rfl, ?_, H.push hg hG d s ?_, hE, fun g hne => upd_other hne⟩
  · exact .msl d s gen 0 n full w.heap.size 0 k cap 0 (fun _ => by simp) upd_same hn hfull ⟨e, arr.size, hG.shape, by simpa using hcap⟩
  · refine ⟨w.heap.size, 0, arr.size, upd_same, hG.shape, by simpa using hra.size, hra.elem, fun i x hi j p hp => ?_, ⟨fun hb => ?_, hB.up, hfr⟩⟩
    · obtain ⟨u, h1, h2, h3⟩ := hra.rep i x hi j p hp
      refine ⟨u, ?_, h2, h3.mono (fun _ h => h) hE.kp.keep⟩
      rw [hG.cell]
      simpa using h1
    · exact absurd (H.lt _ hb) (by omega)

theorem index_mod {i j k : Nat} (hj : j < k) : (i * k + j) % k = j := by
  rw [Nat.add_comm, Nat.add_mul_mod_self_right, Nat.mod_eq_of_lt hj]
theorem index_lt {i j k n : Nat} (hi : i < n) (hj : j < k) : i * k + j < n * k := by
  have : (i + 1) * k ≤ n * k := Nat.mul_le_mul_right k (by omega)
  rw [Nat.add_mul] at this
  omega

theorem zeros_arr {z : Value} {k n m : Nat} (hz : (ofVal z).cells.length = k) (hok : (ofVal z).ok = true) (hk : k ≠ 0) (hm : n ≤ m) :
    RowArr I w k (List.replicate n (ofVal z)) ((Array.range (m * k)).map (z.cells[· % z.cells.size]!)) := by
  obtain ⟨h1, h2, h3⟩ := zero_cells (I := I) (w := w) hz hok
  refine ⟨by simp; exact Nat.mul_le_mul_right k hm, fun x hx => by rw [List.eq_of_mem_replicate hx]; exact ⟨hz, hok⟩, fun i x hi j p hp => ?_⟩
  rw [List.getElem?_replicate] at hi
  split at hi
  · rename_i hin
    injection hi with hi
    subst hi
    have hj : j < k := by rw [← hz]; exact (List.getElem?_eq_some_iff.1 hp).1
    have hlt : i * k + j < m * k := index_lt (by omega) hj
    refine ⟨z.cells[j]'(by omega), ?_, h2 _ (by simp), h3 j p _ hp (Array.getElem?_eq_getElem (by omega))⟩
    simp only [Array.getElem?_map, Array.getElem?_range, hlt, if_true, Option.map_some]
    have hmod : (i * k + j) % z.cells.size = j := by rw [h1]; exact index_mod hj
    rw [hmod, getElem!_pos z.cells j (by omega)]
  · cases hi

theorem makeSlice_sound {t : TypeId} {lo co : Operand} (ho : o.op = .makeSlice t lo co) (hop : aop P o ρ d gen h = some (v, h')) (hρ : ∀ x, Rep σ I w (ρ x) (ρc x)) (H : HRep σ I base w h) (hg : σ gen = none) (hB : Bnd base w.heap.size) :
    OpOk σ I base w gen ((execOp ρc o).run P w) v h' := by
  simp only [aop, ho] at hop
  split at hop
  case h_2 => cases hop
  rename_i e hd
  simp only [Option.bind_eq_bind, Option.bind_eq_some_iff] at hop
  obtain ⟨size, hsz, bytes, hby, z, hz, s, hs, l, hl, c, hc, hop⟩ := hop
  split at hop
  case isFalse => cases hop
  rename_i hcond
  obtain ⟨hl0, hlc, hfit, hne, hzl, hzok⟩ := hcond
  simp only [Option.some.injEq, Prod.mk.injEq] at hop
  obtain ⟨rfl, rfl⟩ := hop
  obtain ⟨k1, hlr⟩ := intOf_rep hl (hρ lo)
  obtain ⟨k2, hcr⟩ := intOf_rep hc (hρ co)
  unfold fitsRow room47 maxInt at hfit
  simp only [Bool.and_eq_true, decide_eq_true_eq] at hfit
  obtain ⟨hf1, hf2⟩ := hfit
  have hwl : IntKind.i64.wrap l = l := IntWalk.i64_in _ (by omega)
  have hwc : IntKind.i64.wrap c = c := IntWalk.i64_in _ (by omega)
  obtain ⟨ie, hie, hbe⟩ := run_bytes_ok hby
  obtain ⟨c', rfl⟩ := Int.eq_ofNat_of_zero_le (show 0 ≤ c by omega)
  have hsmall : (bytes : Int) * c' ≤ 140737488355328 := by
    have : c' * bytes ≤ 140737488355328 := by have := hf1; rwa [Int.toNat_natCast] at this
    have : ((c' * bytes : Nat) : Int) ≤ 140737488355328 := Int.le_trans (Int.ofNat_le.mpr this) (by decide)
    rw [Int.natCast_mul, Int.mul_comm] at this
    exact this
  have hG : Grows w (w.alloc (.cells ((Array.range (c' * size)).map (z.cells[· % z.cells.size]!)) e)) (.cells ((Array.range (c' * size)).map (z.cells[· % z.cells.size]!)) e) := ⟨rfl, rfl, rfl, rfl⟩
  refine new_row (k := size) (n := l.toNat) (cap := c') (full := decide (l = (c' : Int))) H (zeros_arr hzl hzok hne (show l.toNat ≤ c' by omega)) hg hB hG (fun j hj => hG.frozen j) (by omega)
    (by intro hh; simp at hh; omega) (by simp) ?_
  simp only [execOp, ho]
  refine run_value ?_
  by_cases hn0 : c' * size = 0
  · simp [Instr.makeSlice, run_underlying_ok hd, asInt, asIntOf, hlr, hcr, run_typeInfo_ok hie, hbe, hwl, hwc, run_sizeOf_ok hsz, hn0, newRow]
    rw [if_neg (by omega)]
    have hr0 : Array.range 0 = (#[] : Array Nat) := rfl
    simp [hr0]
  · simp [Instr.makeSlice, run_underlying_ok hd, asInt, asIntOf, hlr, hcr, run_typeInfo_ok hie, hbe, hwl, hwc, run_sizeOf_ok hsz, hn0, newRow, run_zero_ok hz]
    intro hbad
    omega
end
end Go.Proofs.YtlhfgonjcpapnaaGreatDoor.Abs

/- The abstract machine's operations, VI: conversions, slice expressions, append. -/
set_option linter.unusedVariables false
set_option linter.unusedSimpArgs false
namespace Go.Proofs.YtlhfgonjcpapnaaGreatDoor.Abs
open Go Go.RowKit

variable {σ σ' : Sig} {I I' : Blk} {base : Blk} {w w' : World} {h : Heap} {P : Program}

/-! ### the elements of a slice or a string -/
theorem bytesPV_get (s : ByteArray) (i : Nat) : (bytesPV s)[i]? = (s.data[i]?).map fun b => PV.lit (.int .u8 b.toNat) := by
  unfold bytesPV
  simp

/-- the cells that the elements of a value hold -/
structure Elems (I : Blk) (w : World) (P : Program) (size : Nat) (u : Value) (ys : List PV) (news : Array Value) : Prop where
  len : ∀ w' : World, (Builtin.lenOf u).run P w' = .ok ys.length w'
  run : (Builtin.firstCells size ys.length u).run P w = .ok news w
  runD : (Builtin.firstCells size ys.length u).run P w.drew = .ok news w.drew
  arr : RowArr I w size ys news
  size_eq : news.size = ys.length * size
  one : ∀ x ∈ news.toList, x.oneCell' = true

theorem cells_arr {b o k : Nat} {xs : List PV} (hk : ∀ x ∈ xs, x.cells.length = k ∧ x.ok = true) (hc : ∀ i x, xs[i]? = some x → ∀ (j : Nat) (p : PV), x.cells[j]? = some p →
      ∃ u, w.cell? ⟨b, o + i * k + j, none⟩ = some u ∧ u.oneCell' = true ∧ PRep I w p u) :
    ∃ arr : Array Value, (loadCells ⟨b, o, none⟩ (xs.length * k)).run P w = .ok arr w ∧ (loadCells ⟨b, o, none⟩ (xs.length * k)).run P w.drew = .ok arr w.drew ∧ RowArr I w k xs arr ∧ arr.size = xs.length * k ∧ ∀ x ∈ arr.toList, x.oneCell' = true := by
  have hcell : ∀ n, n < xs.length * k → ∃ u, w.cell? ⟨b, o + n, none⟩ = some u ∧ u.oneCell' = true ∧ ∀ x p, xs[n / k]? = some x → x.cells[n % k]? = some p → PRep I w p u := by
    intro n hn
    have hk0 : 0 < k := by
      rcases Nat.eq_zero_or_pos k with h0 | h0
      · subst h0; simp at hn
      · exact h0
    have hi : n / k < xs.length := Nat.div_lt_of_lt_mul (by rw [Nat.mul_comm]; exact hn)
    have hj : n % k < k := Nat.mod_lt _ hk0
    have hx := List.getElem?_eq_getElem hi
    have hxk := (hk _ (List.getElem_mem hi)).1
    obtain ⟨u, h1, h2, h3⟩ := hc (n / k) _ hx (n % k) _ (List.getElem?_eq_getElem (by omega))
    have e : o + n / k * k + n % k = o + n := by
      have := Nat.div_add_mod n k
      rw [Nat.mul_comm] at this
      omega
    rw [e] at h1
    refine ⟨u, h1, h2, fun x p hx' hp' => ?_⟩
    rw [hx] at hx'; injection hx' with hx'; subst hx'
    rw [List.getElem?_eq_getElem (by omega)] at hp'; injection hp' with hp'; subst hp'
    exact h3
  obtain ⟨us, hl, hu⟩ := list_of_cells (P := fun n u => w.cell? ⟨b, o + n, none⟩ = some u ∧ u.oneCell' = true ∧ ∀ x p, xs[n / k]? = some x → x.cells[n % k]? = some p → PRep I w p u) (xs.length * k) hcell
  have hrun := run_loadCells_list (P := P) w ⟨b, o, none⟩ us fun j v hv => by rw [addr_add]; exact (hu j v hv).1
  have hrunD := run_loadCells_list (P := P) w.drew ⟨b, o, none⟩ us fun j v hv => by rw [addr_add, World.cell?_drew]; exact (hu j v hv).1
  rw [hl] at hrun hrunD
  refine ⟨us.toArray, hrun, hrunD, ⟨by simp [hl], hk, fun i x hi j p hp => ?_⟩, by simp [hl], fun x hx => ?_⟩
  · have hil := (List.getElem?_eq_some_iff.1 hi).1
    have hjl : j < k := by rw [← (hk x (List.mem_of_getElem? hi)).1]; exact (List.getElem?_eq_some_iff.1 hp).1
    have hlt := index_lt hil hjl
    have hg : us[i * k + j]? = some us[i * k + j] := List.getElem?_eq_getElem (by omega)
    obtain ⟨_, h2, h3⟩ := hu _ _ hg
    refine ⟨us[i * k + j], by simpa using hg, h2, h3 x p ?_ ?_⟩
    · rw [Nat.add_comm, Nat.add_mul_div_right _ _ (by omega), Nat.div_eq_of_lt hjl, Nat.zero_add]; exact hi
    · rw [index_mod hjl]; exact hp
  · obtain ⟨j, hj⟩ := list_mem_get (l := us) (by simpa using hx)
    exact (hu j x hj).2.1

theorem elems_sound {size : Nat} {v : AV} {u : Value} {ys : List PV} (he : elemsOf size h v = some ys) (hr : Rep σ I w v u) (H : HRep σ I base w h) :
    ∃ news, Elems I w P size u ys news := by
  unfold elemsOf at he
  split at he
  · rename_i k nl full xs
    have hr' := rep_pv hr
    cases hr' with
    | nil =>
      simp at he
      subst he
      exact ⟨#[], ⟨fun _ => rfl, by simp [Builtin.firstCells], by simp [Builtin.firstCells], ⟨by simp, by simp, fun i x hi => by simp at hi⟩, by simp, by simp⟩⟩
    | emp k full a cap hfull =>
      simp at he
      obtain ⟨rfl, rfl⟩ := he
      exact ⟨#[], ⟨fun _ => rfl, by simp [Builtin.firstCells, loadCells, loadCellsFrom], by simp [Builtin.firstCells, loadCells, loadCellsFrom], ⟨by simp, by simp, fun i x hi => by simp at hi⟩, by simp, by simp⟩⟩
    | sl k full xs b o cap vs hcap hfull hI hk hc hr2 =>
      simp at he
      obtain ⟨rfl, rfl⟩ := he
      obtain ⟨arr, h1, h1D, h2, h3, h4⟩ := cells_arr (P := P) (I := I) (w := w) (b := b) (o := o) hk fun i x hi j p hp => ⟨vs i j, (hc i x hi j p hp).1, (hc i x hi j p hp).2, hr2 i x hi j p hp⟩
      exact ⟨arr, ⟨fun _ => rfl, by simpa [Builtin.firstCells] using h1, by simpa [Builtin.firstCells] using h1D, h2, h3, h4⟩⟩
  · rename_i s
    split at he
    · rename_i hs
      subst hs
      injection he with he
      subst he
      have hu := prep_lit (rep_pv hr)
      subst hu
      have hlen : (bytesPV s).length = s.size := by simp [bytesPV]
      refine ⟨s.data.map fun b => .int .u8 b.toNat, ⟨fun _ => by rw [hlen]; rfl, ?_, ?_, ⟨by simp [hlen], ?_, ?_⟩, by simp [hlen], ?_⟩⟩
      · rw [hlen]
        simp only [Builtin.firstCells, Sem.run_pure]
        congr 2
        have : (s.extract 0 s.size) = s := by simp
        rw [this]
      · rw [hlen]
        simp only [Builtin.firstCells, Sem.run_pure]
        congr 2
        have : (s.extract 0 s.size) = s := by simp
        rw [this]
      · intro x hx
        simp only [bytesPV, List.mem_map] at hx
        obtain ⟨b, _, rfl⟩ := hx
        exact ⟨rfl, rfl⟩
      · intro i x hi j p hp
        rw [bytesPV_get] at hi
        simp only [Option.map_eq_some_iff] at hi
        obtain ⟨b, hb, rfl⟩ := hi
        cases j with
        | zero =>
          simp [PV.cells] at hp
          subst hp
          exact ⟨.int .u8 b.toNat, by simp [hb], rfl, .lit _⟩
        | succ j => simp [PV.cells] at hp
      · intro x hx
        simp only [Array.toList_map, List.mem_map] at hx
        obtain ⟨b, _, rfl⟩ := hx
        rfl
    · cases he
  · rename_i d s g off n full
    split at he
    · rename_i k e xs fz hl
      split at he
      · rename_i hc0
        obtain ⟨rfl, hle⟩ := hc0
        injection he with he
        subst he
        obtain ⟨b', o', n', hs', _, _, _, hn, hsh, hx, hc, _⟩ := row_block (H.live hl (by simp))
        cases hr with
        | msl _ _ _ _ _ _ b ob k cap ad had hs hcap hfull hroom =>
          rw [hs] at hs'
          simp only [Option.some.injEq, Prod.mk.injEq] at hs'
          obtain ⟨rfl, rfl, rfl⟩ := hs'
          have hlen : ((xs.drop off).take n).length = n := by simp; omega
          by_cases h0 : cap = 0
          · have hn0 : n = 0 := by omega
            subst hn0
            exact ⟨#[], ⟨fun _ => by simp [Builtin.lenOf], by simp [Builtin.firstCells, loadCells, loadCellsFrom], by simp [Builtin.firstCells, loadCells, loadCellsFrom], ⟨by simp, by simp, fun i x hi => by simp at hi⟩, by simp, by simp⟩⟩
          · rw [had h0]
            obtain ⟨arr, h1, h1D, h2, h3, h4⟩ := cells_arr (P := P) (I := I) (w := w) (b := b) (o := ob + off * k) (xs := (xs.drop off).take n) (k := k)
              (fun x hxm => hx x (List.mem_of_mem_drop (List.mem_of_mem_take hxm))) fun i x hi j p hp => by
                have := hc (off + i) x (get_sub hi).2 j p hp
                rw [show ob + off * k + i * k + j = ob + (off + i) * k + j by rw [Nat.add_mul]; omega]
                exact this
            exact ⟨arr, ⟨fun _ => by rw [hlen]; rfl, by simpa [Builtin.firstCells] using h1, by simpa [Builtin.firstCells] using h1D, h2, h3, h4⟩⟩
      · cases he
    · cases he
  · cases he

theorem Elems.src {size : Nat} {u : Value} {ys : List PV} {news : Array Value} {t1 : TypeId} (hE : Elems I w P size u ys news) (ht : appendable P t1 = true) : Src P size t1 u ys.length news.toList w := by
  refine ⟨?_, hE.len, by simpa using hE.run, by simpa using hE.runD, by simpa using hE.size_eq, hE.one⟩
  unfold appendable at ht
  split at ht
  · rename_i e' hh; exact .inl ⟨e', hh⟩
  · rename_i hh; exact .inr hh
  · cases ht

theorem fits_of {n bytes : Nat} (hf : fitsRow n bytes = true) : n * bytes ≤ 140737488355328 ∧ n ≤ 9223372036854775807 := by
  unfold fitsRow room47 maxInt at hf
  simpa only [Bool.and_eq_true, decide_eq_true_eq] using hf

theorem RowArr.append {k : Nat} {xs ys : List PV} {a b : Array Value} (ha : RowArr I w k xs a) (hb : RowArr I w k ys b) (hs : a.size = xs.length * k) (rest : Array Value) : RowArr I w k (xs ++ ys) ((a.toList ++ b.toList).toArray ++ rest) := by
  refine ⟨?_, fun x hx => (List.mem_append.1 hx).elim (ha.elem x) (hb.elem x), fun i x hi j p hp => ?_⟩
  · have := hb.size
    simp [Nat.add_mul]
    omega
  · have hj : ∀ {zs : List PV} {c : Array Value}, RowArr I w k zs c → x ∈ zs → j < k := fun hz hm => by rw [← (hz.elem x hm).1]; exact (List.getElem?_eq_some_iff.1 hp).1
    rcases Nat.lt_or_ge i xs.length with hlt | hge
    · rw [List.getElem?_append_left hlt] at hi
      obtain ⟨u, h1, h2, h3⟩ := ha.rep i x hi j p hp
      have hb1 := (Array.getElem?_eq_some_iff.1 h1).1
      refine ⟨u, ?_, h2, h3⟩
      rw [Array.getElem?_append_left (by simp; omega)]
      simp only [List.getElem?_toArray]
      rw [List.getElem?_append_left (by simpa using hb1)]
      simpa using h1
    · rw [List.getElem?_append_right hge] at hi
      obtain ⟨u, h1, h2, h3⟩ := hb.rep (i - xs.length) x hi j p hp
      have hb1 := (Array.getElem?_eq_some_iff.1 h1).1
      have e : i * k + j = xs.length * k + ((i - xs.length) * k + j) := by
        have : i * k = xs.length * k + (i - xs.length) * k := by rw [← Nat.add_mul]; congr 1; omega
        omega
      refine ⟨u, ?_, h2, h3⟩
      rw [Array.getElem?_append_left (by simp; omega)]
      simp only [List.getElem?_toArray]
      rw [List.getElem?_append_right (by simp; omega)]
      simp only [Array.length_toList, Array.getElem?_toList]
      rw [show i * k + j - a.size = (i - xs.length) * k + j by omega]
      exact h1

end Go.Proofs.YtlhfgonjcpapnaaGreatDoor.Abs

/- The abstract machine's operations, VII: append. -/
set_option linter.unusedVariables false
set_option linter.unusedSimpArgs false
namespace Go.Proofs.YtlhfgonjcpapnaaGreatDoor.Abs
open Go Go.RowKit

variable {σ σ' : Sig} {I I' : Blk} {base : Blk} {w w' : World} {h : Heap} {P : Program}

section
variable {d gen : Nat} {t0 t1 ty e : TypeId} {size bytes : Nat} {z : Value}

/-- what is known of the types at an append -/
structure AppT (P : Program) (t0 t1 e : TypeId) (size bytes : Nat) (z : Value) : Prop where
  d0 : P.underlying t0 = some (.slice e)
  d1 : appendable P t1 = true
  sz : szOf P e = some size
  by_ : byOf P e = some bytes
  z_ : zeroOf P e = some z
  ne : size ≠ 0
  zs : z.cells.size = size

theorem AppT.info (T : AppT P t0 t1 e size bytes z) : ∃ i, P.info? e = some i ∧ i.size = size ∧ i.bytes = bytes ∧ i.zero = some z := by
  have h1 := T.sz
  have h2 := T.by_
  have h3 := T.z_
  unfold szOf at h1
  unfold byOf at h2
  unfold zeroOf at h3
  simp only [Option.map_eq_some_iff, Option.bind_eq_some_iff] at h1 h2 h3
  obtain ⟨i, hi, rfl⟩ := h1
  obtain ⟨i2, hi2, rfl⟩ := h2
  obtain ⟨i3, hi3, hz⟩ := h3
  rw [hi] at hi2 hi3
  injection hi2 with hi2
  injection hi3 with hi3
  subst hi2; subst hi3
  exact ⟨i, hi, rfl, rfl, hz⟩

theorem append_nothing (T : AppT P t0 t1 e size bytes z) {bs : Option Addr} {n cap : Nat} {x : Value} {news : Array Value} (hle : n ≤ cap) (hx : Elems I w P size x [] news) :
    (Builtin.append_ #[t0, t1] ty #[.slice bs n cap, x]).run P w = .ok (.slice bs n cap) w := by
  obtain ⟨i, hi, hs, hb, hz⟩ := T.info
  have hsrc := hx.src T.d1
  have hn : news.toList = [] := List.eq_nil_of_length_eq_zero (by simpa using hx.size_eq)
  rw [hn] at hsrc
  subst hs
  exact run_append_nothing w t0 t1 ty e i T.d0 hi bs n cap hle x (by simpa using hsrc)

theorem append_new (T : AppT P t0 t1 e size bytes z) (H : HRep σ I base w h) (hg : σ gen = none) (hB : Bnd base w.heap.size) {d s : Nat} {bs : Option Addr} {cap : Nat} {x : Value} {xs ys : List PV} {olds news : Array Value}
    (hs : Elems I w P size (.slice bs xs.length cap) xs olds) (hx : Elems I w P size x ys news) (hlt : cap < xs.length + ys.length) (hfit : fitsRow (xs.length + ys.length) bytes = true)
    {run : Result Next} (hrun : run = ((Builtin.append_ #[t0, t1] ty #[.slice bs xs.length cap, x]).run P w).andThen fun v w' => .ok (.value v) w') :
    OpOk σ I base w gen run (.msl d s gen 0 (xs.length + ys.length) false) (hput h d s ⟨gen, .row size e (xs ++ ys) false⟩) := by
  obtain ⟨i, hi, hsi, hb, hz⟩ := T.info
  subst hsi
  obtain ⟨hf1, hf2⟩ := fits_of hfit
  have hr := run_append_grow_src (P := P) w t0 t1 ty e i z T.d0 hi hz bs xs.length cap olds.toList (by simpa using hs.runD) x ys.length news.toList (hx.src T.d1) hlt (by omega)
    (growslice_fits hlt (by rw [hb]; exact hf1))
  rw [hr] at hrun
  have hG : Grows w (w.drew.alloc (.cells ((olds.toList ++ news.toList).toArray ++ Builtin.zeroCells z.cells (grownCap w (xs.length + ys.length) cap e - (xs.length + ys.length))) e))
      (.cells ((olds.toList ++ news.toList).toArray ++ Builtin.zeroCells z.cells (grownCap w (xs.length + ys.length) cap e - (xs.length + ys.length))) e) := ⟨rfl, rfl, rfl, rfl⟩
  have hge := grownCap_ge w (xs.length + ys.length) cap e
  refine new_row H (hs.arr.append hx.arr hs.size_eq _) hg hB hG (fun j _ => hG.frozen j) hge (by simp) ?_ hrun
  have e1 : (Builtin.zeroCells z.cells (grownCap w (xs.length + ys.length) cap e - (xs.length + ys.length))).size = (grownCap w (xs.length + ys.length) cap e - (xs.length + ys.length)) * i.size := by
    rw [size_zeroCells, T.zs]
  have e2 := hs.size_eq
  have e3 := hx.size_eq
  simp only [Array.size_append, List.size_toArray, List.length_append, Array.length_toList, e1, e2, e3]
  rw [← Nat.add_mul, ← Nat.add_mul]
  exact Nat.mul_le_mul_right _ (by omega)

theorem append_sound {tgt v : AV} {h' : Heap} {u x : Value} {slot : Nat} {ys : List PV} {news : Array Value} (T : AppT P t0 t1 e size bytes z) (hop : aappend e size bytes d slot gen h tgt ys = some (v, h')) (hu : Rep σ I w tgt u)
    (hx : Elems I w P size x ys news) (H : HRep σ I base w h) (hg : σ gen = none) (hB : Bnd base w.heap.size)
    {run : Result Next} (hrun : run = ((Builtin.append_ #[t0, t1] ty #[u, x]).run P w).andThen fun v w' => .ok (.value v) w') : OpOk σ I base w gen run v h' := by
  unfold aappend at hop
  split at hop
  · rename_i k nl full xs
    split at hop
    · -- nothing
      rename_i hys
      have hys : ys = [] := by simpa using hys
      subst hys
      simp only [Option.some.injEq, Prod.mk.injEq] at hop
      obtain ⟨rfl, rfl⟩ := hop
      refine .same u H ?_ hu
      have hu' := rep_pv hu
      cases hu' with
      | nil => rw [hrun, append_nothing T (Nat.le_refl _) hx]; rfl
      | emp => rw [hrun, append_nothing T (Nat.zero_le _) hx]; rfl
      | sl _ _ _ b o cap vs hcap => rw [hrun, append_nothing T hcap hx]; rfl
    · rename_i hys
      have hys : ys ≠ [] := by simpa using hys
      have hpos : 0 < ys.length := by
        cases ys with
        | nil => exact absurd rfl hys
        | cons a l => simp
      split at hop
      · rename_i hnl
        subst hnl
        split at hop
        · rename_i hc
          simp only [Option.some.injEq, Prod.mk.injEq] at hop
          obtain ⟨rfl, rfl⟩ := hop
          have hu' := rep_pv hu
          cases hu' with
          | nil =>
            obtain ⟨olds, hs⟩ := elems_sound (P := P) (size := size) (ys := []) (by simp [elemsOf]) hu H
            have := append_new (ty := ty) T H hg hB (d := d) (s := slot) (xs := []) hs hx (by simpa using hpos) (by simpa using hc.2) hrun
            simpa using this
        · cases hop
      · rename_i hnl
        have hnl : nl = false := by simpa using hnl
        subst hnl
        split at hop
        · rename_i hc
          obtain ⟨rfl, rfl, hfit⟩ := hc
          simp only [Option.some.injEq, Prod.mk.injEq] at hop
          obtain ⟨rfl, rfl⟩ := hop
          obtain ⟨olds, hs⟩ := elems_sound (P := P) (size := k) (ys := xs) (by simp [elemsOf]) hu H
          have hu' := rep_pv hu
          cases hu' with
          | emp _ _ a cap hfull =>
            have := hfull rfl
            subst this
            exact append_new (ty := ty) T H hg hB (d := d) (s := slot) (xs := []) hs hx (by simpa using hpos) hfit hrun
          | sl _ _ _ b o cap vs hcap hfull =>
            have := hfull rfl
            subst this
            exact append_new (ty := ty) T H hg hB (d := d) (s := slot) hs hx (by omega) hfit hrun
        · cases hop
  · rename_i d' s' g' off n full
    split at hop
    case h_2 => cases hop
    rename_i k e' xs fz hl
    have hu0 := hu
    cases hu with
    | msl _ _ _ _ _ _ b o k2 cap ad had hs hn hfull hroom =>
      obtain ⟨b', o', n', hs', hbl, hbase, hfr, hxn, hsh, hxk, hc, hz⟩ := row_block (H.live hl (by simp))
      rw [hs] at hs'
      simp only [Option.some.injEq, Prod.mk.injEq] at hs'
      obtain ⟨rfl, rfl, rfl⟩ := hs'
      split at hop
      · rename_i hfl
        subst hfl
        have hcn := hfull rfl
        subst hcn
        split at hop
        · rename_i hys
          have hys : ys = [] := by simpa using hys
          subst hys
          simp only [Option.some.injEq, Prod.mk.injEq] at hop
          obtain ⟨rfl, rfl⟩ := hop
          exact .same _ H (by rw [hrun, append_nothing T hn hx]; rfl) hu0
        · rename_i hys
          have hys : ys ≠ [] := by simpa using hys
          have hpos : 0 < ys.length := by
            cases ys with
            | nil => exact absurd rfl hys
            | cons a l => simp
          split at hop
          · rename_i hcc
            obtain ⟨rfl, hle, hfit⟩ := hcc
            simp only [Option.some.injEq, Prod.mk.injEq] at hop
            obtain ⟨rfl, rfl⟩ := hop
            obtain ⟨olds, hso⟩ := elems_sound (P := P) (size := k2) (ys := (xs.drop off).take cap) (by simp [elemsOf, hl, hle]) hu0 H
            have hlen : ((xs.drop off).take cap).length = cap := by simp; omega
            have hso' : Elems I w P k2 (.slice (some ⟨b, ad, none⟩) ((xs.drop off).take cap).length cap) ((xs.drop off).take cap) olds := by rw [hlen]; exact hso
            have := append_new (run := run) (ty := ty) (cap := cap) T H hg hB (d := d) (s := slot) hso' hx (by omega) (by rw [hlen]; exact hfit) (by rw [hlen]; exact hrun)
            rw [hlen] at this
            exact this
          · cases hop
      · rename_i hfl
        split at hop
        case isFalse => cases hop
        rename_i hcc
        obtain ⟨rfl, rfl, rfl, hle, hfit⟩ := hcc
        simp only [Option.some.injEq, Prod.mk.injEq] at hop
        obtain ⟨rfl, rfl⟩ := hop
        have hdrop : (xs.drop off).take n = xs.drop off := List.take_of_length_le (by simp; omega)
        have hlenD : (xs.drop off).length = n := by simp; omega
        by_cases hroomy : n + ys.length ≤ cap
        · -- in place
          obtain ⟨i, hi, hsi, hb, hzz⟩ := T.info
          subst hsi
          obtain ⟨ee, mm, hsh2, hroom2⟩ := hroom
          rw [hsh] at hsh2
          simp only [Option.some.injEq, Prod.mk.injEq] at hsh2
          obtain ⟨rfl, rfl⟩ := hsh2
          have hnews : news.toList.length = ys.length * i.size := by simpa using hx.size_eq
          have hcells : (n + ys.length) * i.size ≤ cap * i.size := Nat.mul_le_mul_right _ hroomy
          rw [Nat.add_mul] at hcells
          rw [Nat.add_mul] at hroom2
          have hin : ∀ j, j < news.toList.length → cap ≠ 0 ∧ ad + n * i.size + j < n' := by
            intro j hj
            have hc0 : cap ≠ 0 := by
              intro h0
              subst h0
              have : ys.length = 0 := by omega
              rw [this] at hnews
              omega
            have := had hc0
            exact ⟨hc0, by omega⟩
          have hr := run_append_room_src (P := P) w t0 t1 ty _ i T.d0 hi b ad n cap x ys.length news.toList (hx.src T.d1) hroomy
            (fun j hj => by obtain ⟨u, hu⟩ := cell_lt_shape hsh (hin j hj).2; rw [hu]; rfl) (fun j hj => hz.2.2 _ (hin j hj).2)
          rw [hr] at hrun
          have hkeep : Keep I w (w.setCells b (ad + n * i.size) news.toList) := setCells_keep hz.1
          have hxsl : xs.length * i.size = off * i.size + n * i.size := by rw [← hle, Nat.add_mul]
          have had' : news.toList.length ≠ 0 → ad = o + off * i.size := fun hh => had (hin 0 (by omega)).1
          have hE : Ext base σ I w (upd σ gen (b, o + off * i.size, i.size)) I (w.setCells b (ad + n * i.size) news.toList) :=
            ⟨upd_sub hg, fun _ h => h, fun _ h => .inl h, hkeep, setCells_below hz.2.1⟩
          have hrowl := live_row hl (by simp)
          refine ⟨_, _, _, upd σ gen (b, o + off * i.size, i.size), I, hrun, .inl rfl, ?_, ?_, hE, fun g hne => upd_other hne⟩
          · exact .msl d' s' gen 0 _ false b _ _ cap ad (fun hc0 => by rw [had hc0]; simp) upd_same hroomy (by simp) ⟨_, n', by rw [setCells_shape]; exact hsh, by rw [Nat.zero_add]; omega⟩
          · refine H.put (upd_sub hg) (fun _ h => h) hkeep (hkeep.inW H.inW) d' s' _ ?_ ?_
            · refine ⟨b, o + off * i.size, n', upd_same, by rw [setCells_shape]; exact hsh, ?_, ?_, ?_, ⟨hz.1, hz.2.1, fun j hj => by rw [World.frozen?_setCells]; exact hz.2.2 j hj⟩⟩
              · rw [List.length_append, hlenD, Nat.add_mul]
                by_cases h0 : ys.length = 0
                · rw [h0]; omega
                · have : cap ≠ 0 := by omega
                  omega
              · intro y hy
                rcases List.mem_append.1 hy with hy | hy
                · exact hxk y (List.mem_of_mem_drop hy)
                · exact hx.arr.elem y hy
              · intro i' y hy j p hp
                have hyk : y.cells.length = i.size := by
                  rcases List.mem_append.1 (List.mem_of_getElem? hy) with hy | hy
                  · exact (hxk y (List.mem_of_mem_drop hy)).1
                  · exact (hx.arr.elem y hy).1
                have hjk : j < i.size := by rw [← hyk]; exact (List.getElem?_eq_some_iff.1 hp).1
                rcases Nat.lt_or_ge i' n with hlt | hge
                · rw [List.getElem?_append_left (by omega), List.getElem?_drop] at hy
                  obtain ⟨u, h1, h2, h3⟩ := hc (off + i') y hy j p hp
                  refine ⟨u, ?_, h2, h3.mono (fun _ h => h) hkeep.keep⟩
                  have e1 : o + off * i.size + i' * i.size + j = o + (off + i') * i.size + j := by rw [Nat.add_mul]; omega
                  rw [e1]
                  by_cases hnl : news.toList.length = 0
                  · have : news.toList = [] := List.eq_nil_of_length_eq_zero hnl
                    rw [this]
                    exact h1
                  · rw [setCells_out]
                    · exact h1
                    · left
                      have := index_lt (k := i.size) hlt hjk
                      rw [had' hnl, Nat.add_mul]
                      omega
                · rw [List.getElem?_append_right (by omega), hlenD] at hy
                  obtain ⟨u, h1, h2, h3⟩ := hx.arr.rep (i' - n) y hy j p hp
                  have hlt := (Array.getElem?_eq_some_iff.1 h1).1
                  have hnl : news.toList.length ≠ 0 := by rw [Array.length_toList]; omega
                  refine ⟨u, ?_, h2, h3.mono (fun _ h => h) hkeep.keep⟩
                  have := setCells_in (w := w) (b := b) (o := ad + n * i.size) (vs := news.toList) hsh (by have := (hin 0 (by omega)).1; have := had this; omega) (j := (i' - n) * i.size + j) (by simpa using hlt)
                  have e1 : ad + n * i.size + ((i' - n) * i.size + j) = o + off * i.size + i' * i.size + j := by
                    have : i' * i.size = n * i.size + (i' - n) * i.size := by rw [← Nat.add_mul]; congr 1; omega
                    have := had' hnl
                    omega
                  rw [e1] at this
                  rw [this]
                  have h1' : news.toList[(i' - n) * i.size + j]? = some u := by simpa using h1
                  rw [List.getElem?_eq_getElem (by simpa using hlt)] at h1'
                  exact h1'
            · intro d2 s2 b2 hne hb2
              have hf' := blkOf_facts (H.rows d2 s2) hb2
              have hbb : b2 ≠ b := fun e => hne (H.apart d' s' d2 s2 b (by rw [hrowl]; simp [blkOf, hs]) (e ▸ hb2))
              exact ⟨setCells_other b _ _ w b2 hbb, hf'.2.1, by simp [blkOf, upd_same]; exact Ne.symm hbb⟩
        · obtain ⟨olds, hso⟩ := elems_sound (P := P) (size := k2) (ys := xs.drop off) (by simp [elemsOf, hl, hdrop]; omega) hu0 H
          rw [← hlenD] at hso hfit hroomy hrun
          have := append_new (ty := ty) T H hg hB (d := d') (s := s') hso hx (by omega) hfit hrun
          rw [hlenD] at this
          exact this
  · cases hop
end
end Go.Proofs.YtlhfgonjcpapnaaGreatDoor.Abs

/- The abstract machine's operations, VIII: conversions, slice expressions, ranges over strings, built-in functions; and all operations together. -/
set_option linter.unusedVariables false
set_option linter.unusedSimpArgs false
namespace Go.Proofs.YtlhfgonjcpapnaaGreatDoor.Abs
open Go Go.RowKit

variable {σ σ' : Sig} {I I' : Blk} {base : Blk} {w w' : World} {h : Heap} {P : Program}

section
variable {ρ : Operand → AV} {ρc : Operand → Value} {d gen : Nat} {o : Oper} {v : AV} {h' : Heap}

theorem freeze_push (w : World) (arr : Array Value) (e : TypeId) : ((w.drew.alloc (.cells arr e)).freeze ⟨w.heap.size, arr.size, none⟩ 1).heap = w.heap.push (.cells arr e (arr.size, arr.size + 1)) := by
  unfold World.freeze
  rw [if_neg (by decide)]
  apply Array.ext_getElem?
  intro i
  simp only [World.drew, World.alloc, Array.getElem?_modify, Array.getElem?_push]
  by_cases hi : i = w.heap.size
  · subst hi; simp
  · rw [if_neg (fun e => hi e.symm), if_neg hi, if_neg hi]

theorem pvBytes_spec : ∀ {l : List PV} {bs : List UInt8}, pvBytes l = some bs → ∃ ns : List Int, l = ns.map (fun n => PV.lit (.int .u8 n)) ∧ bs = ns.map fun n => UInt8.ofNat n.toNat
  | [], bs, hl => by simp only [pvBytes, Option.some.injEq] at hl; subst hl; exact ⟨[], rfl, rfl⟩
  | p :: l, bs, hl => by
    unfold pvBytes at hl
    split at hl
    · rename_i hh; cases hh
    · rename_i n l' hh
      injection hh with h1 h2
      subst h1; subst h2
      simp only [Option.map_eq_some_iff] at hl
      obtain ⟨bs', hb, rfl⟩ := hl
      obtain ⟨ns, rfl, rfl⟩ := pvBytes_spec hb
      exact ⟨n :: ns, rfl, rfl⟩
    · cases hl

theorem foldl_push (ns : List Int) : ∀ (s : ByteArray), ns.foldl (fun r n => r.push (UInt8.ofNat n.toNat)) s = ⟨s.data ++ (ns.map fun n => UInt8.ofNat n.toNat).toArray⟩ := by
  induction ns with
  | nil => intro s; simp
  | cons n ns ih =>
    intro s
    rw [List.foldl_cons, ih]
    have : (s.push (UInt8.ofNat n.toNat)).data = s.data.push (UInt8.ofNat n.toNat) := rfl
    rw [this]
    congr 1
    apply Array.ext'
    simp

theorem convert_sound {src dst : TypeId} {x : Operand} (ho : o.op = .convert src dst x) (hop : aop P o ρ d gen h = some (v, h')) (hρ : ∀ x, Rep σ I w (ρ x) (ρc x)) (H : HRep σ I base w h) (hg : σ gen = none) (hB : Bnd base w.heap.size) :
    OpOk σ I base w gen ((execOp ρc o).run P w) v h' := by
  have hr := hρ x
  simp only [aop, ho] at hop
  split at hop
  · rename_i e s hsrc hdst hx
    rw [hx] at hr
    have hu := prep_lit (rep_pv hr)
    split at hop
    · rename_i slot he hslot
      split at hop
      · rename_i hsz
        simp only [Option.some.injEq, Prod.mk.injEq] at hop
        obtain ⟨rfl, rfl⟩ := hop
        have hcut : s.size ≤ (Question.appendCap s.size 0 e).cut (w.tape w.drawn (Question.appendCap s.size 0 e)) := by simp [Question.cut]
        generalize hc : (Question.appendCap s.size 0 e).cut (w.tape w.drawn (Question.appendCap s.size 0 e)) = cap at hcut
        have hsize : (s.data.map (fun b => Value.int .u8 b.toNat) ++ Array.replicate (cap - s.size) (Value.int .u8 0)).size = cap := by
          have : s.data.size = s.size := rfl
          simp; omega
        have hG : Grows w ((w.drew.alloc (.cells (s.data.map (fun b => Value.int .u8 b.toNat) ++ Array.replicate (cap - s.size) (.int .u8 0)) e)).freeze
            ⟨w.heap.size, (s.data.map (fun b => Value.int .u8 b.toNat) ++ Array.replicate (cap - s.size) (Value.int .u8 0)).size, none⟩ 1)
            (.cells (s.data.map (fun b => Value.int .u8 b.toNat) ++ Array.replicate (cap - s.size) (.int .u8 0)) e
              ((s.data.map (fun b => Value.int .u8 b.toNat) ++ Array.replicate (cap - s.size) (Value.int .u8 0)).size, (s.data.map (fun b => Value.int .u8 b.toNat) ++ Array.replicate (cap - s.size) (Value.int .u8 0)).size + 1)) := by
          refine ⟨freeze_push w _ e, ?_, ?_, ?_⟩ <;> (unfold World.freeze; rw [if_neg (by decide)]; rfl)
        refine new_row (k := 1) (n := s.size) (cap := cap) (full := false) H ?_ hg hB hG ?_ hcut (by simp) (by rw [hsize]; omega) ?_
        · refine ⟨by rw [hsize]; simp [bytesPV]; omega, ?_, ?_⟩
          · intro y hy
            simp only [bytesPV, List.mem_map] at hy
            obtain ⟨b, _, rfl⟩ := hy
            exact ⟨rfl, rfl⟩
          · intro i y hi j p hp
            rw [bytesPV_get] at hi
            simp only [Option.map_eq_some_iff] at hi
            obtain ⟨b, hb, rfl⟩ := hi
            cases j with
            | zero =>
              simp [PV.cells] at hp
              subst hp
              refine ⟨.int .u8 b.toNat, ?_, rfl, .lit _⟩
              have hlt := (Array.getElem?_eq_some_iff.1 hb).1
              have hds : s.data.size = s.size := rfl
              rw [Array.getElem?_append_left (by simp; omega)]
              simp [hb]
            | succ j => simp [PV.cells] at hp
        · intro j hj
          unfold World.frozen?
          simp only [hG.new]
          simp
          omega
        · simp only [execOp, ho]
          refine run_value ?_
          have hs2 : (w.drew.alloc (.cells (s.data.map (fun b => Value.int .u8 b.toNat) ++ Array.replicate (cap - s.size) (.int .u8 0)) e)).shape? w.heap.size =
              some (e, (s.data.map (fun b => Value.int .u8 b.toNat) ++ Array.replicate (cap - s.size) (Value.int .u8 0)).size) := by
            unfold World.shape? World.alloc World.drew
            simp
          simp only [convert, Sem.run_bind, run_underlying_ok hsrc, run_underlying_ok hdst, Result.andThen_ok, hu, run_underlying_ok he, Conv.stringToBytes, run_choose, Question.forced, Bool.false_eq_true, if_false, newRow, run_newObj, Sem.run_pure, markStringish, run_shape]
          rw [hc]
          dsimp only [World.alloc, World.drew] at hs2
          rw [hs2]
          rfl
      · cases hop
    · cases hop
  · rename_i e hsrc hdst
    split at hop
    · rename_i he
      split at hop
      case isFalse => cases hop
      rename_i hsl
      simp only [Option.bind_eq_some_iff, Option.map_eq_some_iff, Prod.mk.injEq] at hop
      obtain ⟨l, hl, bs, hbs, rfl, rfl⟩ := hop
      obtain ⟨news, hE⟩ := elems_sound (P := P) hl hr H
      obtain ⟨ns, rfl, rfl⟩ := pvBytes_spec hbs
      have hsz := hE.size_eq
      have hnews : news = (ns.map (Value.int .u8)).toArray := by
        apply Array.ext_getElem?
        intro j
        simp only [List.getElem?_toArray, List.getElem?_map]
        cases hj : ns[j]? with
        | none =>
          simp only [Option.map_none]
          rw [Array.getElem?_eq_none]
          have := List.getElem?_eq_none_iff.1 hj
          simp at hsz
          omega
        | some n =>
          obtain ⟨u, h1, _, h3⟩ := hE.arr.rep j (.lit (.int .u8 n)) (by simp [hj]) 0 (.lit (.int .u8 n)) rfl
          rw [prep_lit h3] at h1
          simpa using h1
      refine .same (.string (ns.foldl (fun r n => r.push (UInt8.ofNat n.toNat)) ByteArray.empty)) H ?_ ?_
      · simp only [execOp, ho]
        refine run_value ?_
        have hrun := hE.run
        have hlen := hE.len w
        generalize hu : ρc x = u at hr hrun hlen
        generalize hxv : ρ x = xx at hr hl hsl
        have hkind : ∃ a n c, u = .slice a n c := by
          cases hr with
          | pv p _ hp =>
            cases hp with
            | nil => exact ⟨_, _, _, rfl⟩
            | emp => exact ⟨_, _, _, rfl⟩
            | sl => exact ⟨_, _, _, rfl⟩
            | _ => cases hsl
          | msl => exact ⟨_, _, _, rfl⟩
          | _ => cases hsl
        obtain ⟨a, n, c, rfl⟩ := hkind
        rw [run_convert_bytes_string w src dst e a n c hsrc he hdst]
        have hn : n = (ns.map fun n => PV.lit (.int .u8 n)).length := by
          simp [Builtin.lenOf] at hlen
          simpa using hlen
        cases a with
        | none =>
          simp [Builtin.firstCells] at hrun
          rw [hnews] at hrun
          have : ns = [] := by simpa using hrun.symm
          subst this
          simp [Conv.bytesToString]
        | some a =>
          refine run_bytesToString w a n c ns ?_
          rw [← hnews, hn]
          simpa [Builtin.firstCells] using hrun
      · rw [foldl_push]
        exact .pv _ _ (by simpa using PRep.lit _)
    · cases hop
  · simp only [Option.bind_eq_some_iff, Option.map_eq_some_iff, Prod.mk.injEq] at hop
    obtain ⟨a, ha, r, hrr, rfl, rfl⟩ := hop
    refine .same r H ?_ (.pv _ _ (.lit r))
    simp only [execOp, ho]
    rw [valA_rep ha hr]
    exact run_value (pureRun_run hrr)
end
end Go.Proofs.YtlhfgonjcpapnaaGreatDoor.Abs

/- The abstract machine's operations, IX: slice expressions, ranges over strings, built-in functions; and all operations together. -/
set_option linter.unusedVariables false
set_option linter.unusedSimpArgs false
namespace Go.Proofs.YtlhfgonjcpapnaaGreatDoor.Abs
open Go Go.RowKit

variable {σ σ' : Sig} {I I' : Blk} {base : Blk} {w w' : World} {h : Heap} {P : Program}

section
variable {ρ : Operand → AV} {ρc : Operand → Value} {d gen : Nat} {o : Oper} {v : AV} {h' : Heap}

theorem run_sliceBound {u : Value} {k : IntKind} {i : Int} {y : Nat} {code : BoundsCode} (hu : u = .int k i) (h0 : 0 ≤ i) (h1 : i ≤ y) : (Instr.sliceBound u y code).run P w = .ok i.toNat w := by
  subst hu
  simp [Instr.sliceBound, asIntOf, h0, h1]

theorem natIn_some {x : Operand} {dflt top n : Nat} (hn : natIn (some (ρ x)) dflt top = some n) (hρ : ∀ x, Rep σ I w (ρ x) (ρc x)) :
    n ≤ top ∧ ∀ (y : Nat) (code : BoundsCode), top ≤ y → (Instr.sliceBound (ρc x) y code).run P w = .ok n w := by
  simp only [natIn, Option.bind_eq_some_iff] at hn
  obtain ⟨i, hi, hn⟩ := hn
  split at hn
  · rename_i hc
    injection hn with hn
    subst hn
    obtain ⟨k, hk⟩ := intOf_rep hi (hρ x)
    exact ⟨by omega, fun y code hy => run_sliceBound hk hc.1 (by omega)⟩
  · cases hn

theorem bounds_sound {n l r : Nat} {m : Option Nat} {lo hi mx : Option Operand} (hb : bounds n (lo.map ρ) (hi.map ρ) (mx.map ρ) = some (l, r, m)) (hρ : ∀ x, Rep σ I w (ρ x) (ρc x)) (isS : Bool) {cap : Nat} (hn : n ≤ cap) :
    (Instr.sliceBounds isS n cap (lo.map ρc) (hi.map ρc) (mx.map ρc)).run P w = .ok (l, r, m.getD cap) w ∧ l ≤ r ∧ r ≤ n ∧ r ≤ m.getD cap ∧ m.getD cap ≤ cap ∧ (∀ m', m = some m' → m' ≤ n) ∧ m.isSome = mx.isSome := by
  simp only [bounds, Option.bind_eq_some_iff] at hb
  obtain ⟨m0, hm0, r0, hr0, l0, hl0, hb⟩ := hb
  split at hb
  · cases hb
  · rename_i hmh
    simp only [Option.some.injEq, Prod.mk.injEq] at hb
    obtain ⟨rfl, rfl, rfl⟩ := hb
    have hl : ∀ (code : BoundsCode) (C : Nat), l0 ≤ r0 ∧ (match lo.map ρc with
        | some v => (do let l ← Instr.sliceBound v r0 code; pure (l, r0, C) : Sem (Nat × Nat × Nat))
        | none => (do let l ← pure 0; pure (l, r0, C))).run P w = .ok (l0, r0, C) w := by
      intro code C
      cases lo with
      | none => simp [natIn] at hl0; subst hl0; exact ⟨Nat.zero_le _, rfl⟩
      | some x =>
        obtain ⟨h1, h2⟩ := natIn_some (P := P) hl0 hρ
        exact ⟨h1, by simp [h2 r0 code (Nat.le_refl _)]⟩
    cases mx with
    | none =>
      simp at hm0
      subst hm0
      cases hi with
      | none =>
        simp [natIn] at hr0
        subst hr0
        refine ⟨?_, (hl .sliceB cap).1, Nat.le_refl _, by simpa using hn, by simp, by simp, rfl⟩
        have := (hl .sliceB cap).2
        simp only [Instr.sliceBounds, Option.map_none, Sem.run_bind, Sem.run_pure, Result.andThen_ok, Option.isSome_none, Bool.false_eq_true, if_false, Option.getD_none]
        exact this
      | some x =>
        obtain ⟨h1, h2⟩ := natIn_some (P := P) hr0 hρ
        simp only [Option.getD_none] at h1 h2
        refine ⟨?_, (hl .sliceB cap).1, h1, by simp; omega, by simp, by simp, rfl⟩
        have := (hl .sliceB cap).2
        simp only [Instr.sliceBounds, Option.map_none, Option.map_some, Sem.run_bind, Sem.run_pure, Result.andThen_ok, Option.isSome_none, Bool.false_eq_true, if_false, Option.getD_none, h2 cap _ hn]
        exact this
    | some y =>
      cases hi with
      | none => simp at hmh
      | some x =>
        simp only [Option.map_some, Option.map_eq_some_iff] at hm0
        obtain ⟨m1, hm1, rfl⟩ := hm0
        obtain ⟨h1, h2⟩ := natIn_some (P := P) hm1 hρ
        simp only [Option.map_some, Option.getD_some] at hr0
        obtain ⟨h3, h4⟩ := natIn_some (P := P) hr0 hρ
        refine ⟨?_, (hl .slice3C m1).1, by omega, by simpa using h3, by simp; omega, by simpa using h1, rfl⟩
        have := (hl .slice3C m1).2
        simp only [Instr.sliceBounds, Option.map_some, Sem.run_bind, Sem.run_pure, Result.andThen_ok, Option.isSome_some, if_true, Option.getD_some, h2 cap _ hn, h4 m1 _ (Nat.le_refl _)]
        exact this

theorem slice_sound {t : TypeId} {x : Operand} {lo hi mx : Option Operand} (ho : o.op = .slice t x lo hi mx) (hop : aop P o ρ d gen h = some (v, h')) (hρ : ∀ x, Rep σ I w (ρ x) (ρc x)) (H : HRep σ I base w h) :
    OpOk σ I base w gen ((execOp ρc o).run P w) v h' := by
  simp only [aop, ho, Option.map_eq_some_iff, Prod.mk.injEq] at hop
  obtain ⟨v', hv, rfl, rfl⟩ := hop
  have hr := hρ x
  have fin : ∀ {u : Value}, (Instr.sliceAt t (ρc x) (lo.map ρc) (hi.map ρc) (mx.map ρc)).run P w = .ok u w → (execOp ρc o).run P w = .ok (.value u) w := by
    intro u hu
    simp only [execOp, ho]
    exact run_value hu
  unfold aslice at hv
  split at hv
  · rename_i s hd he
    rw [he] at hr
    have hu := prep_lit (rep_pv hr)
    simp only [Option.bind_eq_bind, Option.bind_eq_some_iff] at hv
    obtain ⟨⟨l, r, m⟩, hb, hv⟩ := hv
    dsimp only at hv
    split at hv
    · cases hv
    · rename_i hm
      injection hv with hv
      subst hv
      obtain ⟨hrun, hlr, hrn, _, _, _, hms⟩ := bounds_sound (P := P) hb hρ false (cap := s.size) (Nat.le_refl _)
      have hmx : mx = none := by
        cases mx with
        | none => rfl
        | some y => simp at hms; rw [hms] at hm; exact absurd rfl hm
      subst hmx
      refine .same (.string (s.extract l r)) H (fin ?_) (.pv _ _ (.lit _))
      simp only [Option.map_none] at hrun
      simp [Instr.sliceAt, Instr.slice, run_underlying_ok hd, hu, hrun]
  · rename_i e k nl full xs hd he
    rw [he] at hr
    simp only [Option.bind_eq_bind, Option.bind_eq_some_iff] at hv
    obtain ⟨⟨l, r, m⟩, hb, size, hsz, hv⟩ := hv
    dsimp only at hv
    split at hv
    case isFalse => cases hv
    rename_i hk
    injection hv with hv
    subst hv
    have hr' := rep_pv hr
    generalize hu : ρc x = u at hr'
    have hat : ∀ {a : Option Addr} {n cap : Nat}, u = .slice a n cap → n = xs.length → n ≤ cap →
        (Instr.sliceAt t u (lo.map ρc) (hi.map ρc) (mx.map ρc)).run P w = .ok (.slice (if m.getD cap = l then a else a.map (·.add (l * size))) (r - l) (m.getD cap - l)) w ∧
        l ≤ r ∧ r ≤ n ∧ r ≤ m.getD cap ∧ m.getD cap ≤ cap ∧ (∀ m', m = some m' → m' ≤ n) := by
      intro a n cap hu hn hcap
      subst hu
      obtain ⟨hrun, h1, h2, h3, h4, h5, _⟩ := bounds_sound (P := P) hb hρ true (cap := cap) (by omega)
      refine ⟨?_, h1, by omega, h3, h4, fun m' hm' => by rw [hn]; exact h5 m' hm'⟩
      rw [← hn] at hrun
      simp [Instr.sliceAt, Instr.slice, run_underlying_ok hd, hrun, run_sizeOf_ok hsz]
    cases hr' with
    | nil =>
      obtain ⟨h0, h1, h2, h3, h4, h5⟩ := hat rfl (by simp) (Nat.le_refl _)
      refine .same _ H (fin (hu ▸ h0)) ?_
      have hr0 : r = 0 := by simpa using h2
      have hl0 : l = 0 := by omega
      subst hr0; subst hl0
      have hm0 : m.getD 0 = 0 := by omega
      rw [hm0]
      simp only [if_true, List.drop_nil, List.take_nil, Nat.sub_self]
      exact .pv _ _ (.nil k _)
    | emp _ _ a cap hfull =>
      obtain ⟨h0, h1, h2, h3, h4, h5⟩ := hat rfl (by simp) (Nat.zero_le _)
      refine .same _ H (fin (hu ▸ h0)) ?_
      have hr0 : r = 0 := by simpa using h2
      have hl0 : l = 0 := by omega
      subst hr0; subst hl0
      simp only [List.drop_nil, List.take_nil, Nat.sub_self]
      have : (if m.getD cap = 0 then some a else Option.map (fun x => x.add (0 * size)) (some a)) = some a := by
        split
        · rfl
        · simp [Addr.add]
      rw [this]
      refine .pv _ _ (.emp k _ a _ fun hf => ?_)
      cases m with
      | none =>
        simp at hf
        have := hfull hf
        simp; omega
      | some m' =>
        simp at hf
        simpa using hf
    | sl _ _ _ b ob cap vs hcap hfull hI hkk hcl hr2 =>
      obtain ⟨h0, h1, h2, h3, h4, h5⟩ := hat rfl rfl hcap
      refine .same _ H (fin (hu ▸ h0)) ?_
      have hk : k = size := by simpa using hk
      subst hk
      have hlen : ((xs.drop l).take (r - l)).length = r - l := by simp; omega
      have hful : (match m with | some m => m == r | none => full && r == xs.length) = true → m.getD cap = r := by
        intro hf
        cases m with
        | none =>
          simp at hf
          have := hfull hf.1
          simp; omega
        | some m' => simpa using hf
      by_cases hml : m.getD cap = l
      · rw [if_pos hml]
        have hrl : r = l := by omega
        subst hrl
        rw [hml]
        simp only [Nat.sub_self, List.take_zero]
        exact .pv _ _ (.emp k _ _ 0 fun _ => rfl)
      · rw [if_neg hml]
        have := PRep.sl (I := I) (w := w) k (match m with | some m => m == r | none => full && r == xs.length) ((xs.drop l).take (r - l)) b (ob + l * k) (m.getD cap - l) (fun i j => vs (l + i) j)
          (by omega) (fun hf => by have := hful hf; omega) hI (fun x hx => hkk x (List.mem_of_mem_drop (List.mem_of_mem_take hx)))
          (fun i x hi j p hp => by
            have := hcl (l + i) x (get_sub hi).2 j p hp
            rw [show ob + l * k + i * k + j = ob + (l + i) * k + j by rw [Nat.add_mul]; omega]
            exact this)
          (fun i x hi j p hp => hr2 (l + i) x (get_sub hi).2 j p hp)
        rw [hlen] at this
        simp only [Option.map_some, addr_add]
        exact .pv _ _ this
  · rename_i e d1 s g off n full hd he
    rw [he] at hr
    simp only [Option.bind_eq_bind, Option.bind_eq_some_iff] at hv
    obtain ⟨⟨l, r, m⟩, hb, size, hsz, hv⟩ := hv
    dsimp only at hv
    split at hv
    case h_2 => cases hv
    rename_i k0 e0 xs fz hl
    split at hv
    case isFalse => cases hv
    rename_i hk
    subst hk
    injection hv with hv
    subst hv
    obtain ⟨b', o', n', hs', _⟩ := row_block (H.live hl (by simp))
    generalize hu : ρc x = u at hr
    cases hr with
    | msl _ _ _ _ _ _ b ob k cap ad had hs hn hfull hroom =>
      rw [hs] at hs'
      simp only [Option.some.injEq, Prod.mk.injEq] at hs'
      obtain ⟨rfl, rfl, rfl⟩ := hs'
      obtain ⟨hrun, h1, h2, h3, h4, h5, _⟩ := bounds_sound (P := P) hb hρ true (cap := cap) hn
      have hrun' : (Instr.sliceAt t (ρc x) (lo.map ρc) (hi.map ρc) (mx.map ρc)).run P w =
          .ok (.slice (if m.getD cap = l then some ⟨b, ad, none⟩ else (some ⟨b, ad, none⟩ : Option Addr).map (·.add (l * k))) (r - l) (m.getD cap - l)) w := by
        rw [hu]
        simp [Instr.sliceAt, Instr.slice, run_underlying_ok hd, hrun, run_sizeOf_ok hsz]
      have hful : (match m with | some m => m == r | none => full && r == n) = true → m.getD cap = r := by
        intro hf
        cases m with
        | none =>
          simp at hf
          have := hfull hf.1
          simp; omega
        | some m' => simpa using hf
      obtain ⟨ee, mm, hsh, hrm⟩ := hroom
      have hmul : (off + l + (m.getD cap - l)) * k ≤ (off + cap) * k := Nat.mul_le_mul_right k (by omega)
      have hroom' : ∃ e m', w.shape? b = some (e, m') ∧ ob + (off + l + (m.getD cap - l)) * k ≤ m' := ⟨ee, mm, hsh, by omega⟩
      by_cases hml : m.getD cap = l
      · rw [if_pos hml] at hrun'
        refine .same _ H (fin hrun') ?_
        exact .msl d1 s g (off + l) (r - l) _ b ob k _ ad (fun hc => absurd hml (by omega)) hs (by omega) (fun hf => by have := hful hf; omega) hroom'
      · rw [if_neg hml] at hrun'
        simp only [Option.map_some, addr_add] at hrun'
        refine .same _ H (fin hrun') ?_
        exact .msl d1 s g (off + l) (r - l) _ b ob k _ _ (fun hc => by rw [had (by omega), Nat.add_mul]; omega) hs (by omega) (fun hf => by have := hful hf; omega) hroom'
  · rename_i n e d1 s g i off hd he
    rw [he] at hr
    obtain ⟨b, ob, k, hs, hu⟩ := rep_mptr hr
    simp only [Option.bind_eq_bind, Option.bind_eq_some_iff] at hv
    obtain ⟨⟨l, r, m⟩, hb, size, hsz, hv⟩ := hv
    dsimp only at hv
    split at hv
    case h_2 => cases hv
    rename_i v0 fz hl
    split at hv
    case isFalse => cases hv
    rename_i hc
    obtain ⟨rfl, rfl, hlen⟩ := hc
    injection hv with hv
    subst hv
    obtain ⟨b0, k0, e0, u0, hs0, hsh, hok0, hru, hz, hf, h1c, hszu, hcell⟩ := box_val (H.live hl (by simp))
    rw [hs] at hs0
    simp only [Option.some.injEq, Prod.mk.injEq] at hs0
    obtain ⟨rfl, rfl, rfl⟩ := hs0
    subst hf
    obtain ⟨hrun, hlr, hrn, hrc, hcn, _, _⟩ := bounds_sound (P := P) hb hρ false (cap := n) (Nat.le_refl _)
    simp only [Nat.zero_mul, Nat.add_zero, Nat.zero_add] at hu
    have hrun' : (Instr.sliceAt t (ρc x) (lo.map ρc) (hi.map ρc) (mx.map ρc)).run P w = .ok (.slice (some (if m.getD n = l then ⟨b, off, none⟩ else (⟨b, off, none⟩ : Addr).add (l * 1))) (r - l) (m.getD n - l)) w := by
      simp [Instr.sliceAt, Instr.sureAddr, run_underlying_ok hd, hu, hrun, run_sizeOf_ok hsz]
    have hroom' : ∃ e m', w.shape? b = some (e, m') ∧ 0 + (off + l + (m.getD n - l)) * 1 ≤ m' := ⟨_, _, hsh, by omega⟩
    have hful : (m.getD n == r) = true → m.getD n - l = r - l := fun h => by simp at h; rw [h]
    by_cases hml : m.getD n = l
    · rw [if_pos hml] at hrun'
      refine .same _ H (fin hrun') ?_
      exact .msl d1 s g (off + l) (r - l) _ b 0 1 _ off (fun hc => absurd hml (by omega)) hs (by omega) hful hroom'
    · rw [if_neg hml] at hrun'
      simp only [addr_add] at hrun'
      refine .same _ H (fin hrun') ?_
      exact .msl d1 s g (off + l) (r - l) _ b 0 1 _ _ (fun hc => by omega) hs (by omega) hful hroom'
  · cases hv

theorem range_sound {t : TypeId} {x : Operand} (ho : o.op = .range t x) (hop : aop P o ρ d gen h = some (v, h')) (hρ : ∀ x, Rep σ I w (ρ x) (ρc x)) (H : HRep σ I base w h) (hg : σ gen = none) (hB : Bnd base w.heap.size) :
    OpOk σ I base w gen ((execOp ρc o).run P w) v h' := by
  have hr := hρ x
  simp only [aop, ho] at hop
  split at hop
  · rename_i s slot hd he hslot
    rw [he] at hr
    have hu := prep_lit (rep_pv hr)
    simp only [Option.some.injEq, Prod.mk.injEq] at hop
    obtain ⟨rfl, rfl⟩ := hop
    have hG : Grows w (w.alloc (.stringIter s 0)) (.stringIter s 0) := ⟨rfl, rfl, rfl, rfl⟩
    have hE := Ext.push (x := (w.heap.size, 0, 0)) H hB hg hG
    refine ⟨_, _, .pointer (some ⟨w.heap.size, 0, none⟩), _, I, ?_, .inl rfl, ?_, H.push hg hG d slot (k := 0) (off := 0) ?_, hE, fun g hne => upd_other hne⟩
    · simp only [execOp, ho]
      exact run_value (by simp [Instr.range, run_underlying_ok hd, hu])
    · have := Rep.mptr (σ := upd σ gen (w.heap.size, 0, 0)) (I := I) (w := w.alloc (.stringIter s 0)) d slot gen 0 0 w.heap.size 0 0 upd_same
      simpa using this
    · exact ⟨w.heap.size, 0, upd_same, hG.new, fun hb => absurd (H.lt _ hb) (by omega), hB.up⟩
  · cases hop

theorem next_sound {it : Operand} {isS : Bool} (ho : o.op = .next it isS) (hop : aop P o ρ d gen h = some (v, h')) (hρ : ∀ x, Rep σ I w (ρ x) (ρc x)) (H : HRep σ I base w h) :
    OpOk σ I base w gen ((execOp ρc o).run P w) v h' := by
  have hr := hρ it
  cases isS with
  | false => simp [aop, ho] at hop
  | true =>
    simp only [aop, ho] at hop
    split at hop
    case h_2 => cases hop
    rename_i d1 s g he
    rw [he] at hr
    obtain ⟨b, ob, k, hs, hu⟩ := rep_mptr hr
    split at hop
    case h_2 => cases hop
    rename_i bs pos hl
    obtain ⟨b', k', hs', hh, hnI, hbb⟩ := H.live hl (by simp)
    rw [hs] at hs'
    simp only [Option.some.injEq, Prod.mk.injEq] at hs'
    obtain ⟨rfl, rfl, rfl⟩ := hs'
    simp only [Nat.zero_mul, Nat.add_zero] at hu
    have hget : (getObj b).run P w = .ok (.stringIter bs pos) w := by simp [getObj, Sem.run, hh]
    split at hop
    · rename_i hpos
      simp only [Option.some.injEq, Prod.mk.injEq] at hop
      obtain ⟨rfl, rfl⟩ := hop
      have hset : ∀ o : Obj, (setObj b o).run P w = .ok () { w with heap := w.heap.setIfInBounds b o } := by intro o; simp [setObj, Sem.run, hh]
      let w' : World := { w with heap := w.heap.setIfInBounds b (.stringIter bs (pos + (Utf8.decode bs pos).2)) }
      have hoth : ∀ b2, b2 ≠ b → w'.heap[b2]? = w.heap[b2]? := fun b2 hne => by simp [w', Array.getElem?_setIfInBounds, Ne.symm hne]
      have hlt := lt_of_heap hh
      have hsame : w'.heap[b]? = some (.stringIter bs (pos + (Utf8.decode bs pos).2)) := by simp [w', hlt]
      have hk : Keep I w w' := by
        refine ⟨fun b2 hb2 => hoth b2 fun e => hnI (e ▸ hb2), fun b2 e n hsh => ?_, fun b2 r hr => ⟨r, by rw [hoth b2 (fun e => by subst e; rw [hh] at hr; cases hr)]; exact hr, SameLoop.refl r⟩,
          fun b2 hr => by rw [hoth b2 (fun e => by subst e; rw [hh] at hr; cases hr)]; exact hr⟩
        by_cases e2 : b2 = b
        · subst e2
          unfold World.shape? at hsh
          rw [hh] at hsh
          cases hsh
        · rw [shape_of_heap (hoth b2 e2)]; exact hsh
      refine ⟨_, w', .tuple #[.bool true, goInt pos, .int .i32 (Utf8.decode bs pos).1], σ, I, ?_, .inl rfl, ?_, H.put (fun _ _ h => h) (fun _ h => h) hk (hk.inW H.inW) d1 s _ ⟨b, k, hs, hsame, hnI, hbb⟩ ?_,
        ⟨fun _ _ h => h, fun _ h => h, fun _ h => .inl h, hk, ⟨rfl, rfl, rfl, by simp [w'], fun k2 hk2 => hoth k2 (fun e => hbb (e ▸ hk2))⟩⟩, fun _ _ => rfl⟩
      · simp only [execOp, ho]
        refine run_value ?_
        simp [Instr.next, hu, hget, hpos, hset, w']
      · refine .pv _ _ ?_
        have := PRep.tup (I := I) (w := w') [.lit (.bool true), .lit (.int .i64 pos), .lit (.int .i32 (Utf8.decode bs pos).1)] [.bool true, .int .i64 pos, .int .i32 (Utf8.decode bs pos).1] rfl fun j p v hp hv => by
          match j with
          | 0 => simp at hp hv; subst hp; subst hv; exact .lit _
          | 1 => simp at hp hv; subst hp; subst hv; exact .lit _
          | 2 => simp at hp hv; subst hp; subst hv; exact .lit _
          | j + 3 => simp at hp
        exact this
      · intro d2 s2 b2 hne hb2
        have hf' := blkOf_facts (H.rows d2 s2) hb2
        have hrowl := live_row hl (by simp)
        have hbb' : b2 ≠ b := fun e => hne (H.apart d1 s d2 s2 b (by rw [hrowl]; simp [blkOf, hs]) (e ▸ hb2))
        exact ⟨hoth b2 hbb', hf'.2.1, by simp [blkOf, hs]; exact Ne.symm hbb'⟩
    · rename_i hpos
      simp only [Option.some.injEq, Prod.mk.injEq] at hop
      obtain ⟨rfl, rfl⟩ := hop
      refine .same (.tuple #[.bool false]) H ?_ (.pv _ _ ?_)
      · simp only [execOp, ho]
        refine run_value ?_
        simp [Instr.next, hu, hget, hpos]
      · have := PRep.tup (I := I) (w := w) [.lit (.bool false)] [.bool false] rfl fun j p v hp hv => by
          match j with
          | 0 => simp at hp hv; subst hp; subst hv; exact .lit _
          | j + 1 => simp at hp
        exact this
end
end Go.Proofs.YtlhfgonjcpapnaaGreatDoor.Abs

/- The abstract machine's operations, X: built-in functions; and all operations together. -/
set_option linter.unusedVariables false
set_option linter.unusedSimpArgs false
namespace Go.Proofs.YtlhfgonjcpapnaaGreatDoor.Abs
open Go Go.RowKit

variable {σ σ' : Sig} {I I' : Blk} {base : Blk} {w w' : World} {h : Heap} {P : Program}

section
variable {ρ : Operand → AV} {ρc : Operand → Value} {d gen : Nat} {o : Oper} {v : AV} {h' : Heap}

theorem map_one {α β : Type} {f : α → β} {l : Array α} {y : β} (hm : l.toList.map f = [y]) : ∃ x, l = #[x] ∧ f x = y := by
  cases l with
  | mk l =>
    match l, hm with
    | [x], hm => simp at hm; exact ⟨x, rfl, hm⟩
theorem map_two {α β : Type} {f : α → β} {l : Array α} {y z : β} (hm : l.toList.map f = [y, z]) : ∃ x x', l = #[x, x'] ∧ f x = y ∧ f x' = z := by
  cases l with
  | mk l =>
    match l, hm with
    | [x, x'], hm => simp at hm; exact ⟨x, x', rfl, hm.1, hm.2⟩

theorem run_builtin {b : Builtin} {args : Array Operand} {argTypes : Array TypeId} (ho : o.op = .call { callee := .builtin b, args, argTypes }) :
    ∃ consts, (execOp ρc o).run P w = (builtin b argTypes o.type consts (args.map ρc)).run P w := by
  refine ⟨args.map fun | .const _ => true | _ => false, ?_⟩
  simp only [execOp, ho, resolve, Sem.run_bind, Sem.run_pure, Result.andThen_ok, invoke]
  rfl

theorem len_slice_rep {x : AV} {u : Value} (hr : Rep σ I w x u) : (∀ k nl full xs, x = .pv (.sl k nl full xs) → ∃ a c, u = .slice a xs.length c) ∧ (∀ d s g off n full, x = .msl d s g off n full → ∃ a c, u = .slice a n c) := by
  refine ⟨?_, ?_⟩
  · rintro k nl full xs rfl
    have := rep_pv hr
    cases this with
    | nil => exact ⟨_, _, rfl⟩
    | emp => exact ⟨_, _, rfl⟩
    | sl => exact ⟨_, _, rfl⟩
  · rintro d s g off n full rfl
    cases hr with
    | msl => exact ⟨_, _, rfl⟩

theorem cap_full_rep {x : AV} {u : Value} (hr : Rep σ I w x u) : (∀ k nl xs, x = .pv (.sl k nl true xs) → ∃ a, u = .slice a xs.length xs.length) ∧ (∀ d s g off n, x = .msl d s g off n true → ∃ a, u = .slice a n n) := by
  refine ⟨?_, ?_⟩
  · rintro k nl xs rfl
    have := rep_pv hr
    cases this with
    | nil => exact ⟨_, rfl⟩
    | emp _ _ a cap hf => rw [hf rfl]; exact ⟨_, rfl⟩
    | sl _ _ _ b o cap vs hc hf => rw [hf rfl]; exact ⟨_, rfl⟩
  · rintro d s g off n rfl
    cases hr with
    | msl _ _ _ _ _ _ b o k cap ad had hs hn hf => rw [hf rfl]; exact ⟨_, rfl⟩

theorem bind_under {argTypes : Array TypeId} {dd : TypeDesc} (hb : (argTypes[0]?).bind P.underlying = some dd) : ∃ t, argTypes[0]? = some t ∧ P.underlying t = some dd := by
  simpa only [Option.bind_eq_some_iff] using hb

theorem one_zero {z : Value} (hok : (ofVal z).ok = true) (hag : (ofVal z).isAgg = false) : ∃ c, z.cells = #[c] ∧ c.oneCell' = true ∧ ∀ (I : Blk) (w : World), PRep I w (ofVal z) c := by
  have hc : (ofVal z).cells = [ofVal z] := by
    cases he : ofVal z <;> rw [he] at hag <;> first | rfl | (simp [PV.isAgg] at hag)
  have h1 := fun (I : Blk) (w : World) => (ofVal_rep (I := I) (w := w) z).cells hok
  have hs : z.cells.size = 1 := by
    have := (h1 (fun _ => False) { (default : World) with }).1
    rw [hc] at this; simpa using this
  obtain ⟨c, hcz⟩ : ∃ c, z.cells = #[c] := by
    refine ⟨z.cells[0], ?_⟩
    apply Array.ext
    · simpa using hs
    · intro i hi1 hi2
      have : i = 0 := by simp at hi2; omega
      subst this; rfl
  refine ⟨c, hcz, (h1 (fun _ => False) { (default : World) with }).2.1 c (by rw [hcz]; simp), fun I w => ?_⟩
  exact (h1 I w).2.2 0 _ _ (by rw [hc]; rfl) (by rw [hcz]; rfl)
/-- elements of a row are written over -/
theorem row_put {d s g k e b o1 i0 : Nat} {xs ys : List PV} {arr : Array Value} (H : HRep σ I base w h) (hl : Abs.live h d s g = .row k e xs false) (hs : σ g = some (b, o1, k)) (hra : RowArr I w k ys arr) (hsz : arr.size = ys.length * k) (hle : i0 + ys.length ≤ xs.length) :
    HRep σ I base (w.setCells b (o1 + i0 * k) arr.toList) (hput h d s ⟨g, .row k e (splice xs i0 ys) false⟩) ∧ Ext base σ I w σ I (w.setCells b (o1 + i0 * k) arr.toList) ∧ ∃ e1 m, w.shape? b = some (e1, m) ∧ o1 + i0 * k + arr.toList.length ≤ m ∧ Fr w m b := by
  obtain ⟨b', o', n', hs', hsh, hn, hx, hc, hz⟩ := H.live hl (by simp)
  rw [hs] at hs'
  simp only [Option.some.injEq, Prod.mk.injEq] at hs'
  obtain ⟨rfl, rfl, _⟩ := hs'
  have hroom : i0 * k + ys.length * k ≤ xs.length * k := by rw [← Nat.add_mul]; exact Nat.mul_le_mul_right k hle
  have hal : arr.toList.length = ys.length * k := by simpa using hsz
  have hkeep : Keep I w (w.setCells b (o1 + i0 * k) arr.toList) := setCells_keep hz.1
  obtain ⟨H', E'⟩ := H.store (us := arr.toList) (off := o1 + i0 * k) (bd' := .row k e (splice xs i0 ys) false) hl (by simp) hs (by simp [blkOf, hs]) (by simp [blkOf, hs]) (by
    refine ⟨b, o1, n', hs, by rw [setCells_shape]; exact hsh, by rw [splice_length hle]; exact hn, fun y hy => ?_, fun i y hy j p hp => ?_, ⟨hz.1, hz.2.1, fun j hj => by rw [World.frozen?_setCells]; exact hz.2.2 j hj⟩⟩
    · obtain ⟨i, hi⟩ := List.mem_iff_getElem?.1 hy
      rw [splice_get hle] at hi
      split at hi
      · exact hra.elem y (List.mem_of_getElem? hi)
      · exact hx y (List.mem_of_getElem? hi)
    · have hyk : y.cells.length = k := by
        rw [splice_get hle] at hy
        split at hy
        · exact (hra.elem y (List.mem_of_getElem? hy)).1
        · exact (hx y (List.mem_of_getElem? hy)).1
      have hjk : j < k := by rw [← hyk]; exact (List.getElem?_eq_some_iff.1 hp).1
      rw [splice_get hle] at hy
      split at hy
      · rename_i hin
        obtain ⟨u, h1, h2, h3⟩ := hra.rep (i - i0) y hy j p hp
        have hlt := (Array.getElem?_eq_some_iff.1 h1).1
        refine ⟨u, ?_, h2, h3.mono (fun _ h => h) hkeep.keep⟩
        have := setCells_in (w := w) (b := b) (o := o1 + i0 * k) (vs := arr.toList) hsh (by omega) (j := (i - i0) * k + j) (by simpa using hlt)
        have e1 : o1 + i0 * k + ((i - i0) * k + j) = o1 + i * k + j := by
          have : i * k = i0 * k + (i - i0) * k := by rw [← Nat.add_mul]; congr 1; omega
          omega
        rw [e1] at this
        rw [this]
        have h1' : arr.toList[(i - i0) * k + j]? = some u := by simpa using h1
        rw [List.getElem?_eq_getElem (by simpa using hlt)] at h1'
        exact h1'
      · rename_i hout
        obtain ⟨u, h1, h2, h3⟩ := hc i y hy j p hp
        refine ⟨u, ?_, h2, h3.mono (fun _ h => h) hkeep.keep⟩
        rw [setCells_out]
        · exact h1
        · rcases Nat.lt_or_ge i i0 with hi | hi
          · left
            have := index_lt (k := k) hi hjk
            omega
          · right
            have h5 : i0 + ys.length ≤ i := by omega
            have := Nat.mul_le_mul_right k h5
            rw [Nat.add_mul] at this
            rw [hal]
            omega)
  exact ⟨H', E', _, n', hsh, by omega, hz.2.2⟩
theorem builtin_sound {b : Builtin} {args : Array Operand} {argTypes : Array TypeId} (ho : o.op = .call { callee := .builtin b, args, argTypes }) (hop : aop P o ρ d gen h = some (v, h')) (hρ : ∀ x, Rep σ I w (ρ x) (ρc x))
    (H : HRep σ I base w h) (hg : σ gen = none) (hB : Bnd base w.heap.size) : OpOk σ I base w gen ((execOp ρc o).run P w) v h' := by
  obtain ⟨consts, hex⟩ := run_builtin (P := P) (ρc := ρc) (w := w) ho
  rw [hex]
  simp only [aop, ho] at hop
  unfold abuiltin at hop
  split at hop
  · -- len
    rename_i x hx
    obtain ⟨x0, rfl, rfl⟩ := map_one hx
    have hr := hρ x0
    have hl := len_slice_rep hr
    have fin : ∀ {dd : TypeDesc} {n : Nat} {u : Value}, (argTypes[0]?).bind P.underlying = some dd → (∀ t, P.underlying t = some dd → argTypes[0]? = some t → (Builtin.len_ argTypes o.type #[ρc x0]).run P w = .ok (goInt n) w) →
        (builtin .len argTypes o.type consts (#[x0].map ρc)).run P w = .ok (.value (goInt n)) w := by
      intro dd n u hb hrun
      obtain ⟨t, h1, h2⟩ := bind_under hb
      simp only [builtin]
      exact run_value (by simpa using hrun t h2 h1)
    split at hop
    · rename_i e k nl full xs hd he
      simp only [Option.some.injEq, Prod.mk.injEq] at hop
      obtain ⟨rfl, rfl⟩ := hop
      obtain ⟨a, c, hu⟩ := hl.1 _ _ _ _ he
      exact .same (goInt xs.length) H (fin (u := ρc x0) hd fun t h2 h1 => by simp [Builtin.len_, h1, run_underlying_ok h2, hu]) (.pv _ _ (.lit _))
    · rename_i e d1 s g off n full hd he
      simp only [Option.some.injEq, Prod.mk.injEq] at hop
      obtain ⟨rfl, rfl⟩ := hop
      obtain ⟨a, c, hu⟩ := hl.2 _ _ _ _ _ _ he
      exact .same (goInt n) H (fin (u := ρc x0) hd fun t h2 h1 => by simp [Builtin.len_, h1, run_underlying_ok h2, hu]) (.pv _ _ (.lit _))
    · rename_i s hd he
      simp only [Option.some.injEq, Prod.mk.injEq] at hop
      obtain ⟨rfl, rfl⟩ := hop
      rw [he] at hr
      have hu := prep_lit (rep_pv hr)
      exact .same (goInt s.size) H (fin (u := ρc x0) hd fun t h2 h1 => by simp [Builtin.len_, h1, run_underlying_ok h2, hu]) (.pv _ _ (.lit _))
    · rename_i n e hd
      simp only [Option.some.injEq, Prod.mk.injEq] at hop
      obtain ⟨rfl, rfl⟩ := hop
      exact .same (goInt n) H (fin (u := ρc x0) hd fun t h2 h1 => by simp [Builtin.len_, h1, run_underlying_ok h2]) (.pv _ _ (.lit _))
    · cases hop
  · -- cap
    rename_i x hx
    obtain ⟨x0, rfl, rfl⟩ := map_one hx
    have hr := hρ x0
    have hl := cap_full_rep hr
    have fin : ∀ {dd : TypeDesc} {n : Nat} {u : Value}, (argTypes[0]?).bind P.underlying = some dd → (∀ t, P.underlying t = some dd → argTypes[0]? = some t → (Builtin.cap_ argTypes o.type #[ρc x0]).run P w = .ok (goInt n) w) →
        (builtin .cap argTypes o.type consts (#[x0].map ρc)).run P w = .ok (.value (goInt n)) w := by
      intro dd n u hb hrun
      obtain ⟨t, h1, h2⟩ := bind_under hb
      simp only [builtin]
      exact run_value (by simpa using hrun t h2 h1)
    split at hop
    · rename_i e k nl xs hd he
      split at hop
      · simp only [Option.some.injEq, Prod.mk.injEq] at hop
        obtain ⟨rfl, rfl⟩ := hop
        obtain ⟨a, hu⟩ := hl.1 _ _ _ he
        exact .same (goInt xs.length) H (fin (u := ρc x0) hd fun t h2 h1 => by simp [Builtin.cap_, h1, run_underlying_ok h2, hu]) (.pv _ _ (.lit _))
      · cases hop
    · rename_i e d1 s g off n hd he
      simp only [Option.some.injEq, Prod.mk.injEq] at hop
      obtain ⟨rfl, rfl⟩ := hop
      obtain ⟨a, hu⟩ := hl.2 _ _ _ _ _ he
      exact .same (goInt n) H (fin (u := ρc x0) hd fun t h2 h1 => by simp [Builtin.cap_, h1, run_underlying_ok h2, hu]) (.pv _ _ (.lit _))
    · cases hop
  · -- append
    rename_i x y hxy
    obtain ⟨x0, y0, rfl, rfl, rfl⟩ := map_two hxy
    split at hop
    case h_2 => cases hop
    rename_i t0 t1 ht
    have hts : argTypes = #[t0, t1] := by apply Array.ext'; simpa using ht
    subst hts
    split at hop
    case h_2 => cases hop
    rename_i e hd0 hd1
    simp only [Option.bind_eq_bind, Option.bind_eq_some_iff] at hop
    obtain ⟨size, hsz, bytes, hby, z, hz, ys, hys, hop⟩ := hop
    split at hop
    · cases hop
    · rename_i hne
      have hne1 : size ≠ 0 := fun e => hne (.inl e)
      have hne2 : z.cells.size = size := by
        rcases Nat.decEq z.cells.size size with hh | hh
        · exact absurd (.inr hh) hne
        · exact hh
      obtain ⟨news, hE⟩ := elems_sound (P := P) hys (hρ y0) H
      refine append_sound (t0 := t0) (t1 := t1) (ty := o.type) (z := z) ⟨hd0, hd1, hsz, hby, hz, hne1, hne2⟩ hop (hρ x0) hE H hg hB ?_
      simp [builtin]
  · -- clear
    rename_i x hx
    obtain ⟨x0, rfl, rfl⟩ := map_one hx
    split at hop
    case h_2 => cases hop
    rename_i e d1 s g off n full hb he
    obtain ⟨t, ht, hd⟩ := bind_under hb
    simp only [Option.bind_eq_some_iff] at hop
    obtain ⟨z, hz, hop⟩ := hop
    have hclr : ∀ {w' : World}, (Builtin.clear_ argTypes o.type #[ρc x0]).run P w = .ok (.tuple #[]) w' → (builtin .clear argTypes o.type consts (#[x0].map ρc)).run P w = .ok (.value undef) w' := by
      intro w' hrun
      have h2 : (Builtin.clear_ argTypes o.type #[ρc x0]).run P w = .ok undef w' := hrun
      simp only [builtin]
      exact run_value (by simpa using h2)
    split at hop
    rotate_left
    · rename_i k1 e1 xs hl
      have hr := hρ x0
      rw [he] at hr
      generalize hu : ρc x0 = u at hr
      cases hr with
      | msl _ _ _ _ _ _ b ob k cap ad had hs hn hfull hroom =>
      have hat : argTypes[0]? = some t := ht
      split at hop
      · rename_i hn0
        simp only [Option.some.injEq, Prod.mk.injEq] at hop
        obtain ⟨rfl, rfl⟩ := hop
        subst hn0
        refine .same undef H (hclr ?_) undef_rep
        rw [hu]
        unfold Builtin.clear_
        simp [hat, run_underlying_ok hd]
      · rename_i hn0
        split at hop
        · rename_i hc
          obtain ⟨hok, hlen, hk0, hle⟩ := hc
          simp only [Option.some.injEq, Prod.mk.injEq] at hop
          obtain ⟨rfl, rfl⟩ := hop
          obtain ⟨_, _, _, hs1, _⟩ := H.live hl (by simp)
          have hkk : k = k1 := by rw [hs] at hs1; simp only [Option.some.injEq, Prod.mk.injEq] at hs1; exact hs1.2.2
          subst hkk
          have hzs : z.cells.size = k := (zero_cells (I := I) (w := w) hlen hok).1
          have had' : ad = ob + off * k := had (by omega)
          subst had'
          obtain ⟨H', E', e2, m2, hsh2, hle2, hfr2⟩ := row_put H hl hs (zeros_arr (m := n) hlen hok hk0 (Nat.le_refl n)) (by simp) (by simpa using hle)
          refine ⟨_, _, undef, σ, I, hclr ?_, .inl rfl, undef_rep, H', E', fun _ _ => rfl⟩
          have hst := run_storeCells_row (P := P) hsh2 hle2 hfr2 (fun x hx => by
            obtain ⟨i, hi, rfl⟩ := List.getElem_of_mem hx
            simp only [Array.getElem_toList, Array.getElem_map, Array.getElem_range]
            have hi' : i < n * k := by simpa using hi
            have hkpos : 0 < k := by omega
            have hlt : i % z.cells.size < z.cells.size := by rw [hzs]; exact Nat.mod_lt _ hkpos
            rw [getElem!_pos z.cells _ hlt]
            exact (zero_cells (I := I) (w := w) hlen hok).2.1 _ (Array.getElem_mem_toList _))
          have hzc : Builtin.zeroCells z.cells n = (Array.range (n * k)).map (z.cells[· % z.cells.size]!) := by
            unfold Builtin.zeroCells
            rw [hzs]
          rw [← hzc] at hst
          rw [hu, ← hzc]
          unfold Builtin.clear_
          obtain ⟨n', rfl⟩ : ∃ n', n = n' + 1 := ⟨n - 1, by omega⟩
          simp [hat, run_underlying_ok hd, run_zero_ok hz, hst]
        · cases hop
    · cases hop
    rename_i v0 hl
    have hr := hρ x0
    rw [he] at hr
    generalize hu : ρc x0 = u at hr
    cases hr with
    | msl _ _ _ _ _ _ b ob k cap ad had hs hn hfull hroom =>
    have hat : argTypes[0]? = some t := ht
    have fin : ∀ {w' : World}, (Builtin.clear_ argTypes o.type #[ρc x0]).run P w = .ok (.tuple #[]) w' → (builtin .clear argTypes o.type consts (#[x0].map ρc)).run P w = .ok (.value undef) w' := by
      intro w' hrun
      have h2 : (Builtin.clear_ argTypes o.type #[ρc x0]).run P w = .ok undef w' := hrun
      simp only [builtin]
      exact run_value (by simpa using h2)
    split at hop
    · rename_i hc
      obtain ⟨hn0, hok, hag⟩ := hc
      simp only [Option.map_eq_some_iff, Prod.mk.injEq] at hop
      obtain ⟨v', hv', rfl, rfl⟩ := hop
      obtain ⟨c, hzc, hc1, hcr⟩ := one_zero hok hag
      obtain ⟨b0, k0, e0, u0, hs0, hsh, hok0, hru, hz0, hf, h1c, hszu, hcell⟩ := box_val (H.live hl (by simp))
      rw [hs] at hs0
      simp only [Option.some.injEq, Prod.mk.injEq] at hs0
      obtain ⟨rfl, rfl, rfl⟩ := hs0
      subst hf
      have had' : ad = off := by have := had (by omega); omega
      subst had'
      obtain ⟨H', E', e1, m1, hsh1, hle1, hfr1⟩ := box_put (vs := List.replicate n c) H hl hs (by simp) (fun x hx => by rw [List.eq_of_mem_replicate hx]; exact hc1)
        (fun j p u hp hu => by
          rw [List.getElem?_replicate] at hp hu
          split at hp
          · rename_i hj
            rw [if_pos hj] at hu
            simp only [Option.some.injEq] at hp hu
            subst hp; subst hu
            exact .pv _ _ (hcr I w)
          · cases hp) (by simpa using hn0) hv'
      refine ⟨_, _, undef, σ, I, fin ?_, .inl rfl, undef_rep, H', E', fun _ _ => rfl⟩
      have hst := run_storeCells_row (P := P) (vs := List.replicate n c) hsh1 hle1 hfr1 (fun x hx => by rw [List.eq_of_mem_replicate hx]; exact hc1)
      have hzc2 : (Builtin.zeroCells z.cells n).toList = List.replicate n c := by
        unfold Builtin.zeroCells
        rw [hzc]
        apply List.ext_getElem
        · simp
        · intro i h1 h2
          simp [Nat.mod_one]
      rw [hu]
      unfold Builtin.clear_
      obtain ⟨n', rfl⟩ : ∃ n', n = n' + 1 := ⟨n - 1, by omega⟩
      simp [hat, run_underlying_ok hd, run_zero_ok hz, hzc2, hst]
    · split at hop
      · rename_i hn0
        simp only [Option.some.injEq, Prod.mk.injEq] at hop
        obtain ⟨rfl, rfl⟩ := hop
        subst hn0
        refine .same undef H (fin ?_) undef_rep
        rw [hu]
        unfold Builtin.clear_
        simp [hat, run_underlying_ok hd]
      · cases hop
  · -- max
    simp only [Option.bind_eq_some_iff, Option.map_eq_some_iff, Prod.mk.injEq] at hop
    obtain ⟨vs, ⟨ps, hps, hvs⟩, r, hr, rfl, rfl⟩ := hop
    have hus : args.toList.map ρc = vs := allVals_rep (σ := σ) (I := I) (w := w) hps hvs (by simp) fun j p u hp hu => by
      simp only [List.getElem?_map, Option.map_eq_some_iff] at hp hu
      obtain ⟨a, ha, rfl⟩ := hp
      obtain ⟨b, hb, rfl⟩ := hu
      rw [ha] at hb; injection hb with hb; subst hb
      exact hρ a
    have harr : args.map ρc = vs.toArray := by apply Array.ext'; simpa using hus
    refine .same r H ?_ (.pv _ _ (.lit r))
    simp only [builtin, harr]
    exact run_value (pureRun_run hr)
  · -- min
    simp only [Option.bind_eq_some_iff, Option.map_eq_some_iff, Prod.mk.injEq] at hop
    obtain ⟨vs, ⟨ps, hps, hvs⟩, r, hr, rfl, rfl⟩ := hop
    have hus : args.toList.map ρc = vs := allVals_rep (σ := σ) (I := I) (w := w) hps hvs (by simp) fun j p u hp hu => by
      simp only [List.getElem?_map, Option.map_eq_some_iff] at hp hu
      obtain ⟨a, ha, rfl⟩ := hp
      obtain ⟨b, hb, rfl⟩ := hu
      rw [ha] at hb; injection hb with hb; subst hb
      exact hρ a
    have harr : args.map ρc = vs.toArray := by apply Array.ext'; simpa using hus
    refine .same r H ?_ (.pv _ _ (.lit r))
    simp only [builtin, harr]
    exact run_value (pureRun_run hr)
  · cases hop

theorem buildSlice_rows {size n : Nat} {place : Nat → Option (Nat × Nat)} (hpl : place = fun i => some (i * size, size)) :
    ∀ (qs : List (Nat × PV)) (pc : List (Nat × Value)) (xs : List PV) (arr : Array Value), RowArr I w size xs arr → xs.length = n → arr.size = n * size → pc.length = qs.length →
      (∀ q ∈ qs, q.1 < n ∧ q.2.cells.length = size ∧ q.2.ok = true) → (∀ (j : Nat) (q : Nat × PV) (c : Nat × Value), qs[j]? = some q → pc[j]? = some c → q.1 = c.1 ∧ PRep I w q.2 c.2) →
      ∃ arr', Instr.fill place arr pc = some arr' ∧ RowArr I w size (qs.foldl (fun l q => l.set q.1 q.2) xs) arr' ∧ arr'.size = n * size
  | [], [], xs, arr, ha, hl, hs, _, _, _ => ⟨arr, rfl, ha, hs⟩
  | (i, p) :: qs, (i', u) :: pc, xs, arr, ha, hl, hs, hlen, hq, hr => by
    obtain ⟨hii, hpr⟩ := hr 0 (i, p) (i', u) rfl rfl
    have hii : i = i' := hii
    subst hii
    have hpr : PRep I w p u := hpr
    obtain ⟨hi, hps, hpok⟩ := hq (i, p) (by simp)
    have hi : i < n := hi
    have hps : p.cells.length = size := hps
    obtain ⟨h1, h2, h3⟩ := hpr.cells hpok
    obtain ⟨hs1, hs2⟩ := fill_cells (i * size) u arr
    have hin : i * size + size ≤ n * size := by
      have : (i + 1) * size ≤ n * size := Nat.mul_le_mul_right size (by omega)
      rw [Nat.add_mul] at this
      omega
    have ha' : RowArr I w size (xs.set i p) (u.cells.zipIdx.foldl (fun cs (x : Value × Nat) => cs.setIfInBounds (i * size + x.2) x.1) arr) := by
      refine ⟨by rw [hs1, hs]; simp [hl], fun x hx => ?_, fun i2 x hx j c hc => ?_⟩
      · rcases List.mem_or_eq_of_mem_set hx with hx | rfl
        · exact ha.elem x hx
        · exact ⟨hps, hpok⟩
      · rw [List.getElem?_set] at hx
        by_cases hi2 : i = i2
        · subst hi2
          rw [if_pos rfl, if_pos (by omega)] at hx
          injection hx with hx
          subst hx
          have hj : j < size := by rw [← hps]; exact (List.getElem?_eq_some_iff.1 hc).1
          have hjc : u.cells[j]? = some (u.cells[j]'(by omega)) := Array.getElem?_eq_getElem (by omega)
          refine ⟨u.cells[j]'(by omega), ?_, h2 _ (by simp), h3 j c _ hc hjc⟩
          rw [hs2, if_pos (by omega), show i * size + j - i * size = j by omega]
          exact hjc
        · rw [if_neg hi2] at hx
          obtain ⟨u2, g1, g2, g3⟩ := ha.rep i2 x hx j c hc
          have hj : j < size := by rw [← (ha.elem x (List.mem_of_getElem? hx)).1]; exact (List.getElem?_eq_some_iff.1 hc).1
          refine ⟨u2, ?_, g2, g3⟩
          rw [hs2, if_neg]
          · exact g1
          · rcases Nat.lt_or_ge i2 i with hlt | hge
            · have : (i2 + 1) * size ≤ i * size := Nat.mul_le_mul_right size (by omega)
              rw [Nat.add_mul] at this
              omega
            · have : (i + 1) * size ≤ i2 * size := Nat.mul_le_mul_right size (by omega)
              rw [Nat.add_mul] at this
              omega
    obtain ⟨arr', hf, ha'', hsz⟩ := buildSlice_rows hpl qs pc (xs.set i p) _ ha' (by simpa using hl) (by rw [hs1]; exact hs) (by simpa using hlen) (fun q hqm => hq q (by simp [hqm])) fun j q c hqj hcj => hr (j + 1) q c (by simpa using hqj) (by simpa using hcj)
    refine ⟨arr', ?_, ha'', hsz⟩
    simp only [Instr.fill, hpl]
    have e1 : u.cells.size = size := by omega
    have hcond : ¬ ((u.cells.size ≠ size || decide (i * size + u.cells.size > arr.size)) = true) := by
      simp [e1]; omega
    rw [if_neg (by simpa using hcond)]
    rw [← hpl]
    exact hf

theorem buildSlice_sound {t : TypeId} {len : Nat} {parts : Array (Nat × Operand)} (ho : o.op = .buildSlice t len parts) (hop : aop P o ρ d gen h = some (v, h')) (hρ : ∀ x, Rep σ I w (ρ x) (ρc x)) (H : HRep σ I base w h) (hg : σ gen = none) (hB : Bnd base w.heap.size) :
    OpOk σ I base w gen ((execOp ρc o).run P w) v h' := by
  simp only [aop, ho] at hop
  split at hop
  case h_2 => cases hop
  rename_i e hd
  simp only [Option.bind_eq_bind, Option.bind_eq_some_iff] at hop
  obtain ⟨size, hsz, hop⟩ := hop
  split at hop
  · rename_i h0
    obtain ⟨rfl, hp0⟩ := h0
    have hp0' : parts = #[] := Array.eq_empty_of_size_eq_zero hp0
    subst hp0'
    simp only [Option.some.injEq, Prod.mk.injEq] at hop
    obtain ⟨rfl, rfl⟩ := hop
    have hG : Grows w (w.alloc (.cells #[] e)) (.cells #[] e) := ⟨rfl, rfl, rfl, rfl⟩
    have hk := hG.keep H.lt
    refine ⟨_, w.alloc (.cells #[] e), .slice (some ⟨w.heap.size, 0, none⟩) 0 0, σ, I, ?_, .inl rfl, .pv _ _ (.emp size true _ 0 (fun _ => rfl)), H.keep (fun _ _ h => h) (fun _ h => h) hk (hk.inW H.inW) fun d s b hb => ⟨hG.old (blkOf_facts (H.rows d s) hb).1, (blkOf_facts (H.rows d s) hb).2.1⟩,
      ⟨fun _ _ h => h, fun _ h => h, fun _ h => .inl h, hk, hG.below hB⟩, fun _ _ => rfl⟩
    simp only [execOp, ho]
    refine run_value ?_
    simp [Instr.buildSlice, run_underlying_ok hd, run_sizeOf_ok hsz, Instr.fill, newRow]
    have h0 : (Array.range 0).map (fun _ => (default : Value)) = #[] := by apply Array.ext'; simp
    rw [h0]
  simp only [Option.bind_eq_some_iff] at hop
  obtain ⟨z, hz, slot, hslot, hop⟩ := hop
  split at hop
  case isFalse => cases hop
  rename_i hc
  obtain ⟨hc1, hc2, hc3, hc4⟩ := hc
  simp only [Option.bind_eq_some_iff, Prod.exists] at hop
  obtain ⟨ps, h1, hps, hop⟩ := hop
  split at hop
  case isFalse => cases hop
  rename_i hall
  simp only [Bool.and_eq_true, List.all_eq_true, beq_iff_eq, decide_eq_true_eq] at hall
  obtain ⟨hall1, hall2⟩ := hall
  simp only [Option.some.injEq, Prod.mk.injEq] at hop
  obtain ⟨rfl, rfl⟩ := hop
  obtain ⟨I1, hlen, hpr, H1, m1⟩ := frzs_sound (σ := σ) (w := w) (base := base) _ _ _ _ _ (parts.toList.map fun q => ρc q.2) I hps (by simp)
    (fun j p u hp hu => by
      simp only [List.getElem?_map, Option.map_eq_some_iff] at hp hu
      obtain ⟨a, ha, rfl⟩ := hp
      obtain ⟨b, hb, rfl⟩ := hu
      rw [ha] at hb; injection hb with hb; subst hb
      exact hρ a.2) H
  have hlenp : ps.length = parts.toList.length := by simpa using hlen
  have hzero : (ofVal z).cells.length = z.cells.size := ((ofVal_rep (I := I) (w := w) z).cells hc4).1.symm
  obtain ⟨arr, hf, hrow, hasz⟩ := buildSlice_rows (I := I1) (w := w) (size := size) (n := len) rfl ((parts.toList.map (·.1)).zip ps) (parts.map fun (i, x) => (i, ρc x)).toList (List.replicate len (ofVal z))
    ((Array.range (len * size)).map (z.cells[· % z.cells.size]!)) (zeros_arr hc3 hc4 (by rintro rfl; simp at hc2) (Nat.le_refl _)) (by simp) (by simp) (by simp [hlenp])
    (fun q hq => by
      obtain ⟨ha, hb⟩ := List.of_mem_zip hq
      obtain ⟨x, hx, hx2⟩ := List.mem_map.1 ha
      exact ⟨by rw [← hx2]; exact hall2 x hx, (hall1 _ hb).1, (hall1 _ hb).2⟩)
    (fun j q c hq hc => by
      simp only [List.zip, List.getElem?_zipWith, Option.bind_eq_some_iff] at hq
      simp only [Array.toList_map, List.getElem?_map, Option.map_eq_some_iff] at hc
      obtain ⟨x, hx, rfl⟩ := hc
      cases hpj : ps[j]? with
      | none => simp [hpj, hx] at hq
      | some p =>
        simp [hpj, hx] at hq
        subst hq
        exact ⟨rfl, hpr j p (ρc x.2) hpj (by simp [hx])⟩)
  obtain ⟨ie, hie, hie2⟩ : ∃ ie, P.info? e = some ie ∧ ie.size = size := by
    have := hsz; unfold szOf at this; simpa only [Option.map_eq_some_iff] using this
  have hiz : ie.zero = some z := by
    have := hz; unfold zeroOf at this; simpa [hie] using this
  have hG : Grows w (w.alloc (.cells arr e)) (.cells arr e) := ⟨rfl, rfl, rfl, rfl⟩
  have hrun : (execOp ρc o).run P w = .ok (.value (.slice (some ⟨w.heap.size, 0, none⟩) len len)) (w.alloc (.cells arr e)) := by
    simp only [execOp, ho]
    refine run_value ?_
    subst hie2
    exact run_buildSlice w t e len _ arr ie z hd hie hiz (by omega) hc2 hf
  have := new_row (d := d) (s := slot) (gen := gen) (k := size) (n := len) (cap := len) (full := true) H1 hrow hg hB hG (fun j _ => hG.frozen j) (Nat.le_refl _) (fun _ => rfl) (by omega) hrun
  obtain ⟨nx, w', u, σ', I', g1, g2, g3, g4, g5, g6⟩ := this
  exact ⟨nx, w', u, σ', I', g1, g2, g3, g4, m1.ext.trans g5, g6⟩

/-- THE OPERATIONS TOGETHER. -/
theorem aop_sound (hop : aop P o ρ d gen h = some (v, h')) (hρ : ∀ x, Rep σ I w (ρ x) (ρc x)) (H : HRep σ I base w h) (hg : σ gen = none) (hB : Bnd base w.heap.size) :
    OpOk σ I base w gen ((execOp ρc o).run P w) v h' := by
  cases ho : o.op with
  | move x => exact move_sound (.inl ho) hop hρ H
  | assign x => exact move_sound (.inr ho) hop hρ H
  | pick c a b => exact pick_sound ho hop hρ H
  | alloc e => exact alloc_sound ho hop H hg hB
  | box e x => exact box_sound ho hop hρ H hg hB
  | build t parts => exact build_sound ho hop hρ H
  | buildSlice t len parts => exact buildSlice_sound ho hop hρ H hg hB
  | load t a => exact load_sound ho hop hρ H
  | store t a x => exact store_sound ho hop hρ H
  | nilCheck x => exact nilCheck_sound ho hop hρ H
  | binOp op t x y ty => exact binOp_sound ho hop hρ H
  | unOp op t x => exact unOp_sound ho hop hρ H
  | convert src dst x => exact convert_sound ho hop hρ H hg hB
  | makeInterface t x => exact makeInterface_sound ho hop hρ H
  | makeFunc fn first captured => exact makeFunc_sound ho hop hρ H
  | makeSlice t l c => exact makeSlice_sound ho hop hρ H hg hB
  | slice t x lo hi mx => exact slice_sound ho hop hρ H
  | fieldAddr st x f => exact fieldAddr_sound ho hop hρ H
  | indexAddr t x ix => exact indexAddr_sound ho hop hρ H
  | index t x ix => exact index_sound ho hop hρ H
  | field t x f => exact field_sound ho hop hρ H
  | extract x i => exact extract_sound ho hop hρ H
  | range t x => exact range_sound ho hop hρ H hg hB
  | next it isS => exact next_sound ho hop hρ H
  | call c =>
    obtain ⟨callee, args, argTypes⟩ := c
    cases callee with
    | builtin b => exact builtin_sound ho hop hρ H hg hB
    | value f => simp [aop, ho] at hop
    | invoke r m => simp [aop, ho] at hop
  | _ => simp [aop, ho] at hop
end
end Go.Proofs.YtlhfgonjcpapnaaGreatDoor.Abs

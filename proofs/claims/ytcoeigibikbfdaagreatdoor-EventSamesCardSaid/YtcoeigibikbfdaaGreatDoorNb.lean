/-
  The abstract machine over the model, its soundness, walks of the program's functions and what they compute. Conditions: the values are of their types.
-/
import Derived.Test.YtcoeigibikbfdaaGreatDoorNa
import Derived.Lib.AppendZeros
import Derived.CallsIn
import Derived.OrdersIn
import Derived.RangeFuncIn
import Derived.RangeFuncRecord
import Derived.RangeFuncNested
import Derived.RangeFuncLeaves

set_option linter.all false
set_option linter.unnecessarySimpa false

namespace Go.Proofs.YtcoeigibikbfdaaGreatDoor.Abs
open Go Go.RowKit
variable {σ σ' : Sig} {I I' : Blk} {base : Blk} {w w' : World} {h : Heap} {P : Program}
section
variable {d gen : Nat} {t0 t1 ty e : TypeId} {size bytes : Nat} {z : Value}
structure AppT (P : Program) (t0 t1 e : TypeId) (size bytes : Nat) (z : Value) : Prop where
  d0 : P.underlying t0 = some (.slice e)
  d1 : appendable P t1 = true
  sz : szOf P e = some size
  by_ : byOf P e = some bytes
  z_ : zeroOf P e = some z
  ne : size ≠ 0
  zs : z.cells.size = size
theorem AppT.info (T : AppT P t0 t1 e size bytes z) : ∃ i, P.info? e = some i ∧ i.size = size ∧ i.bytes = bytes ∧ i.zero = some z := by
  have h1 := T.sz
  have h2 := T.by_
  have h3 := T.z_
  unfold szOf at h1
  unfold byOf at h2
  unfold zeroOf at h3
  simp only [Option.map_eq_some_iff, Option.bind_eq_some_iff] at h1 h2 h3
  obtain ⟨i, hi, rfl⟩ := h1
  obtain ⟨i2, hi2, rfl⟩ := h2
  obtain ⟨i3, hi3, hz⟩ := h3
  rw [hi] at hi2 hi3
  injection hi2 with hi2
  injection hi3 with hi3
  subst hi2; subst hi3
  exact ⟨i, hi, rfl, rfl, hz⟩
theorem append_nothing (T : AppT P t0 t1 e size bytes z) {bs : Option Addr} {n cap : Nat} {x : Value} {news : Array Value} (hle : n ≤ cap) (hx : Elems I w P size x [] news) :
    (Builtin.append_ #[t0, t1] ty #[.slice bs n cap, x]).run P w = .ok (.slice bs n cap) w := by
  obtain ⟨i, hi, hs, hb, hz⟩ := T.info
  have hsrc := hx.src T.d1
  have hn : news.toList = [] := List.eq_nil_of_length_eq_zero (by simpa using hx.size_eq)
  rw [hn] at hsrc
  subst hs
  exact run_append_nothing w t0 t1 ty e i T.d0 hi bs n cap hle x (by simpa using hsrc)
theorem append_new (T : AppT P t0 t1 e size bytes z) (H : HRep σ I base w h) (hg : σ gen = none) (hB : Bnd base w.heap.size) {d s : Nat} {bs : Option Addr} {cap : Nat} {x : Value} {xs ys : List PV} {olds news : Array Value}
    (hs : Elems I w P size (.slice bs xs.length cap) xs olds) (hx : Elems I w P size x ys news) (hlt : cap < xs.length + ys.length) (hfit : fitsRow (xs.length + ys.length) bytes = true)
    {run : Result Next} (hrun : run = ((Builtin.append_ #[t0, t1] ty #[.slice bs xs.length cap, x]).run P w).andThen fun v w' => .ok (.value v) w') :
    OpOk σ I base w gen run (.msl d s gen 0 (xs.length + ys.length) false) (hput h d s ⟨gen, .row size e (xs ++ ys) false⟩) := by
  obtain ⟨i, hi, hsi, hb, hz⟩ := T.info
  subst hsi
  obtain ⟨hf1, hf2⟩ := fits_of hfit
  have hr := run_append_grow_src (P := P) w t0 t1 ty e i z T.d0 hi hz bs xs.length cap olds.toList (by simpa using hs.runD) x ys.length news.toList (hx.src T.d1) hlt (by omega)
    (growslice_fits hlt (by rw [hb]; exact hf1))
  rw [hr] at hrun
  have hG : Grows w (w.drew.alloc (.cells ((olds.toList ++ news.toList).toArray ++ Builtin.zeroCells z.cells (grownCap w (xs.length + ys.length) cap e - (xs.length + ys.length))) e))
      (.cells ((olds.toList ++ news.toList).toArray ++ Builtin.zeroCells z.cells (grownCap w (xs.length + ys.length) cap e - (xs.length + ys.length))) e) := ⟨rfl, rfl, rfl, rfl⟩
  have hge := grownCap_ge w (xs.length + ys.length) cap e
  refine new_row H (hs.arr.append hx.arr hs.size_eq _) hg hB hG (fun j _ => hG.frozen j) hge (by simp) ?_ hrun
  have e1 : (Builtin.zeroCells z.cells (grownCap w (xs.length + ys.length) cap e - (xs.length + ys.length))).size = (grownCap w (xs.length + ys.length) cap e - (xs.length + ys.length)) * i.size := by
    rw [size_zeroCells, T.zs]
  have e2 := hs.size_eq
  have e3 := hx.size_eq
  simp only [Array.size_append, List.size_toArray, List.length_append, Array.length_toList, e1, e2, e3]
  rw [← Nat.add_mul, ← Nat.add_mul]
  exact Nat.mul_le_mul_right _ (by omega)
theorem append_sound {tgt v : AV} {h' : Heap} {u x : Value} {slot : Nat} {ys : List PV} {news : Array Value} (T : AppT P t0 t1 e size bytes z) (hop : aappend e size bytes d slot gen h tgt ys = some (v, h')) (hu : Rep σ I w tgt u)
    (hx : Elems I w P size x ys news) (H : HRep σ I base w h) (hg : σ gen = none) (hB : Bnd base w.heap.size)
    {run : Result Next} (hrun : run = ((Builtin.append_ #[t0, t1] ty #[u, x]).run P w).andThen fun v w' => .ok (.value v) w') : OpOk σ I base w gen run v h' := by
  unfold aappend at hop
  split at hop
  · rename_i k nl full xs
    split at hop
    · -- nothing
      rename_i hys
      have hys : ys = [] := by simpa using hys
      subst hys
      simp only [Option.some.injEq, Prod.mk.injEq] at hop
      obtain ⟨rfl, rfl⟩ := hop
      refine .same u H ?_ hu
      have hu' := rep_pv hu
      cases hu' with
      | nil => rw [hrun, append_nothing T (Nat.le_refl _) hx]; rfl
      | emp => rw [hrun, append_nothing T (Nat.zero_le _) hx]; rfl
      | sl _ _ _ b o cap vs hcap => rw [hrun, append_nothing T hcap hx]; rfl
    · rename_i hys
      have hys : ys ≠ [] := by simpa using hys
      have hpos : 0 < ys.length := by
        cases ys with
        | nil => exact absurd rfl hys
        | cons a l => simp
      split at hop
      · rename_i hnl
        subst hnl
        split at hop
        · rename_i hc
          simp only [Option.some.injEq, Prod.mk.injEq] at hop
          obtain ⟨rfl, rfl⟩ := hop
          have hu' := rep_pv hu
          cases hu' with
          | nil =>
            obtain ⟨olds, hs⟩ := elems_sound (P := P) (size := size) (ys := []) (by simp [elemsOf]) hu H
            have := append_new (ty := ty) T H hg hB (d := d) (s := slot) (xs := []) hs hx (by simpa using hpos) (by simpa using hc.2) hrun
            simpa using this
        · cases hop
      · rename_i hnl
        have hnl : nl = false := by simpa using hnl
        subst hnl
        split at hop
        · rename_i hc
          obtain ⟨rfl, rfl, hfit⟩ := hc
          simp only [Option.some.injEq, Prod.mk.injEq] at hop
          obtain ⟨rfl, rfl⟩ := hop
          obtain ⟨olds, hs⟩ := elems_sound (P := P) (size := k) (ys := xs) (by simp [elemsOf]) hu H
          have hu' := rep_pv hu
          cases hu' with
          | emp _ _ a cap hfull =>
            have := hfull rfl
            subst this
            exact append_new (ty := ty) T H hg hB (d := d) (s := slot) (xs := []) hs hx (by simpa using hpos) hfit hrun
          | sl _ _ _ b o cap vs hcap hfull =>
            have := hfull rfl
            subst this
            exact append_new (ty := ty) T H hg hB (d := d) (s := slot) hs hx (by omega) hfit hrun
        · cases hop
  · rename_i d' s' g' off n full
    split at hop
    case h_2 => cases hop
    rename_i k e' xs fz hl
    have hu0 := hu
    cases hu with
    | msl _ _ _ _ _ _ b o k2 cap ad had hs hn hfull hroom =>
      obtain ⟨b', o', n', hs', hbl, hbase, hfr, hxn, hsh, hxk, hc, hz⟩ := row_block (H.live hl (by simp))
      rw [hs] at hs'
      simp only [Option.some.injEq, Prod.mk.injEq] at hs'
      obtain ⟨rfl, rfl, rfl⟩ := hs'
      split at hop
      · rename_i hfl
        subst hfl
        have hcn := hfull rfl
        subst hcn
        split at hop
        · rename_i hys
          have hys : ys = [] := by simpa using hys
          subst hys
          simp only [Option.some.injEq, Prod.mk.injEq] at hop
          obtain ⟨rfl, rfl⟩ := hop
          exact .same _ H (by rw [hrun, append_nothing T hn hx]; rfl) hu0
        · rename_i hys
          have hys : ys ≠ [] := by simpa using hys
          have hpos : 0 < ys.length := by
            cases ys with
            | nil => exact absurd rfl hys
            | cons a l => simp
          split at hop
          · rename_i hcc
            obtain ⟨rfl, hle, hfit⟩ := hcc
            simp only [Option.some.injEq, Prod.mk.injEq] at hop
            obtain ⟨rfl, rfl⟩ := hop
            obtain ⟨olds, hso⟩ := elems_sound (P := P) (size := k2) (ys := (xs.drop off).take cap) (by simp [elemsOf, hl, hle]) hu0 H
            have hlen : ((xs.drop off).take cap).length = cap := by simp; omega
            have hso' : Elems I w P k2 (.slice (some ⟨b, ad, none⟩) ((xs.drop off).take cap).length cap) ((xs.drop off).take cap) olds := by rw [hlen]; exact hso
            have := append_new (run := run) (ty := ty) (cap := cap) T H hg hB (d := d) (s := slot) hso' hx (by omega) (by rw [hlen]; exact hfit) (by rw [hlen]; exact hrun)
            rw [hlen] at this
            exact this
          · cases hop
      · rename_i hfl
        split at hop
        case isFalse => cases hop
        rename_i hcc
        obtain ⟨rfl, rfl, rfl, hle, hfit⟩ := hcc
        simp only [Option.some.injEq, Prod.mk.injEq] at hop
        obtain ⟨rfl, rfl⟩ := hop
        have hdrop : (xs.drop off).take n = xs.drop off := List.take_of_length_le (by simp; omega)
        have hlenD : (xs.drop off).length = n := by simp; omega
        by_cases hroomy : n + ys.length ≤ cap
        · -- in place
          obtain ⟨i, hi, hsi, hb, hzz⟩ := T.info
          subst hsi
          obtain ⟨ee, mm, hsh2, hroom2⟩ := hroom
          rw [hsh] at hsh2
          simp only [Option.some.injEq, Prod.mk.injEq] at hsh2
          obtain ⟨rfl, rfl⟩ := hsh2
          have hnews : news.toList.length = ys.length * i.size := by simpa using hx.size_eq
          have hcells : (n + ys.length) * i.size ≤ cap * i.size := Nat.mul_le_mul_right _ hroomy
          rw [Nat.add_mul] at hcells
          rw [Nat.add_mul] at hroom2
          have hin : ∀ j, j < news.toList.length → cap ≠ 0 ∧ ad + n * i.size + j < n' := by
            intro j hj
            have hc0 : cap ≠ 0 := by
              intro h0
              subst h0
              have : ys.length = 0 := by omega
              rw [this] at hnews
              omega
            have := had hc0
            exact ⟨hc0, by omega⟩
          have hr := run_append_room_src (P := P) w t0 t1 ty _ i T.d0 hi b ad n cap x ys.length news.toList (hx.src T.d1) hroomy
            (fun j hj => by obtain ⟨u, hu⟩ := cell_lt_shape hsh (hin j hj).2; rw [hu]; rfl) (fun j hj => hz.2.2 _ (hin j hj).2)
          rw [hr] at hrun
          have hkeep : Keep I w (w.setCells b (ad + n * i.size) news.toList) := setCells_keep hz.1
          have hxsl : xs.length * i.size = off * i.size + n * i.size := by rw [← hle, Nat.add_mul]
          have had' : news.toList.length ≠ 0 → ad = o + off * i.size := fun hh => had (hin 0 (by omega)).1
          have hE : Ext base σ I w (upd σ gen (b, o + off * i.size, i.size)) I (w.setCells b (ad + n * i.size) news.toList) :=
            ⟨upd_sub hg, fun _ h => h, fun _ h => .inl h, hkeep, setCells_below hz.2.1⟩
          have hrowl := live_row hl (by simp)
          refine ⟨_, _, _, upd σ gen (b, o + off * i.size, i.size), I, hrun, .inl rfl, ?_, ?_, hE, fun g hne => upd_other hne⟩
          · exact .msl d' s' gen 0 _ false b _ _ cap ad (fun hc0 => by rw [had hc0]; simp) upd_same hroomy (by simp) ⟨_, n', by rw [setCells_shape]; exact hsh, by rw [Nat.zero_add]; omega⟩
          · refine H.put (upd_sub hg) (fun _ h => h) hkeep (hkeep.inW H.inW) d' s' _ ?_ ?_
            · refine ⟨b, o + off * i.size, n', upd_same, by rw [setCells_shape]; exact hsh, ?_, ?_, ?_, ⟨hz.1, hz.2.1, fun j hj => by rw [World.frozen?_setCells]; exact hz.2.2 j hj⟩⟩
              · rw [List.length_append, hlenD, Nat.add_mul]
                by_cases h0 : ys.length = 0
                · rw [h0]; omega
                · have : cap ≠ 0 := by omega
                  omega
              · intro y hy
                rcases List.mem_append.1 hy with hy | hy
                · exact hxk y (List.mem_of_mem_drop hy)
                · exact hx.arr.elem y hy
              · intro i' y hy j p hp
                have hyk : y.cells.length = i.size := by
                  rcases List.mem_append.1 (List.mem_of_getElem? hy) with hy | hy
                  · exact (hxk y (List.mem_of_mem_drop hy)).1
                  · exact (hx.arr.elem y hy).1
                have hjk : j < i.size := by rw [← hyk]; exact (List.getElem?_eq_some_iff.1 hp).1
                rcases Nat.lt_or_ge i' n with hlt | hge
                · rw [List.getElem?_append_left (by omega), List.getElem?_drop] at hy
                  obtain ⟨u, h1, h2, h3⟩ := hc (off + i') y hy j p hp
                  refine ⟨u, ?_, h2, h3.mono (fun _ h => h) hkeep.keep⟩
                  have e1 : o + off * i.size + i' * i.size + j = o + (off + i') * i.size + j := by rw [Nat.add_mul]; omega
                  rw [e1]
                  by_cases hnl : news.toList.length = 0
                  · have : news.toList = [] := List.eq_nil_of_length_eq_zero hnl
                    rw [this]
                    exact h1
                  · rw [setCells_out]
                    · exact h1
                    · left
                      have := index_lt (k := i.size) hlt hjk
                      rw [had' hnl, Nat.add_mul]
                      omega
                · rw [List.getElem?_append_right (by omega), hlenD] at hy
                  obtain ⟨u, h1, h2, h3⟩ := hx.arr.rep (i' - n) y hy j p hp
                  have hlt := (Array.getElem?_eq_some_iff.1 h1).1
                  have hnl : news.toList.length ≠ 0 := by rw [Array.length_toList]; omega
                  refine ⟨u, ?_, h2, h3.mono (fun _ h => h) hkeep.keep⟩
                  have := setCells_in (w := w) (b := b) (o := ad + n * i.size) (vs := news.toList) hsh (by have := (hin 0 (by omega)).1; have := had this; omega) (j := (i' - n) * i.size + j) (by simpa using hlt)
                  have e1 : ad + n * i.size + ((i' - n) * i.size + j) = o + off * i.size + i' * i.size + j := by
                    have : i' * i.size = n * i.size + (i' - n) * i.size := by rw [← Nat.add_mul]; congr 1; omega
                    have := had' hnl
                    omega
                  rw [e1] at this
                  rw [this]
                  have h1' : news.toList[(i' - n) * i.size + j]? = some u := by simpa using h1
                  rw [List.getElem?_eq_getElem (by simpa using hlt)] at h1'
                  exact h1'
            · intro d2 s2 b2 hne hb2
              have hf' := blkOf_facts (H.rows d2 s2) hb2
              have hbb : b2 ≠ b := fun e => hne (H.apart d' s' d2 s2 b (by rw [hrowl]; simp [blkOf, hs]) (e ▸ hb2))
              exact ⟨setCells_other b _ _ w b2 hbb, hf'.2.1, by simp [blkOf, upd_same]; exact Ne.symm hbb⟩
        · obtain ⟨olds, hso⟩ := elems_sound (P := P) (size := k2) (ys := xs.drop off) (by simp [elemsOf, hl, hdrop]; omega) hu0 H
          rw [← hlenD] at hso hfit hroomy hrun
          have := append_new (ty := ty) T H hg hB (d := d') (s := s') hso hx (by omega) hfit hrun
          rw [hlenD] at this
          exact this
  · cases hop
theorem zeros_sound {tn : TypeId} {x y v : AV} {h' : Heap} {u uy : Value} {slot : Nat} (hd0 : P.underlying t0 = some (.slice e)) (hop : azeros P e tn d slot gen h x y = some (v, h')) (hu : Rep σ I w x u) (hy : Rep σ I w y uy)
    (H : HRep σ I base w h) (hg : σ gen = none) (hB : Bnd base w.heap.size)
    {run : Result Next} (hrun : run = ((Builtin.append_ #[t0, tn] ty #[u, uy]).run P w).andThen fun v w' => .ok (.value v) w') : OpOk σ I base w gen run v h' := by
  unfold azeros at hop
  split at hop
  · rename_i kn k nl fl xs ki n htn
    simp only [Option.bind_eq_bind, Option.bind_eq_some_iff] at hop
    obtain ⟨size, hsz, bytes, hby, z, hz, hop⟩ := hop
    split at hop
    · cases hop
    · rename_i hne
      split at hop
      · rename_i hc
        obtain ⟨rfl, hx0, hn1, hfit⟩ := hc
        have hx0 : xs = [] := List.length_eq_zero_iff.1 hx0
        subst hx0
        simp only [Option.some.injEq, Prod.mk.injEq] at hop
        obtain ⟨rfl, rfl⟩ := hop
        have hne1 : size ≠ 0 := fun e => hne (.inl e)
        have hne2 : z.cells.size = size := by
          rcases Nat.decEq z.cells.size size with hh | hh
          · exact absurd (.inr hh) hne
          · exact hh
        have hu' := rep_pv hu
        have huy := prep_lit (rep_pv hy)
        subst huy
        unfold szOf at hsz
        unfold byOf at hby
        unfold zeroOf at hz
        simp only [Option.map_eq_some_iff, Option.bind_eq_some_iff] at hsz hby hz
        obtain ⟨i, hi, rfl⟩ := hsz
        obtain ⟨i2, hi2, rfl⟩ := hby
        obtain ⟨i3, hi3, hz⟩ := hz
        rw [hi] at hi2 hi3
        injection hi2 with hi2
        injection hi3 with hi3
        subst hi2; subst hi3
        obtain ⟨hf1, hf2⟩ := fits_of hfit
        obtain ⟨m, rfl⟩ : ∃ m : Nat, n = (m : Int) := ⟨n.toNat, by omega⟩
        simp only [Int.toNat_natCast] at *
        have hgrow : ∀ A : Array Value, A.size = (m + (grownCap w m 0 e - m)) * i.size → 
            ((Builtin.append_ #[t0, tn] ty #[.slice none 0 0, .int ki (m : Int)]).run P w) = .ok (.slice (some ⟨w.heap.size, 0, none⟩) m (grownCap w m 0 e)) (w.drew.alloc (.cells A e)) →
            u = .slice none 0 0 → OpOk σ I base w gen run (.msl d slot gen 0 m false) (hput h d slot ⟨gen, .row i.size e [] false⟩) := by
          intro A hA hr hu0
          rw [hu0, hr] at hrun
          have hG : Grows w (w.drew.alloc (.cells A e)) (.cells A e) := ⟨rfl, rfl, rfl, rfl⟩
          have hge := grownCap_ge w m 0 e
          refine new_row H ⟨by simp, by simp, fun i x hi => by simp at hi⟩ hg hB hG (fun j _ => hG.frozen j) hge (by simp) ?_ hrun
          rw [hA]
          exact Nat.mul_le_mul_right _ (by omega)
        have hr := Go.Lib.run_append_nil_zeros (P := P) w t0 tn ty e i z ki kn hd0 htn hi hz m (by omega) (by omega) (by omega) (by omega)
        cases hu' with
        | nil =>
          refine hgrow _ ?_ hr rfl
          rw [Array.size_append, size_zeroCells, size_zeroCells, hne2, Nat.add_mul]
      · cases hop
  · cases hop
end
end Go.Proofs.YtcoeigibikbfdaaGreatDoor.Abs

namespace Go.Proofs.YtcoeigibikbfdaaGreatDoor.Abs
open Go Go.RowKit
variable {σ σ' : Sig} {I I' : Blk} {base : Blk} {w w' : World} {h : Heap} {P : Program}
section
variable {ρ : Operand → AV} {ρc : Operand → Value} {d gen : Nat} {o : Oper} {v : AV} {h' : Heap}
theorem freeze_push (w : World) (arr : Array Value) (e : TypeId) : ((w.drew.alloc (.cells arr e)).freeze ⟨w.heap.size, arr.size, none⟩ 1).heap = w.heap.push (.cells arr e (arr.size, arr.size + 1)) := by
  unfold World.freeze
  rw [if_neg (by decide)]
  apply Array.ext_getElem?
  intro i
  simp only [World.drew, World.alloc, Array.getElem?_modify, Array.getElem?_push]
  by_cases hi : i = w.heap.size
  · subst hi; simp
  · rw [if_neg (fun e => hi e.symm), if_neg hi, if_neg hi]
theorem pvBytes_spec : ∀ {l : List PV} {bs : List UInt8}, pvBytes l = some bs → ∃ ns : List Int, l = ns.map (fun n => PV.lit (.int .u8 n)) ∧ bs = ns.map fun n => UInt8.ofNat n.toNat
  | [], bs, hl => by simp only [pvBytes, Option.some.injEq] at hl; subst hl; exact ⟨[], rfl, rfl⟩
  | p :: l, bs, hl => by
    unfold pvBytes at hl
    split at hl
    · rename_i hh; cases hh
    · rename_i n l' hh
      injection hh with h1 h2
      subst h1; subst h2
      simp only [Option.map_eq_some_iff] at hl
      obtain ⟨bs', hb, rfl⟩ := hl
      obtain ⟨ns, rfl, rfl⟩ := pvBytes_spec hb
      exact ⟨n :: ns, rfl, rfl⟩
    · cases hl
theorem foldl_push (ns : List Int) : ∀ (s : ByteArray), ns.foldl (fun r n => r.push (UInt8.ofNat n.toNat)) s = ⟨s.data ++ (ns.map fun n => UInt8.ofNat n.toNat).toArray⟩ := by
  induction ns with
  | nil => intro s; simp
  | cons n ns ih =>
    intro s
    rw [List.foldl_cons, ih]
    have : (s.push (UInt8.ofNat n.toNat)).data = s.data.push (UInt8.ofNat n.toNat) := rfl
    rw [this]
    congr 1
    apply Array.ext'
    simp
theorem convert_sound {src dst : TypeId} {x : Operand} (ho : o.op = .convert src dst x) (hop : aop P o ρ d gen h = some (v, h')) (hρ : ∀ x, Rep σ I w (ρ x) (ρc x)) (H : HRep σ I base w h) (hg : σ gen = none) (hB : Bnd base w.heap.size) :
    OpOk σ I base w gen ((execOp ρc o).run P w) v h' := by
  have hr := hρ x
  simp only [aop, ho] at hop
  split at hop
  · rename_i e s hsrc hdst hx
    rw [hx] at hr
    have hu := prep_lit (rep_pv hr)
    split at hop
    · rename_i slot he hslot
      split at hop
      · rename_i hsz
        simp only [Option.some.injEq, Prod.mk.injEq] at hop
        obtain ⟨rfl, rfl⟩ := hop
        have hcut : s.size ≤ (Question.appendCap s.size 0 e).cut (w.tape w.drawn (Question.appendCap s.size 0 e)) := by simp [Question.cut]
        generalize hc : (Question.appendCap s.size 0 e).cut (w.tape w.drawn (Question.appendCap s.size 0 e)) = cap at hcut
        have hsize : (s.data.map (fun b => Value.int .u8 b.toNat) ++ Array.replicate (cap - s.size) (Value.int .u8 0)).size = cap := by
          have : s.data.size = s.size := rfl
          simp; omega
        have hG : Grows w ((w.drew.alloc (.cells (s.data.map (fun b => Value.int .u8 b.toNat) ++ Array.replicate (cap - s.size) (.int .u8 0)) e)).freeze
            ⟨w.heap.size, (s.data.map (fun b => Value.int .u8 b.toNat) ++ Array.replicate (cap - s.size) (Value.int .u8 0)).size, none⟩ 1)
            (.cells (s.data.map (fun b => Value.int .u8 b.toNat) ++ Array.replicate (cap - s.size) (.int .u8 0)) e
              ((s.data.map (fun b => Value.int .u8 b.toNat) ++ Array.replicate (cap - s.size) (Value.int .u8 0)).size, (s.data.map (fun b => Value.int .u8 b.toNat) ++ Array.replicate (cap - s.size) (Value.int .u8 0)).size + 1)) := by
          refine ⟨freeze_push w _ e, ?_, ?_, ?_⟩ <;> (unfold World.freeze; rw [if_neg (by decide)]; rfl)
        refine new_row (k := 1) (n := s.size) (cap := cap) (full := false) H ?_ hg hB hG ?_ hcut (by simp) (by rw [hsize]; omega) ?_
        · refine ⟨by rw [hsize]; simp [bytesPV]; omega, ?_, ?_⟩
          · intro y hy
            simp only [bytesPV, List.mem_map] at hy
            obtain ⟨b, _, rfl⟩ := hy
            exact ⟨rfl, rfl⟩
          · intro i y hi j p hp
            rw [bytesPV_get] at hi
            simp only [Option.map_eq_some_iff] at hi
            obtain ⟨b, hb, rfl⟩ := hi
            cases j with
            | zero =>
              simp [PV.cells] at hp
              subst hp
              refine ⟨.int .u8 b.toNat, ?_, rfl, .lit _⟩
              have hlt := (Array.getElem?_eq_some_iff.1 hb).1
              have hds : s.data.size = s.size := rfl
              rw [Array.getElem?_append_left (by simp; omega)]
              simp [hb]
            | succ j => simp [PV.cells] at hp
        · intro j hj
          unfold World.frozen?
          simp only [hG.new]
          simp
          omega
        · simp only [execOp, ho]
          refine run_value ?_
          have hs2 : (w.drew.alloc (.cells (s.data.map (fun b => Value.int .u8 b.toNat) ++ Array.replicate (cap - s.size) (.int .u8 0)) e)).shape? w.heap.size =
              some (e, (s.data.map (fun b => Value.int .u8 b.toNat) ++ Array.replicate (cap - s.size) (Value.int .u8 0)).size) := by
            unfold World.shape? World.alloc World.drew
            simp
          simp only [convert, Sem.run_bind, run_underlying_ok hsrc, run_underlying_ok hdst, Result.andThen_ok, hu, run_underlying_ok he, Conv.stringToBytes, run_choose, Question.forced, Bool.false_eq_true, if_false, newRow, run_newObj, Sem.run_pure, markStringish, run_shape]
          rw [hc]
          dsimp only [World.alloc, World.drew] at hs2
          rw [hs2]
          rfl
      · cases hop
    · cases hop
  · rename_i e hsrc hdst
    split at hop
    · rename_i he
      split at hop
      case isFalse => cases hop
      rename_i hsl
      simp only [Option.bind_eq_some_iff, Option.map_eq_some_iff, Prod.mk.injEq] at hop
      obtain ⟨l, hl, bs, hbs, rfl, rfl⟩ := hop
      obtain ⟨news, hE⟩ := elems_sound (P := P) hl hr H
      obtain ⟨ns, rfl, rfl⟩ := pvBytes_spec hbs
      have hsz := hE.size_eq
      have hnews : news = (ns.map (Value.int .u8)).toArray := by
        apply Array.ext_getElem?
        intro j
        simp only [List.getElem?_toArray, List.getElem?_map]
        cases hj : ns[j]? with
        | none =>
          simp only [Option.map_none]
          rw [Array.getElem?_eq_none]
          have := List.getElem?_eq_none_iff.1 hj
          simp at hsz
          omega
        | some n =>
          obtain ⟨u, h1, _, h3⟩ := hE.arr.rep j (.lit (.int .u8 n)) (by simp [hj]) 0 (.lit (.int .u8 n)) rfl
          rw [prep_lit h3] at h1
          simpa using h1
      refine .same (.string (ns.foldl (fun r n => r.push (UInt8.ofNat n.toNat)) ByteArray.empty)) H ?_ ?_
      · simp only [execOp, ho]
        refine run_value ?_
        have hrun := hE.run
        have hlen := hE.len w
        generalize hu : ρc x = u at hr hrun hlen
        generalize hxv : ρ x = xx at hr hl hsl
        have hkind : ∃ a n c, u = .slice a n c := by
          cases hr with
          | pv p _ hp =>
            cases hp with
            | nil => exact ⟨_, _, _, rfl⟩
            | emp => exact ⟨_, _, _, rfl⟩
            | sl => exact ⟨_, _, _, rfl⟩
            | _ => cases hsl
          | msl => exact ⟨_, _, _, rfl⟩
          | _ => cases hsl
        obtain ⟨a, n, c, rfl⟩ := hkind
        rw [run_convert_bytes_string w src dst e a n c hsrc he hdst]
        have hn : n = (ns.map fun n => PV.lit (.int .u8 n)).length := by
          simp [Builtin.lenOf] at hlen
          simpa using hlen
        cases a with
        | none =>
          simp [Builtin.firstCells] at hrun
          rw [hnews] at hrun
          have : ns = [] := by simpa using hrun.symm
          subst this
          simp [Conv.bytesToString]
        | some a =>
          refine run_bytesToString w a n c ns ?_
          rw [← hnews, hn]
          simpa [Builtin.firstCells] using hrun
      · rw [foldl_push]
        exact .pv _ _ (by simpa using PRep.lit _)
    · cases hop
  · simp only [Option.bind_eq_some_iff, Option.map_eq_some_iff, Prod.mk.injEq] at hop
    obtain ⟨a, ha, r, hrr, rfl, rfl⟩ := hop
    refine .same r H ?_ (.pv _ _ (.lit r))
    simp only [execOp, ho]
    rw [valA_rep ha hr]
    exact run_value (pureRun_run hrr)
end
end Go.Proofs.YtcoeigibikbfdaaGreatDoor.Abs

namespace Go.Proofs.YtcoeigibikbfdaaGreatDoor.Abs
open Go Go.RowKit
variable {σ σ' : Sig} {I I' : Blk} {base : Blk} {w w' : World} {h : Heap} {P : Program}
section
variable {ρ : Operand → AV} {ρc : Operand → Value} {d gen : Nat} {o : Oper} {v : AV} {h' : Heap}
theorem run_sliceBound {u : Value} {k : IntKind} {i : Int} {y : Nat} {code : BoundsCode} (hu : u = .int k i) (h0 : 0 ≤ i) (h1 : i ≤ y) : (Instr.sliceBound u y code).run P w = .ok i.toNat w := by
  subst hu
  simp [Instr.sliceBound, asIntOf, h0, h1]
theorem natIn_some {x : Operand} {dflt top n : Nat} (hn : natIn (some (ρ x)) dflt top = some n) (hρ : ∀ x, Rep σ I w (ρ x) (ρc x)) :
    n ≤ top ∧ ∀ (y : Nat) (code : BoundsCode), top ≤ y → (Instr.sliceBound (ρc x) y code).run P w = .ok n w := by
  simp only [natIn, Option.bind_eq_some_iff] at hn
  obtain ⟨i, hi, hn⟩ := hn
  split at hn
  · rename_i hc
    injection hn with hn
    subst hn
    obtain ⟨k, hk⟩ := intOf_rep hi (hρ x)
    exact ⟨by omega, fun y code hy => run_sliceBound hk hc.1 (by omega)⟩
  · cases hn
theorem bounds_sound {n l r : Nat} {m : Option Nat} {lo hi mx : Option Operand} (hb : bounds n (lo.map ρ) (hi.map ρ) (mx.map ρ) = some (l, r, m)) (hρ : ∀ x, Rep σ I w (ρ x) (ρc x)) (isS : Bool) {cap : Nat} (hn : n ≤ cap) :
    (Instr.sliceBounds isS n cap (lo.map ρc) (hi.map ρc) (mx.map ρc)).run P w = .ok (l, r, m.getD cap) w ∧ l ≤ r ∧ r ≤ n ∧ r ≤ m.getD cap ∧ m.getD cap ≤ cap ∧ (∀ m', m = some m' → m' ≤ n) ∧ m.isSome = mx.isSome := by
  simp only [bounds, Option.bind_eq_some_iff] at hb
  obtain ⟨m0, hm0, r0, hr0, l0, hl0, hb⟩ := hb
  split at hb
  · cases hb
  · rename_i hmh
    simp only [Option.some.injEq, Prod.mk.injEq] at hb
    obtain ⟨rfl, rfl, rfl⟩ := hb
    have hl : ∀ (code : BoundsCode) (C : Nat), l0 ≤ r0 ∧ (match lo.map ρc with
        | some v => (do let l ← Instr.sliceBound v r0 code; pure (l, r0, C) : Sem (Nat × Nat × Nat))
        | none => (do let l ← pure 0; pure (l, r0, C))).run P w = .ok (l0, r0, C) w := by
      intro code C
      cases lo with
      | none => simp [natIn] at hl0; subst hl0; exact ⟨Nat.zero_le _, rfl⟩
      | some x =>
        obtain ⟨h1, h2⟩ := natIn_some (P := P) hl0 hρ
        exact ⟨h1, by simp [h2 r0 code (Nat.le_refl _)]⟩
    cases mx with
    | none =>
      simp at hm0
      subst hm0
      cases hi with
      | none =>
        simp [natIn] at hr0
        subst hr0
        refine ⟨?_, (hl .sliceB cap).1, Nat.le_refl _, by simpa using hn, by simp, by simp, rfl⟩
        have := (hl .sliceB cap).2
        simp only [Instr.sliceBounds, Option.map_none, Sem.run_bind, Sem.run_pure, Result.andThen_ok, Option.isSome_none, Bool.false_eq_true, if_false, Option.getD_none]
        exact this
      | some x =>
        obtain ⟨h1, h2⟩ := natIn_some (P := P) hr0 hρ
        simp only [Option.getD_none] at h1 h2
        refine ⟨?_, (hl .sliceB cap).1, h1, by simp; omega, by simp, by simp, rfl⟩
        have := (hl .sliceB cap).2
        simp only [Instr.sliceBounds, Option.map_none, Option.map_some, Sem.run_bind, Sem.run_pure, Result.andThen_ok, Option.isSome_none, Bool.false_eq_true, if_false, Option.getD_none, h2 cap _ hn]
        exact this
    | some y =>
      cases hi with
      | none => simp at hmh
      | some x =>
        simp only [Option.map_some, Option.map_eq_some_iff] at hm0
        obtain ⟨m1, hm1, rfl⟩ := hm0
        obtain ⟨h1, h2⟩ := natIn_some (P := P) hm1 hρ
        simp only [Option.map_some, Option.getD_some] at hr0
        obtain ⟨h3, h4⟩ := natIn_some (P := P) hr0 hρ
        refine ⟨?_, (hl .slice3C m1).1, by omega, by simpa using h3, by simp; omega, by simpa using h1, rfl⟩
        have := (hl .slice3C m1).2
        simp only [Instr.sliceBounds, Option.map_some, Sem.run_bind, Sem.run_pure, Result.andThen_ok, Option.isSome_some, if_true, Option.getD_some, h2 cap _ hn, h4 m1 _ (Nat.le_refl _)]
        exact this
theorem slice_sound {t : TypeId} {x : Operand} {lo hi mx : Option Operand} (ho : o.op = .slice t x lo hi mx) (hop : aop P o ρ d gen h = some (v, h')) (hρ : ∀ x, Rep σ I w (ρ x) (ρc x)) (H : HRep σ I base w h) :
    OpOk σ I base w gen ((execOp ρc o).run P w) v h' := by
  simp only [aop, ho, Option.map_eq_some_iff, Prod.mk.injEq] at hop
  obtain ⟨v', hv, rfl, rfl⟩ := hop
  have hr := hρ x
  have fin : ∀ {u : Value}, (Instr.sliceAt t (ρc x) (lo.map ρc) (hi.map ρc) (mx.map ρc)).run P w = .ok u w → (execOp ρc o).run P w = .ok (.value u) w := by
    intro u hu
    simp only [execOp, ho]
    exact run_value hu
  unfold aslice at hv
  split at hv
  · rename_i s hd he
    rw [he] at hr
    have hu := prep_lit (rep_pv hr)
    simp only [Option.bind_eq_bind, Option.bind_eq_some_iff] at hv
    obtain ⟨⟨l, r, m⟩, hb, hv⟩ := hv
    dsimp only at hv
    split at hv
    · cases hv
    · rename_i hm
      injection hv with hv
      subst hv
      obtain ⟨hrun, hlr, hrn, _, _, _, hms⟩ := bounds_sound (P := P) hb hρ false (cap := s.size) (Nat.le_refl _)
      have hmx : mx = none := by
        cases mx with
        | none => rfl
        | some y => simp at hms; rw [hms] at hm; exact absurd rfl hm
      subst hmx
      refine .same (.string (s.extract l r)) H (fin ?_) (.pv _ _ (.lit _))
      simp only [Option.map_none] at hrun
      simp [Instr.sliceAt, Instr.slice, run_underlying_ok hd, hu, hrun]
  · rename_i e k nl full xs hd he
    rw [he] at hr
    simp only [Option.bind_eq_bind, Option.bind_eq_some_iff] at hv
    obtain ⟨⟨l, r, m⟩, hb, size, hsz, hv⟩ := hv
    dsimp only at hv
    split at hv
    case isFalse => cases hv
    rename_i hk
    injection hv with hv
    subst hv
    have hr' := rep_pv hr
    generalize hu : ρc x = u at hr'
    have hat : ∀ {a : Option Addr} {n cap : Nat}, u = .slice a n cap → n = xs.length → n ≤ cap →
        (Instr.sliceAt t u (lo.map ρc) (hi.map ρc) (mx.map ρc)).run P w = .ok (.slice (if m.getD cap = l then a else a.map (·.add (l * size))) (r - l) (m.getD cap - l)) w ∧
        l ≤ r ∧ r ≤ n ∧ r ≤ m.getD cap ∧ m.getD cap ≤ cap ∧ (∀ m', m = some m' → m' ≤ n) := by
      intro a n cap hu hn hcap
      subst hu
      obtain ⟨hrun, h1, h2, h3, h4, h5, _⟩ := bounds_sound (P := P) hb hρ true (cap := cap) (by omega)
      refine ⟨?_, h1, by omega, h3, h4, fun m' hm' => by rw [hn]; exact h5 m' hm'⟩
      rw [← hn] at hrun
      simp [Instr.sliceAt, Instr.slice, run_underlying_ok hd, hrun, run_sizeOf_ok hsz]
    cases hr' with
    | nil =>
      obtain ⟨h0, h1, h2, h3, h4, h5⟩ := hat rfl (by simp) (Nat.le_refl _)
      refine .same _ H (fin (hu ▸ h0)) ?_
      have hr0 : r = 0 := by simpa using h2
      have hl0 : l = 0 := by omega
      subst hr0; subst hl0
      have hm0 : m.getD 0 = 0 := by omega
      rw [hm0]
      simp only [if_true, List.drop_nil, List.take_nil, Nat.sub_self]
      exact .pv _ _ (.nil k _)
    | emp _ _ a cap hfull =>
      obtain ⟨h0, h1, h2, h3, h4, h5⟩ := hat rfl (by simp) (Nat.zero_le _)
      refine .same _ H (fin (hu ▸ h0)) ?_
      have hr0 : r = 0 := by simpa using h2
      have hl0 : l = 0 := by omega
      subst hr0; subst hl0
      simp only [List.drop_nil, List.take_nil, Nat.sub_self]
      have : (if m.getD cap = 0 then some a else Option.map (fun x => x.add (0 * size)) (some a)) = some a := by
        split
        · rfl
        · simp [Addr.add]
      rw [this]
      refine .pv _ _ (.emp k _ a _ fun hf => ?_)
      cases m with
      | none =>
        simp at hf
        have := hfull hf
        simp; omega
      | some m' =>
        simp at hf
        simpa using hf
    | sl _ _ _ b ob cap vs hcap hfull hI hkk hcl hr2 =>
      obtain ⟨h0, h1, h2, h3, h4, h5⟩ := hat rfl rfl hcap
      refine .same _ H (fin (hu ▸ h0)) ?_
      have hk : k = size := by simpa using hk
      subst hk
      have hlen : ((xs.drop l).take (r - l)).length = r - l := by simp; omega
      have hful : (match m with | some m => m == r | none => full && r == xs.length) = true → m.getD cap = r := by
        intro hf
        cases m with
        | none =>
          simp at hf
          have := hfull hf.1
          simp; omega
        | some m' => simpa using hf
      by_cases hml : m.getD cap = l
      · rw [if_pos hml]
        have hrl : r = l := by omega
        subst hrl
        rw [hml]
        simp only [Nat.sub_self, List.take_zero]
        exact .pv _ _ (.emp k _ _ 0 fun _ => rfl)
      · rw [if_neg hml]
        have := PRep.sl (I := I) (w := w) k (match m with | some m => m == r | none => full && r == xs.length) ((xs.drop l).take (r - l)) b (ob + l * k) (m.getD cap - l) (fun i j => vs (l + i) j)
          (by omega) (fun hf => by have := hful hf; omega) hI (fun x hx => hkk x (List.mem_of_mem_drop (List.mem_of_mem_take hx)))
          (fun i x hi j p hp => by
            have := hcl (l + i) x (get_sub hi).2 j p hp
            rw [show ob + l * k + i * k + j = ob + (l + i) * k + j by rw [Nat.add_mul]; omega]
            exact this)
          (fun i x hi j p hp => hr2 (l + i) x (get_sub hi).2 j p hp)
        rw [hlen] at this
        simp only [Option.map_some, addr_add]
        exact .pv _ _ this
  · rename_i e d1 s g off n full hd he
    rw [he] at hr
    simp only [Option.bind_eq_bind, Option.bind_eq_some_iff] at hv
    obtain ⟨⟨l, r, m⟩, hb, size, hsz, hv⟩ := hv
    dsimp only at hv
    split at hv
    case h_2 => cases hv
    rename_i k0 e0 xs fz hl
    split at hv
    case isFalse => cases hv
    rename_i hk
    subst hk
    injection hv with hv
    subst hv
    obtain ⟨b', o', n', hs', _⟩ := row_block (H.live hl (by simp))
    generalize hu : ρc x = u at hr
    cases hr with
    | msl _ _ _ _ _ _ b ob k cap ad had hs hn hfull hroom =>
      rw [hs] at hs'
      simp only [Option.some.injEq, Prod.mk.injEq] at hs'
      obtain ⟨rfl, rfl, rfl⟩ := hs'
      obtain ⟨hrun, h1, h2, h3, h4, h5, _⟩ := bounds_sound (P := P) hb hρ true (cap := cap) hn
      have hrun' : (Instr.sliceAt t (ρc x) (lo.map ρc) (hi.map ρc) (mx.map ρc)).run P w =
          .ok (.slice (if m.getD cap = l then some ⟨b, ad, none⟩ else (some ⟨b, ad, none⟩ : Option Addr).map (·.add (l * k))) (r - l) (m.getD cap - l)) w := by
        rw [hu]
        simp [Instr.sliceAt, Instr.slice, run_underlying_ok hd, hrun, run_sizeOf_ok hsz]
      have hful : (match m with | some m => m == r | none => full && r == n) = true → m.getD cap = r := by
        intro hf
        cases m with
        | none =>
          simp at hf
          have := hfull hf.1
          simp; omega
        | some m' => simpa using hf
      obtain ⟨ee, mm, hsh, hrm⟩ := hroom
      have hmul : (off + l + (m.getD cap - l)) * k ≤ (off + cap) * k := Nat.mul_le_mul_right k (by omega)
      have hroom' : ∃ e m', w.shape? b = some (e, m') ∧ ob + (off + l + (m.getD cap - l)) * k ≤ m' := ⟨ee, mm, hsh, by omega⟩
      by_cases hml : m.getD cap = l
      · rw [if_pos hml] at hrun'
        refine .same _ H (fin hrun') ?_
        exact .msl d1 s g (off + l) (r - l) _ b ob k _ ad (fun hc => absurd hml (by omega)) hs (by omega) (fun hf => by have := hful hf; omega) hroom'
      · rw [if_neg hml] at hrun'
        simp only [Option.map_some, addr_add] at hrun'
        refine .same _ H (fin hrun') ?_
        exact .msl d1 s g (off + l) (r - l) _ b ob k _ _ (fun hc => by rw [had (by omega), Nat.add_mul]; omega) hs (by omega) (fun hf => by have := hful hf; omega) hroom'
  · rename_i n e d1 s g i off hd he
    rw [he] at hr
    obtain ⟨b, ob, k, hs, hu⟩ := rep_mptr hr
    simp only [Option.bind_eq_bind, Option.bind_eq_some_iff] at hv
    obtain ⟨⟨l, r, m⟩, hb, size, hsz, hv⟩ := hv
    dsimp only at hv
    split at hv
    case h_2 => cases hv
    rename_i v0 fz hl
    split at hv
    case isFalse => cases hv
    rename_i hc
    obtain ⟨rfl, rfl, hlen⟩ := hc
    injection hv with hv
    subst hv
    obtain ⟨b0, k0, e0, u0, hs0, hsh, hok0, hru, hz, hf, h1c, hszu, hcell⟩ := box_val (H.live hl (by simp))
    rw [hs] at hs0
    simp only [Option.some.injEq, Prod.mk.injEq] at hs0
    obtain ⟨rfl, rfl, rfl⟩ := hs0
    subst hf
    obtain ⟨hrun, hlr, hrn, hrc, hcn, _, _⟩ := bounds_sound (P := P) hb hρ false (cap := n) (Nat.le_refl _)
    simp only [Nat.zero_mul, Nat.add_zero, Nat.zero_add] at hu
    have hrun' : (Instr.sliceAt t (ρc x) (lo.map ρc) (hi.map ρc) (mx.map ρc)).run P w = .ok (.slice (some (if m.getD n = l then ⟨b, off, none⟩ else (⟨b, off, none⟩ : Addr).add (l * 1))) (r - l) (m.getD n - l)) w := by
      simp [Instr.sliceAt, Instr.sureAddr, run_underlying_ok hd, hu, hrun, run_sizeOf_ok hsz]
    have hroom' : ∃ e m', w.shape? b = some (e, m') ∧ 0 + (off + l + (m.getD n - l)) * 1 ≤ m' := ⟨_, _, hsh, by omega⟩
    have hful : (m.getD n == r) = true → m.getD n - l = r - l := fun h => by simp at h; rw [h]
    by_cases hml : m.getD n = l
    · rw [if_pos hml] at hrun'
      refine .same _ H (fin hrun') ?_
      exact .msl d1 s g (off + l) (r - l) _ b 0 1 _ off (fun hc => absurd hml (by omega)) hs (by omega) hful hroom'
    · rw [if_neg hml] at hrun'
      simp only [addr_add] at hrun'
      refine .same _ H (fin hrun') ?_
      exact .msl d1 s g (off + l) (r - l) _ b 0 1 _ _ (fun hc => by omega) hs (by omega) hful hroom'
  · cases hv
theorem range_sound {t : TypeId} {x : Operand} (ho : o.op = .range t x) (hop : aop P o ρ d gen h = some (v, h')) (hρ : ∀ x, Rep σ I w (ρ x) (ρc x)) (H : HRep σ I base w h) (hg : σ gen = none) (hB : Bnd base w.heap.size) :
    OpOk σ I base w gen ((execOp ρc o).run P w) v h' := by
  have hr := hρ x
  simp only [aop, ho] at hop
  split at hop
  · rename_i s slot hd he hslot
    rw [he] at hr
    have hu := prep_lit (rep_pv hr)
    simp only [Option.some.injEq, Prod.mk.injEq] at hop
    obtain ⟨rfl, rfl⟩ := hop
    have hG : Grows w (w.alloc (.stringIter s 0)) (.stringIter s 0) := ⟨rfl, rfl, rfl, rfl⟩
    have hE := Ext.push (x := (w.heap.size, 0, 0)) H hB hg hG
    refine ⟨_, _, .pointer (some ⟨w.heap.size, 0, none⟩), _, I, ?_, .inl rfl, ?_, H.push hg hG d slot (k := 0) (off := 0) ?_, hE, fun g hne => upd_other hne⟩
    · simp only [execOp, ho]
      exact run_value (by simp [Instr.range, run_underlying_ok hd, hu])
    · have := Rep.mptr (σ := upd σ gen (w.heap.size, 0, 0)) (I := I) (w := w.alloc (.stringIter s 0)) d slot gen 0 0 w.heap.size 0 0 upd_same
      simpa using this
    · exact ⟨w.heap.size, 0, upd_same, hG.new, fun hb => absurd (H.lt _ hb) (by omega), hB.up⟩
  · cases hop
theorem next_sound {it : Operand} {isS : Bool} (ho : o.op = .next it isS) (hop : aop P o ρ d gen h = some (v, h')) (hρ : ∀ x, Rep σ I w (ρ x) (ρc x)) (H : HRep σ I base w h) :
    OpOk σ I base w gen ((execOp ρc o).run P w) v h' := by
  have hr := hρ it
  cases isS with
  | false => simp [aop, ho] at hop
  | true =>
    simp only [aop, ho] at hop
    split at hop
    case h_2 => cases hop
    rename_i d1 s g he
    rw [he] at hr
    obtain ⟨b, ob, k, hs, hu⟩ := rep_mptr hr
    split at hop
    case h_2 => cases hop
    rename_i bs pos hl
    obtain ⟨b', k', hs', hh, hnI, hbb⟩ := H.live hl (by simp)
    rw [hs] at hs'
    simp only [Option.some.injEq, Prod.mk.injEq] at hs'
    obtain ⟨rfl, rfl, rfl⟩ := hs'
    simp only [Nat.zero_mul, Nat.add_zero] at hu
    have hget : (getObj b).run P w = .ok (.stringIter bs pos) w := by simp [getObj, Sem.run, hh]
    split at hop
    · rename_i hpos
      simp only [Option.some.injEq, Prod.mk.injEq] at hop
      obtain ⟨rfl, rfl⟩ := hop
      have hset : ∀ o : Obj, (setObj b o).run P w = .ok () { w with heap := w.heap.setIfInBounds b o } := by intro o; simp [setObj, Sem.run, hh]
      let w' : World := { w with heap := w.heap.setIfInBounds b (.stringIter bs (pos + (Utf8.decode bs pos).2)) }
      have hoth : ∀ b2, b2 ≠ b → w'.heap[b2]? = w.heap[b2]? := fun b2 hne => by simp [w', Array.getElem?_setIfInBounds, Ne.symm hne]
      have hlt := lt_of_heap hh
      have hsame : w'.heap[b]? = some (.stringIter bs (pos + (Utf8.decode bs pos).2)) := by simp [w', hlt]
      have hk : Keep I w w' := by
        refine ⟨fun b2 hb2 => hoth b2 fun e => hnI (e ▸ hb2), fun b2 e n hsh => ?_, fun b2 r hr => ⟨r, by rw [hoth b2 (fun e => by subst e; rw [hh] at hr; cases hr)]; exact hr, SameLoop.refl r⟩,
          fun b2 hr => by rw [hoth b2 (fun e => by subst e; rw [hh] at hr; cases hr)]; exact hr⟩
        by_cases e2 : b2 = b
        · subst e2
          unfold World.shape? at hsh
          rw [hh] at hsh
          cases hsh
        · rw [shape_of_heap (hoth b2 e2)]; exact hsh
      refine ⟨_, w', .tuple #[.bool true, goInt pos, .int .i32 (Utf8.decode bs pos).1], σ, I, ?_, .inl rfl, ?_, H.put (fun _ _ h => h) (fun _ h => h) hk (hk.inW H.inW) d1 s _ ⟨b, k, hs, hsame, hnI, hbb⟩ ?_,
        ⟨fun _ _ h => h, fun _ h => h, fun _ h => .inl h, hk, ⟨rfl, rfl, rfl, by simp [w'], fun k2 hk2 => hoth k2 (fun e => hbb (e ▸ hk2))⟩⟩, fun _ _ => rfl⟩
      · simp only [execOp, ho]
        refine run_value ?_
        simp [Instr.next, hu, hget, hpos, hset, w']
      · refine .pv _ _ ?_
        have := PRep.tup (I := I) (w := w') [.lit (.bool true), .lit (.int .i64 pos), .lit (.int .i32 (Utf8.decode bs pos).1)] [.bool true, .int .i64 pos, .int .i32 (Utf8.decode bs pos).1] rfl fun j p v hp hv => by
          match j with
          | 0 => simp at hp hv; subst hp; subst hv; exact .lit _
          | 1 => simp at hp hv; subst hp; subst hv; exact .lit _
          | 2 => simp at hp hv; subst hp; subst hv; exact .lit _
          | j + 3 => simp at hp
        exact this
      · intro d2 s2 b2 hne hb2
        have hf' := blkOf_facts (H.rows d2 s2) hb2
        have hrowl := live_row hl (by simp)
        have hbb' : b2 ≠ b := fun e => hne (H.apart d1 s d2 s2 b (by rw [hrowl]; simp [blkOf, hs]) (e ▸ hb2))
        exact ⟨hoth b2 hbb', hf'.2.1, by simp [blkOf, hs]; exact Ne.symm hbb'⟩
    · rename_i hpos
      simp only [Option.some.injEq, Prod.mk.injEq] at hop
      obtain ⟨rfl, rfl⟩ := hop
      refine .same (.tuple #[.bool false]) H ?_ (.pv _ _ ?_)
      · simp only [execOp, ho]
        refine run_value ?_
        simp [Instr.next, hu, hget, hpos]
      · have := PRep.tup (I := I) (w := w) [.lit (.bool false)] [.bool false] rfl fun j p v hp hv => by
          match j with
          | 0 => simp at hp hv; subst hp; subst hv; exact .lit _
          | j + 1 => simp at hp
        exact this
end
end Go.Proofs.YtcoeigibikbfdaaGreatDoor.Abs

namespace Go.Proofs.YtcoeigibikbfdaaGreatDoor.Abs
open Go Go.RowKit
variable {σ σ' : Sig} {I I' : Blk} {base : Blk} {w w' : World} {h : Heap} {P : Program}
section
variable {ρ : Operand → AV} {ρc : Operand → Value} {d gen : Nat} {o : Oper} {v : AV} {h' : Heap}
theorem map_one {α β : Type} {f : α → β} {l : Array α} {y : β} (hm : l.toList.map f = [y]) : ∃ x, l = #[x] ∧ f x = y := by
  cases l with
  | mk l =>
    match l, hm with
    | [x], hm => simp at hm; exact ⟨x, rfl, hm⟩
theorem map_two {α β : Type} {f : α → β} {l : Array α} {y z : β} (hm : l.toList.map f = [y, z]) : ∃ x x', l = #[x, x'] ∧ f x = y ∧ f x' = z := by
  cases l with
  | mk l =>
    match l, hm with
    | [x, x'], hm => simp at hm; exact ⟨x, x', rfl, hm.1, hm.2⟩
theorem run_builtin {b : Builtin} {args : Array Operand} {argTypes : Array TypeId} (ho : o.op = .call { callee := .builtin b, args, argTypes }) :
    ∃ consts, (execOp ρc o).run P w = (builtin b argTypes o.type consts (args.map ρc)).run P w := by
  refine ⟨args.map fun | .const _ => true | _ => false, ?_⟩
  simp only [execOp, ho, resolve, Sem.run_bind, Sem.run_pure, Result.andThen_ok, invoke]
  rfl
theorem len_slice_rep {x : AV} {u : Value} (hr : Rep σ I w x u) : (∀ k nl full xs, x = .pv (.sl k nl full xs) → ∃ a c, u = .slice a xs.length c) ∧ (∀ d s g off n full, x = .msl d s g off n full → ∃ a c, u = .slice a n c) := by
  refine ⟨?_, ?_⟩
  · rintro k nl full xs rfl
    have := rep_pv hr
    cases this with
    | nil => exact ⟨_, _, rfl⟩
    | emp => exact ⟨_, _, rfl⟩
    | sl => exact ⟨_, _, rfl⟩
  · rintro d s g off n full rfl
    cases hr with
    | msl => exact ⟨_, _, rfl⟩
theorem cap_full_rep {x : AV} {u : Value} (hr : Rep σ I w x u) : (∀ k nl xs, x = .pv (.sl k nl true xs) → ∃ a, u = .slice a xs.length xs.length) ∧ (∀ d s g off n, x = .msl d s g off n true → ∃ a, u = .slice a n n) := by
  refine ⟨?_, ?_⟩
  · rintro k nl xs rfl
    have := rep_pv hr
    cases this with
    | nil => exact ⟨_, rfl⟩
    | emp _ _ a cap hf => rw [hf rfl]; exact ⟨_, rfl⟩
    | sl _ _ _ b o cap vs hc hf => rw [hf rfl]; exact ⟨_, rfl⟩
  · rintro d s g off n rfl
    cases hr with
    | msl _ _ _ _ _ _ b o k cap ad had hs hn hf => rw [hf rfl]; exact ⟨_, rfl⟩
theorem bind_under {argTypes : Array TypeId} {dd : TypeDesc} (hb : (argTypes[0]?).bind P.underlying = some dd) : ∃ t, argTypes[0]? = some t ∧ P.underlying t = some dd := by
  simpa only [Option.bind_eq_some_iff] using hb
theorem one_zero {z : Value} (hok : (ofVal z).ok = true) (hag : (ofVal z).isAgg = false) : ∃ c, z.cells = #[c] ∧ c.oneCell' = true ∧ ∀ (I : Blk) (w : World), PRep I w (ofVal z) c := by
  have hc : (ofVal z).cells = [ofVal z] := by
    cases he : ofVal z <;> rw [he] at hag <;> first | rfl | (simp [PV.isAgg] at hag)
  have h1 := fun (I : Blk) (w : World) => (ofVal_rep (I := I) (w := w) z).cells hok
  have hs : z.cells.size = 1 := by
    have := (h1 (fun _ => False) { (default : World) with }).1
    rw [hc] at this; simpa using this
  obtain ⟨c, hcz⟩ : ∃ c, z.cells = #[c] := by
    refine ⟨z.cells[0], ?_⟩
    apply Array.ext
    · simpa using hs
    · intro i hi1 hi2
      have : i = 0 := by simp at hi2; omega
      subst this; rfl
  refine ⟨c, hcz, (h1 (fun _ => False) { (default : World) with }).2.1 c (by rw [hcz]; simp), fun I w => ?_⟩
  exact (h1 I w).2.2 0 _ _ (by rw [hc]; rfl) (by rw [hcz]; rfl)
theorem row_put {d s g k e b o1 i0 : Nat} {xs ys : List PV} {arr : Array Value} (H : HRep σ I base w h) (hl : Abs.live h d s g = .row k e xs false) (hs : σ g = some (b, o1, k)) (hra : RowArr I w k ys arr) (hsz : arr.size = ys.length * k) (hle : i0 + ys.length ≤ xs.length) :
    HRep σ I base (w.setCells b (o1 + i0 * k) arr.toList) (hput h d s ⟨g, .row k e (splice xs i0 ys) false⟩) ∧ Ext base σ I w σ I (w.setCells b (o1 + i0 * k) arr.toList) ∧ ∃ e1 m, w.shape? b = some (e1, m) ∧ o1 + i0 * k + arr.toList.length ≤ m ∧ Fr w m b := by
  obtain ⟨b', o', n', hs', hsh, hn, hx, hc, hz⟩ := H.live hl (by simp)
  rw [hs] at hs'
  simp only [Option.some.injEq, Prod.mk.injEq] at hs'
  obtain ⟨rfl, rfl, _⟩ := hs'
  have hroom : i0 * k + ys.length * k ≤ xs.length * k := by rw [← Nat.add_mul]; exact Nat.mul_le_mul_right k hle
  have hal : arr.toList.length = ys.length * k := by simpa using hsz
  have hkeep : Keep I w (w.setCells b (o1 + i0 * k) arr.toList) := setCells_keep hz.1
  obtain ⟨H', E'⟩ := H.store (us := arr.toList) (off := o1 + i0 * k) (bd' := .row k e (splice xs i0 ys) false) hl (by simp) hs (by simp [blkOf, hs]) (by simp [blkOf, hs]) (by
    refine ⟨b, o1, n', hs, by rw [setCells_shape]; exact hsh, by rw [splice_length hle]; exact hn, fun y hy => ?_, fun i y hy j p hp => ?_, ⟨hz.1, hz.2.1, fun j hj => by rw [World.frozen?_setCells]; exact hz.2.2 j hj⟩⟩
    · obtain ⟨i, hi⟩ := List.mem_iff_getElem?.1 hy
      rw [splice_get hle] at hi
      split at hi
      · exact hra.elem y (List.mem_of_getElem? hi)
      · exact hx y (List.mem_of_getElem? hi)
    · have hyk : y.cells.length = k := by
        rw [splice_get hle] at hy
        split at hy
        · exact (hra.elem y (List.mem_of_getElem? hy)).1
        · exact (hx y (List.mem_of_getElem? hy)).1
      have hjk : j < k := by rw [← hyk]; exact (List.getElem?_eq_some_iff.1 hp).1
      rw [splice_get hle] at hy
      split at hy
      · rename_i hin
        obtain ⟨u, h1, h2, h3⟩ := hra.rep (i - i0) y hy j p hp
        have hlt := (Array.getElem?_eq_some_iff.1 h1).1
        refine ⟨u, ?_, h2, h3.mono (fun _ h => h) hkeep.keep⟩
        have := setCells_in (w := w) (b := b) (o := o1 + i0 * k) (vs := arr.toList) hsh (by omega) (j := (i - i0) * k + j) (by simpa using hlt)
        have e1 : o1 + i0 * k + ((i - i0) * k + j) = o1 + i * k + j := by
          have : i * k = i0 * k + (i - i0) * k := by rw [← Nat.add_mul]; congr 1; omega
          omega
        rw [e1] at this
        rw [this]
        have h1' : arr.toList[(i - i0) * k + j]? = some u := by simpa using h1
        rw [List.getElem?_eq_getElem (by simpa using hlt)] at h1'
        exact h1'
      · rename_i hout
        obtain ⟨u, h1, h2, h3⟩ := hc i y hy j p hp
        refine ⟨u, ?_, h2, h3.mono (fun _ h => h) hkeep.keep⟩
        rw [setCells_out]
        · exact h1
        · rcases Nat.lt_or_ge i i0 with hi | hi
          · left
            have := index_lt (k := k) hi hjk
            omega
          · right
            have h5 : i0 + ys.length ≤ i := by omega
            have := Nat.mul_le_mul_right k h5
            rw [Nat.add_mul] at this
            rw [hal]
            omega)
  exact ⟨H', E', _, n', hsh, by omega, hz.2.2⟩
theorem liesAt_bytes {e : TypeId} (hc : P.cellsOf e = 1) (count off n : Nat) (hn : off + n ≤ count) : liesAt P P.depth e count off e n = true := by
  have hd : P.depth = (2 * (P.types.size + Made.depth) + 1) + 1 := rfl
  rw [hd]
  simp only [liesAt, Bool.or_eq_true]
  left
  rw [hd]
  simp [rowAt, hc, hn, sameLayout, Nat.mod_one]
theorem run_loadBytes : ∀ (l : List Int) (a : Addr) (acc : ByteArray), (∀ j x, l[j]? = some x → w.cell? (a.add j) = some (.int .u8 x)) →
    (loadBytes a acc l.length).run P w = .ok ⟨acc.data ++ (l.map fun x => UInt8.ofNat x.toNat).toArray⟩ w
  | [], a, acc, _ => by simp [loadBytes]
  | x :: l, a, acc, h => by
    have h0 : w.cell? a = some (.int .u8 x) := by
      have := h 0 x rfl
      simpa [Addr.add] using this
    have ih := run_loadBytes l (a.add 1) (acc.push (UInt8.ofNat x.toNat)) (fun j y hy => by
      have := h (j + 1) y (by simpa using hy)
      have e : (a.add 1).add j = a.add (j + 1) := by
        unfold Addr.add
        by_cases hj : j = 0
        · subst hj; simp
        · simp [hj]; omega
      rw [e]; exact this)
    simp only [List.length_cons, loadBytes, Sem.run_bind, run_load, h0, Result.andThen]
    refine ih.trans ?_
    have e : (acc.push (UInt8.ofNat x.toNat)).data ++ (l.map fun x => UInt8.ofNat x.toNat).toArray = acc.data ++ ((x :: l).map fun x => UInt8.ofNat x.toNat).toArray := by
      apply Array.ext'
      simp [ByteArray.push]
    rw [e]
theorem freeze_other {b o n k : Nat} (hk : k ≠ b) : (w.freeze ⟨b, o, none⟩ n).heap[k]? = w.heap[k]? := by
  unfold World.freeze
  split
  · rfl
  · simp only [Array.getElem?_modify]
    rw [if_neg (Ne.symm hk)]
theorem freeze_at {b o n : Nat} {c : Array Value} {e : TypeId} {fr : Nat × Nat} (hb : w.heap[b]? = some (.cells c e fr)) : ∃ fr', (w.freeze ⟨b, o, none⟩ n).heap[b]? = some (.cells c e fr') := by
  unfold World.freeze
  split
  · exact ⟨fr, hb⟩
  · obtain ⟨lo, hi⟩ := fr
    simp [Array.getElem?_modify, hb]
theorem unsafeString_sound {argTypes : Array TypeId} {e ty : TypeId} {d1 s g off m : Nat} {xs : List PV} {bs : List UInt8} {u : Value} (H : HRep σ I base w h) (hl : Abs.live h d1 s g = .row 1 e xs false) (hr : Rep σ I w (.mptr d1 s g off 0) u)
    (hat : ∃ pt, argTypes[0]? = some pt ∧ P.underlying pt = some (.pointer e)) (hc : P.cellsOf e = 1) (h1 : 1 ≤ m) (hm : off + m ≤ xs.length) (h63 : m ≤ 9223372036854775807) (hbs : pvBytes ((xs.drop off).take m) = some bs) :
    ∃ w' I', (Builtin.unsafeString_ argTypes ty #[u, .int .i64 m]).run P w = .ok (.string ⟨bs.toArray⟩) w' ∧ HRep σ I' base w' (hput h d1 s ⟨g, .row 1 e xs true⟩) ∧ Ext base σ I w σ I' w' := by
  obtain ⟨b, ob, k, hs, rfl⟩ := rep_mptr hr
  obtain ⟨b0, o, n, hs0, hsh, hn, hx, hcell, hz⟩ := H.live hl (by simp)
  simp only [] at hs0
  rw [hs] at hs0
  simp only [Option.some.injEq, Prod.mk.injEq] at hs0
  obtain ⟨rfl, rfl, rfl⟩ := hs0
  obtain ⟨pt, hpt, hpu⟩ := hat
  obtain ⟨ns, hns, rfl⟩ := pvBytes_spec hbs
  have hlen : ns.length = m := by
    have := congrArg List.length hns
    simp at this
    omega
  have hcells : ∀ j x, ns[j]? = some x → w.cell? ((⟨b, ob + off * 1 + 0, none⟩ : Addr).add j) = some (.int .u8 x) := by
    intro j x hj
    have hjm : j < m := by rw [← hlen]; exact (List.getElem?_eq_some_iff.1 hj).1
    have h2 : xs[off + j]? = some (.lit (.int .u8 x)) := by
      have : ((xs.drop off).take m)[j]? = some (.lit (.int .u8 x)) := by rw [hns]; simp [hj]
      rw [List.getElem?_take, if_pos hjm, List.getElem?_drop] at this
      exact this
    obtain ⟨v, h3, _, h4⟩ := hcell (off + j) _ h2 0 (.lit (.int .u8 x)) rfl
    have := prep_lit h4
    subst this
    have e1 : (⟨b, ob + off * 1 + 0, none⟩ : Addr).add j = ⟨b, ob + (off + j) * 1 + 0, none⟩ := by
      unfold Addr.add
      by_cases hj0 : j = 0
      · subst hj0; simp
      · simp [hj0]; omega
    rw [e1]
    exact h3
  have hlb := run_loadBytes (P := P) (w := w) ns ⟨b, ob + off * 1 + 0, none⟩ .empty hcells
  have hlies := liesAt_bytes (P := P) hc (n / P.cellsOf e) (ob + off * 1 + 0) m (by rw [hc]; simp; omega)
  have hrun : (Builtin.unsafeString_ argTypes ty #[.pointer (some ⟨b, ob + off * 1 + 0, none⟩), .int .i64 m]).run P w = .ok (.string ⟨(ns.map fun x => UInt8.ofNat x.toNat).toArray⟩) (w.freeze ⟨b, ob + off * 1 + 0, none⟩ m) := by
    have hmax : IntKind.i64.max = 9223372036854775807 := rfl
    have hneg : ¬ (m : Int) < 0 := by omega
    have h63' : ¬ (9223372036854775807 : Int) < (m : Int) := by omega
    have hm0 : m ≠ 0 := by omega
    have hdef : ∀ a : Addr, Builtin.unsafeString_ argTypes ty #[.pointer (some a), .int .i64 m] =
      (do
        let n ← asInt (.int .i64 m)
        let some pt := argTypes[0]? | stuck "unsafe.String: no argument types"
        if n < 0 then runtimePanic (.error "unsafe.String: len out of range")
        if n > IntKind.i64.max then unsupported (.unsafePointer "String: a length above the largest int")
        if n = 0 then pure (.string .empty)
        else if ← variablesAt a (← elemOf pt) n.toNat then do
          let s ← loadBytes a .empty n.toNat
          freeze a n.toNat
          pure (.string s)
        else unsupported (.unsafePointer "String: not so many bytes at ptr")) := fun _ => rfl
    rw [hlen] at hlb
    generalize ob + off * 1 + 0 = oo at hlies hlb ⊢
    rw [hdef]
    simp [asInt, asIntOf, hmax, h63', hneg, hm0, variablesAt, hsh, elemOf, run_underlying hpu, hpt, hlies, hlb]
  refine ⟨_, fun x => I x ∨ x = b, hrun, ?_⟩
  generalize ob + off * 1 + 0 = oo
  have hnb : ¬ I b := hz.1
  obtain ⟨c, fr, hbk⟩ : ∃ c fr, w.heap[b]? = some (.cells c e fr) := by
    unfold World.shape? at hsh
    split at hsh
    · rename_i c e' fr hh
      simp only [Option.some.injEq, Prod.mk.injEq] at hsh
      obtain ⟨rfl, _⟩ := hsh
      exact ⟨c, fr, hh⟩
    · cases hsh
  obtain ⟨fr', hbk'⟩ := freeze_at (o := oo) (n := m) hbk
  have hcl : ∀ j, (w.freeze ⟨b, oo, none⟩ m).cell? ⟨b, j, none⟩ = w.cell? ⟨b, j, none⟩ := fun j => by simp [World.cell?, hbk, hbk']
  have hshp : ∀ k, (w.freeze ⟨b, oo, none⟩ m).shape? k = w.shape? k := fun k => by
    by_cases hk : k = b
    · subst hk; simp [World.shape?, hbk, hbk']
    · simp [World.shape?, freeze_other hk]
  have hsz : (w.freeze ⟨b, oo, none⟩ m).heap.size = w.heap.size := by unfold World.freeze; split <;> simp
  have hk : Keep I w (w.freeze ⟨b, oo, none⟩ m) := ⟨fun k hk => freeze_other (fun e => hnb (e ▸ hk)), fun k e' n' h' => by rw [hshp]; exact h',
    fun k r hr' => ⟨r, by rw [freeze_other (fun e => by subst e; rw [hbk] at hr'; cases hr')]; exact hr', SameLoop.refl r⟩, fun k hk' => by rw [freeze_other (fun e => by subst e; rw [hbk] at hk'; cases hk')]; exact hk'⟩
  have hin : ∀ x, (I x ∨ x = b) → Solid (w.freeze ⟨b, oo, none⟩ m) x := by
    rintro x (hx' | rfl)
    · exact hk.inW H.inW x hx'
    · exact ⟨_, hbk', by simp⟩
  refine ⟨H.put (fun _ _ h => h) (fun _ h => .inl h) hk hin d1 s _ ⟨b, ob, n, hs, by rw [hshp]; exact hsh, hn, hx, fun i x hi j p hp => ?_, .inr rfl⟩ fun d' s' b' hne' hb' => ?_, ⟨fun _ _ h => h, fun _ h => .inl h, ?_, hk, ?_⟩⟩
  · obtain ⟨v, h2, h3, h4⟩ := hcell i x hi j p hp
    exact ⟨v, by rw [hcl]; exact h2, h3, h4.mono (fun _ h => .inl h) hk.keep⟩
  · have hf := blkOf_facts (H.rows d' s') hb'
    have hbb : b' ≠ b := fun e => hne' (H.apart d1 s d' s' b (by rw [live_row hl (by simp)]; simp [blkOf, hs]) (e ▸ hb'))
    exact ⟨freeze_other hbb, fun h => h.elim hf.2.1 hbb, by simp [blkOf]⟩
  · rintro x (hx' | rfl)
    · exact .inl hx'
    · exact .inr hz.2.1
  · have hst : (w.freeze ⟨b, oo, none⟩ m).os = w.os ∧ (w.freeze ⟨b, oo, none⟩ m).tape = w.tape ∧ (w.freeze ⟨b, oo, none⟩ m).output = w.output := by unfold World.freeze; split <;> exact ⟨rfl, rfl, rfl⟩
    exact ⟨hst.1, hst.2.1, hst.2.2, by rw [hsz]; exact Nat.le_refl _, fun k hk' => freeze_other (fun e => hz.2.1 (e ▸ hk'))⟩
theorem builtin_sound {b : Builtin} {args : Array Operand} {argTypes : Array TypeId} (ho : o.op = .call { callee := .builtin b, args, argTypes }) (hop : aop P o ρ d gen h = some (v, h')) (hρ : ∀ x, Rep σ I w (ρ x) (ρc x))
    (H : HRep σ I base w h) (hg : σ gen = none) (hB : Bnd base w.heap.size) : OpOk σ I base w gen ((execOp ρc o).run P w) v h' := by
  obtain ⟨consts, hex⟩ := run_builtin (P := P) (ρc := ρc) (w := w) ho
  rw [hex]
  simp only [aop, ho] at hop
  unfold abuiltin at hop
  split at hop
  · -- len
    rename_i x hx
    obtain ⟨x0, rfl, rfl⟩ := map_one hx
    have hr := hρ x0
    have hl := len_slice_rep hr
    have fin : ∀ {dd : TypeDesc} {n : Nat} {u : Value}, (argTypes[0]?).bind P.underlying = some dd → (∀ t, P.underlying t = some dd → argTypes[0]? = some t → (Builtin.len_ argTypes o.type #[ρc x0]).run P w = .ok (goInt n) w) →
        (builtin .len argTypes o.type consts (#[x0].map ρc)).run P w = .ok (.value (goInt n)) w := by
      intro dd n u hb hrun
      obtain ⟨t, h1, h2⟩ := bind_under hb
      simp only [builtin]
      exact run_value (by simpa using hrun t h2 h1)
    split at hop
    · rename_i e k nl full xs hd he
      simp only [Option.some.injEq, Prod.mk.injEq] at hop
      obtain ⟨rfl, rfl⟩ := hop
      obtain ⟨a, c, hu⟩ := hl.1 _ _ _ _ he
      exact .same (goInt xs.length) H (fin (u := ρc x0) hd fun t h2 h1 => by simp [Builtin.len_, h1, run_underlying_ok h2, hu]) (.pv _ _ (.lit _))
    · rename_i e d1 s g off n full hd he
      simp only [Option.some.injEq, Prod.mk.injEq] at hop
      obtain ⟨rfl, rfl⟩ := hop
      obtain ⟨a, c, hu⟩ := hl.2 _ _ _ _ _ _ he
      exact .same (goInt n) H (fin (u := ρc x0) hd fun t h2 h1 => by simp [Builtin.len_, h1, run_underlying_ok h2, hu]) (.pv _ _ (.lit _))
    · rename_i s hd he
      simp only [Option.some.injEq, Prod.mk.injEq] at hop
      obtain ⟨rfl, rfl⟩ := hop
      rw [he] at hr
      have hu := prep_lit (rep_pv hr)
      exact .same (goInt s.size) H (fin (u := ρc x0) hd fun t h2 h1 => by simp [Builtin.len_, h1, run_underlying_ok h2, hu]) (.pv _ _ (.lit _))
    · rename_i n e hd
      simp only [Option.some.injEq, Prod.mk.injEq] at hop
      obtain ⟨rfl, rfl⟩ := hop
      exact .same (goInt n) H (fin (u := ρc x0) hd fun t h2 h1 => by simp [Builtin.len_, h1, run_underlying_ok h2]) (.pv _ _ (.lit _))
    · cases hop
  · -- cap
    rename_i x hx
    obtain ⟨x0, rfl, rfl⟩ := map_one hx
    have hr := hρ x0
    have hl := cap_full_rep hr
    have fin : ∀ {dd : TypeDesc} {n : Nat} {u : Value}, (argTypes[0]?).bind P.underlying = some dd → (∀ t, P.underlying t = some dd → argTypes[0]? = some t → (Builtin.cap_ argTypes o.type #[ρc x0]).run P w = .ok (goInt n) w) →
        (builtin .cap argTypes o.type consts (#[x0].map ρc)).run P w = .ok (.value (goInt n)) w := by
      intro dd n u hb hrun
      obtain ⟨t, h1, h2⟩ := bind_under hb
      simp only [builtin]
      exact run_value (by simpa using hrun t h2 h1)
    split at hop
    · rename_i e k nl xs hd he
      split at hop
      · simp only [Option.some.injEq, Prod.mk.injEq] at hop
        obtain ⟨rfl, rfl⟩ := hop
        obtain ⟨a, hu⟩ := hl.1 _ _ _ he
        exact .same (goInt xs.length) H (fin (u := ρc x0) hd fun t h2 h1 => by simp [Builtin.cap_, h1, run_underlying_ok h2, hu]) (.pv _ _ (.lit _))
      · cases hop
    · rename_i e d1 s g off n hd he
      simp only [Option.some.injEq, Prod.mk.injEq] at hop
      obtain ⟨rfl, rfl⟩ := hop
      obtain ⟨a, hu⟩ := hl.2 _ _ _ _ _ he
      exact .same (goInt n) H (fin (u := ρc x0) hd fun t h2 h1 => by simp [Builtin.cap_, h1, run_underlying_ok h2, hu]) (.pv _ _ (.lit _))
    · cases hop
  · -- append
    rename_i x y hxy
    obtain ⟨x0, y0, rfl, rfl, rfl⟩ := map_two hxy
    split at hop
    case h_2 => cases hop
    rename_i t0 t1 ht
    have hts : argTypes = #[t0, t1] := by apply Array.ext'; simpa using ht
    subst hts
    split at hop
    case h_2 =>
      rename_i e hd0 hd1
      exact zeros_sound (t0 := t0) (tn := t1) (ty := o.type) hd0 hop (hρ x0) (hρ y0) H hg hB (by simp [builtin])
    case h_3 => cases hop
    rename_i e hd0 hd1
    simp only [Option.bind_eq_bind, Option.bind_eq_some_iff] at hop
    obtain ⟨size, hsz, bytes, hby, z, hz, ys, hys, hop⟩ := hop
    split at hop
    · cases hop
    · rename_i hne
      have hne1 : size ≠ 0 := fun e => hne (.inl e)
      have hne2 : z.cells.size = size := by
        rcases Nat.decEq z.cells.size size with hh | hh
        · exact absurd (.inr hh) hne
        · exact hh
      obtain ⟨news, hE⟩ := elems_sound (P := P) hys (hρ y0) H
      refine append_sound (t0 := t0) (t1 := t1) (ty := o.type) (z := z) ⟨hd0, hd1, hsz, hby, hz, hne1, hne2⟩ hop (hρ x0) hE H hg hB ?_
      simp [builtin]
  · -- clear
    rename_i x hx
    obtain ⟨x0, rfl, rfl⟩ := map_one hx
    split at hop
    case h_2 => cases hop
    rename_i e d1 s g off n full hb he
    obtain ⟨t, ht, hd⟩ := bind_under hb
    simp only [Option.bind_eq_some_iff] at hop
    obtain ⟨z, hz, hop⟩ := hop
    have hclr : ∀ {w' : World}, (Builtin.clear_ argTypes o.type #[ρc x0]).run P w = .ok (.tuple #[]) w' → (builtin .clear argTypes o.type consts (#[x0].map ρc)).run P w = .ok (.value undef) w' := by
      intro w' hrun
      have h2 : (Builtin.clear_ argTypes o.type #[ρc x0]).run P w = .ok undef w' := hrun
      simp only [builtin]
      exact run_value (by simpa using h2)
    split at hop
    rotate_left
    · rename_i k1 e1 xs hl
      have hr := hρ x0
      rw [he] at hr
      generalize hu : ρc x0 = u at hr
      cases hr with
      | msl _ _ _ _ _ _ b ob k cap ad had hs hn hfull hroom =>
      have hat : argTypes[0]? = some t := ht
      split at hop
      · rename_i hn0
        simp only [Option.some.injEq, Prod.mk.injEq] at hop
        obtain ⟨rfl, rfl⟩ := hop
        subst hn0
        refine .same undef H (hclr ?_) undef_rep
        rw [hu]
        unfold Builtin.clear_
        simp [hat, run_underlying_ok hd]
      · rename_i hn0
        split at hop
        · rename_i hc
          obtain ⟨hok, hlen, hk0, hle⟩ := hc
          simp only [Option.some.injEq, Prod.mk.injEq] at hop
          obtain ⟨rfl, rfl⟩ := hop
          obtain ⟨_, _, _, hs1, _⟩ := H.live hl (by simp)
          have hkk : k = k1 := by rw [hs] at hs1; simp only [Option.some.injEq, Prod.mk.injEq] at hs1; exact hs1.2.2
          subst hkk
          have hzs : z.cells.size = k := (zero_cells (I := I) (w := w) hlen hok).1
          have had' : ad = ob + off * k := had (by omega)
          subst had'
          obtain ⟨H', E', e2, m2, hsh2, hle2, hfr2⟩ := row_put H hl hs (zeros_arr (m := n) hlen hok hk0 (Nat.le_refl n)) (by simp) (by simpa using hle)
          refine ⟨_, _, undef, σ, I, hclr ?_, .inl rfl, undef_rep, H', E', fun _ _ => rfl⟩
          have hst := run_storeCells_row (P := P) hsh2 hle2 hfr2 (fun x hx => by
            obtain ⟨i, hi, rfl⟩ := List.getElem_of_mem hx
            simp only [Array.getElem_toList, Array.getElem_map, Array.getElem_range]
            have hi' : i < n * k := by simpa using hi
            have hkpos : 0 < k := by omega
            have hlt : i % z.cells.size < z.cells.size := by rw [hzs]; exact Nat.mod_lt _ hkpos
            rw [getElem!_pos z.cells _ hlt]
            exact (zero_cells (I := I) (w := w) hlen hok).2.1 _ (Array.getElem_mem_toList _))
          have hzc : Builtin.zeroCells z.cells n = (Array.range (n * k)).map (z.cells[· % z.cells.size]!) := by
            unfold Builtin.zeroCells
            rw [hzs]
          rw [← hzc] at hst
          rw [hu, ← hzc]
          unfold Builtin.clear_
          obtain ⟨n', rfl⟩ : ∃ n', n = n' + 1 := ⟨n - 1, by omega⟩
          simp [hat, run_underlying_ok hd, run_zero_ok hz, hst]
        · cases hop
    · cases hop
    rename_i v0 hl
    have hr := hρ x0
    rw [he] at hr
    generalize hu : ρc x0 = u at hr
    cases hr with
    | msl _ _ _ _ _ _ b ob k cap ad had hs hn hfull hroom =>
    have hat : argTypes[0]? = some t := ht
    have fin : ∀ {w' : World}, (Builtin.clear_ argTypes o.type #[ρc x0]).run P w = .ok (.tuple #[]) w' → (builtin .clear argTypes o.type consts (#[x0].map ρc)).run P w = .ok (.value undef) w' := by
      intro w' hrun
      have h2 : (Builtin.clear_ argTypes o.type #[ρc x0]).run P w = .ok undef w' := hrun
      simp only [builtin]
      exact run_value (by simpa using h2)
    split at hop
    · rename_i hc
      obtain ⟨hn0, hok, hag⟩ := hc
      simp only [Option.map_eq_some_iff, Prod.mk.injEq] at hop
      obtain ⟨v', hv', rfl, rfl⟩ := hop
      obtain ⟨c, hzc, hc1, hcr⟩ := one_zero hok hag
      obtain ⟨b0, k0, e0, u0, hs0, hsh, hok0, hru, hz0, hf, h1c, hszu, hcell⟩ := box_val (H.live hl (by simp))
      rw [hs] at hs0
      simp only [Option.some.injEq, Prod.mk.injEq] at hs0
      obtain ⟨rfl, rfl, rfl⟩ := hs0
      subst hf
      have had' : ad = off := by have := had (by omega); omega
      subst had'
      obtain ⟨H', E', e1, m1, hsh1, hle1, hfr1⟩ := box_put (vs := List.replicate n c) H hl hs (by simp) (fun x hx => by rw [List.eq_of_mem_replicate hx]; exact hc1)
        (fun j p u hp hu => by
          rw [List.getElem?_replicate] at hp hu
          split at hp
          · rename_i hj
            rw [if_pos hj] at hu
            simp only [Option.some.injEq] at hp hu
            subst hp; subst hu
            exact .pv _ _ (hcr I w)
          · cases hp) (by simpa using hn0) hv'
      refine ⟨_, _, undef, σ, I, fin ?_, .inl rfl, undef_rep, H', E', fun _ _ => rfl⟩
      have hst := run_storeCells_row (P := P) (vs := List.replicate n c) hsh1 hle1 hfr1 (fun x hx => by rw [List.eq_of_mem_replicate hx]; exact hc1)
      have hzc2 : (Builtin.zeroCells z.cells n).toList = List.replicate n c := by
        unfold Builtin.zeroCells
        rw [hzc]
        apply List.ext_getElem
        · simp
        · intro i h1 h2
          simp [Nat.mod_one]
      rw [hu]
      unfold Builtin.clear_
      obtain ⟨n', rfl⟩ : ∃ n', n = n' + 1 := ⟨n - 1, by omega⟩
      simp [hat, run_underlying_ok hd, run_zero_ok hz, hzc2, hst]
    · split at hop
      · rename_i hn0
        simp only [Option.some.injEq, Prod.mk.injEq] at hop
        obtain ⟨rfl, rfl⟩ := hop
        subst hn0
        refine .same undef H (fin ?_) undef_rep
        rw [hu]
        unfold Builtin.clear_
        simp [hat, run_underlying_ok hd]
      · cases hop
  · -- unsafe.SliceData
    rename_i x hx
    obtain ⟨x0, rfl, rfl⟩ := map_one hx
    have hr := hρ x0
    split at hop
    · rename_i k full xs he
      simp only [Option.some.injEq, Prod.mk.injEq] at hop
      obtain ⟨rfl, rfl⟩ := hop
      rw [he] at hr
      generalize hu : ρc x0 = u at hr
      have hp := rep_pv hr
      cases hp
      exact .same _ H (by simp only [builtin]; exact run_value (by simp [hu]; rfl)) (.pv _ _ (.lit _))
    · rename_i d1 s g off n full he
      simp only [Option.some.injEq, Prod.mk.injEq] at hop
      obtain ⟨rfl, rfl⟩ := hop
      rw [he] at hr
      generalize hu : ρc x0 = u at hr
      cases hr with
      | msl _ _ _ _ _ _ b o k cap ad had hs hn hfull hroom =>
        obtain ⟨c', rfl⟩ : ∃ c', cap = c' + 1 := ⟨cap - 1, by omega⟩
        have := Rep.mptr (I := I) (w := w) d1 s g off 0 b o k hs
        refine .same (.pointer (some ⟨b, ad, none⟩)) H (by simp only [builtin]; exact run_value (by simp [hu]; rfl)) ?_
        rw [had (by omega)]
        exact this
    · cases hop
  · -- unsafe.String
    rename_i p n hx
    obtain ⟨p0, n0, rfl, rfl, rfl⟩ := map_two hx
    have hrp := hρ p0
    have hrn := hρ n0
    split at hop
    · rename_i hp hn
      simp only [Option.map_eq_some_iff, Prod.mk.injEq] at hop
      obtain ⟨pt, hpt, rfl, rfl⟩ := hop
      rw [hp] at hrp
      rw [hn] at hrn
      have hup := prep_lit (rep_pv hrp)
      have hun := prep_lit (rep_pv hrn)
      have hdef : Builtin.unsafeString_ argTypes o.type #[.pointer none, .int .i64 0] =
        (do
          let n ← asInt (.int .i64 0)
          let some pt := argTypes[0]? | stuck "unsafe.String: no argument types"
          if n < 0 then runtimePanic (.error "unsafe.String: len out of range")
          if n > IntKind.i64.max then unsupported (.unsafePointer "String: a length above the largest int")
          if n = 0 then pure (.string .empty)
          else runtimePanic (.error "unsafe.String: ptr is nil and len is not zero")) := rfl
      have hmax : IntKind.i64.max = 9223372036854775807 := rfl
      refine .same (.string ⟨#[]⟩) H ?_ (.pv _ _ (.lit _))
      simp only [builtin]
      refine run_value ?_
      have harr : #[p0, n0].map ρc = #[.pointer none, .int .i64 0] := by simp [hup, hun]
      rw [harr, hdef]
      simp [asInt, asIntOf, hmax, hpt]
      rfl
    · rename_i d1 s g off n hp hn
      rw [hp] at hrp
      rw [hn] at hrn
      have hun := prep_lit (rep_pv hrn)
      split at hop
      · rename_i e xs hl
        split at hop
        · rename_i e' hat
          split at hop
          · rename_i hc
            obtain ⟨h1, h63, h2, rfl, h4⟩ := hc
            simp only [Option.map_eq_some_iff, Prod.mk.injEq] at hop
            obtain ⟨bs, hbs, rfl, rfl⟩ := hop
            have hat : ∃ pt, argTypes[0]? = some pt ∧ P.underlying pt = some (.pointer e') := by simpa [Option.bind_eq_some_iff] using hat
            obtain ⟨w', I', hrun, H', E'⟩ := unsafeString_sound (ty := o.type) H hl hrp hat h4 (by omega) h2 (by omega) hbs
            rw [Int.toNat_of_nonneg (by omega)] at hrun
            refine ⟨_, w', .string ⟨bs.toArray⟩, σ, I', ?_, .inl rfl, .pv _ _ (.lit _), H', E', fun _ _ => rfl⟩
            simp only [builtin]
            refine run_value ?_
            have harr : #[p0, n0].map ρc = #[ρc p0, .int .i64 n] := by simp [hun]
            rw [harr]
            exact hrun
          · cases hop
        · cases hop
      · cases hop
    · cases hop
  · -- max
    simp only [Option.bind_eq_some_iff, Option.map_eq_some_iff, Prod.mk.injEq] at hop
    obtain ⟨vs, ⟨ps, hps, hvs⟩, r, hr, rfl, rfl⟩ := hop
    have hus : args.toList.map ρc = vs := allVals_rep (σ := σ) (I := I) (w := w) hps hvs (by simp) fun j p u hp hu => by
      simp only [List.getElem?_map, Option.map_eq_some_iff] at hp hu
      obtain ⟨a, ha, rfl⟩ := hp
      obtain ⟨b, hb, rfl⟩ := hu
      rw [ha] at hb; injection hb with hb; subst hb
      exact hρ a
    have harr : args.map ρc = vs.toArray := by apply Array.ext'; simpa using hus
    refine .same r H ?_ (.pv _ _ (.lit r))
    simp only [builtin, harr]
    exact run_value (pureRun_run hr)
  · -- min
    simp only [Option.bind_eq_some_iff, Option.map_eq_some_iff, Prod.mk.injEq] at hop
    obtain ⟨vs, ⟨ps, hps, hvs⟩, r, hr, rfl, rfl⟩ := hop
    have hus : args.toList.map ρc = vs := allVals_rep (σ := σ) (I := I) (w := w) hps hvs (by simp) fun j p u hp hu => by
      simp only [List.getElem?_map, Option.map_eq_some_iff] at hp hu
      obtain ⟨a, ha, rfl⟩ := hp
      obtain ⟨b, hb, rfl⟩ := hu
      rw [ha] at hb; injection hb with hb; subst hb
      exact hρ a
    have harr : args.map ρc = vs.toArray := by apply Array.ext'; simpa using hus
    refine .same r H ?_ (.pv _ _ (.lit r))
    simp only [builtin, harr]
    exact run_value (pureRun_run hr)
  · cases hop
theorem buildSlice_rows {size n : Nat} {place : Nat → Option (Nat × Nat)} (hpl : place = fun i => some (i * size, size)) :
    ∀ (qs : List (Nat × PV)) (pc : List (Nat × Value)) (xs : List PV) (arr : Array Value), RowArr I w size xs arr → xs.length = n → arr.size = n * size → pc.length = qs.length →
      (∀ q ∈ qs, q.1 < n ∧ q.2.cells.length = size ∧ q.2.ok = true) → (∀ (j : Nat) (q : Nat × PV) (c : Nat × Value), qs[j]? = some q → pc[j]? = some c → q.1 = c.1 ∧ PRep I w q.2 c.2) →
      ∃ arr', Instr.fill place arr pc = some arr' ∧ RowArr I w size (qs.foldl (fun l q => l.set q.1 q.2) xs) arr' ∧ arr'.size = n * size
  | [], [], xs, arr, ha, hl, hs, _, _, _ => ⟨arr, rfl, ha, hs⟩
  | (i, p) :: qs, (i', u) :: pc, xs, arr, ha, hl, hs, hlen, hq, hr => by
    obtain ⟨hii, hpr⟩ := hr 0 (i, p) (i', u) rfl rfl
    have hii : i = i' := hii
    subst hii
    have hpr : PRep I w p u := hpr
    obtain ⟨hi, hps, hpok⟩ := hq (i, p) (by simp)
    have hi : i < n := hi
    have hps : p.cells.length = size := hps
    obtain ⟨h1, h2, h3⟩ := hpr.cells hpok
    obtain ⟨hs1, hs2⟩ := fill_cells (i * size) u arr
    have hin : i * size + size ≤ n * size := by
      have : (i + 1) * size ≤ n * size := Nat.mul_le_mul_right size (by omega)
      rw [Nat.add_mul] at this
      omega
    have ha' : RowArr I w size (xs.set i p) (u.cells.zipIdx.foldl (fun cs (x : Value × Nat) => cs.setIfInBounds (i * size + x.2) x.1) arr) := by
      refine ⟨by rw [hs1, hs]; simp [hl], fun x hx => ?_, fun i2 x hx j c hc => ?_⟩
      · rcases List.mem_or_eq_of_mem_set hx with hx | rfl
        · exact ha.elem x hx
        · exact ⟨hps, hpok⟩
      · rw [List.getElem?_set] at hx
        by_cases hi2 : i = i2
        · subst hi2
          rw [if_pos rfl, if_pos (by omega)] at hx
          injection hx with hx
          subst hx
          have hj : j < size := by rw [← hps]; exact (List.getElem?_eq_some_iff.1 hc).1
          have hjc : u.cells[j]? = some (u.cells[j]'(by omega)) := Array.getElem?_eq_getElem (by omega)
          refine ⟨u.cells[j]'(by omega), ?_, h2 _ (by simp), h3 j c _ hc hjc⟩
          rw [hs2, if_pos (by omega), show i * size + j - i * size = j by omega]
          exact hjc
        · rw [if_neg hi2] at hx
          obtain ⟨u2, g1, g2, g3⟩ := ha.rep i2 x hx j c hc
          have hj : j < size := by rw [← (ha.elem x (List.mem_of_getElem? hx)).1]; exact (List.getElem?_eq_some_iff.1 hc).1
          refine ⟨u2, ?_, g2, g3⟩
          rw [hs2, if_neg]
          · exact g1
          · rcases Nat.lt_or_ge i2 i with hlt | hge
            · have : (i2 + 1) * size ≤ i * size := Nat.mul_le_mul_right size (by omega)
              rw [Nat.add_mul] at this
              omega
            · have : (i + 1) * size ≤ i2 * size := Nat.mul_le_mul_right size (by omega)
              rw [Nat.add_mul] at this
              omega
    obtain ⟨arr', hf, ha'', hsz⟩ := buildSlice_rows hpl qs pc (xs.set i p) _ ha' (by simpa using hl) (by rw [hs1]; exact hs) (by simpa using hlen) (fun q hqm => hq q (by simp [hqm])) fun j q c hqj hcj => hr (j + 1) q c (by simpa using hqj) (by simpa using hcj)
    refine ⟨arr', ?_, ha'', hsz⟩
    simp only [Instr.fill, hpl]
    have e1 : u.cells.size = size := by omega
    have hcond : ¬ ((u.cells.size ≠ size || decide (i * size + u.cells.size > arr.size)) = true) := by
      simp [e1]; omega
    rw [if_neg (by simpa using hcond)]
    rw [← hpl]
    exact hf
theorem buildSlice_sound {t : TypeId} {len : Nat} {parts : Array (Nat × Operand)} (ho : o.op = .buildSlice t len parts) (hop : aop P o ρ d gen h = some (v, h')) (hρ : ∀ x, Rep σ I w (ρ x) (ρc x)) (H : HRep σ I base w h) (hg : σ gen = none) (hB : Bnd base w.heap.size) :
    OpOk σ I base w gen ((execOp ρc o).run P w) v h' := by
  simp only [aop, ho] at hop
  split at hop
  case h_2 => cases hop
  rename_i e hd
  simp only [Option.bind_eq_bind, Option.bind_eq_some_iff] at hop
  obtain ⟨size, hsz, hop⟩ := hop
  split at hop
  · rename_i h0
    obtain ⟨rfl, hp0⟩ := h0
    have hp0' : parts = #[] := Array.eq_empty_of_size_eq_zero hp0
    subst hp0'
    simp only [Option.some.injEq, Prod.mk.injEq] at hop
    obtain ⟨rfl, rfl⟩ := hop
    have hG : Grows w (w.alloc (.cells #[] e)) (.cells #[] e) := ⟨rfl, rfl, rfl, rfl⟩
    have hk := hG.keep H.lt
    refine ⟨_, w.alloc (.cells #[] e), .slice (some ⟨w.heap.size, 0, none⟩) 0 0, σ, I, ?_, .inl rfl, .pv _ _ (.emp size true _ 0 (fun _ => rfl)), H.keep (fun _ _ h => h) (fun _ h => h) hk (hk.inW H.inW) fun d s b hb => ⟨hG.old (blkOf_facts (H.rows d s) hb).1, (blkOf_facts (H.rows d s) hb).2.1⟩,
      ⟨fun _ _ h => h, fun _ h => h, fun _ h => .inl h, hk, hG.below hB⟩, fun _ _ => rfl⟩
    simp only [execOp, ho]
    refine run_value ?_
    simp [Instr.buildSlice, run_underlying_ok hd, run_sizeOf_ok hsz, Instr.fill, newRow]
    have h0 : (Array.range 0).map (fun _ => (default : Value)) = #[] := by apply Array.ext'; simp
    rw [h0]
  simp only [Option.bind_eq_some_iff] at hop
  obtain ⟨z, hz, slot, hslot, hop⟩ := hop
  split at hop
  case isFalse => cases hop
  rename_i hc
  obtain ⟨hc1, hc2, hc3, hc4⟩ := hc
  simp only [Option.bind_eq_some_iff, Prod.exists] at hop
  obtain ⟨ps, h1, hps, hop⟩ := hop
  split at hop
  case isFalse => cases hop
  rename_i hall
  simp only [Bool.and_eq_true, List.all_eq_true, beq_iff_eq, decide_eq_true_eq] at hall
  obtain ⟨hall1, hall2⟩ := hall
  simp only [Option.some.injEq, Prod.mk.injEq] at hop
  obtain ⟨rfl, rfl⟩ := hop
  obtain ⟨I1, hlen, hpr, H1, m1⟩ := frzs_sound (σ := σ) (w := w) (base := base) _ _ _ _ _ (parts.toList.map fun q => ρc q.2) I hps (by simp)
    (fun j p u hp hu => by
      simp only [List.getElem?_map, Option.map_eq_some_iff] at hp hu
      obtain ⟨a, ha, rfl⟩ := hp
      obtain ⟨b, hb, rfl⟩ := hu
      rw [ha] at hb; injection hb with hb; subst hb
      exact hρ a.2) H
  have hlenp : ps.length = parts.toList.length := by simpa using hlen
  have hzero : (ofVal z).cells.length = z.cells.size := ((ofVal_rep (I := I) (w := w) z).cells hc4).1.symm
  obtain ⟨arr, hf, hrow, hasz⟩ := buildSlice_rows (I := I1) (w := w) (size := size) (n := len) rfl ((parts.toList.map (·.1)).zip ps) (parts.map fun (i, x) => (i, ρc x)).toList (List.replicate len (ofVal z))
    ((Array.range (len * size)).map (z.cells[· % z.cells.size]!)) (zeros_arr hc3 hc4 (by rintro rfl; simp at hc2) (Nat.le_refl _)) (by simp) (by simp) (by simp [hlenp])
    (fun q hq => by
      obtain ⟨ha, hb⟩ := List.of_mem_zip hq
      obtain ⟨x, hx, hx2⟩ := List.mem_map.1 ha
      exact ⟨by rw [← hx2]; exact hall2 x hx, (hall1 _ hb).1, (hall1 _ hb).2⟩)
    (fun j q c hq hc => by
      simp only [List.zip, List.getElem?_zipWith, Option.bind_eq_some_iff] at hq
      simp only [Array.toList_map, List.getElem?_map, Option.map_eq_some_iff] at hc
      obtain ⟨x, hx, rfl⟩ := hc
      cases hpj : ps[j]? with
      | none => simp [hpj, hx] at hq
      | some p =>
        simp [hpj, hx] at hq
        subst hq
        exact ⟨rfl, hpr j p (ρc x.2) hpj (by simp [hx])⟩)
  obtain ⟨ie, hie, hie2⟩ : ∃ ie, P.info? e = some ie ∧ ie.size = size := by
    have := hsz; unfold szOf at this; simpa only [Option.map_eq_some_iff] using this
  have hiz : ie.zero = some z := by
    have := hz; unfold zeroOf at this; simpa [hie] using this
  have hG : Grows w (w.alloc (.cells arr e)) (.cells arr e) := ⟨rfl, rfl, rfl, rfl⟩
  have hrun : (execOp ρc o).run P w = .ok (.value (.slice (some ⟨w.heap.size, 0, none⟩) len len)) (w.alloc (.cells arr e)) := by
    simp only [execOp, ho]
    refine run_value ?_
    subst hie2
    exact run_buildSlice w t e len _ arr ie z hd hie hiz (by omega) hc2 hf
  have := new_row (d := d) (s := slot) (gen := gen) (k := size) (n := len) (cap := len) (full := true) H1 hrow hg hB hG (fun j _ => hG.frozen j) (Nat.le_refl _) (fun _ => rfl) (by omega) hrun
  obtain ⟨nx, w', u, σ', I', g1, g2, g3, g4, g5, g6⟩ := this
  exact ⟨nx, w', u, σ', I', g1, g2, g3, g4, m1.ext.trans g5, g6⟩
theorem aop_sound (hop : aop P o ρ d gen h = some (v, h')) (hρ : ∀ x, Rep σ I w (ρ x) (ρc x)) (H : HRep σ I base w h) (hg : σ gen = none) (hB : Bnd base w.heap.size) :
    OpOk σ I base w gen ((execOp ρc o).run P w) v h' := by
  cases ho : o.op with
  | move x => exact move_sound (.inl ho) hop hρ H
  | assign x => exact move_sound (.inr ho) hop hρ H
  | pick c a b => exact pick_sound ho hop hρ H
  | alloc e => exact alloc_sound ho hop H hg hB
  | box e x => exact box_sound ho hop hρ H hg hB
  | build t parts => exact build_sound ho hop hρ H
  | buildSlice t len parts => exact buildSlice_sound ho hop hρ H hg hB
  | load t a => exact load_sound ho hop hρ H
  | store t a x => exact store_sound ho hop hρ H
  | nilCheck x => exact nilCheck_sound ho hop hρ H
  | binOp op t x y ty => exact binOp_sound ho hop hρ H
  | unOp op t x => exact unOp_sound ho hop hρ H
  | convert src dst x => exact convert_sound ho hop hρ H hg hB
  | makeInterface t x => exact makeInterface_sound ho hop hρ H
  | makeFunc fn first captured => exact makeFunc_sound ho hop hρ H
  | makeSlice t l c => exact makeSlice_sound ho hop hρ H hg hB
  | slice t x lo hi mx => exact slice_sound ho hop hρ H
  | fieldAddr st x f => exact fieldAddr_sound ho hop hρ H
  | indexAddr t x ix => exact indexAddr_sound ho hop hρ H
  | index t x ix => exact index_sound ho hop hρ H
  | field t x f => exact field_sound ho hop hρ H
  | extract x i => exact extract_sound ho hop hρ H
  | typeAssert x xT aT ok => exact typeAssert_sound ho hop hρ H
  | range t x => exact range_sound ho hop hρ H hg hB
  | next it isS => exact next_sound ho hop hρ H
  | call c =>
    obtain ⟨callee, args, argTypes⟩ := c
    cases callee with
    | builtin b => exact builtin_sound ho hop hρ H hg hB
    | value f => simp [aop, ho] at hop
    | invoke r m => simp [aop, ho] at hop
  | _ => simp [aop, ho] at hop
end
end Go.Proofs.YtcoeigibikbfdaaGreatDoor.Abs

namespace Go.Proofs.YtcoeigibikbfdaaGreatDoor.Abs
open Go Go.RowKit
def Does (P : Program) (f : FuncId) (args : Array Value) (w : World) (R : Value → World → Prop) : Prop :=
  (∃ v w', (callFunc f args).run P w = .ok (.value v) w' ∧ R v w') ∨
  ((callFunc f args).run P w = .ok (.enter f args) w ∧ Calls P f args w fun | .returned v, w' => R v w' | _, _ => False) ∨
  (∃ row as w1, (callFunc f args).run P w = .ok (.row row as) w1 ∧ Rows P row as w1 R)
theorem Does.mono {P : Program} {f : FuncId} {args : Array Value} {w : World} {R R' : Value → World → Prop} (h : Does P f args w R) (hr : ∀ v w', R v w' → R' v w') : Does P f args w R' := by
  rcases h with ⟨v, w', h1, h2⟩ | ⟨h1, h2⟩ | ⟨row, as, w1, h1, h2⟩
  · exact .inl ⟨v, w', h1, hr _ _ h2⟩
  · exact .inr (.inl ⟨h1, h2.mono fun e w' he => by cases e <;> first | exact hr _ _ he | exact he⟩)
  · exact .inr (.inr ⟨row, as, w1, h1, h2.mono hr⟩)
structure RPost (σ : Sig) (I : Blk) (base : Blk) (w : World) (g : Nat) (h' : Heap) (g' : Nat) (w' : World) (σ' : Sig) (I' : Blk) : Prop where
  heap : HRep σ' I' base w' h'
  ext : Ext base σ I w σ' I' w'
  low : ∀ k, k < g → σ' k = σ k
  high : ∀ k, g' ≤ k → σ' k = none
  grow : g ≤ g'
structure CallPost (σ : Sig) (I : Blk) (base : Blk) (w : World) (gen g : Nat) (v : AV) (h' : Heap) (g' : Nat) (u : Value) (w' : World) (σ' : Sig) (I' : Blk) : Prop where
  rep : Rep σ' I' w' v u
  heap : HRep σ' I' base w' h'
  ext : Ext base σ I w σ' I' w'
  low : ∀ k, k < g → k ≠ gen → σ' k = σ k
  high : ∀ k, g' ≤ k → σ' k = none
  grow : g ≤ g'
def WF (r : Option Nat) : Fence := { Fence.wide with round := r }
structure Later (σ : Sig) (I : Blk) (w : World) (σ' : Sig) (I' : Blk) (w' : World) : Prop where
  sig : ∀ g x, σ g = some x → σ' g = some x
  blk : ∀ b, I b → I' b
  kp : Keep I w w'
theorem Later.refl (σ : Sig) (I : Blk) (w : World) : Later σ I w σ I w := ⟨fun _ _ h => h, fun _ h => h, Keep.refl I w⟩
theorem Later.trans {σ σ' σ'' : Sig} {I I' I'' : Blk} {w w' w'' : World} (h : Later σ I w σ' I' w') (k : Later σ' I' w' σ'' I'' w'') : Later σ I w σ'' I'' w'' :=
  ⟨fun g x hx => k.sig g x (h.sig g x hx), fun b hb => k.blk b (h.blk b hb), h.kp.trans h.blk k.kp⟩
theorem Ext.later {base : Blk} {σ σ' : Sig} {I I' : Blk} {w w' : World} (h : Ext base σ I w σ' I' w') : Later σ I w σ' I' w' := ⟨h.sig, h.blk, h.kp⟩
def YOk (P : Program) (gl : Nat) (hd : Handler) (σ : Sig) (I : Blk) (w : World) : Prop :=
  ∃ l o k, σ gl = some (l, o, k) ∧ ∀ (σ1 : Sig) (I1 : Blk) (w1 : World), Later σ I w σ1 I1 w1 → ∀ (base : Blk) (h : Heap) (args : List AV) (us : List Value) (g : Nat) (b : Bool) (h' : Heap) (g' : Nat),
    hd args h g = some (b, h', g') → HRep σ1 I1 base w1 h → Bnd base w1.heap.size → us.length = args.length → (∀ (j : Nat) (p : AV) (u : Value), args[j]? = some p → us[j]? = some u → Rep σ1 I1 w1 p u) →
    (∀ k, g ≤ k → σ1 k = none) →
    ∃ fn tmps assign body, (Instr.yield l us.toArray).run P w1 = .ok (.round l fn tmps assign body) w1 ∧
      RoundIn (WF none) 0 P l fn tmps assign body w1 fun e w2 => e = .returned (.bool b) ∧ ∃ σ2 I2, RPost σ1 I1 base w1 g h' g' w2 σ2 I2
theorem YOk.later {P : Program} {gl : Nat} {hd : Handler} {σ σ' : Sig} {I I' : Blk} {w w' : World} (h : YOk P gl hd σ I w) (k : Later σ I w σ' I' w') : YOk P gl hd σ' I' w' := by
  obtain ⟨l, o, n, hl, hh⟩ := h
  exact ⟨l, o, n, k.sig _ _ hl, fun σ1 I1 w1 h1 => hh σ1 I1 w1 (k.trans h1)⟩
def Gl (E : Env) (I : Blk) (w : World) : Prop := E.gl I w
theorem Gl.mono {E : Env} {I I' : Blk} {w w' : World} (h : Gl E I w) (hI : ∀ b, I b → I' b) (hk : ∀ b, I b → w'.heap[b]? = w.heap[b]?) : Gl E I' w' := E.glm I I' w w' h hI hk
def YsOk (E : Env) (ys : Ys) (σ : Sig) (I : Blk) (w : World) : Prop := (∀ gl hd, ys.get? gl = some hd → YOk E.P gl hd σ I w) ∧ Gl E I w
theorem YsOk.later {E : Env} {ys : Ys} {σ σ' : Sig} {I I' : Blk} {w w' : World} (h : YsOk E ys σ I w) (k : Later σ I w σ' I' w') : YsOk E ys σ' I' w' := ⟨fun gl hd hg => (h.1 gl hd hg).later k, h.2.mono k.blk k.kp.keep⟩
theorem YsOk.nil {E : Env} {σ : Sig} {I : Blk} {w : World} (h : Gl E I w) : YsOk E [] σ I w := ⟨fun gl hd hg => by simp [Ys.get?] at hg, h⟩
def CallOk (E : Env) (call : CallFn) : Prop := ∀ (ys : Ys) (σ : Sig) (I : Blk) (base : Blk) (w : World) (h : Heap) (f : FuncId) (args : List AV) (d slot gen g : Nat) (v : AV) (h' : Heap) (g' : Nat) (us : List Value),
  call ys f args d slot gen h g = some (v, h', g') → YsOk E ys σ I w → HRep σ I base w h → Bnd base w.heap.size → us.length = args.length → (∀ (j : Nat) (p : AV) (u : Value), args[j]? = some p → us[j]? = some u → Rep σ I w p u) →
  σ gen = none → gen < g → (∀ k, g ≤ k → σ k = none) →
  Does E.P f us.toArray w fun u w' => ∃ σ' I', CallPost σ I base w gen g v h' g' u w' σ' I'
structure Cx where
  n : Nat
  base : Blk
  lo : Nat
  r : Option Nat
structure SRel (C : Cx) (σ : Sig) (I : Blk) (w : World) (s : St) (a : Act) : Prop where
  tmp : ∀ i, Rep σ I w (getT s.t i) (a.tmps.getD i undef)
  heap : HRep σ I C.base w s.h
  fresh : ∀ k, s.g ≤ k → σ k = none
  hb : Bnd C.base w.heap.size
  hn : C.n ≤ a.tmps.size
  marks : ∀ x ∈ a.defers, ∃ D, C.lo ≤ D ∧ x = { target := .collected D, args := #[] } ∧ w.heap[D]? = some (Obj.deferred (some []))
  nodup : a.defers.Nodup
  around : ∀ l, C.r = some l → ∃ x, w.heap[l]? = some (Obj.loop x)
  lob : Bnd C.base C.lo
  losz : C.lo ≤ w.heap.size
section
variable {E : Env} {call : CallFn} {ys : Ys} {st : Bool} {d gb : Nat} {C : Cx} {all : Array Oper} {σ : Sig} {I : Blk} {w : World} {s s' : St} {a : Act}
theorem boolA_rep {x : AV} {u : Value} (hr : Rep σ I w x u) (b : Bool) : boolA x = some b ↔ u = .bool b := by
  cases hr with
  | pv p v h =>
    cases h with
    | lit => cases u <;> simp [boolA]
    | _ => simp [boolA]
  | _ => simp [boolA]
theorem getD_get (a : Array Value) (i : Nat) : a.getD i undef = (a[i]?).getD undef := by
  simp [Array.getD_eq_getD_getElem?]
theorem wanted_rep (H : SRel C σ I w s a) (o : Oper) : Region.wanted o (yielded all a.tmps) = wantedA all s.t o := by
  unfold Region.wanted wantedA
  cases hg : o.guard with
  | none => rfl
  | some gw =>
    obtain ⟨j, want⟩ := gw
    simp only []
    have key : yielded all a.tmps j = (((all[j]?).bind (·.dst)).bind fun i => boolA (getT s.t i)) := by
      unfold yielded
      cases hd : (all[j]?).bind (·.dst) with
      | none => rfl
      | some i =>
        simp only [Option.bind_some]
        have hr := H.tmp i
        rw [getD_get] at hr
        cases ht : a.tmps[i]? with
        | none =>
          rw [ht] at hr
          cases hb : boolA (getT s.t i) with
          | none => rfl
          | some b => have := (boolA_rep hr b).1 hb; simp [undef] at this
        | some v =>
          rw [ht] at hr
          simp only [Option.getD_some] at hr
          cases hb : boolA (getT s.t i) with
          | some b => have := (boolA_rep hr b).1 hb; subst this; rfl
          | none =>
            cases v <;> try rfl
            rename_i b
            have := (boolA_rep hr b).2 rfl
            rw [hb] at this
            cases this
    rw [key]
theorem getD_setIf (a : Array Value) (dd : Nat) (v : Value) (hdd : dd < a.size) (i : Nat) : (a.setIfInBounds dd v).getD i undef = if dd = i then v else a.getD i undef := by
  rw [getD_get, getD_get, Array.getElem?_setIfInBounds]
  by_cases e : dd = i
  · subst e; simp [hdd]
  · simp [e]
theorem SRel.put {σ' : Sig} {I' : Blk} {w' : World} {h' : Heap} {g' : Nat} {v : AV} {u : Value} (H : SRel C σ I w s a) {dst : Option Tmp} (hdst : ∀ dd, dst = some dd → dd < C.n)
    (hx : Ext C.base σ I w σ' I' w') (hv : Rep σ' I' w' v u) (hh : HRep σ' I' C.base w' h') (hf : ∀ k, g' ≤ k → σ' k = none) : SRel C σ' I' w' { t := putD s.t dst v, h := h', g := g' } (a.put dst u) := by
  have hdef : (a.put dst u).defers = a.defers := by cases dst <;> rfl
  refine ⟨fun i => ?_, hh, hf, H.hb.mono hx.below.size, ?_, ?_, ?_, ?_, H.lob, Nat.le_trans H.losz hx.below.size⟩
  · cases dst with
    | none => exact hx.rep (H.tmp i)
    | some dd =>
      simp only [putD, Act.put]
      rw [getT_putT, getD_setIf _ _ _ (Nat.lt_of_lt_of_le (hdst dd rfl) H.hn)]
      by_cases e : dd = i
      · rw [if_pos e, if_pos e]; exact hv
      · rw [if_neg e, if_neg e]; exact hx.rep (H.tmp i)
  · cases dst with
    | none => exact H.hn
    | some dd => simp only [Act.put, Array.size_setIfInBounds]; exact H.hn
  · rw [hdef]
    intro x hx'
    obtain ⟨D, h1, h2, h3⟩ := H.marks x hx'
    exact ⟨D, h1, h2, hx.kp.dfr D h3⟩
  · rw [hdef]; exact H.nodup
  · intro l hl
    obtain ⟨x, hx'⟩ := H.around l hl
    obtain ⟨x', h1, _⟩ := hx.kp.loop l x hx'
    exact ⟨x', h1⟩
structure Step (C : Cx) (i : Nat) (σ : Sig) (I : Blk) (w : World) (s : St) (σ' : Sig) (I' : Blk) (w' : World) (s' : St) (a' : Act) : Prop where
  rel : SRel C σ' I' w' s' a'
  ext : Ext C.base σ I w σ' I' w'
  low : ∀ k, k < s.g → k ≠ i → σ' k = σ k
  grow : s.g ≤ s'.g
theorem upon_does {r : Option Nat} {o : Oper} {f : FuncId} {args : Array Value} {next : Act → World → Prop} {Q : Exit → Act → World → Prop} (hd : Does E.P f args w fun u w' => next (a.put o.dst u) w') :
    o.uponIn (WF r) 0 E.P a next Q ((callFunc f args).run E.P w) := by
  rcases hd with ⟨v, w', h1, h2⟩ | ⟨h1, h2⟩ | ⟨row, as, w1, h1, h2⟩
  · rw [h1]; exact h2
  · rw [h1]
    refine ⟨fun h => by simp [WF, Fence.wide] at h, ?_⟩
    exact callsIn_wide.2 (h2.mono fun e w' he => by cases e <;> first | exact he | exact he.elim)
  · rw [h1]
    refine ⟨fun h => by simp [WF, Fence.wide] at h, fun c cs _ => ?_⟩
    obtain ⟨v, w', hR, hs⟩ := h2 c cs
    exact ⟨v, w', hR, stepsIn_wide.2 hs⟩
theorem callee_rep {x : AV} {u : Value} (hr : Rep σ I w x u) {f : FuncId} {b c : List AV} (hc : calleeOf x = some (f, b, c)) :
    ∃ vb vc : List Value, u = .func (.func f) vb.toArray vc.toArray ∧ vb.length = b.length ∧ vc.length = c.length ∧
      (∀ (j : Nat) (p : AV) (v : Value), b[j]? = some p → vb[j]? = some v → Rep σ I w p v) ∧ (∀ (j : Nat) (p : AV) (v : Value), c[j]? = some p → vc[j]? = some v → Rep σ I w p v) := by
  cases hr with
  | pv p v h =>
    cases h with
    | clo fn a b' va vb hla hlb hra hrb =>
      cases fn <;> simp [calleeOf] at hc
      obtain ⟨rfl, rfl, rfl⟩ := hc
      refine ⟨va, vb, rfl, by simpa using hla, by simpa using hlb, fun j p v hp hv => ?_, fun j p v hp hv => ?_⟩
      · simp only [List.getElem?_map, Option.map_eq_some_iff] at hp
        obtain ⟨q, hq, rfl⟩ := hp
        exact .pv _ _ (hra j q v hq hv)
      · simp only [List.getElem?_map, Option.map_eq_some_iff] at hp
        obtain ⟨q, hq, rfl⟩ := hp
        exact .pv _ _ (hrb j q v hq hv)
    | _ => simp [calleeOf] at hc
  | clo fn a b' va vb hla hlb hra hrb =>
    cases fn <;> simp [calleeOf] at hc
    obtain ⟨rfl, rfl, rfl⟩ := hc
    exact ⟨va, vb, rfl, hla, hlb, hra, hrb⟩
  | _ => simp [calleeOf] at hc
theorem reps_append {b c : List AV} {vb vc : List Value} (hl : vb.length = b.length) (hb : ∀ (j : Nat) (p : AV) (v : Value), b[j]? = some p → vb[j]? = some v → Rep σ I w p v)
    (hc : ∀ (j : Nat) (p : AV) (v : Value), c[j]? = some p → vc[j]? = some v → Rep σ I w p v) : ∀ (j : Nat) (p : AV) (v : Value), (b ++ c)[j]? = some p → (vb ++ vc)[j]? = some v → Rep σ I w p v := by
  intro j p v hp hv
  rw [List.getElem?_append] at hp hv
  rw [hl] at hv
  split at hp
  · rename_i hj; rw [if_pos hj] at hv; exact hb j p v hp hv
  · rename_i hj; rw [if_neg hj] at hv; exact hc _ p v hp hv
theorem method_rep {P : Program} {x : AV} {u : Value} (hr : Rep σ I w x u) {name : String} {f : FuncId} {rv : AV} (hm : methodA P x name = some (f, rv)) :
    ∃ v, Rep σ I w rv v ∧ ∀ (args : Array Value) (w' : World), (callMethod u name args).run P w' = (callFunc f (#[v] ++ args)).run P w' := by
  unfold methodA at hm
  split at hm
  · rename_i t p
    cases hr; rename_i hp; cases hp; rename_i v hp
    simp only [Option.bind_eq_some_iff] at hm
    obtain ⟨m, ⟨i, hi, hf⟩, hm⟩ := hm
    split at hm
    rotate_left
    · cases hm
    rename_i hpath
    have hpl : m.path.toList = [] := by simpa using hpath
    have key : ∀ (d : TypeDesc) (b : Bool), m.func = some (f, b) → P.underlying t = some d → rv = .pv p → (∀ nm w', (receiverAt t (.val v) b nm).run P w' = .ok v w') →
        ∃ v', Rep σ I w rv v' ∧ ∀ (args : Array Value) (w' : World), (callMethod (.iface t v) name args).run P w' = (callFunc f (#[v'] ++ args)).run P w' := by
      rintro d b hfn hd rfl hrec
      refine ⟨v, .pv _ _ hp, fun args w' => ?_⟩
      unfold callMethod
      have hn : P.types.size + Made.depth = (P.types.size + 99) + 1 := rfl
      simp only [Sem.run_bind, show (program : Sem Program).run P w' = .ok P w' from rfl, Result.andThen_ok]
      rw [hn, method]
      simp only [Sem.run_bind, run_typeInfo_ok hi, Result.andThen_ok, hf, hpl, follow, Sem.run_pure, hfn, hrec]
    split at hm
    · rename_i f' e h1 h2
      simp only [Option.some.injEq, Prod.mk.injEq] at hm
      obtain ⟨rfl, rfl⟩ := hm
      refine key _ _ h1 h2 rfl fun nm w' => ?_
      unfold receiverAt
      simp only [Sem.run_bind, run_underlying_ok h2, Result.andThen_ok]
      rfl
    · cases hm
    · rename_i f' d hne h1 h2
      simp only [Option.some.injEq, Prod.mk.injEq] at hm
      obtain ⟨rfl, rfl⟩ := hm
      refine key _ _ h1 h2 rfl fun nm w' => ?_
      unfold receiverAt
      simp only [Sem.run_bind, run_underlying_ok h2, Result.andThen_ok]
      cases d <;> first | rfl | exact absurd rfl (hne _)
    · cases hm
  · cases hm
theorem aop_no_defer {P : Program} {o : Oper} {ρ : Operand → AV} {d gen : Nat} {h : Heap} {r : AV × Heap} (hop : aop P o ρ d gen h = some r) : ∀ c, o.op ≠ .defer c := by
  intro c ho
  simp [aop, ho] at hop
theorem ostep_sound (hcall : CallOk E call) {i : Nat} {o : Oper} (hi : all[i]? = some o) (hdst : dstOk C.n o = true) (hs : ostep E call ys st d gb all i o s = some s') (H : SRel C σ I w s a) (hys : YsOk E ys σ I w)
    (hgen : σ (gb + i) = none) (hlt : gb + i < s.g) {Q : Exit → Act → World → Prop} {K : Act → World → Prop}
    (hK : ∀ σ' I' w' a', Step C (gb + i) σ I w s σ' I' w' s' a' → K a' w') : wpOpIn (WF C.r) 0 E.P all Q i K a w := by
  have hdst' : ∀ dd, o.dst = some dd → dd < C.n := fun dd hd => by simpa [dstOk, hd] using hdst
  unfold ostep at hs
  simp only [Option.map_eq_some_iff] at hs
  obtain ⟨⟨v, h', g'⟩, hop, rfl⟩ := hs
  unfold opV at hop
  unfold wpOpIn
  rw [hi]
  simp only []
  rw [wanted_rep H o]
  cases hw : wantedA all s.t o with
  | false =>
    rw [hw] at hop
    simp only [Bool.false_eq_true, if_false, Option.some.injEq, Prod.mk.injEq] at hop ⊢
    obtain ⟨rfl, rfl, rfl⟩ := hop
    exact ⟨fun _ _ => trivial, hK σ I w _ ⟨H.put hdst' (Ext.refl _ _ _ _) (.pv _ _ (.lit _)) H.heap H.fresh, Ext.refl _ _ _ _, fun _ _ _ => rfl, Nat.le_refl _⟩⟩
  | true =>
    rw [hw] at hop
    simp only [if_true] at hop ⊢
    refine ⟨fun _ _ => trivial, ?_⟩
    have hρ := fun x => eval_rep H.tmp x
    unfold stepV at hop
    split at hop
    · rename_i f args ats ho
      rw [Oper.semAt_eq _ _ _ (fun c e => by rw [ho] at e; cases e)]
      have hargs : ∀ (j : Nat) (p : AV) (v : Value), (args.toList.map (evalA s.t))[j]? = some p → (args.toList.map a.eval)[j]? = some v → Rep σ I w p v := by
        intro j p v hp hv
        simp only [List.getElem?_map, Option.map_eq_some_iff] at hp hv
        obtain ⟨x, hx, rfl⟩ := hp
        obtain ⟨y, hy, rfl⟩ := hv
        rw [hx] at hy
        injection hy with hy
        subst hy
        exact hρ x
      split at hop
      · rename_i d' s' gl hyl
        simp only [Option.bind_eq_some_iff, Option.map_eq_some_iff, Prod.mk.injEq] at hop
        obtain ⟨hd, hget, ⟨b, h1, g1⟩, hhd, rfl, rfl, rfl⟩ := hop
        have hu := hρ f
        rw [hyl] at hu
        obtain ⟨l, ho', k', hl, hy⟩ := hys.1 gl hd hget
        cases hva : a.eval f <;> rw [hva] at hu <;> cases hu
        rename_i b' o' k'' hσ
        rw [hl] at hσ
        simp only [Option.some.injEq, Prod.mk.injEq] at hσ
        obtain ⟨rfl, rfl, rfl⟩ := hσ
        obtain ⟨fn, tmps, assign, body, hrun, hround⟩ := hy σ I w (Later.refl _ _ _) C.base s.h _ (args.toList.map a.eval) s.g b h1 g1 hhd H.heap H.hb (by simp) hargs H.fresh
        have hexec : (execOp a.eval o).run E.P w = .ok (.round l fn tmps assign body) w := by
          have harr : args.map a.eval = (args.toList.map a.eval).toArray := by apply Array.ext'; simp
          rw [← hrun, ← harr]
          simp [execOp, ho, resolve, hva, Deferred.ofValue, invoke]
        rw [hexec]
        refine ⟨fun h => by simp [WF, Fence.wide] at h, RoundIn.mono hround ?_⟩
        rintro e w2 ⟨rfl, σ2, I2, hp⟩
        exact hK σ2 I2 w2 _ ⟨H.put hdst' hp.ext (.pv _ _ (.lit _)) hp.heap hp.high, hp.ext, fun k hk _ => hp.low k hk, hp.grow⟩
      · simp only [Option.bind_eq_some_iff] at hop
        obtain ⟨⟨fid, b, c⟩, hcal, hop⟩ := hop
        split at hop
        · cases hop
        · obtain ⟨vb, vc, hu, hlb, hlc, hrb, hrc⟩ := callee_rep (hρ f) hcal
          have hexec : (execOp a.eval o).run E.P w = (callFunc fid (vb ++ args.toList.map a.eval ++ vc).toArray).run E.P w := by
            have harr : vb.toArray ++ args.map a.eval ++ vc.toArray = (vb ++ args.toList.map a.eval ++ vc).toArray := by
              apply Array.ext'
              simp
            rw [← harr]
            simp [execOp, ho, resolve, hu, Deferred.ofValue, invoke]
          rw [hexec]
          refine upon_does (Does.mono (hcall ys σ I C.base w s.h fid _ d _ (gb + i) s.g v h' g' (vb ++ args.toList.map a.eval ++ vc) hop hys H.heap H.hb (by simp [hlb, hlc]) ?_ hgen hlt H.fresh) ?_)
          · exact reps_append (by simp [hlb]) (reps_append hlb hrb hargs) hrc
          · rintro u w' ⟨σ', I', hp⟩
            exact hK σ' I' w' _ ⟨H.put hdst' hp.ext hp.rep hp.heap hp.high, hp.ext, hp.low, hp.grow⟩
    · rename_i r m args ats ho
      rw [Oper.semAt_eq _ _ _ (fun c e => by rw [ho] at e; cases e)]
      simp only [Option.bind_eq_some_iff] at hop
      obtain ⟨⟨fid, rv⟩, hmth, hop⟩ := hop
      obtain ⟨v1, hrv, hrun⟩ := method_rep (hρ r) hmth
      have hargs : ∀ (j : Nat) (p : AV) (v : Value), (args.toList.map (evalA s.t))[j]? = some p → (args.toList.map a.eval)[j]? = some v → Rep σ I w p v := by
        intro j p v hp hv
        simp only [List.getElem?_map, Option.map_eq_some_iff] at hp hv
        obtain ⟨x, hx, rfl⟩ := hp
        obtain ⟨y, hy, rfl⟩ := hv
        rw [hx] at hy
        injection hy with hy
        subst hy
        exact hρ x
      have hexec : (execOp a.eval o).run E.P w = (callFunc fid ([v1] ++ args.toList.map a.eval).toArray).run E.P w := by
        have harr : #[v1] ++ args.map a.eval = ([v1] ++ args.toList.map a.eval).toArray := by
          apply Array.ext'
          simp
        have h0 : ∀ (x : Value) (l : Array Value), (#[x] ++ l)[0]? = some x := fun x l => by
          rw [Array.getElem?_append_left (by simp)]; rfl
        have h1 : ∀ (x : Value) (l : Array Value), (#[x] ++ l).extract 1 (#[x] ++ l).size = l := fun x l => by
          apply Array.ext'
          simp
        rw [← harr, ← hrun]
        simp only [execOp, ho, resolve, Sem.run_bind, Sem.run_pure, Result.andThen_ok, invoke, h0, h1]
      rw [hexec]
      refine upon_does (Does.mono (hcall ys σ I C.base w s.h fid _ d _ (gb + i) s.g v h' g' ([v1] ++ args.toList.map a.eval) hop hys H.heap H.hb (by simp) ?_ hgen hlt H.fresh) ?_)
      · refine reps_append rfl (fun j p u hp hu => ?_) hargs
        cases j with
        | zero => simp at hp hu; subst hp; subst hu; exact hrv
        | succ j => simp at hp
      · rintro u w' ⟨σ', I', hp⟩
        exact hK σ' I' w' _ ⟨H.put hdst' hp.ext hp.rep hp.heap hp.high, hp.ext, hp.low, hp.grow⟩
    · split at hop
      · cases hop
      · simp only [Option.map_eq_some_iff, Prod.mk.injEq] at hop
        obtain ⟨⟨v1, h1⟩, hop, rfl, rfl, rfl⟩ := hop
        rw [Oper.semAt_eq _ _ _ (aop_no_defer hop)]
        obtain ⟨nx, w', u, σ', I', g1, g2, g3, g4, g5, g6⟩ := aop_sound hop hρ H.heap hgen H.hb
        rw [g1]
        have hfr : ∀ k, s.g ≤ k → σ' k = none := fun k hk => by rw [g6 k (by omega)]; exact H.fresh k hk
        have : Step C (gb + i) σ I w s σ' I' w' { t := putD s.t o.dst v1, h := h1, g := s.g } (a.put o.dst u) := ⟨H.put hdst' g5 g3 g4 hfr, g5, fun k _ hk => g6 k hk, Nat.le_refl _⟩
        rcases g2 with rfl | ⟨rfl, rfl⟩
        · exact hK σ' I' w' _ this
        · exact hK σ' I' w' _ this
end
end Go.Proofs.YtcoeigibikbfdaaGreatDoor.Abs

namespace Go.Proofs.YtcoeigibikbfdaaGreatDoor.Abs
open Go Go.RowKit
inductive Dep (ops : Array Oper) : Nat → Nat → Prop
  | one {i : Nat} {o : Oper} {e : Edge} (ho : ops[i]? = some o) (he : e ∈ o.after) (hb : Region.binds .any e = true) : Dep ops i e.on
  | more {i j : Nat} {o : Oper} {e : Edge} (ho : ops[i]? = some o) (he : e ∈ o.after) (hb : Region.binds .any e = true) (h : Dep ops e.on j) : Dep ops i j
theorem one_spec (look : Nat → Nat) (k : Nat) : ∀ (l : List Edge) (s : Nat), (l.foldl (fun s e => if Region.binds .any e then s ||| 2 ^ e.on ||| look e.on else s) s).testBit k = true →
    s.testBit k = true ∨ ∃ e ∈ l, Region.binds .any e = true ∧ (e.on = k ∨ (look e.on).testBit k = true)
  | [], s, h => .inl h
  | e :: l, s, h => by
    rw [List.foldl_cons] at h
    rcases one_spec look k l _ h with h | ⟨e', he', h⟩
    · by_cases hb : Region.binds .any e = true
      · rw [if_pos hb, Nat.testBit_or, Nat.testBit_or] at h
        simp only [Bool.or_eq_true] at h
        rcases h with (h | h) | h
        · exact .inl h
        · rw [Nat.testBit_two_pow] at h
          exact .inr ⟨e, by simp, hb, .inl (by simpa using h)⟩
        · exact .inr ⟨e, by simp, hb, .inr h⟩
      · rw [if_neg hb] at h; exact .inl h
    · exact .inr ⟨e', by simp [he'], h⟩
theorem pairsOk_spec {E : Env} {ops : Array Oper} {o : Oper} {v : Nat} : ∀ (xs : List Oper) (j : Nat), pairsOk E ops o v xs j = true → ∀ (m : Nat) (x : Oper), xs[m]? = some x → v.testBit (j + m) = true ∨ swapOk E ops x o = true
  | [], _, _, m, x, hx => by simp at hx
  | y :: ys, j, h, m, x, hx => by
    simp only [pairsOk, Bool.and_eq_true, Bool.or_eq_true] at h
    cases m with
    | zero => simp at hx; subst hx; exact h.1
    | succ m =>
      have := pairsOk_spec ys (j + 1) h.2 m x (by simpa using hx)
      rwa [show j + 1 + m = j + (m + 1) by omega] at this
theorem lookB_cons (i j v : Nat) (acc : List Nat) : lookB (i + 1) (v :: acc) j = if j = i then v else lookB i acc j := by
  unfold lookB
  by_cases h : j = i
  · subst h; simp
  · rw [if_neg h]
    by_cases h2 : j < i
    · rw [if_pos h2, if_pos (by omega), show i + 1 - 1 - j = (i - 1 - j) + 1 by omega]; simp
    · rw [if_neg h2, if_neg (by omega)]
theorem drawGo_spec {E : Env} {ops : Array Oper} : ∀ (rest : List Oper) (i : Nat) (acc : List Nat), drawGo E ops ops.toList rest i acc = true → (∀ m, rest[m]? = ops[i + m]?) →
    (∀ j k, (lookB i acc j).testBit k = true → Dep ops j k) → ∀ (m : Nat) (o : Oper), i ≤ m → ops[m]? = some o → backOk m o = true ∧ ∀ j, j < m → Dep ops m j ∨ SwapAt E ops j m
  | [], i, acc, _, hr, _, m, o, hm, ho => by
    have := hr (m - i)
    rw [show i + (m - i) = m by omega, ho] at this
    simp at this
  | x :: rest, i, acc, h, hr, hacc, m, o, hm, ho => by
    have hx : ops[i]? = some x := by simpa using (hr 0).symm
    rw [drawGo, CheckFast.force_eq] at h
    simp only [Bool.and_eq_true] at h
    obtain ⟨⟨h1, h2⟩, h3⟩ := h
    have hmask : ∀ k, (CheckFast.one (lookB i acc) x).testBit k = true → Dep ops i k := by
      intro k hk
      unfold CheckFast.one at hk
      rw [← Array.foldl_toList] at hk
      rcases one_spec _ k _ _ hk with h0 | ⟨e, he, hb, h0⟩
      · simp at h0
      · have he' : e ∈ x.after := by simpa using he
        rcases h0 with rfl | h0
        · exact .one hx he' hb
        · exact .more hx he' hb (hacc _ _ h0)
    rcases Nat.eq_or_lt_of_le hm with rfl | hlt
    · rw [hx] at ho
      injection ho with ho
      subst ho
      refine ⟨h1, fun j hj => ?_⟩
      have hjs : j < ops.toList.length := by
        have : i < ops.size := by
          rcases Nat.lt_or_ge i ops.size with h | h
          · exact h
          · rw [Array.getElem?_eq_none h] at hx; cases hx
        simpa using Nat.lt_trans hj this
      have hy : (ops.toList.take i)[j]? = some ops.toList[j] := by
        rw [List.getElem?_take, if_pos hj, List.getElem?_eq_getElem hjs]
      rcases pairsOk_spec _ 0 h2 j _ hy with hb | hb
      · rw [Nat.zero_add] at hb; exact .inl (hmask j hb)
      · exact .inr ⟨_, _, by simp, hx, hb⟩
    · refine drawGo_spec rest (i + 1) _ h3 (fun m => ?_) ?_ m o hlt ho
      · have := hr (m + 1)
        rw [show i + (m + 1) = i + 1 + m by omega] at this
        simpa using this
      · intro j k hjk
        rw [lookB_cons] at hjk
        split at hjk
        · rename_i hji
          rw [hji]
          exact hmask k hjk
        · exact hacc _ _ hjk
theorem drawOk_spec {E : Env} {ops : Array Oper} (h : drawOk E ops = true) (m : Nat) (o : Oper) (ho : ops[m]? = some o) : backOk m o = true ∧ ∀ j, j < m → Dep ops m j ∨ SwapAt E ops j m :=
  drawGo_spec ops.toList 0 [] h (fun m => by simp) (fun j k hk => by simp [lookB] at hk) m o (Nat.zero_le _) ho
def Closed (ops : Array Oper) (listed : Array Bool) : Prop := ∀ (i : Nat) (o : Oper) (e : Edge), listed.getD i false = true → ops[i]? = some o → e ∈ o.after → Region.binds .any e = true → listed.getD e.on false = true
theorem Dep.listed {ops : Array Oper} {listed : Array Bool} (hc : Closed ops listed) {i j : Nat} (hd : Dep ops i j) : listed.getD i false = true → listed.getD j false = true := by
  induction hd with
  | one ho he hb => exact fun hi => hc _ _ _ hi ho he hb
  | more ho he hb _ ih => exact fun hi => ih (hc _ _ _ hi ho he hb)
theorem Dep.ready {ops : Array Oper} {listed : Array Bool} (hc : Closed ops listed) {i j : Nat} (hr : ∀ (o : Oper) (e : Edge), ops[i]? = some o → e ∈ o.after → Region.binds .any e = true → listed.getD e.on false = true)
    (hd : Dep ops i j) : listed.getD j false = true := by
  cases hd with
  | one ho he hb => exact hr _ _ ho he hb
  | more ho he hb h => exact h.listed hc (hr _ _ ho he hb)
section
variable {E : Env} {call : CallFn} {ys : Ys} {st : Bool} {d gb : Nat} {C : Cx} {all : Array Oper} {σ : Sig} {I : Blk} {w : World} {s s' : St} {a : Act}
structure Done (C : Cx) (gb : Nat) (σ : Sig) (I : Blk) (w : World) (s' : St) (σ' : Sig) (I' : Blk) (w' : World) (a' : Act) : Prop where
  rel : SRel C σ' I' w' s' a'
  ext : Ext C.base σ I w σ' I' w'
  low : ∀ k, k < gb → σ' k = σ k
  grow : gb ≤ s'.g
theorem opL_sound (hcall : CallOk E call) (hwf : ∀ o ∈ all, dstOk C.n o = true) {i : Nat} (hs : opL E call ys st d gb all i s = some s') (H : SRel C σ I w s a) (hys : YsOk E ys σ I w)
    (hgen : σ (gb + i) = none) (hlt : gb + i < s.g) {Q : Exit → Act → World → Prop} {K : Act → World → Prop}
    (hK : ∀ σ' I' w' a', Step C (gb + i) σ I w s σ' I' w' s' a' → K a' w') : wpOpIn (WF C.r) 0 E.P all Q i K a w := by
  unfold opL at hs
  cases hi : all[i]? with
  | none =>
    rw [hi] at hs
    injection hs with hs
    subst hs
    unfold wpOpIn
    rw [hi]
    exact hK σ I w a ⟨H, Ext.refl _ _ _ _, fun _ _ _ => rfl, Nat.le_refl _⟩
  | some o =>
    rw [hi] at hs
    exact ostep_sound hcall hi (hwf o (Array.mem_of_getElem? hi)) hs H hys hgen hlt hK
theorem seq_wp (hcall : CallOk E call) (hwf : ∀ o ∈ all, dstOk C.n o = true) {Q : Exit → Act → World → Prop} : ∀ (L : List Nat) (σ : Sig) (I : Blk) (w : World) (s : St) (a : Act), L.Nodup → (∀ i ∈ L, σ (gb + i) = none ∧ gb + i < s.g) →
    opsL E call ys st d gb all L s = some s' → SRel C σ I w s a → YsOk E ys σ I w → gb ≤ s.g → (∀ σ' I' w' a', Done C gb σ I w s' σ' I' w' a' → Q .normal a' w') → wpOpsIn (WF C.r) 0 E.P all Q L a w
  | [], σ, I, w, s, a, _, _, h, H, _, hgb, hQ => by
    simp only [opsL, Option.some.injEq] at h
    subst h
    exact hQ σ I w a ⟨H, Ext.refl _ _ _ _, fun _ _ => rfl, hgb⟩
  | i :: L, σ, I, w, s, a, hnd, hg, h, H, hys, hgb, hQ => by
    simp only [opsL, Option.bind_eq_some_iff] at h
    obtain ⟨s1, h1, h2⟩ := h
    rw [wpOpsIn_cons]
    refine opL_sound hcall hwf h1 H hys (hg i (by simp)).1 (hg i (by simp)).2 fun σ1 I1 w1 a1 hs1 => ?_
    have hnd' := List.nodup_cons.1 hnd
    refine seq_wp hcall hwf L σ1 I1 w1 s1 a1 hnd'.2 (fun j hj => ?_) h2 hs1.rel (hys.later hs1.ext.later) (Nat.le_trans hgb hs1.grow) fun σ' I' w' a' hd => hQ σ' I' w' a' ⟨hd.rel, hs1.ext.trans hd.ext, fun k hk => ?_, hd.grow⟩
    · have hji : j ≠ i := fun e => hnd'.1 (e ▸ hj)
      have := hg j (by simp [hj])
      exact ⟨by rw [hs1.low _ this.2 (by omega)]; exact this.1, Nat.lt_of_lt_of_le this.2 hs1.grow⟩
    · rw [hd.low k hk, hs1.low k (by omega) (by omega)]
theorem any_wp (hcall : CallOk E call) (hfz : FzCall E call) (hdr : drawOk E all = true) (hwf : ∀ o ∈ all, dstOk C.n o = true) {Q : Exit → Act → World → Prop} :
    ∀ (fuel : Nat) (R : List Nat) (listed : Array Bool) (σ : Sig) (I : Blk) (w : World) (s : St) (a : Act), R.length ≤ fuel → R.Pairwise (· < ·) → (∀ i, i ∈ R ↔ i < all.size ∧ listed.getD i true = false) → listed.size = all.size → Closed all listed →
    (∀ i ∈ R, σ (gb + i) = none ∧ gb + i < s.g) → opsL E call ys true d gb all R s = some s' → SRel C σ I w s a → YsOk E ys σ I w → gb ≤ s.g →
    (∀ σ' I' w' a', Done C gb σ I w s' σ' I' w' a' → Q .normal a' w') → wpAnyIn (WF C.r) 0 E.P .any all Q fuel listed a w := by
  intro fuel
  induction fuel with
  | zero =>
    intro R listed σ I w s a hf hp hR hls hcl hg h H hys hgb hQ
    have : R = [] := by cases R <;> simp at hf ⊢
    subst this
    simp only [opsL, Option.some.injEq] at h
    subst h
    refine ⟨?_, hQ σ I w a ⟨H, Ext.refl _ _ _ _, fun _ _ => rfl, hgb⟩⟩
    rw [List.eq_nil_iff_forall_not_mem]
    intro i hi
    rw [mem_ready] at hi
    obtain ⟨h0, o, ho, _⟩ := hi
    have := (hR i).2 ⟨(Array.getElem?_eq_some_iff.1 ho).1, h0⟩
    simp at this
  | succ fuel ih =>
    intro R listed σ I w s a hf hp hR hls hcl hg h H hys hgb hQ
    have hlist : ∀ i, i < all.size → i ∉ R → listed.getD i false = true := by
      intro i hi hn
      have : ¬ (listed.getD i true = false) := fun e => hn ((hR i).2 ⟨hi, e⟩)
      have hi' : i < listed.size := by omega
      simp [hi'] at this ⊢
      exact this
    refine ⟨fun hnone => ?_, fun i hi => ?_⟩
    · cases R with
      | nil =>
        simp only [opsL, Option.some.injEq] at h
        subst h
        exact hQ σ I w a ⟨H, Ext.refl _ _ _ _, fun _ _ => rfl, hgb⟩
      | cons i R =>
        exfalso
        have hiR := (hR i).1 (by simp)
        have hio : all[i]? = some all[i] := by simp [hiR.1]
        have hb := (drawOk_spec hdr i _ hio).1
        have : i ∈ Region.ready .any all listed := by
          rw [mem_ready]
          refine ⟨hiR.2, _, hio, fun e he hbd => ?_⟩
          have hlt : e.on < i := by
            unfold backOk at hb
            rw [Array.all_eq_true_iff_forall_mem] at hb
            have := hb e he
            rw [hbd] at this
            simpa using this
          refine hlist e.on (by omega) fun hm => ?_
          simp only [List.mem_cons] at hm
          rcases hm with hm | hm
          · omega
          · have := (List.pairwise_cons.1 hp).1 _ hm
            omega
        rw [hnone] at this
        simp at this
    · rw [mem_ready] at hi
      obtain ⟨h0, o, ho, hpre⟩ := hi
      have hisz : i < all.size := (Array.getElem?_eq_some_iff.1 ho).1
      have hiR : i ∈ R := (hR i).2 ⟨hisz, h0⟩
      obtain ⟨R1, R2, rfl⟩ := List.append_of_mem hiR
      have hpw := List.pairwise_append.1 hp
      have hsw : ∀ r ∈ R1, SwapAt E all r i := by
        intro r hr
        have hri : r < i := hpw.2.2 r hr i (by simp)
        rcases (drawOk_spec hdr i o ho).2 r hri with hd | hd
        · exfalso
          have := hd.ready hcl fun o' e ho' he hb => by
            rw [ho] at ho'
            injection ho' with ho'
            subst ho'
            exact hpre e he hb
          have hr2 := ((hR r).1 (by simp [hr])).2
          have hr1 : r < listed.size := by omega
          simp [hr1] at this hr2
          rw [this] at hr2
          cases hr2
        · exact hd
      have h2 := bubble hfz R1 R2 s s' hsw h
      simp only [opsL, Option.bind_eq_some_iff] at h2
      obtain ⟨s1, h3, h4⟩ := h2
      have hgi := hg i hiR
      refine opL_sound hcall hwf h3 H hys hgi.1 hgi.2 fun σ1 I1 w1 a1 hs1 => ?_
      have hne : ∀ j, j ∈ R1 ++ R2 → j ≠ i := by
        intro j hj
        rw [List.mem_append] at hj
        rcases hj with hj | hj
        · have := hpw.2.2 j hj i (by simp); omega
        · have := (List.pairwise_cons.1 hpw.2.1).1 j hj; omega
      refine ih (R1 ++ R2) (listed.setIfInBounds i true) σ1 I1 w1 s1 a1 ?_ ?_ ?_ ?_ ?_ ?_ h4 hs1.rel (hys.later hs1.ext.later) (Nat.le_trans hgb hs1.grow) fun σ' I' w' a' hd => hQ σ' I' w' a' ⟨hd.rel, hs1.ext.trans hd.ext, fun k hk => ?_, hd.grow⟩
      · simp at hf ⊢; omega
      · exact List.pairwise_append.2 ⟨hpw.1, (List.pairwise_cons.1 hpw.2.1).2, fun x hx y hy => hpw.2.2 x hx y (by simp [hy])⟩
      · intro j
        by_cases hji : j = i
        · subst hji
          have : j < listed.size := by omega
          simp only [Array.getD_eq_getD_getElem?, Array.getElem?_setIfInBounds_self_of_lt this, Option.getD_some]
          constructor
          · intro hj; exact absurd rfl (hne j hj)
          · simp
        · rw [getD_set_ne true (Ne.symm hji), ← hR j]
          simp [hji]
      · simpa using hls
      · intro j o' e hj ho' he hb
        by_cases hji : j = i
        · subst hji
          rw [ho] at ho'
          injection ho' with ho'
          subst ho'
          exact getD_set_true (hpre e he hb)
        · rw [getD_set_ne false (Ne.symm hji)] at hj
          exact getD_set_true (hcl j o' e hj ho' he hb)
      · intro j hj
        have := hg j (by rw [List.mem_append] at hj ⊢; rcases hj with hj | hj <;> simp [hj])
        exact ⟨by rw [hs1.low _ this.2 (by have := hne j hj; omega)]; exact this.1, Nat.lt_of_lt_of_le this.2 hs1.grow⟩
      · rw [hd.low k hk, hs1.low k (by omega) (by omega)]
theorem kill_rep {base : Blk} {h : Heap} (H : HRep σ I base w h) : ∀ (os : List Oper) (h : Heap), HRep σ I base w h → HRep σ I base w (killKeys E d os h)
  | [], _, H => H
  | o :: os, h, H => by
    unfold killKeys
    refine kill_rep H os _ ?_
    split
    · exact H.kill _ _
    · exact H
theorem region_sound (hcall : CallOk E call) (hfz : FzCall E call) {id : Nat} {ops : Array Oper} {draw : Bool} (hmix : draw = true → E.P.follows .mixedOrders = true) (hwf : codeWf E C.n (.region id ops draw) = true) {fuel : Nat} {x : AExit}
    (h : codeF E call ys d fuel (.region id ops draw) s = some (x, s')) (H : SRel C σ I w s a) (hys : YsOk E ys σ I w) {Q : Exit → Act → World → Prop}
    (hQ : ∀ σ' I' w' a', Done C s.g σ I w s' σ' I' w' a' → Q .normal a' w') : (Code.region id ops draw).wpIn (WF C.r) 0 E.P Q a w := by
  simp only [codeWf, Bool.and_eq_true, Bool.or_eq_true, Bool.not_eq_true'] at hwf
  have hdst : ∀ o ∈ ops, dstOk C.n o = true := by
    have := hwf.1
    rw [Array.all_eq_true_iff_forall_mem] at this
    exact this
  simp only [codeF] at h
  split at h
  · cases h
  rename_i hbad
  simp only [Option.map_eq_some_iff, Prod.mk.injEq] at h
  obtain ⟨s1, h, rfl, rfl⟩ := h
  rw [opsF_text] at h
  cases draw with
  | false =>
    simp only [Bool.false_eq_true, if_false] at h
    refine wpIn_region (seq_wp hcall hdst _ σ I w _ a List.nodup_range (fun i hi => ?_) h ⟨H.tmp, H.heap, fun k hk => H.fresh k (by simp at hk; omega), H.hb, H.hn, H.marks, H.nodup, H.around, H.lob, H.losz⟩ hys (by simp) fun σ' I' w' a' hd => hQ σ' I' w' a' hd)
    rw [List.mem_range] at hi
    exact ⟨H.fresh _ (by omega), by simp; omega⟩
  | true =>
    simp only [if_true] at h
    have hdr : drawOk E ops = true := (hwf.2.resolve_left (by simp)).resolve_left (by simpa using hbad)
    have hx : Ext C.base σ I w σ I { w with drawn := w.drawn + 1 } := ⟨fun _ _ h => h, fun _ h => h, fun _ h => .inl h, ⟨fun _ _ => rfl, fun _ _ _ h => h, fun _ r h => ⟨r, h, SameLoop.refl r⟩, fun _ h => h⟩, ⟨rfl, rfl, rfl, Nat.le_refl _, fun _ _ => rfl⟩⟩
    have H1 : HRep σ I C.base { w with drawn := w.drawn + 1 } (killKeys E d ops.toList s.h) := by
      have := H.heap.keep (σ' := σ) (I' := I) (w' := { w with drawn := w.drawn + 1 }) (fun _ _ h => h) (fun _ h => h) hx.kp H.heap.inW (fun d s b hb => ⟨rfl, (blkOf_facts (H.heap.rows d s) hb).2.1⟩)
      exact kill_rep this _ _ this
    refine wpIn_region_any (hmix rfl) (any_wp hcall hfz hdr hdst ops.size (List.range ops.size) _ σ I _ _ a (by simp) List.pairwise_lt_range (fun i => ?_) (by simp) ?_ (fun i hi => ?_) h
      ⟨fun i => hx.rep (H.tmp i), H1, fun k hk => H.fresh k (by simp at hk; omega), H.hb, H.hn, H.marks, H.nodup, H.around, H.lob, H.losz⟩ (hys.later hx.later) (by simp) fun σ' I' w' a' hd => hQ σ' I' w' a' ⟨hd.rel, hx.trans hd.ext, hd.low, hd.grow⟩)
    · rw [List.mem_range]
      constructor
      · intro hi; exact ⟨hi, by simp [hi]⟩
      · exact fun h => h.1
    · intro i o e hi
      exfalso
      revert hi
      simp only [Array.getD_eq_getD_getElem?, Array.getElem?_replicate]
      split <;> simp
    · rw [List.mem_range] at hi
      exact ⟨H.fresh _ (by omega), by simp; omega⟩
end
end Go.Proofs.YtcoeigibikbfdaaGreatDoor.Abs

namespace Go.Proofs.YtcoeigibikbfdaaGreatDoor.Abs
open Go Go.RowKit
section
variable {E : Env} {call : CallFn} {ys : Ys} {d : Nat} {base : Blk} {C : Cx} {σ : Sig} {I : Blk} {w : World} {h : Heap} {s s' : St} {a : Act}
def toExit : AExit → Exit
  | .normal => .normal
  | .exit id => .exit id
  | .goto l => .goto l
  | .ret => .ret
theorem Done.refl (H : SRel C σ I w s a) : Done C s.g σ I w s σ I w a := ⟨H, Ext.refl _ _ _ _, fun _ _ => rfl, Nat.le_refl _⟩
theorem Done.trans {σ1 σ2 : Sig} {I1 I2 : Blk} {w1 w2 : World} {s1 s2 : St} {a1 a2 : Act} {gb : Nat} (h : Done C gb σ I w s1 σ1 I1 w1 a1) (k : Done C s1.g σ1 I1 w1 s2 σ2 I2 w2 a2) : Done C gb σ I w s2 σ2 I2 w2 a2 :=
  ⟨k.rel, h.ext.trans k.ext, fun x hx => by rw [k.low x (Nat.lt_of_lt_of_le hx h.grow), h.low x hx], Nat.le_trans h.grow k.grow⟩
def Sound (E : Env) (C : Cx) (ys : Ys) (c : Code) (s : St) (x : AExit) (s' : St) : Prop := ∀ (σ : Sig) (I : Blk) (w : World) (a : Act) (Q : Exit → Act → World → Prop), SRel C σ I w s a → YsOk E ys σ I w →
  (∀ σ' I' w' a', Done C s.g σ I w s' σ' I' w' a' → Q (toExit x) a' w') → c.wpIn (WF C.r) 0 E.P Q a w
theorem least_ex {p : Nat → Prop} (h : ∃ n, p n) : ∃ n, p n ∧ ∀ m, p m → n ≤ m := by
  obtain ⟨n, hn⟩ := h
  induction n using Nat.strongRecOn with
  | _ n ih =>
    by_cases hs : ∃ m, m < n ∧ p m
    · obtain ⟨m, hm, hp⟩ := hs
      exact ih m hm hp
    · exact ⟨n, hn, fun m hm => Nat.le_of_not_lt fun hlt => hs ⟨m, hlt, hm⟩⟩
theorem loop_sound {c : Code} {body : St → Option (AExit × St)} (hbody : ∀ s x s', body s = some (x, s') → Sound E C ys c s x s') {m : Nat} {x : AExit} (hm : loopF body m s = some (x, s')) : Sound E C ys (.loop c) s x s' := by
  intro σ I w a Q H hys hQ
  let J : Nat → Act → World → Prop := fun k a1 w1 => ∃ σ1 I1 s1, loopF body k s1 = some (x, s') ∧ Done C s.g σ I w s1 σ1 I1 w1 a1
  classical
  let μ : Act → World → Nat := fun a1 w1 => if h : ∃ k, J k a1 w1 then Classical.choose (least_ex h) else 0
  refine wpIn_loop (fun a1 w1 => ∃ k, J k a1 w1) μ ⟨m, σ, I, s, hm, Done.refl H⟩ fun a1 w1 hex => ?_
  have hμ : μ a1 w1 = Classical.choose (least_ex hex) := dif_pos hex
  obtain ⟨⟨σ1, I1, s1, hk, hd⟩, _⟩ := Classical.choose_spec (least_ex hex)
  rw [← hμ] at hk
  cases hmu : μ a1 w1 with
  | zero => rw [hmu] at hk; simp [loopF] at hk
  | succ k =>
    rw [hmu] at hk
    simp only [loopF] at hk
    cases hb : body s1 with
    | none => simp [hb] at hk
    | some r =>
      obtain ⟨y, s2⟩ := r
      rw [hb] at hk
      refine hbody s1 y s2 hb σ1 I1 w1 a1 _ hd.rel (hys.later hd.ext.later) fun σ2 I2 w2 a2 hd2 => ?_
      cases y with
      | normal =>
        have hJ : J k a2 w2 := ⟨σ2, I2, s2, hk, hd.trans hd2⟩
        refine ⟨⟨k, hJ⟩, ?_⟩
        have hex2 : ∃ k, J k a2 w2 := ⟨k, hJ⟩
        have : μ a2 w2 = Classical.choose (least_ex hex2) := dif_pos hex2
        rw [this]
        have := (Classical.choose_spec (least_ex hex2)).2 k hJ
        omega
      | _ =>
        simp only [Option.some.injEq, Prod.mk.injEq] at hk
        obtain ⟨rfl, rfl⟩ := hk
        exact hQ σ2 I2 w2 a2 (hd.trans hd2)
theorem putObj_keep {b : Nat} {r r' : Loop} (hh : w.heap[b]? = some (Obj.loop r)) (hs : SameLoop r r') (hI : ¬ I b) (hb : ¬ base b) : Ext base σ I w σ I (w.putObj b (.loop r')) := by
  have hlt := lt_of_heap hh
  have hoth : ∀ x, x ≠ b → (w.putObj b (.loop r')).heap[x]? = w.heap[x]? := fun x hx => World.putObj_heap_other hx
  refine ⟨fun _ _ h => h, fun _ h => h, fun _ h => .inl h, ⟨fun x hx => hoth x fun e => hI (e ▸ hx), fun x e n hx => ?_, fun x r0 hx => ?_, fun x hx => ?_⟩, ⟨rfl, rfl, rfl, by simp [World.putObj], fun x hx => hoth x (fun e => hb (e ▸ hx))⟩⟩
  · have : x ≠ b := fun e' => by subst e'; unfold World.shape? at hx; rw [hh] at hx; cases hx
    rw [shape_of_heap (hoth x this)]; exact hx
  · by_cases e : x = b
    · subst e
      rw [hh] at hx
      injection hx with hx
      injection hx with hx
      subst hx
      exact ⟨r', World.putObj_heap_same hlt, hs⟩
    · exact ⟨r0, by rw [hoth x e]; exact hx, SameLoop.refl r0⟩
  · have : x ≠ b := fun e' => by subst e'; rw [hh] at hx; cases hx
    rw [hoth x this]; exact hx
theorem HRep.loopPut (H : HRep σ I base w h) {d s g b o k : Nat} {st : LpSt} (hl : Abs.live h d s g = .lp st) (hs : σ g = some (b, o, k)) {r' : Loop} (row : Row) (hrow : row = row0 ∨ ∃ st', row = ⟨g, .lp st'⟩ ∧ LpOk st' r') :
    ∃ r, w.heap[b]? = some (Obj.loop r) ∧ LpOk st r ∧ (SameLoop r r' → HRep σ I base (w.putObj b (.loop r')) (hput h d s row) ∧ Ext base σ I w σ I (w.putObj b (.loop r'))) := by
  obtain ⟨b', k', hs', ⟨r, hh, hr⟩, hI, hb⟩ := H.live hl (by simp)
  rw [hs] at hs'
  simp only [Option.some.injEq, Prod.mk.injEq] at hs'
  obtain ⟨rfl, rfl, rfl⟩ := hs'
  refine ⟨r, hh, hr, fun hsame => ?_⟩
  have hx : Ext base σ I w σ I (w.putObj b (.loop r')) := putObj_keep hh hsame hI hb
  have hlr := live_row hl (by simp)
  have hbk : blkOf σ (hget h d s) = some b := by rw [hlr]; simp [blkOf, hs]
  refine ⟨H.put (fun _ _ h => h) (fun _ h => h) hx.kp (hx.kp.inW H.inW) d s row ?_ ?_, hx⟩
  · rcases hrow with rfl | ⟨st', rfl, hst'⟩
    · trivial
    · exact ⟨b, k, hs, ⟨r', World.putObj_heap_same (lt_of_heap hh), hst'⟩, hI, hb⟩
  · intro d' s' b' hne hb'
    have hf := blkOf_facts (H.rows d' s') hb'
    have hneb : b' ≠ b := fun e => by
      subst e
      exact hne (H.apart d s d' s' _ hbk hb')
    refine ⟨World.putObj_heap_other hneb, hf.2.1, fun e => ?_⟩
    rcases hrow with rfl | ⟨st', rfl, hst'⟩
    · simp [blkOf, row0] at e
    · simp [blkOf, hs] at e
      exact hneb e.symm
theorem setTs_rep : ∀ (ps : List Tmp) (args : List AV) (us : List Value) (t : List AV) (tm : Array Value), us.length = args.length → (∀ p ∈ ps, p < tm.size) →
    (∀ (j : Nat) (p : AV) (u : Value), args[j]? = some p → us[j]? = some u → Rep σ I w p u) → (∀ i, Rep σ I w (getT t i) (tm.getD i undef)) →
    (∀ i, Rep σ I w (getT (setTs ps args t) i) (((ps.zip us).foldl (fun x (p, v) => x.setIfInBounds p v) tm).getD i undef)) ∧ ((ps.zip us).foldl (fun x (p, v) => x.setIfInBounds p v) tm).size = tm.size
  | [], args, us, t, tm, _, _, _, ht => by simpa [setTs] using ht
  | p :: ps, [], us, t, tm, hl, _, _, ht => by
    have : us = [] := by simpa using hl
    subst this
    simpa [setTs] using ht
  | p :: ps, v :: args, [], t, tm, hl, _, _, _ => by simp at hl
  | p :: ps, v :: args, u :: us, t, tm, hl, hp, hr, ht => by
    simp only [setTs, List.zip_cons_cons, List.foldl_cons]
    have := setTs_rep ps args us (putT t p v) (tm.setIfInBounds p u) (by simpa using hl) (fun q hq => by simp; exact hp q (by simp [hq])) (fun j x y hx hy => hr (j + 1) x y (by simpa using hx) (by simpa using hy)) ?_
    · exact ⟨this.1, by rw [this.2]; simp⟩
    · intro i
      rw [getT_putT, getD_setIf _ _ _ (hp p (by simp))]
      by_cases e : p = i
      · rw [if_pos e, if_pos e]; exact hr 0 v u (by simp) (by simp)
      · rw [if_neg e, if_neg e]; exact ht i
theorem enter_sound (H : SRel C σ I w s a) {ps : Array Tmp} {assign body : Code} (fn : FuncId) (slot : Nat) : ∃ l mark w1 rec, (Instr.enterLoop fn a.tmps ps assign body C.r).run E.P w = .ok (l, mark) w1 ∧
    HRep (upd σ s.g (l, 0, 0)) I C.base w1 (hput s.h d slot ⟨s.g, .lp .ready⟩) ∧ Ext C.base σ I w (upd σ s.g (l, 0, 0)) I w1 ∧ w1.heap[l]? = some (Obj.loop rec) ∧
    rec.tmps = a.tmps ∧ rec.params = ps ∧ rec.assign = assign ∧ rec.body = body ∧
    (∀ x ∈ mark ++ a.defers, ∃ D, C.lo ≤ D ∧ x = { target := .collected D, args := #[] } ∧ w1.heap[D]? = some (Obj.deferred (some []))) ∧ (mark ++ a.defers).Nodup := by
  have hg := H.fresh s.g (Nat.le_refl _)
  cases hr : C.r with
  | some l0 =>
    obtain ⟨x, hx⟩ := H.around l0 hr
    have hG : Grows w (w.alloc (.loop { state := .ready, pending := none, fn, tmps := a.tmps, params := ps, assign, body, defers := x.defers })) _ := ⟨rfl, rfl, rfl, rfl⟩
    have hext := Ext.push (x := (w.heap.size, 0, 0)) H.heap H.hb hg hG
    refine ⟨_, _, _, _, run_enterLoop_inner hx fn a.tmps ps assign body, H.heap.push hg hG d slot ?_, hext, hG.new, rfl, rfl, rfl, rfl, ?_, by simpa using H.nodup⟩
    · exact ⟨w.heap.size, 0, upd_same, ⟨_, hG.new, rfl, rfl⟩, fun hb => absurd (H.heap.lt _ hb) (by omega), H.hb.up⟩
    · intro x hx
      obtain ⟨D, h1, h2, h3⟩ := H.marks x (by simpa using hx)
      exact ⟨D, h1, h2, hext.kp.dfr D h3⟩
  | none =>
    have hG1 : Grows w (w.alloc (.deferred (some []))) _ := ⟨rfl, rfl, rfl, rfl⟩
    have hx1 : Ext C.base σ I w σ I (w.alloc (.deferred (some []))) := ⟨fun _ _ h => h, fun _ h => h, fun _ h => .inl h, hG1.keep H.heap.lt, hG1.below H.hb⟩
    have H1 : HRep σ I C.base (w.alloc (.deferred (some []))) s.h := H.heap.keep (fun _ _ h => h) (fun _ h => h) hx1.kp (hx1.kp.inW H.heap.inW) fun d s b hb => ⟨hG1.old (blkOf_facts (H.heap.rows d s) hb).1, (blkOf_facts (H.heap.rows d s) hb).2.1⟩
    have hG : Grows (w.alloc (.deferred (some []))) ((w.alloc (.deferred (some []))).alloc (.loop { state := .ready, pending := none, fn, tmps := a.tmps, params := ps, assign, body, defers := w.heap.size })) _ := ⟨rfl, rfl, rfl, rfl⟩
    have hsz : (w.alloc (.deferred (some []))).heap.size = w.heap.size + 1 := hG1.size
    have hB1 : Bnd C.base (w.alloc (.deferred (some []))).heap.size := H.hb.mono (by omega)
    have hext := Ext.push (x := (w.heap.size + 1, 0, 0)) H1 hB1 hg hG
    have hl : ((w.alloc (.deferred (some []))).alloc (.loop { state := .ready, pending := none, fn, tmps := a.tmps, params := ps, assign, body, defers := w.heap.size })).heap[w.heap.size + 1]? = some (Obj.loop { state := .ready, pending := none, fn, tmps := a.tmps, params := ps, assign, body, defers := w.heap.size }) := by
      rw [← hsz]; exact hG.new
    have hpush := H1.push (k := 0) (off := 0) hg hG d slot (b := .lp .ready) ⟨(w.alloc (.deferred (some []))).heap.size, 0, upd_same, ⟨_, hG.new, rfl, rfl⟩, fun hb => absurd (H1.lt _ hb) (by omega), hB1.up⟩
    rw [hsz] at hpush
    refine ⟨_, _, _, _, run_enterLoop_outer fn a.tmps ps assign body, hpush, hx1.trans hext, hl, rfl, rfl, rfl, rfl, ?_, ?_⟩
    · intro x hx
      simp only [List.cons_append, List.nil_append, List.mem_cons] at hx
      rcases hx with rfl | hx
      · exact ⟨w.heap.size, H.losz, rfl, by rw [hG.old (by omega)]; exact hG1.new⟩
      · obtain ⟨D, h1, h2, h3⟩ := H.marks x hx
        exact ⟨D, h1, h2, (hx1.trans hext).kp.dfr D h3⟩
    · simp only [List.cons_append, List.nil_append]
      refine List.nodup_cons.2 ⟨fun hx => ?_, H.nodup⟩
      obtain ⟨D, h1, h2, h3⟩ := H.marks _ hx
      have := lt_of_heap h3
      simp at h2
      omega
end
end Go.Proofs.YtcoeigibikbfdaaGreatDoor.Abs

namespace Go.Proofs.YtcoeigibikbfdaaGreatDoor.Abs
open Go Go.RowKit
section
variable {E : Env} {call : CallFn} {ys : Ys} {d : Nat} {base : Blk} {C : Cx} {σ : Sig} {I : Blk} {w : World} {h : Heap} {s s' : St} {a : Act}
theorem zip_fold (ps : Array Tmp) (us : List Value) (tm : Array Value) : (ps.zip us.toArray).foldl (fun x (q : Tmp × Value) => x.setIfInBounds q.1 q.2) tm = (ps.toList.zip us).foldl (fun x (q : Tmp × Value) => x.setIfInBounds q.1 q.2) tm := by
  rw [← Array.foldl_toList]
  congr 1
  simp
theorem SRel.later {σ' : Sig} {I' : Blk} {w' : World} {h' : Heap} (H : SRel C σ I w s a) (hx : Ext C.base σ I w σ' I' w') (hh : HRep σ' I' C.base w' h') (hf : ∀ k, s.g ≤ k → σ' k = none) : SRel C σ' I' w' { s with h := h' } a :=
  ⟨fun i => hx.rep (H.tmp i), hh, hf, H.hb.mono hx.below.size, H.hn, fun x hx' => let ⟨D, h1, h2, h3⟩ := H.marks x hx'; ⟨D, h1, h2, hx.kp.dfr D h3⟩, H.nodup,
   fun l hl => let ⟨x, hx'⟩ := H.around l hl; let ⟨x', h1, _⟩ := hx.kp.loop l x hx'; ⟨x', h1⟩, H.lob, Nat.le_trans H.losz hx.below.size⟩
theorem round_sound {assign body : Code} {fa fb : St → Option (AExit × St)} {n : Nat} (ha : ∀ C s x s', C.n = n → fa s = some (x, s') → Sound E C ys assign s x s') (hb : ∀ C s x s', C.n = n → fb s = some (x, s') → Sound E C ys body s x s')
    {ps : Array Tmp} (hps : ∀ p ∈ ps.toList, p < n) {tm : Array Value} (hn : n ≤ tm.size) {t : List AV} {slot gen l : Nat} {rec : Loop} (hys : YsOk E ys σ I w) (hσ : σ gen = some (l, 0, 0)) (hl : w.heap[l]? = some (Obj.loop rec))
    (ht : ∀ i, Rep σ I w (getT t i) (tm.getD i undef)) (h1 : rec.tmps = tm) (h2 : rec.params = ps) (h3 : rec.assign = assign) (h4 : rec.body = body) : YOk E.P gen (roundF fa fb ps t d slot gen) σ I w := by
  refine ⟨l, 0, 0, hσ, fun σ1 I1 w1 hL base h args us g b h' g' he H hB hlen hr hfr => ?_⟩
  unfold roundF at he
  split at he
  · rename_i hsz
    split at he
    · rename_i hlive
      have hσ1 := hL.sig _ _ hσ
      obtain ⟨rr, hh, hok, _⟩ := H.loopPut (r' := rec) hlive hσ1 row0 (.inl rfl)
      obtain ⟨rr', hh', hsame⟩ := hL.kp.loop l rec hl
      rw [hh] at hh'
      injection hh' with hh'
      injection hh' with hh'
      subst hh'
      have hpar : rr.params = ps := hsame.2.2.1.trans h2
      have htm : rr.tmps = tm := hsame.2.1.trans h1
      have has : rr.assign = assign := hsame.2.2.2.1.trans h3
      have hbo : rr.body = body := hsame.2.2.2.2.1.trans h4
      have hy := run_yield (P := E.P) (args := us.toArray) hh (by rw [hpar]; simp; omega)
      rw [hpar, htm, has, hbo, zip_fold] at hy
      refine ⟨_, _, _, _, hy, ?_⟩
      have hset := setTs_rep ps.toList args us t tm hlen (fun p hp => Nat.lt_of_lt_of_le (hps p hp) hn) hr (fun i => (ht i).mono hL.sig hL.blk hL.kp)
      split at he
      · rename_i s1 hs1
        split at he
        · rename_i hlive1
          split at he
          · rename_i x s2 hs2
            have H0 : SRel ⟨n, base, w1.heap.size, some l⟩ σ1 I1 w1 { t := setTs ps.toList args t, h := h, g := g } { tmps := (ps.toList.zip us).foldl (fun x (q : Tmp × Value) => x.setIfInBounds q.1 q.2) tm, defers := [] } :=
              ⟨hset.1, H, hfr, hB, Nat.le_trans hn (Nat.le_of_eq hset.2.symm), fun x hx => by simp at hx, List.nodup_nil, fun l' hl' => by cases hl'; exact ⟨rr, hh⟩, hB, Nat.le_refl _⟩
            refine roundIn_of_wpIn (F := WF none) trivial ?_
            refine ha ⟨n, base, w1.heap.size, some l⟩ _ .normal s1 rfl hs1 σ1 I1 w1 _ _ H0 (hys.later hL) fun σ2 I2 w2 a2 hd => ?_
            have hσ2 := hd.ext.sig _ _ hσ1
            obtain ⟨r2, hh2, hok2, hput2⟩ := hd.rel.heap.loopPut (r' := rec) hlive1 hσ2 row0 (.inl rfl)
            obtain ⟨r2, hh2, hok2, hput2⟩ := hd.rel.heap.loopPut (r' := { r2 with state := .busy }) hlive1 hσ2 ⟨gen, .lp .busy⟩ (.inr ⟨_, rfl, rfl⟩)
            have hh2' := hh2
            rename_i r20 hh20 hok20 hput20
            rw [hh20] at hh2'
            injection hh2' with hh2'
            injection hh2' with hh2'
            subst hh2'
            obtain ⟨H3, hx3⟩ := hput2 ⟨rfl, rfl, rfl, rfl, rfl, rfl⟩
            refine ⟨_, run_beginRound hh2 hok2.1, ?_⟩
            have hS3 := hd.rel.later hx3 H3 hd.rel.fresh
            refine hb ⟨n, base, w1.heap.size, some l⟩ _ x s2 rfl hs2 σ2 I2 _ a2 _ hS3 ((hys.later hL).later (hd.ext.trans hx3).later) fun σ4 I4 w4 a4 hd4 => ?_
            have hσ4 := hd4.ext.sig _ _ hσ2
            split at he
            · rename_i hlive4
              by_cases hxn : x = .normal
              · subst hxn
                simp only [if_true, Option.some.injEq, Prod.mk.injEq] at he
                obtain ⟨rfl, rfl, rfl⟩ := he
                obtain ⟨r5, hh5, hok5, _⟩ := hd4.rel.heap.loopPut (r' := rec) hlive4 hσ4 row0 (.inl rfl)
                obtain ⟨r5', hh5', hok5', hput5⟩ := hd4.rel.heap.loopPut (r' := { r5 with state := .ready, pending := none }) hlive4 hσ4 ⟨gen, .lp .ready⟩ (.inr ⟨_, rfl, rfl, rfl⟩)
                rw [hh5] at hh5'
                injection hh5' with hh5'
                injection hh5' with hh5'
                subst hh5'
                obtain ⟨H6, hx6⟩ := hput5 ⟨rfl, rfl, rfl, rfl, rfl, rfl⟩
                refine ⟨_, _, run_endRound none hh5, rfl, σ4, I4, H6, ((hd.ext.trans hx3).trans hd4.ext).trans hx6, fun k hk => ?_, hd4.rel.fresh, Nat.le_trans hd.grow hd4.grow⟩
                rw [hd4.low k (Nat.lt_of_lt_of_le hk hd.grow), hd.low k hk]
              · rw [if_neg hxn] at he
                simp only [Option.some.injEq, Prod.mk.injEq] at he
                obtain ⟨rfl, rfl, rfl⟩ := he
                obtain ⟨r5, hh5, hok5, _⟩ := hd4.rel.heap.loopPut (r' := rec) hlive4 hσ4 row0 (.inl rfl)
                obtain ⟨r5', hh5', hok5', hput5⟩ := hd4.rel.heap.loopPut (r' := { r5 with state := .done, pending := some x.code }) hlive4 hσ4 ⟨gen, .lp (.done x)⟩ (.inr ⟨_, rfl, rfl, rfl⟩)
                rw [hh5] at hh5'
                injection hh5' with hh5'
                injection hh5' with hh5'
                subst hh5'
                obtain ⟨H6, hx6⟩ := hput5 ⟨rfl, rfl, rfl, rfl, rfl, rfl⟩
                have post : RPost σ1 I1 base w1 g (hput s2.h d slot ⟨gen, .lp (.done x)⟩) s2.g (w4.putObj l (.loop { r5 with state := .done, pending := some x.code })) σ4 I4 :=
                  ⟨H6, ((hd.ext.trans hx3).trans hd4.ext).trans hx6, fun k hk => by rw [hd4.low k (Nat.lt_of_lt_of_le hk hd.grow), hd.low k hk], hd4.rel.fresh, Nat.le_trans hd.grow hd4.grow⟩
                cases x with
                | normal => exact absurd rfl hxn
                | ret => exact ⟨_, _, run_endRound (some .ret) hh5, rfl, σ4, I4, post⟩
                | exit id => exact ⟨_, _, run_endRound (some (.exit id)) hh5, rfl, σ4, I4, post⟩
                | goto t => exact ⟨_, _, run_endRound (some (.goto t)) hh5, rfl, σ4, I4, post⟩
            · cases he
          · cases he
        · cases he
      · cases he
    · cases he
  · cases he
theorem code_sound (hcall : CallOk E call) (hfz : FzCall E call) (hmix : E.P.follows .mixedOrders = true) (hent : ∀ f, enters E f = true → ∀ args w, (callFunc f args).run E.P w = .ok (.enter f args) w) {fuel : Nat} :
    ∀ (c : Code) (C : Cx), codeWf E C.n c = true → ∀ (s : St) (x : AExit) (s' : St), codeF E call ys d fuel c s = some (x, s') → Sound E C ys c s x s'
  | .skip, C, _, s, x, s', h, σ, I, w, a, Q, H, hys, hQ => by
    simp only [codeF, Option.some.injEq, Prod.mk.injEq] at h
    obtain ⟨rfl, rfl⟩ := h
    exact wpIn_skip (hQ σ I w a (Done.refl H))
  | .label l, C, _, s, x, s', h, σ, I, w, a, Q, H, hys, hQ => by
    simp only [codeF, Option.some.injEq, Prod.mk.injEq] at h
    obtain ⟨rfl, rfl⟩ := h
    exact wpIn_label (hQ σ I w a (Done.refl H))
  | .ret, C, _, s, x, s', h, σ, I, w, a, Q, H, hys, hQ => by
    simp only [codeF, Option.some.injEq, Prod.mk.injEq] at h
    obtain ⟨rfl, rfl⟩ := h
    exact wpIn_ret (hQ σ I w a (Done.refl H))
  | .exit id, C, _, s, x, s', h, σ, I, w, a, Q, H, hys, hQ => by
    simp only [codeF, Option.some.injEq, Prod.mk.injEq] at h
    obtain ⟨rfl, rfl⟩ := h
    exact wpIn_exit (hQ σ I w a (Done.refl H))
  | .goto l, C, _, s, x, s', h, σ, I, w, a, Q, H, hys, hQ => by
    simp only [codeF, Option.some.injEq, Prod.mk.injEq] at h
    obtain ⟨rfl, rfl⟩ := h
    exact wpIn_goto (hQ σ I w a (Done.refl H))
  | .region id ops draw, C, hwf, s, x, s', h, σ, I, w, a, Q, H, hys, hQ => by
    have hx : x = .normal := by
      have h := h
      simp only [codeF] at h
      split at h
      · cases h
      simp only [Option.map_eq_some_iff, Prod.mk.injEq] at h
      obtain ⟨_, _, rfl, _⟩ := h
      rfl
    subst hx
    exact region_sound hcall hfz (fun _ => hmix) hwf h H hys hQ
  | .seq y z, C, hwf, s, x, s', h, σ, I, w, a, Q, H, hys, hQ => by
    simp only [codeWf, Bool.and_eq_true] at hwf
    simp only [codeF] at h
    cases hy : codeF E call ys d fuel y s with
    | none => simp [hy] at h
    | some r =>
      obtain ⟨x1, s1⟩ := r
      rw [hy] at h
      refine wpIn_seq (code_sound hcall hfz hmix hent y C hwf.1 s x1 s1 hy σ I w a _ H hys fun σ1 I1 w1 a1 hd => ?_)
      cases x1 with
      | normal => exact code_sound hcall hfz hmix hent z C hwf.2 s1 x s' h σ1 I1 w1 a1 Q hd.rel (hys.later hd.ext.later) fun σ' I' w' a' hd' => hQ σ' I' w' a' (hd.trans hd')
      | _ =>
        simp only [Option.some.injEq, Prod.mk.injEq] at h
        obtain ⟨rfl, rfl⟩ := h
        exact hQ σ1 I1 w1 a1 hd
  | .cond c y z, C, hwf, s, x, s', h, σ, I, w, a, Q, H, hys, hQ => by
    simp only [codeWf, Bool.and_eq_true] at hwf
    simp only [codeF] at h
    cases hb : boolA (evalA s.t c) with
    | none => simp [hb] at h
    | some t =>
      have hev := (boolA_rep (eval_rep H.tmp c) t).1 hb
      cases t with
      | true => exact wpIn_cond_true hev (code_sound hcall hfz hmix hent y C hwf.1 s x s' (by simpa [hb] using h) σ I w a Q H hys hQ)
      | false => exact wpIn_cond_false hev (code_sound hcall hfz hmix hent z C hwf.2 s x s' (by simpa [hb] using h) σ I w a Q H hys hQ)
  | .block id c, C, hwf, s, x, s', h, σ, I, w, a, Q, H, hys, hQ => by
    simp only [codeWf] at hwf
    simp only [codeF] at h
    cases hc : codeF E call ys d fuel c s with
    | none => simp [hc] at h
    | some r =>
      obtain ⟨x1, s1⟩ := r
      rw [hc] at h
      refine wpIn_block (code_sound hcall hfz hmix hent c C hwf s x1 s1 hc σ I w a _ H hys fun σ1 I1 w1 a1 hd => ?_)
      cases x1 with
      | exit id' =>
        simp only [Option.some.injEq, Prod.mk.injEq] at h
        obtain ⟨rfl, rfl⟩ := h
        have := hQ σ1 I1 w1 a1 hd
        simp only [toExit, Exit.inBlock]
        by_cases e : id' = id
        · simp only [e, if_true] at this ⊢; exact this
        · simp only [e, if_false] at this ⊢; exact this
      | _ =>
        simp only [Option.some.injEq, Prod.mk.injEq] at h
        obtain ⟨rfl, rfl⟩ := h
        exact hQ σ1 I1 w1 a1 hd
  | .loop c, C, hwf, s, x, s', h, σ, I, w, a, Q, H, hys, hQ => by
    simp only [codeWf] at hwf
    simp only [codeF] at h
    exact loop_sound (fun s x s' hb => code_sound hcall hfz hmix hent c C hwf s x s' hb) h σ I w a Q H hys hQ
  | .rangeFunc f ps assign body, C, hwf, s, x, s', h, σ, I, w, a, Q, H, hys, hQ => by
    simp only [codeWf, Bool.and_eq_true] at hwf
    obtain ⟨⟨hps, hwa⟩, hwb⟩ := hwf
    have hps' : ∀ p ∈ ps.toList, p < C.n := by
      rw [Array.all_eq_true_iff_forall_mem] at hps
      intro p hp
      simpa using hps p (by simpa using hp)
    simp only [codeF, Option.bind_eq_some_iff] at h
    obtain ⟨⟨fid, b, c⟩, hcal, h⟩ := h
    simp only [] at h
    split at h
    · rename_i hen
      simp only [Option.bind_eq_some_iff] at h
      obtain ⟨⟨v, h3, g3⟩, hcl, h⟩ := h
      simp only [] at h
      obtain ⟨vb, vc, hu, hlb, hlc, hrb, hrc⟩ := callee_rep (eval_rep H.tmp f) hcal
      refine wpIn_rangeFunc fun fn _ => ?_
      obtain ⟨l, mark, w1, rec, hrun, H1, hx1, hrec, e1, e2, e3, e4, hmarks, hnd⟩ := enter_sound (E := E) (d := d) (assign := assign) (body := body) (ps := ps) H fn (ps.getD 0 0)
      have hgen : upd σ s.g (l, 0, 0) s.g = some (l, 0, 0) := upd_same
      have hargs : vb.toArray ++ #[Value.func (.yield l) #[] #[]] ++ vc.toArray = (vb ++ [Value.func (.yield l) #[] #[]] ++ vc).toArray := by apply Array.ext'; simp
      refine ⟨l, mark, w1, { target := .fn (.func fid) vc.toArray, args := vb.toArray ++ #[.func (.yield l) #[] #[]] }, w1, fid, (vb ++ [Value.func (.yield l) #[] #[]] ++ vc).toArray, w1, hrun, ?_, fun _ _ => trivial, ?_, fun h => by simp [WF, Fence.wide] at h, ?_⟩
      · simp only [resolve]
        rw [hu]
        simp [Deferred.ofValue, Act.eval]
      · rw [← hargs]
        simp [invoke, hent fid hen]
      · have hyok : YsOk E ((s.g, roundF (codeF E call ys d fuel assign) (codeF E call ys d fuel body) ps s.t d (ps.getD 0 0) s.g) :: ys) (upd σ s.g (l, 0, 0)) I w1 := by
          refine ⟨?_, (hys.later hx1.later).2⟩
          intro gl hd hget
          simp only [Ys.get?] at hget
          split at hget
          · rename_i e
            subst e
            injection hget with hget
            subst hget
            exact round_sound (n := C.n) (fun C' s x s' hC hb => code_sound hcall hfz hmix hent assign C' (by rw [hC]; exact hwa) s x s' hb) (fun C' s x s' hC hb => code_sound hcall hfz hmix hent body C' (by rw [hC]; exact hwb) s x s' hb)
              hps' H.hn (hys.later hx1.later) hgen hrec (fun i => hx1.rep (H.tmp i)) e1 e2 e3 e4
          · exact (hys.1 gl hd hget).later hx1.later
        have hdo := hcall _ (upd σ s.g (l, 0, 0)) I C.base w1 _ fid _ d _ (s.g + 1) (s.g + 2) v h3 g3 (vb ++ [Value.func (.yield l) #[] #[]] ++ vc) hcl hyok H1 (H.hb.mono hx1.below.size) (by simp [hlb, hlc])
          (reps_append (by simp [hlb]) (reps_append hlb (fun j p u hp hu => hx1.rep (hrb j p u hp hu)) (fun j p u hp hu => by
            cases j with
            | zero =>
              have hp1 : some (AV.yld d (ps.getD 0 0) s.g) = some p := hp
              have hu1 : some (Value.func (.yield l) #[] #[]) = some u := hu
              injection hp1 with hp1
              injection hu1 with hu1
              subst hp1
              subst hu1
              exact .yld d (ps.getD 0 0) s.g l 0 0 hgen
            | succ j => simp at hp)) (fun j p u hp hu => hx1.rep (hrc j p u hp hu)))
          (by rw [upd_other (by omega)]; exact H.fresh _ (by omega)) (by omega) (fun k hk => by rw [upd_other (by omega)]; exact H.fresh _ (by omega))
        rcases hdo with ⟨_, _, hv, _⟩ | ⟨_, hcalls⟩ | ⟨_, _, _, hv, _⟩
        · rw [hent fid hen] at hv; cases hv
        · refine CallsIn.mono (F := WF C.r) (callsIn_wide.2 hcalls) ?_
          intro e w3 he
          cases e with
          | panicked ch => exact he.elim
          | outgrown => exact he.elim
          | returned u =>
            obtain ⟨σ3, I3, hp⟩ := he
            have hσ3 : σ3 s.g = some (l, 0, 0) := by rw [hp.low _ (by omega) (by omega)]; exact hgen
            have fin : ∀ (st : LpSt), live h3 d (ps.getD 0 0) s.g = .lp st → ∃ r w4, w3.heap[l]? = some (Obj.loop r) ∧ LpOk st r ∧ (r.state ≠ .busy → (Instr.endLoop l).run E.P w3 = .ok r.pending w4) ∧
                Done C s.g σ I w { t := s.t, h := hput h3 d (ps.getD 0 0) row0, g := g3 } σ3 I3 w4 { a with defers := mark ++ a.defers } := by
              intro st hlv
              obtain ⟨r, hh, hok, _⟩ := hp.heap.loopPut (r' := rec) hlv hσ3 row0 (.inl rfl)
              obtain ⟨r', hh', hok', hput⟩ := hp.heap.loopPut (r' := { r with state := .exhausted }) hlv hσ3 row0 (.inl rfl)
              rw [hh] at hh'
              injection hh' with hh'
              injection hh' with hh'
              subst hh'
              obtain ⟨H4, hx4⟩ := hput ⟨rfl, rfl, rfl, rfl, rfl, rfl⟩
              have hx := (hx1.trans hp.ext).trans hx4
              refine ⟨r, _, hh, hok, fun hnb => run_endLoop hh hnb, ⟨⟨fun i => hx.rep (H.tmp i), H4, hp.high, H.hb.mono hx.below.size, H.hn, ?_, hnd, ?_, H.lob, Nat.le_trans H.losz hx.below.size⟩, hx, fun k hk => ?_, by have := hp.grow; simp only []; omega⟩⟩
              · intro x hx'
                obtain ⟨D, d1, d2, d3⟩ := hmarks x hx'
                exact ⟨D, d1, d2, (hp.ext.trans hx4).kp.dfr D d3⟩
              · intro l' hl'
                obtain ⟨x, hx'⟩ := H.around l' hl'
                obtain ⟨x', h1, _⟩ := hx.kp.loop l' x hx'
                exact ⟨x', h1⟩
              · rw [hp.low k (by omega) (by omega), upd_other (by omega)]
            split at h
            · rename_i hlv
              simp only [Option.some.injEq, Prod.mk.injEq] at h
              obtain ⟨rfl, rfl⟩ := h
              obtain ⟨r, w4, hh, hok, hend, hdone⟩ := fin _ hlv
              exact ⟨_, w4, hend (by rw [hok.1]; simp), by rw [hok.2]; exact hQ σ3 I3 w4 _ hdone⟩
            · rename_i y hlv
              split at h
              · cases h
              · rename_i hxn
                simp only [Option.some.injEq, Prod.mk.injEq] at h
                obtain ⟨rfl, rfl⟩ := h
                obtain ⟨r, w4, hh, hok, hend, hdone⟩ := fin _ hlv
                refine ⟨_, w4, hend (by rw [hok.1]; simp), ?_⟩
                rw [hok.2]
                have hq := hQ σ3 I3 w4 _ hdone
                cases y with
                | normal => exact absurd rfl hxn
                | ret => exact wpIn_ret hq
                | exit id => exact wpIn_exit hq
                | goto t => exact wpIn_goto hq
            · cases h
        · rw [hent fid hen] at hv; cases hv
    · cases h
end
end Go.Proofs.YtcoeigibikbfdaaGreatDoor.Abs

namespace Go.Proofs.YtcoeigibikbfdaaGreatDoor.Abs
open Go Go.RowKit
section
variable {σ τ : Sig} {I I' : Blk} {base base' : Blk} {w w' : World} {h h' h1 : Heap} {ρ : K2 → Option (K2 × Nat)}
def Named (ρ : K2 → Option (K2 × Nat)) (σ τ : Sig) (l : List (K2 × Nat)) : Prop := ∀ q ∈ l, ∀ k, ρ q.1 = some k → ∀ x, σ q.2 = some x → τ k.2 = some x
theorem Named.sub {l l' : List (K2 × Nat)} (h : Named ρ σ τ l) (hs : ∀ q ∈ l', q ∈ l) : Named ρ σ τ l' := fun q hq => h q (hs q hq)
theorem renL_len {f : AV → Option AV} : ∀ {l l' : List AV}, renL f l = some l' → l'.length = l.length
  | [], l', h => by simp [renL] at h; subst h; rfl
  | v :: l, l', h => by
    simp only [renL, Option.bind_eq_some_iff, Option.map_eq_some_iff] at h
    obtain ⟨w, _, l2, h2, rfl⟩ := h
    simp [renL_len h2]
theorem renL_get {f : AV → Option AV} : ∀ {l l' : List AV}, renL f l = some l' → ∀ (j : Nat) (p : AV), l'[j]? = some p → ∃ v, l[j]? = some v ∧ f v = some p
  | [], l', h, j, p, hp => by simp [renL] at h; subst h; simp at hp
  | v :: l, l', h, j, p, hp => by
    simp only [renL, Option.bind_eq_some_iff, Option.map_eq_some_iff] at h
    obtain ⟨w, hw, l2, h2, rfl⟩ := h
    cases j with
    | zero => simp at hp; subst hp; exact ⟨v, rfl, hw⟩
    | succ j => exact renL_get h2 j p (by simpa using hp)
theorem refs_mem {n j : Nat} {l : List AV} {v : AV} (hv : l[j]? = some v) {q : K2 × Nat} (hq : q ∈ refs n v) : q ∈ l.flatMap (refs n) :=
  List.mem_flatMap.2 ⟨v, List.mem_of_getElem? hv, hq⟩
theorem ren_rep : ∀ (n : Nat) {v v' : AV} {u : Value}, ren ρ n v = some v' → Named ρ σ τ (refs n v) → Rep σ I w v u → Rep τ I w v' u := by
  intro n
  induction n with
  | zero => intro v v' u h; simp [ren] at h
  | succ n ih =>
    intro v v' u h hN hr
    cases hr with
    | pv p u hp => simp only [ren, Option.some.injEq] at h; subst h; exact .pv _ _ hp
    | mptr d s g i off b o k hs =>
      simp only [ren, Option.map_eq_some_iff] at h
      obtain ⟨q, hq, rfl⟩ := h
      exact .mptr _ _ _ _ _ _ _ _ (hN ((d, s), g) (by simp [refs]) q hq _ hs)
    | msl d s g off m full b o k cap ad had hs hn hfull hroom =>
      simp only [ren, Option.map_eq_some_iff] at h
      obtain ⟨q, hq, rfl⟩ := h
      exact .msl _ _ _ _ _ _ _ _ _ _ _ had (hN ((d, s), g) (by simp [refs]) q hq _ hs) hn hfull hroom
    | agg cs vs hl h1 hr =>
      simp only [ren, Option.map_eq_some_iff] at h
      obtain ⟨l', hl', rfl⟩ := h
      refine .agg _ _ (by rw [renL_len hl']; exact hl) h1 fun j p v hp hv => ?_
      obtain ⟨x, hx, hfx⟩ := renL_get hl' j p hp
      exact ih hfx (hN.sub fun q hq => by simp only [refs]; exact refs_mem hx hq) (hr j x v hx hv)
    | tup cs vs hl hr =>
      simp only [ren, Option.map_eq_some_iff] at h
      obtain ⟨l', hl', rfl⟩ := h
      refine .tup _ _ (by rw [renL_len hl']; exact hl) fun j p v hp hv => ?_
      obtain ⟨x, hx, hfx⟩ := renL_get hl' j p hp
      exact ih hfx (hN.sub fun q hq => by simp only [refs]; exact refs_mem hx hq) (hr j x v hx hv)
    | clo f a b va vb hla hlb hra hrb =>
      simp only [ren, Option.bind_eq_some_iff, Option.map_eq_some_iff] at h
      obtain ⟨a', ha', b', hb', rfl⟩ := h
      refine .clo _ _ _ _ _ (by rw [renL_len ha']; exact hla) (by rw [renL_len hb']; exact hlb) (fun j p v hp hv => ?_) fun j p v hp hv => ?_
      · obtain ⟨x, hx, hfx⟩ := renL_get ha' j p hp
        exact ih hfx (hN.sub fun q hq => by simp only [refs]; exact List.mem_append_left _ (refs_mem hx hq)) (hra j x v hx hv)
      · obtain ⟨x, hx, hfx⟩ := renL_get hb' j p hp
        exact ih hfx (hN.sub fun q hq => by simp only [refs]; exact List.mem_append_right _ (refs_mem hx hq)) (hrb j x v hx hv)
    | yld d s g b o k hs => simp [ren] at h
    | ifc t v1 u1 h1 =>
      simp only [ren, Option.map_eq_some_iff] at h
      obtain ⟨v2, hv2, rfl⟩ := h
      exact .ifc t _ _ (ih hv2 hN h1)
    | btag t => simp only [ren, Option.some.injEq] at h; subst h; exact .btag t
theorem ren_cells : ∀ {n : Nat} {v v' : AV}, ren ρ (n + 1) v = some v' → v'.cells.length = v.cells.length ∧ v'.ok = v.ok ∧ ∀ (j : Nat) (p : AV), v'.cells[j]? = some p → ∃ q, v.cells[j]? = some q ∧ ∀ (I : Blk) (w : World) (u : Value), Named ρ σ τ (refs (n + 1) v) → Rep σ I w q u → Rep τ I w p u := by
  intro n v v' h
  have one : ∀ {x x' : AV}, ren ρ (n + 1) x = some x' → ∀ (j : Nat) (p : AV), [x'][j]? = some p → ∃ q, [x][j]? = some q ∧ ∀ (I : Blk) (w : World) (u : Value), Named ρ σ τ (refs (n + 1) x) → Rep σ I w q u → Rep τ I w p u := by
    intro x x' hx j p hp
    cases j with
    | zero => simp at hp; subst hp; exact ⟨x, rfl, fun I w u hN hr => ren_rep (n + 1) hx hN hr⟩
    | succ j => simp at hp
  cases v with
  | pv p =>
    simp only [ren, Option.some.injEq] at h
    subst h
    refine ⟨rfl, rfl, fun j q hq => ⟨q, hq, fun I w u _ hr => ?_⟩⟩
    simp only [AV.cells, List.getElem?_map, Option.map_eq_some_iff] at hq
    obtain ⟨x, _, rfl⟩ := hq
    exact .pv _ _ (rep_pv hr)
  | mptr d s g i off =>
    have h0 := h
    simp only [ren, Option.map_eq_some_iff] at h
    obtain ⟨q, hq, rfl⟩ := h
    exact ⟨rfl, rfl, one h0⟩
  | msl d s g off m full =>
    have h0 := h
    simp only [ren, Option.map_eq_some_iff] at h
    obtain ⟨q, hq, rfl⟩ := h
    exact ⟨rfl, rfl, one h0⟩
  | agg l =>
    simp only [ren, Option.map_eq_some_iff] at h
    obtain ⟨l', hl', rfl⟩ := h
    refine ⟨renL_len hl', rfl, fun j p hp => ?_⟩
    obtain ⟨x, hx, hfx⟩ := renL_get hl' j p hp
    exact ⟨x, hx, fun I w u hN hr => ren_rep n hfx (hN.sub fun q hq => by simp only [refs]; exact refs_mem hx hq) hr⟩
  | tup l =>
    have h0 := h
    simp only [ren, Option.map_eq_some_iff] at h
    obtain ⟨l', hl', rfl⟩ := h
    exact ⟨rfl, rfl, one h0⟩
  | clo f a b =>
    have h0 := h
    simp only [ren, Option.bind_eq_some_iff, Option.map_eq_some_iff] at h
    obtain ⟨a', ha', b', hb', rfl⟩ := h
    exact ⟨rfl, rfl, one h0⟩
  | yld d s g => simp [ren] at h
  | ifc t v =>
    have h0 := h
    simp only [ren, Option.map_eq_some_iff] at h
    obtain ⟨v2, hv2, rfl⟩ := h
    exact ⟨rfl, rfl, one h0⟩
  | btag t =>
    have h0 := h
    simp only [ren, Option.some.injEq] at h
    subst h
    exact ⟨rfl, rfl, one h0⟩
theorem ren_one {n : Nat} {c c' : AV} (h : ren ρ n c = some c') : headTag (some c') = headTag (some c) := by
  cases n with
  | zero => simp [ren] at h
  | succ n =>
    cases c <;> simp only [ren, Option.some.injEq, Option.map_eq_some_iff, Option.bind_eq_some_iff, reduceCtorEq] at h
    case pv => subst h; rfl
    case btag => subst h; rfl
    case clo => obtain ⟨_, _, _, _, rfl⟩ := h; rfl
    all_goals (obtain ⟨_, _, rfl⟩ := h; rfl)
theorem ren_tag {n : Nat} {v v' : AV} (h : ren ρ (n + 1) v = some v') : tagOf v' = tagOf v := by
  have h0 := ren_one h
  unfold tagOf
  cases v <;> simp only [ren, Option.some.injEq, Option.map_eq_some_iff, Option.bind_eq_some_iff, reduceCtorEq] at h
  case pv => subst h; rfl
  case btag => subst h; rfl
  case clo => obtain ⟨_, _, _, _, rfl⟩ := h; rfl
  case agg l =>
    obtain ⟨l', hl', rfl⟩ := h
    cases l with
    | nil => simp [renL] at hl'; subst hl'; rfl
    | cons c l =>
      simp only [renL, Option.bind_eq_some_iff, Option.map_eq_some_iff] at hl'
      obtain ⟨c', hc', l2, _, rfl⟩ := hl'
      exact ren_one hc'
  all_goals (obtain ⟨_, _, rfl⟩ := h; rfl)
theorem row_ren {r : Row} {g' : Nat} {b' : Body} (hr : RowRep σ I base w r) (hb : renB ρ r.b = some b') (hg : ∀ x, σ r.g = some x → τ g' = some x) (hN : Named ρ σ τ (refsB r.b)) (hB : ∀ b, blkOf σ r = some b → ¬ base' b) :
    RowRep τ I base' w ⟨g', b'⟩ ∧ blkOf τ ⟨g', b'⟩ = blkOf σ r := by
  obtain ⟨g, bd⟩ := r
  cases bd with
  | dead => simp [renB] at hb
  | lp st => simp [renB] at hb
  | box v fz =>
    simp only [renB, Option.map_eq_some_iff] at hb
    obtain ⟨v', hv', rfl⟩ := hb
    obtain ⟨b, e, hs, hsh, hok, hc, hz⟩ := hr
    obtain ⟨hlen, hok', hcell⟩ := ren_cells (σ := σ) (τ := τ) (n := 7) hv'
    refine ⟨⟨b, e, hg _ hs, by rw [hlen]; exact hsh, boxOk_of hok (hok'.trans (boxOk_ok hok)) (.inl (ren_tag (n := 7) hv')), fun j p hp => ?_, ?_⟩, ?_⟩
    · obtain ⟨q, hq, hx⟩ := hcell j p hp
      obtain ⟨u, h1, h2, h3⟩ := hc j q hq
      exact ⟨u, h1, h2, hx I w u hN h3⟩
    · rw [hlen]
      cases fz with
      | true => exact hz
      | false => exact ⟨hz.1, hB b (by simp [blkOf, hs]), hz.2.2⟩
    · cases fz <;> simp [blkOf, hs, hg _ hs]
  | row k e xs fz =>
    simp only [renB, Option.some.injEq] at hb
    subst hb
    obtain ⟨b, o, n, hs, hsh, hn, hx, hc, hz⟩ := hr
    refine ⟨⟨b, o, n, hg _ hs, hsh, hn, hx, hc, ?_⟩, ?_⟩
    · cases fz with
      | true => exact hz
      | false => exact ⟨hz.1, hB b (by simp [blkOf, hs]), hz.2.2⟩
    · cases fz <;> simp [blkOf, hs, hg _ hs]
  | iter s pos =>
    simp only [renB, Option.some.injEq] at hb
    subst hb
    obtain ⟨b, k, hs, hh, h1, h2⟩ := hr
    exact ⟨⟨b, k, hg _ hs, hh, h1, hB b (by simp [blkOf, hs])⟩, by simp [blkOf, hs, hg _ hs]⟩
theorem kidx_some : ∀ {ks : List K2} {x : K2} {i : Nat}, kidx ks x = some i → ks[i]? = some x
  | [], x, i, h => by simp [kidx] at h
  | k :: ks, x, i, h => by
    unfold kidx at h
    split at h
    · rename_i hk
      simp only [Bool.and_eq_true, beq_iff_eq] at hk
      simp only [Option.some.injEq] at h
      subst h
      simp [Prod.ext_iff, hk.1, hk.2]
    · simp only [Option.map_eq_some_iff] at h
      obtain ⟨j, hj, rfl⟩ := h
      simpa using kidx_some hj
theorem kidx_none : ∀ {ks : List K2} {x : K2}, kidx ks x = none → x ∉ ks
  | [], x, _ => by simp
  | k :: ks, x, h => by
    unfold kidx at h
    split at h
    · cases h
    · rename_i hk
      simp only [Option.map_eq_none_iff] at h
      have := kidx_none h
      simp only [List.mem_cons, not_or]
      refine ⟨fun e => hk (by subst e; simp), this⟩
theorem nodupK_ok : ∀ {ks : List K2}, nodupK ks = true → ks.Nodup
  | [], _ => List.nodup_nil
  | k :: ks, h => by
    simp only [nodupK, Bool.and_eq_true, Option.isNone_iff_eq_none] at h
    exact List.nodup_cons.2 ⟨kidx_none h.1, nodupK_ok h.2⟩
theorem gens_mem {l : List (K2 × Nat)} (h : gensOk h1 l = true) {q : K2 × Nat} (hq : q ∈ l) : q.2 = (hget h1 q.1.1 q.1.2).g := by
  have := List.all_eq_true.1 h q hq
  simpa using this
theorem canRows_get : ∀ {ks : List K2} {i : Nat} {rows : List Row}, canRows ρ h i ks = some rows → rows.length = ks.length ∧ ∀ (j : Nat) (r : Row), rows[j]? = some r → ∃ k b, ks[j]? = some k ∧ renB ρ (hget h k.1 k.2).b = some b ∧ r = ⟨i + j, b⟩
  | [], i, rows, h => by simp [canRows] at h; subst h; exact ⟨rfl, fun j r hr => by simp at hr⟩
  | k :: ks, i, rows, h => by
    simp only [canRows, Option.bind_eq_some_iff, Option.map_eq_some_iff] at h
    obtain ⟨b, hb, rs, hrs, rfl⟩ := h
    obtain ⟨h1, h2⟩ := canRows_get hrs
    refine ⟨by simp [h1], fun j r hr => ?_⟩
    cases j with
    | zero => simp at hr; subst hr; exact ⟨k, b, rfl, hb, rfl⟩
    | succ j =>
      obtain ⟨k', b', h3, h4, h5⟩ := h2 j r (by simpa using hr)
      exact ⟨k', b', by simpa using h3, h4, by rw [h5]; simp only [Row.mk.injEq, and_true]; omega⟩
theorem outRows_get : ∀ {n i : Nat} {rows : List Row} {m : Nat} {ex : Option K2}, outRows m ex h i n = some rows → rows.length = n + (if ex.isSome then 1 else 0) ∧ (∀ (j : Nat) (r : Row), j < n → rows[j]? = some r → ∃ b, renB (nameOut m ex) (hget h 0 (i + j)).b = some b ∧ r = ⟨i + j, b⟩) ∧
    ∀ (e : K2) (r : Row), ex = some e → rows[n]? = some r → ∃ k t xs fz, (hget h e.1 e.2).b = .row k t xs fz ∧ r = ⟨m, .row k t xs fz⟩
  | 0, i, rows, m, none, h => by simp [outRows] at h; subst h; exact ⟨rfl, fun j r hj => by omega, fun e r he => by cases he⟩
  | 0, i, rows, m, some e, h => by
    simp only [outRows] at h
    split at h
    · rename_i k t xs fz hb
      simp only [Option.some.injEq] at h
      subst h
      exact ⟨rfl, fun j r hj => by omega, fun e' r he hr => by simp only [Option.some.injEq] at he; subst he; simp at hr; exact ⟨k, t, xs, fz, hb, hr.symm⟩⟩
    · cases h
  | n + 1, i, rows, m, ex, h => by
    simp only [outRows, Option.bind_eq_some_iff, Option.map_eq_some_iff] at h
    obtain ⟨b, hb, rs, hrs, rfl⟩ := h
    obtain ⟨h1, h2, h3⟩ := outRows_get hrs
    refine ⟨by simp [h1]; omega, fun j r hj hr => ?_, fun e r he hr => h3 e r he (by simpa using hr)⟩
    cases j with
    | zero => simp at hr; subst hr; exact ⟨b, hb, rfl⟩
    | succ j =>
      obtain ⟨b', h4, h5⟩ := h2 j r (by omega) (by simpa using hr)
      have e : i + 1 + j = i + (j + 1) := by omega
      rw [e] at h4 h5
      exact ⟨b', h4, h5⟩
theorem rowsOk_get : ∀ {n i : Nat}, rowsOk h i n = true → ∀ j, j < n → (hget h 0 (i + j)).g = i + j ∧ gensOk h (refsB (hget h 0 (i + j)).b) = true
  | 0, i, h, j, hj => by omega
  | n + 1, i, h, j, hj => by
    simp only [rowsOk, Bool.and_eq_true, beq_iff_eq] at h
    cases j with
    | zero => exact ⟨h.1, h.2.1⟩
    | succ j =>
      have := rowsOk_get h.2.2 j (by omega)
      have e : i + 1 + j = i + (j + 1) := by omega
      rwa [e] at this
theorem hget_one (rows : List Row) (d s : Nat) : hget [rows] d s = if d = 0 then rows.getD s row0 else row0 := by
  unfold hget
  cases d with
  | zero => rfl
  | succ d => simp
theorem HRep.of_rows {rows : List Row} (hin : ∀ b, I b → Solid w b) (hr : ∀ (j : Nat) (r : Row), rows[j]? = some r → RowRep σ I base w r)
    (ha : ∀ (i j : Nat) (r r' : Row) (b : Nat), rows[i]? = some r → rows[j]? = some r' → blkOf σ r = some b → blkOf σ r' = some b → i = j) : HRep σ I base w [rows] where
  inW := hin
  rows d s := by
    rw [hget_one]
    split
    · rw [List.getD_eq_getElem?_getD]
      cases hs : rows[s]? with
      | none => trivial
      | some r => exact hr s r hs
    · trivial
  apart d s d' s' b h1 h2 := by
    rw [hget_one] at h1 h2
    split at h1
    · rename_i e1
      split at h2
      · rename_i e2
        subst e1 e2
        rw [List.getD_eq_getElem?_getD] at h1 h2
        cases hs : rows[s]? with
        | none => rw [hs] at h1; simp [blkOf, row0] at h1
        | some r =>
          cases hs' : rows[s']? with
          | none => rw [hs'] at h2; simp [blkOf, row0] at h2
          | some r' =>
            rw [hs] at h1
            rw [hs'] at h2
            exact ⟨rfl, ha s s' r r' b hs hs' h1 h2⟩
      · simp [blkOf, row0] at h2
    · simp [blkOf, row0] at h1
def sigIn (σ : Sig) (h : Heap) (ks : List K2) : Sig := fun i => (ks[i]?).bind fun k => σ (hget h k.1 k.2).g
def others (σ : Sig) (h : Heap) (ks : List K2) (base : Blk) : Blk := fun b => base b ∨ ∃ d s, (d, s) ∉ ks ∧ blkOf σ (hget h d s) = some b
theorem named_in {ks : List K2} {l : List (K2 × Nat)} (hg : gensOk h l = true) : Named (nameIn ks) σ (sigIn σ h ks) l := by
  intro q hq k hk x hx
  simp only [nameIn, Option.map_eq_some_iff] at hk
  obtain ⟨i, hi, rfl⟩ := hk
  have := kidx_some hi
  simp only [sigIn, this, Option.bind_some]
  rw [← gens_mem hg hq]
  exact hx
theorem canIn_sound {ks : List K2} {args cargs : List AV} {rows : List Row} {us : List Value} (H : HRep σ I base w h) (hB : Bnd base w.heap.size) (hi : canIn h args = some (ks, cargs, rows)) (hg : canGens h ks args = true) (hl : us.length = args.length)
    (hr : ∀ (j : Nat) (p : AV) (u : Value), args[j]? = some p → us[j]? = some u → Rep σ I w p u) :
    HRep (sigIn σ h ks) I (others σ h ks base) w [rows] ∧ Bnd (others σ h ks base) w.heap.size ∧ us.length = cargs.length ∧ (∀ (j : Nat) (p : AV) (u : Value), cargs[j]? = some p → us[j]? = some u → Rep (sigIn σ h ks) I w p u) ∧ rows.length = ks.length ∧ ks.Nodup := by
  unfold canIn at hi
  split at hi
  rotate_left
  · cases hi
  rename_i hnd
  simp only [Option.bind_eq_some_iff, Option.map_eq_some_iff, Prod.mk.injEq] at hi
  obtain ⟨ca, hca, rs, hrs, rfl, rfl, rfl⟩ := hi
  simp only [canGens, Bool.and_eq_true, List.all_eq_true] at hg
  obtain ⟨hlen, hget'⟩ := canRows_get hrs
  have hnd := nodupK_ok hnd
  have hrow : ∀ (j : Nat) (r : Row), rs[j]? = some r → ∃ k, (canKeys h args)[j]? = some k ∧ RowRep (sigIn σ h (canKeys h args)) I (others σ h (canKeys h args) base) w r ∧ blkOf (sigIn σ h (canKeys h args)) r = blkOf σ (hget h k.1 k.2) := by
    intro j r hj
    obtain ⟨k, b, hk, hb, rfl⟩ := hget' j r hj
    have hkm := List.mem_of_getElem? hk
    refine ⟨k, hk, row_ren (H.rows k.1 k.2) hb (fun x hx => ?_) (named_in (hg.2 k hkm)) fun b0 hb0 => ?_⟩
    · simp only [sigIn, Nat.zero_add, hk, Option.bind_some]; exact hx
    · rintro (h1 | ⟨d, s, hds, h2⟩)
      · exact (blkOf_facts (H.rows k.1 k.2) hb0).2.2 h1
      · obtain ⟨rfl, rfl⟩ := H.apart _ _ _ _ _ hb0 h2
        exact hds hkm
  refine ⟨HRep.of_rows H.inW (fun j r hj => let ⟨_, _, h1, _⟩ := hrow j r hj; h1) fun i j r r' b hi hj h1 h2 => ?_, fun b hb => ?_, by rw [renL_len hca]; exact hl, fun j p u hp hu => ?_, hlen, hnd⟩
  · obtain ⟨k, hk, _, e1⟩ := hrow i r hi
    obtain ⟨k', hk', _, e2⟩ := hrow j r' hj
    rw [e1] at h1
    rw [e2] at h2
    obtain ⟨a1, a2⟩ := H.apart _ _ _ _ _ h1 h2
    have hkk : k = k' := Prod.ext a1 a2
    subst hkk
    have l1 : i < (canKeys h args).length := (List.getElem?_eq_some_iff.1 hk).1
    exact (List.getElem?_inj l1 hnd).1 (hk.trans hk'.symm)
  · rcases hb with hb | ⟨d, s, _, hb⟩
    · exact hB b hb
    · exact (blkOf_facts (H.rows d s) hb).1
  · obtain ⟨v, hv, hfv⟩ := renL_get hca j p hp
    refine ren_rep frzDepth hfv (named_in (List.all_eq_true.2 fun q hq => ?_)) (hr j v u hv hu)
    exact List.all_eq_true.1 hg.1 q (refs_mem hv hq)
def outSig (σ : Sig) (m : Nat) (ex : Option K2) (h1 : Heap) : Sig := fun i => match ex with
  | some e => if i = m then σ (hget h1 e.1 e.2).g else σ i
  | none => σ i
theorem outSig_lt {m i : Nat} {ex : Option K2} (hi : i < m) : outSig σ m ex h1 i = σ i := by
  unfold outSig
  split
  · rw [if_neg (by omega)]
  · rfl
theorem named_out {m : Nat} {ex : Option K2} {l : List (K2 × Nat)} (hg : gensOk h l = true) (hok : rowsOk h 0 m = true) : Named (nameOut m ex) σ (outSig σ m ex h) l := by
  intro q hq k hk x hx
  have h1 := gens_mem hg hq
  unfold nameOut at hk
  split at hk
  · rename_i hc
    simp only [Bool.and_eq_true, beq_iff_eq, decide_eq_true_eq] at hc
    simp only [Option.some.injEq] at hk
    subst hk
    have h2 := (rowsOk_get hok q.1.2 hc.2).1
    rw [Nat.zero_add] at h2
    rw [hc.1, h2] at h1
    rw [h1] at hx
    rw [outSig_lt hc.2]
    exact hx
  · split at hk
    · rename_i e
      split at hk
      · rename_i hc
        simp only [Bool.and_eq_true, beq_iff_eq] at hc
        simp only [Option.some.injEq] at hk
        subst hk
        simp only [outSig, if_true, hc.1, hc.2]
        rw [← h1]
        exact hx
      · cases hk
    · cases hk
theorem ren_refs : ∀ (n : Nat) {v v' : AV}, ren ρ n v = some v' → ∀ q ∈ refs n v', ∃ k, ρ k = some q := by
  intro n
  induction n with
  | zero => intro v v' h q hq; simp [refs] at hq
  | succ n ih =>
    intro v v' h q hq
    have lst : ∀ {l l' : List AV}, renL (ren ρ n) l = some l' → q ∈ l'.flatMap (refs n) → ∃ k, ρ k = some q := by
      intro l l' hl hm
      obtain ⟨x, hx, hqx⟩ := List.mem_flatMap.1 hm
      obtain ⟨j, hj⟩ := List.mem_iff_getElem?.1 hx
      obtain ⟨y, _, hy⟩ := renL_get hl j x hj
      exact ih hy q hqx
    cases v with
    | pv p => simp only [ren, Option.some.injEq] at h; subst h; simp [refs] at hq
    | mptr d s g i off =>
      simp only [ren, Option.map_eq_some_iff] at h
      obtain ⟨k, hk, rfl⟩ := h
      simp only [refs, List.mem_singleton] at hq
      subst hq
      exact ⟨_, hk⟩
    | msl d s g off m full =>
      simp only [ren, Option.map_eq_some_iff] at h
      obtain ⟨k, hk, rfl⟩ := h
      simp only [refs, List.mem_singleton] at hq
      subst hq
      exact ⟨_, hk⟩
    | agg l =>
      simp only [ren, Option.map_eq_some_iff] at h
      obtain ⟨l', hl', rfl⟩ := h
      exact lst hl' (by simpa only [refs] using hq)
    | tup l =>
      simp only [ren, Option.map_eq_some_iff] at h
      obtain ⟨l', hl', rfl⟩ := h
      exact lst hl' (by simpa only [refs] using hq)
    | clo f a b =>
      simp only [ren, Option.bind_eq_some_iff, Option.map_eq_some_iff] at h
      obtain ⟨a', ha', b', hb', rfl⟩ := h
      simp only [refs, List.mem_append] at hq
      exact hq.elim (lst ha') (lst hb')
    | yld d s g => simp [ren] at h
    | ifc t v =>
      simp only [ren, Option.map_eq_some_iff] at h
      obtain ⟨v2, hv2, rfl⟩ := h
      exact ih hv2 q hq
    | btag t => simp only [ren, Option.some.injEq] at h; subst h; simp [refs] at hq
theorem renB_refs {b b' : Body} (h : renB ρ b = some b') : ∀ q ∈ refsB b', ∃ k, ρ k = some q := by
  intro q hq
  cases b with
  | dead => simp [renB] at h
  | lp st => simp [renB] at h
  | box v fz =>
    simp only [renB, Option.map_eq_some_iff] at h
    obtain ⟨v', hv', rfl⟩ := h
    exact ren_refs frzDepth hv' q hq
  | row k e xs fz => simp only [renB, Option.some.injEq] at h; subst h; simp [refsB] at hq
  | iter s pos => simp only [renB, Option.some.injEq] at h; subst h; simp [refsB] at hq
def Own (m : Nat) (l : List (K2 × Nat)) : Prop := ∀ q ∈ l, q.2 = q.1.2 ∧ q.1.2 < m
theorem nameOut_own {m : Nat} {ex : Option K2} {l : List (K2 × Nat)} (h : ∀ q ∈ l, ∃ k, nameOut m ex k = some q) : Own (m + if ex.isSome then 1 else 0) l := by
  intro q hq
  obtain ⟨k, hk⟩ := h q hq
  unfold nameOut at hk
  split at hk
  · rename_i hc
    simp only [Bool.and_eq_true, beq_iff_eq, decide_eq_true_eq] at hc
    simp only [Option.some.injEq] at hk
    subst hk
    exact ⟨rfl, Nat.lt_of_lt_of_le hc.2 (Nat.le_add_right _ _)⟩
  · split at hk
    · split at hk
      · simp only [Option.some.injEq] at hk
        subst hk
        exact ⟨rfl, by simp⟩
      · cases hk
    · cases hk
theorem outRows_sound {m : Nat} {ex : Option K2} {rows : List Row} (hex : ∀ e, ex = some e → e.1 = 1) (H : HRep σ I base w h1) (hok : rowsOk h1 0 m = true) (ho : outRows m ex h1 0 m = some rows) :
    HRep (outSig σ m ex h1) I base w [rows] ∧ rows.length = m + (if ex.isSome then 1 else 0) ∧ ∀ (j : Nat) (r : Row), rows[j]? = some r → r.g = j ∧ r.b ≠ .dead ∧ Own rows.length (refsB r.b) := by
  obtain ⟨hlen, hg, hgx⟩ := outRows_get ho
  -- each row is one of the callee's
  have hrow : ∀ (j : Nat) (r : Row), rows[j]? = some r → ∃ k : K2, (j < m ∧ k = (0, j) ∨ j = m ∧ k.1 = 1) ∧ RowRep (outSig σ m ex h1) I base w r ∧ blkOf (outSig σ m ex h1) r = blkOf σ (hget h1 k.1 k.2) := by
    intro j r hj
    by_cases hjm : j < m
    · obtain ⟨b, hb, rfl⟩ := hg j r hjm hj
      obtain ⟨k1, k2⟩ := rowsOk_get hok j hjm
      simp only [Nat.zero_add] at k1 k2 hb ⊢
      exact ⟨(0, j), .inl ⟨hjm, rfl⟩, row_ren (H.rows 0 j) hb (fun x hx => by rw [k1] at hx; rw [outSig_lt hjm]; exact hx) (named_out k2 hok) fun b0 hb0 => (blkOf_facts (H.rows 0 j) hb0).2.2⟩
    · have hl : j < rows.length := (List.getElem?_eq_some_iff.1 hj).1
      cases ex with
      | none => simp at hlen; omega
      | some e =>
        simp only [Option.isSome_some, if_true] at hlen
        have hje : j = m := by omega
        subst hje
        obtain ⟨k, t, xs, fz, hb, rfl⟩ := hgx e r rfl hj
        refine ⟨e, .inr ⟨rfl, hex e rfl⟩, row_ren (b' := .row k t xs fz) (ρ := nameOut j (some e)) (H.rows e.1 e.2) (by rw [hb]; rfl) (fun x hx => by simp only [outSig, if_true]; exact hx) ?_ fun b0 hb0 => (blkOf_facts (H.rows e.1 e.2) hb0).2.2⟩
        rw [hb]
        intro q hq
        simp [refsB] at hq
  refine ⟨HRep.of_rows H.inW (fun j r hj => let ⟨_, _, h, _⟩ := hrow j r hj; h) fun i j r r' b hi hj e1 e2 => ?_, hlen, fun j r hj => ?_⟩
  · obtain ⟨k, hk, _, e⟩ := hrow i r hi
    obtain ⟨k', hk', _, e'⟩ := hrow j r' hj
    rw [e] at e1
    rw [e'] at e2
    have := H.apart _ _ _ _ _ e1 e2
    rcases hk with ⟨a1, rfl⟩ | ⟨a1, a2⟩ <;> rcases hk' with ⟨b1, rfl⟩ | ⟨b1, b2⟩
    · exact this.2
    · have := this.1; simp at this; omega
    · have := this.1; simp at this; omega
    · omega
  · have hl : j < rows.length := (List.getElem?_eq_some_iff.1 hj).1
    by_cases hjm : j < m
    · obtain ⟨b, hb, rfl⟩ := hg j r hjm hj
      refine ⟨by simp, ?_, by rw [hlen]; exact nameOut_own (renB_refs hb)⟩
      rintro rfl
      cases hb2 : (hget h1 0 (0 + j)).b <;> rw [hb2] at hb <;> simp [renB] at hb
    · cases ex with
      | none => simp at hlen; omega
      | some e =>
        simp only [Option.isSome_some, if_true] at hlen
        have hje : j = m := by omega
        subst hje
        obtain ⟨k, t, xs, fz, hb, rfl⟩ := hgx e r rfl hj
        exact ⟨rfl, by simp, fun q hq => by simp [refsB] at hq⟩
theorem exKey_one {m : Nat} : ∀ e, exKey m h1 = some e → e.1 = 1 := by
  intro e he
  simp only [exKey, Option.map_eq_some_iff] at he
  obtain ⟨q, hq, rfl⟩ := he
  simpa using List.find?_some hq
theorem canOut_sound {m : Nat} {v v' : AV} {rows : List Row} {u : Value} (H : HRep σ I base w h1) (hr : Rep σ I w v u) (ho : canOut m v h1 = some (v', rows)) :
    ∃ I' τ, (∀ i, i < m → τ i = σ i) ∧ HRep τ I' base w [rows] ∧ Rep τ I' w v' u ∧ More I I' base ∧ m ≤ rows.length ∧ rows.length ≤ m + 1 ∧ Own rows.length (refs frzDepth v') ∧ ∀ (j : Nat) (r : Row), rows[j]? = some r → r.g = j ∧ r.b ≠ .dead ∧ Own rows.length (refsB r.b) := by
  have len : ∀ {ex : Option K2}, rows.length = m + (if ex.isSome then 1 else 0) → m ≤ rows.length ∧ rows.length ≤ m + 1 := fun h => by split at h <;> omega
  unfold canOut at ho
  split at ho
  · rename_i v1 hv1
    split at ho
    · rename_i hc
      simp only [Bool.and_eq_true] at hc
      simp only [Option.map_eq_some_iff, Prod.mk.injEq] at ho
      obtain ⟨rs, hrs, rfl, rfl⟩ := ho
      obtain ⟨k1, k2, k3⟩ := outRows_sound exKey_one H hc.2 hrs
      exact ⟨I, _, fun i hi => outSig_lt hi, k1, ren_rep frzDepth hv1 (named_out hc.1 hc.2) hr, More.refl, (len k2).1, (len k2).2, by rw [k2]; exact nameOut_own (ren_refs frzDepth hv1), k3⟩
    · cases ho
  · simp only [Option.bind_eq_some_iff] at ho
    obtain ⟨⟨p, h2⟩, hz, ho⟩ := ho
    simp only [] at ho
    split at ho
    · rename_i hc
      simp only [Option.map_eq_some_iff, Prod.mk.injEq] at ho
      obtain ⟨rs, hrs, rfl, rfl⟩ := ho
      obtain ⟨I2, hp, H2, m2⟩ := frz_sound frzDepth v h1 p h2 u I hz hr H
      obtain ⟨k1, k2, k3⟩ := outRows_sound exKey_one H2 hc hrs
      exact ⟨I2, _, fun i hi => outSig_lt hi, k1, .pv _ _ hp, m2, (len k2).1, (len k2).2, fun q hq => by simp [refs, frzDepth] at hq, k3⟩
    · cases ho
theorem backRows_get {β : K2 → Option (K2 × Nat)} {h0 : Heap} : ∀ {rows : List Row} {ks : List K2} {h h' : Heap}, backRows β h0 rows ks h = some h' → ks.Nodup → rows.length = ks.length ∧
    (∀ d s, (d, s) ∉ ks → hget h' d s = hget h d s) ∧ ∀ (j : Nat) (k : K2), ks[j]? = some k → ∃ r b, rows[j]? = some r ∧ renB β r.b = some b ∧ hget h' k.1 k.2 = ⟨(hget h0 k.1 k.2).g, b⟩
  | [], [], h, h', e, _ => by simp [backRows] at e; subst e; exact ⟨rfl, fun _ _ _ => rfl, fun j k hk => by simp at hk⟩
  | [], _ :: _, h, h', e, _ => by simp [backRows] at e
  | _ :: _, [], h, h', e, _ => by simp [backRows] at e
  | r :: rs, k :: ks, h, h', e, hnd => by
    simp only [backRows, Option.bind_eq_some_iff] at e
    obtain ⟨b, hb, e⟩ := e
    obtain ⟨hk, hnd⟩ := List.nodup_cons.1 hnd
    obtain ⟨h1, h2, h3⟩ := backRows_get e hnd
    refine ⟨by simp [h1], fun d s hds => ?_, fun j q hq => ?_⟩
    · simp only [List.mem_cons, not_or] at hds
      rw [h2 d s hds.2, hget_hput, if_neg (fun e => hds.1 (Prod.ext e.1.symm e.2.symm))]
    · cases j with
      | zero =>
        simp at hq
        subst hq
        refine ⟨r, b, rfl, hb, ?_⟩
        rw [h2 k.1 k.2 hk, hget_hput, if_pos ⟨rfl, rfl⟩]
      | succ j =>
        obtain ⟨r', b', g1, g2, g3⟩ := h3 j q (by simpa using hq)
        exact ⟨r', b', by simpa using g1, g2, g3⟩
theorem named_back {ks : List K2} {l : List (K2 × Nat)} {m : Nat} (hm : m = ks.length) (ho : Own m l) {τ : Sig} (hτ : ∀ i, i < m → τ i = sigIn σ h ks i) : Named (nameBack ks h) τ σ l := by
  intro q hq k hk x hx
  simp only [nameBack, Option.map_eq_some_iff] at hk
  obtain ⟨y, hy, rfl⟩ := hk
  obtain ⟨h1, h2⟩ := ho q hq
  rw [h1, hτ _ h2] at hx
  simp only [sigIn, hy, Option.bind_some] at hx
  exact hx
theorem backK_sound {ks : List K2} {rows : List Row} {v v' : AV} {u : Value} {τ : Sig} (H : HRep σ I base w h) (hnd : ks.Nodup) (hτ : ∀ i, i < ks.length → τ i = sigIn σ h ks i)
    (hI : ∀ b, I b → I' b) (hN : ∀ b, I' b → I b ∨ ¬ others σ h ks base b) (hk : Keep0 I w w') (hw : Blw (others σ h ks base) w w') (Hc : HRep τ I' (others σ h ks base) w' [rows]) (hr : Rep τ I' w' v u)
    (hov : Own ks.length (refs frzDepth v)) (hor : ∀ (j : Nat) (r : Row), rows[j]? = some r → r.g = j ∧ Own ks.length (refsB r.b)) (he : backK ks h v rows = some (v', h')) : HRep σ I' base w' h' ∧ Rep σ I' w' v' u := by
  simp only [backK, Option.bind_eq_some_iff, Option.map_eq_some_iff, Prod.mk.injEq] at he
  obtain ⟨v1, hv1, h1, hh1, rfl, rfl⟩ := he
  obtain ⟨hlen, hout, hkey⟩ := backRows_get hh1 hnd
  have hrow : ∀ (j : Nat) (k : K2), ks[j]? = some k → RowRep σ I' base w' (hget h1 k.1 k.2) ∧ ∃ r, rows[j]? = some r ∧ blkOf σ (hget h1 k.1 k.2) = blkOf τ r := by
    intro j k hj
    obtain ⟨r, b, hr, hb, e⟩ := hkey j k hj
    have hjm : j < ks.length := (List.getElem?_eq_some_iff.1 hj).1
    have hrr := Hc.rows 0 j
    rw [hget_one, if_pos rfl, List.getD_eq_getElem?_getD, hr, Option.getD_some] at hrr
    have := row_ren (τ := σ) (base' := base) (g' := (hget h k.1 k.2).g) hrr hb (fun x hx => by rw [(hor j r hr).1, hτ j hjm] at hx; simpa [sigIn, hj] using hx) (named_back rfl (hor j r hr).2 hτ) fun b0 hb0 h0 => (blkOf_facts hrr hb0).2.2 (.inl h0)
    rw [e]
    exact ⟨this.1, r, hr, this.2⟩
  have hoth : ∀ d s b, (d, s) ∉ ks → blkOf σ (hget h d s) = some b → w'.heap[b]? = w.heap[b]? ∧ ¬ I' b := by
    intro d s b hds hb
    have ho : others σ h ks base b := .inr ⟨d, s, hds, hb⟩
    exact ⟨hw.block b ho, fun hi => (hN b hi).elim (blkOf_facts (H.rows d s) hb).2.1 fun h2 => h2 ho⟩
  have hcb : ∀ (j : Nat) (r : Row) (b : Nat), rows[j]? = some r → blkOf τ r = some b → ¬ others σ h ks base b := by
    intro j r b hj hb
    have hrr := Hc.rows 0 j
    rw [hget_one, if_pos rfl, List.getD_eq_getElem?_getD, hj, Option.getD_some] at hrr
    exact (blkOf_facts hrr hb).2.2
  refine ⟨⟨fun d s => ?_, fun d s d' s' b e1 e2 => ?_, Hc.inW⟩, ren_rep frzDepth hv1 (named_back rfl hov hτ) hr⟩
  · by_cases hds : (d, s) ∈ ks
    · obtain ⟨j, hj⟩ := List.mem_iff_getElem?.1 hds
      exact (hrow j (d, s) hj).1
    · rw [hout d s hds]
      exact (H.rows d s).mono (fun _ _ h => h) hI hk fun b hb => hoth d s b hds hb
  · by_cases hds : (d, s) ∈ ks
    · obtain ⟨j, hj⟩ := List.mem_iff_getElem?.1 hds
      obtain ⟨_, r, hr, e⟩ := hrow j (d, s) hj
      rw [e] at e1
      by_cases hds' : (d', s') ∈ ks
      · obtain ⟨j', hj'⟩ := List.mem_iff_getElem?.1 hds'
        obtain ⟨_, r', hr', e'⟩ := hrow j' (d', s') hj'
        rw [e'] at e2
        have hjj : j = j' := by
          refine (Hc.apart 0 j 0 j' b ?_ ?_).2
          · rw [hget_one, if_pos rfl, List.getD_eq_getElem?_getD, hr, Option.getD_some]; exact e1
          · rw [hget_one, if_pos rfl, List.getD_eq_getElem?_getD, hr', Option.getD_some]; exact e2
        subst hjj
        rw [hj] at hj'
        simpa using hj'
      · rw [hout d' s' hds'] at e2
        exact absurd (.inr ⟨d', s', hds', e2⟩) (hcb j r b hr e1)
    · rw [hout d s hds] at e1
      by_cases hds' : (d', s') ∈ ks
      · obtain ⟨j', hj'⟩ := List.mem_iff_getElem?.1 hds'
        obtain ⟨_, r', hr', e'⟩ := hrow j' (d', s') hj'
        rw [e'] at e2
        exact absurd (.inr ⟨d, s, hds, e1⟩) (hcb j' r' b hr' e2)
      · rw [hout d' s' hds'] at e2
        exact H.apart d s d' s' b e1 e2
theorem HRep.less (H : HRep σ I base w h) (hb : ∀ b, base' b → base b) : HRep σ I base' w h where
  inW := H.inW
  apart := H.apart
  rows d s := by
    have fz : ∀ {b n : Nat} {f : Bool}, Fz I base w b n f → Fz I base' w b n f := by
      intro b n f hz
      cases f with
      | true => exact hz
      | false => exact ⟨hz.1, fun h => hz.2.1 (hb _ h), hz.2.2⟩
    have hr := H.rows d s
    revert hr
    generalize hget h d s = r
    intro hr
    obtain ⟨g, bd⟩ := r
    cases bd with
    | dead => trivial
    | box v f => obtain ⟨b, e, h1, h2, h3, h4, h5⟩ := hr; exact ⟨b, e, h1, h2, h3, h4, fz h5⟩
    | row k e xs f => obtain ⟨b, o, n, h1, h2, h3, h4, h5, h6⟩ := hr; exact ⟨b, o, n, h1, h2, h3, h4, h5, fz h6⟩
    | iter s p => obtain ⟨b, k, h1, h2, h3, h4⟩ := hr; exact ⟨b, k, h1, h2, h3, fun h => h4 (hb _ h)⟩
    | lp st => obtain ⟨b, k, h1, h2, h3, h4⟩ := hr; exact ⟨b, k, h1, h2, h3, fun h => h4 (hb _ h)⟩
theorem canBack_sound {d slot gen : Nat} {ks : List K2} {rows : List Row} {v v' : AV} {u : Value} {τ : Sig} (H : HRep σ I base w h) (hg : σ gen = none) (hnd : ks.Nodup) (hτ : ∀ i, i < ks.length → τ i = sigIn σ h ks i)
    (hI : ∀ b, I b → I' b) (hN : ∀ b, I' b → I b ∨ ¬ others σ h ks base b) (hk : Keep0 I w w') (hw : Blw (others σ h ks base) w w') (Hc : HRep τ I' (others σ h ks base) w' [rows]) (hr : Rep τ I' w' v u)
    (h1l : ks.length ≤ rows.length) (h2l : rows.length ≤ ks.length + 1)
    (hov : Own rows.length (refs frzDepth v)) (hor : ∀ (j : Nat) (r : Row), rows[j]? = some r → r.g = j ∧ r.b ≠ .dead ∧ Own rows.length (refsB r.b)) (he : canBack d slot gen ks h v rows = some (v', h')) :
    ∃ σ1, (∀ g x, σ g = some x → σ1 g = some x) ∧ (∀ g, g ≠ gen → σ1 g = σ g) ∧ HRep σ1 I' base w' h' ∧ Rep σ1 I' w' v' u := by
  unfold canBack at he
  split at he
  · rename_i hlen
    rw [hlen] at hov hor
    obtain ⟨a, b⟩ := backK_sound H hnd hτ hI hN hk hw Hc hr hov (fun j r hj => ⟨(hor j r hj).1, (hor j r hj).2.2⟩) he
    exact ⟨σ, fun _ _ h => h, fun _ _ => rfl, a, b⟩
  · rename_i hlen
    split at he
    rotate_left
    · cases he
    rename_i hnk
    have hnk := kidx_none (Option.isNone_iff_eq_none.1 hnk)
    have hlen : rows.length = (ks ++ [(d, slot)]).length := by simp; omega
    -- the rows as they lie in the callee's picture
    have hrg : ∀ (j : Nat), j < rows.length → ∃ x, τ j = some x := by
      intro j hj
      have hrr := Hc.rows 0 j
      obtain ⟨k1, k2, _⟩ := hor j rows[j] (List.getElem?_eq_getElem hj)
      rw [hget_one, if_pos rfl, List.getD_eq_getElem?_getD, List.getElem?_eq_getElem hj, Option.getD_some] at hrr
      generalize rows[j] = r at hrr k1 k2
      obtain ⟨g, bd⟩ := r
      simp only at k1
      subst k1
      cases bd with
      | dead => exact absurd rfl k2
      | box v f => obtain ⟨b, e, h1, _⟩ := hrr; exact ⟨_, h1⟩
      | row k e xs f => obtain ⟨b, o, n, h1, _⟩ := hrr; exact ⟨_, h1⟩
      | iter s p => obtain ⟨b, k, h1, _⟩ := hrr; exact ⟨_, h1⟩
      | lp st => obtain ⟨b, k, h1, _⟩ := hrr; exact ⟨_, h1⟩
    obtain ⟨x, hx⟩ := hrg ks.length (by simp at hlen; omega)
    have H0 : HRep (upd σ gen x) I base w (hput h d slot ⟨gen, .dead⟩) :=
      H.put (upd_sub hg) (fun _ h => h) (Keep.refl I w).zero H.inW d slot _ trivial fun d' s' b' _ hb' => ⟨rfl, (blkOf_facts (H.rows d' s') hb').2.1, by simp [blkOf]⟩
    have hoth : ∀ b, others (upd σ gen x) (hput h d slot ⟨gen, .dead⟩) (ks ++ [(d, slot)]) base b → others σ h ks base b := by
      rintro b (hb | ⟨d', s', hn, hb⟩)
      · exact .inl hb
      · simp only [List.mem_append, List.mem_singleton, not_or] at hn
        have hne : ¬ (d = d' ∧ slot = s') := fun e => hn.2 (Prod.ext e.1.symm e.2.symm)
        rw [hget_hput, if_neg hne, blkOf_sig (H.rows d' s') (upd_sub hg)] at hb
        exact .inr ⟨d', s', hn.1, hb⟩
    have hks : ∀ k ∈ ks, hget (hput h d slot ⟨gen, .dead⟩) k.1 k.2 = hget h k.1 k.2 := fun k hk => by
      rw [hget_hput, if_neg]
      rintro ⟨rfl, rfl⟩
      exact hnk hk
    have hτ1 : ∀ i, i < (ks ++ [(d, slot)]).length → τ i = sigIn (upd σ gen x) (hput h d slot ⟨gen, .dead⟩) (ks ++ [(d, slot)]) i := by
      intro i hi
      by_cases hik : i < ks.length
      · have hki : ks[i]? = some ks[i] := List.getElem?_eq_getElem hik
        have e : τ i = σ (hget h ks[i].1 ks[i].2).g := by rw [hτ i hik]; simp [sigIn, hki]
        obtain ⟨y, hy⟩ := hrg i (by rw [hlen]; exact hi)
        have hne : (hget h ks[i].1 ks[i].2).g ≠ gen := fun e2 => by rw [e, e2, hg] at hy; cases hy
        simp only [sigIn, List.getElem?_append_left hik, hki, Option.bind_some, hks _ (List.getElem_mem hik)]
        rw [upd_other hne, e]
      · have hie : i = ks.length := by simp at hi; omega
        subst hie
        simp [sigIn, hget_hput, upd_same, hx]
    rw [hlen] at hov hor
    obtain ⟨a, b⟩ := backK_sound H0 (List.nodup_append.2 ⟨hnd, by simp, fun a ha b hb => by rw [List.mem_singleton.1 hb]; rintro rfl; exact hnk ha⟩) hτ1 hI
      (fun b hb => (hN b hb).imp id fun h1 h2 => h1 (hoth b h2)) hk ⟨hw.os, hw.tape, hw.output, hw.size, fun k hk => hw.block k (hoth k hk)⟩ (Hc.less hoth) hr hov (fun j r hj => ⟨(hor j r hj).1, (hor j r hj).2.2⟩) he
    exact ⟨_, upd_sub hg, fun g hne => upd_other hne, a, b⟩
end
end Go.Proofs.YtcoeigibikbfdaaGreatDoor.Abs

namespace Go.Proofs.YtcoeigibikbfdaaGreatDoor.Abs
open Go Go.RowKit
section
variable {E : Env} {call : CallFn} {ys : Ys} {d : Nat} {base : Blk} {C : Cx} {σ : Sig} {I : Blk} {w : World} {h : Heap} {s s' : St} {a : Act} {P : Program}
theorem cell_sound {t : TypeId} {m : Nat} {ag : Bool} {d s g i off : Nat} {v v0 : AV} {fz : Bool} {u0 : Value} (H : HRep σ I base w h) (hm : szOf P t = some m) (hag : aggT P t = some ag) (hra : Rep σ I w (.mptr d s g i off) u0)
    (hl : Abs.live h d s g = .box v0 fz) (hi : i = 0) (hv : subA ag m off v0 = some v) : ∃ ad u, u0 = .pointer (some ad) ∧ (loadVar t ad).run P w = .ok u w ∧ Rep σ I w v u := by
  obtain ⟨b, ob, k, hs, hu⟩ := rep_mptr hra
  subst hi
  obtain ⟨b0, k0, e0, u0', hs0, hsh, hok, hru, hz, hf, h1c, hsz, hcell⟩ := box_val (H.live hl (by simp))
  rw [hs] at hs0
  simp only [Option.some.injEq, Prod.mk.injEq] at hs0
  obtain ⟨rfl, rfl, rfl⟩ := hs0
  have hsub := subA_sound (σ := σ) (I := I) (w := w) hv (us := u0'.cells.toList) (by simpa using hsz) h1c fun j c x hc hx => (hru.cells hok).2.2 j c x hc (by simpa using hx)
  have hload := run_loadVar_cells (P := P) (w := w) (b := b) (o := 0) (us := u0'.cells.toList) hm hag off fun j x hx => by simpa using hcell j x (by simpa using hx)
  simp only [Nat.zero_mul, Nat.add_zero, Nat.zero_add] at hu hload
  cases ag with
  | true => exact ⟨_, _, hu, hload.1 rfl (hsub.1 rfl).1, (hsub.1 rfl).2⟩
  | false =>
    obtain ⟨x, hx, hp⟩ := hsub.2 rfl
    exact ⟨_, _, hu, hload.2 rfl x hx, hp⟩
def resultRun (tmps : Array Value) : ResultVar → Sem Value
  | .tmp t => pure (tmps.getD t undef)
  | .cell a t => do loadVar t (← asAddr (tmps.getD a undef))
theorem result_sound (H : SRel C σ I w s a) {r : ResultVar} {v : AV} (hv : resultF P s.h s.t r = some v) : ∃ u, (resultRun a.tmps r).run P w = .ok u w ∧ Rep σ I w v u := by
  cases r with
  | tmp i =>
    simp only [resultF, Option.some.injEq] at hv
    subst hv
    exact ⟨_, rfl, H.tmp i⟩
  | cell i ty =>
    simp only [resultF, bind, Option.bind_eq_some_iff] at hv
    obtain ⟨m, hm, ag, hag, hv⟩ := hv
    have hr := H.tmp i
    split at hv
    · rename_i d s' g k off ht
      rw [ht] at hr
      split at hv
      · rename_i v0 fz hl
        split at hv
        · rename_i hi
          obtain ⟨ad, u, hu, hrun, hrep⟩ := cell_sound H.heap hm hag hr hl hi hv
          exact ⟨u, by simp [resultRun, hu, asAddr, hrun], hrep⟩
        · cases hv
      · cases hv
    · cases hv
theorem results_list (H : SRel C σ I w s a) : ∀ (rs : List ResultVar) (vs : List AV), rs.mapM (resultF P s.h s.t) = some vs → ∃ us : List Value, (rs.mapM (resultRun a.tmps)).run P w = .ok us w ∧ us.length = vs.length ∧ vs.length = rs.length ∧
    ∀ (j : Nat) (p : AV) (u : Value), vs[j]? = some p → us[j]? = some u → Rep σ I w p u
  | [], vs, h => by
    simp at h
    subst h
    exact ⟨[], rfl, rfl, rfl, fun j p u hp => by simp at hp⟩
  | r :: rs, vs, h => by
    simp only [List.mapM_cons, bind, Option.bind_eq_some_iff, pure, Option.some.injEq] at h
    obtain ⟨v, hv, vs', hvs, rfl⟩ := h
    obtain ⟨u, hu, hr⟩ := result_sound H hv
    obtain ⟨us, hus, hl, hl2, hrs⟩ := results_list H rs vs' hvs
    refine ⟨u :: us, by simp [List.mapM_cons, hu, hus], by simp [hl], by simp [hl2], fun j p x hp hx => ?_⟩
    cases j with
    | zero => simp at hp hx; subst hp hx; exact hr
    | succ j => exact hrs j p x (by simpa using hp) (by simpa using hx)
theorem mkTup_rep {cs : List AV} {vs : List Value} (hl : vs.length = cs.length)
    (hr : ∀ (j : Nat) (p : AV) (v : Value), cs[j]? = some p → vs[j]? = some v → Rep σ I w p v) : Rep σ I w (mkTup cs) (.tuple vs.toArray) := by
  unfold mkTup
  cases ha : allPV cs with
  | none => exact .tup cs vs hl hr
  | some ps =>
    have hcs := allPV_map ha
    subst hcs
    refine .pv _ _ (.tup ps vs (by simpa using hl) fun j p v hp hv => ?_)
    exact rep_pv (hr j (.pv p) v (by simp [hp]) hv)
theorem results_sound (H : SRel C σ I w s a) {fn : Func} {v : AV} (hv : resultsF P fn s.h s.t = some v) : ∃ u, (results fn a.tmps).run P w = .ok u w ∧ Rep σ I w v u := by
  have hres : results fn a.tmps = (do let vs ← fn.results.mapM (resultRun a.tmps); pure (if h : vs.size = 1 then vs[0] else .tuple vs)) := by
    unfold results
    congr 1
  have hrun : ∀ us : List Value, (fn.results.toList.mapM (resultRun a.tmps)).run P w = .ok us w → (fn.results.mapM (resultRun a.tmps)).run P w = .ok us.toArray w := by
    intro us hus
    rw [Array.mapM_eq_mapM_toList]
    simp [hus]
  unfold resultsF at hv
  split at hv
  · rename_i r hrs
    obtain ⟨u, hu, hr⟩ := result_sound H hv
    have := hrun [u] (by rw [hrs]; simp [hu])
    exact ⟨u, by rw [hres]; simp [this], hr⟩
  · rename_i hne
    simp only [Option.map_eq_some_iff] at hv
    obtain ⟨vs, hvs, rfl⟩ := hv
    obtain ⟨us, hus, hl, hl2, hr⟩ := results_list H _ vs hvs
    have h1 : us.toArray.size ≠ 1 := by
      intro e
      have e2 : fn.results.toList.length = 1 := by rw [← hl2, ← hl]; simpa using e
      obtain ⟨r, hr⟩ := List.length_eq_one_iff.1 e2
      exact hne r hr
    refine ⟨.tuple us.toArray, ?_, mkTup_rep hl hr⟩
    rw [hres]
    have := hrun us hus
    simp only [Sem.run_bind, this, Result.andThen_ok]
    rw [dif_neg h1]
    rfl
theorem hget_append (h : Heap) (d s : Nat) : hget (h ++ [[]]) d s = hget h d s := by
  unfold hget
  congr 1
  simp only [List.getD_eq_getElem?_getD]
  rw [List.getElem?_append]
  split
  · rfl
  · rename_i hd
    rw [List.getElem?_eq_none (by omega : h.length ≤ d)]
    cases hx : d - h.length <;> simp
theorem hget_take (h : Heap) (k d s : Nat) : hget (h.take k) d s = if d < k then hget h d s else row0 := by
  unfold hget
  simp only [List.getD_eq_getElem?_getD]
  rw [List.getElem?_take]
  split
  · rfl
  · simp
theorem HRep.sub {h' : Heap} (H : HRep σ I base w h) (hh : ∀ d s, hget h' d s = hget h d s ∨ hget h' d s = row0) : HRep σ I base w h' where
  inW := H.inW
  rows d s := by rcases hh d s with e | e <;> rw [e]; exact H.rows d s; trivial
  apart d s d' s' b h1 h2 := by
    rcases hh d s with e | e <;> rw [e] at h1
    · rcases hh d' s' with e' | e' <;> rw [e'] at h2
      · exact H.apart d s d' s' b h1 h2
      · simp [blkOf, row0] at h2
    · simp [blkOf, row0] at h1
theorem HRep.append (H : HRep σ I base w h) : HRep σ I base w (h ++ [[]]) := H.sub fun d s => .inl (hget_append h d s)
theorem HRep.take (H : HRep σ I base w h) (k : Nat) : HRep σ I base w (h.take k) := H.sub fun d s => by
  rw [hget_take]; split
  · exact .inl rfl
  · exact .inr rfl
theorem hget_nil (d s : Nat) : hget [[]] d s = row0 := by
  have := hget_append [] d s
  simp only [List.nil_append] at this
  rw [this]
  simp [hget]
theorem adopt_sound {σc : Sig} {base' : Blk} {h2 h3 hc : Heap} {dc slot gen : Nat} {v v' : AV} {u : Value} (H2 : HRep σ I base w h2) (Hc : HRep σc I base' w hc) (hbase : ∀ b, ¬ base' b → ¬ base b) (hr : Rep σc I w v u)
    (he : adopt dc hc v d slot gen h2 = some (v', h3)) (hg : σ gen = none) (hap : ∀ d s s' b, blkOf σ (hget h2 d s) = some b → blkOf σc (hget hc dc s') ≠ some b) :
    ∃ x, Rep (upd σ gen x) I w v' u ∧ HRep (upd σ gen x) I base w h3 := by
  unfold adopt at he
  split at he
  · rename_i d' s' g' off n full
    split at he
    · rename_i hd
      subst hd
      split at he
      · rename_i k e xs fz hl
        simp only [Option.some.injEq, Prod.mk.injEq] at he
        obtain ⟨rfl, rfl⟩ := he
        have hrow := Hc.live hl (by simp)
        have hlr := live_row hl (by simp)
        obtain ⟨b, o, m, hs, hsh, hm, hx, hcc, hz⟩ := hrow
        cases hr with
        | msl _ _ _ _ _ _ b' o' k' cap ad had hs' hn hfull hroom =>
          rw [hs] at hs'
          simp only [Option.some.injEq, Prod.mk.injEq] at hs'
          obtain ⟨rfl, rfl, rfl⟩ := hs'
          refine ⟨(b, o, k), .msl _ _ _ _ _ _ b o k cap ad had (upd_same ..) hn hfull hroom, ?_⟩
          refine H2.put (upd_sub hg) (fun _ h => h) (Keep.refl I w) H2.inW d slot _ ?_ ?_
          · refine ⟨b, o, m, upd_same .., hsh, hm, hx, hcc, ?_⟩
            cases fz with
            | true => exact hz
            | false => exact ⟨hz.1, hbase _ hz.2.1, hz.2.2⟩
          · intro d2 s2 b2 _ hb2
            refine ⟨rfl, (blkOf_facts (H2.rows d2 s2) hb2).2.1, fun hq => ?_⟩
            refine hap d2 s2 s' b2 hb2 ?_
            rw [hlr]
            cases fz with
            | true => simp [blkOf] at hq
            | false =>
              simp only [blkOf, upd_same, Option.map_some, Option.some.injEq] at hq
              simp [blkOf, hs, hq]
      · cases he
    · cases he
  · rename_i d' s' g' off
    split at he
    · rename_i hd
      subst hd
      split at he
      · rename_i p hl
        simp only [Option.some.injEq, Prod.mk.injEq] at he
        obtain ⟨rfl, rfl⟩ := he
        have hrow := Hc.live hl (by simp)
        have hlr := live_row hl (by simp)
        obtain ⟨b, e, hs, hsh, hok, hcc, hz⟩ := hrow
        cases hr with
        | mptr _ _ _ _ _ b' o' k' hs' =>
          rw [hs] at hs'
          simp only [Option.some.injEq, Prod.mk.injEq] at hs'
          obtain ⟨rfl, rfl, rfl⟩ := hs'
          refine ⟨(b, 0, 1), .mptr _ _ _ _ _ b 0 1 (upd_same ..), ?_⟩
          refine H2.put (upd_sub hg) (fun _ h => h) (Keep.refl I w) H2.inW d slot _ ?_ ?_
          · refine ⟨b, e, upd_same .., hsh, hok, fun j q hq => ?_, hz.1, hbase _ hz.2.1, hz.2.2⟩
            obtain ⟨u, h1, h2, h3⟩ := hcc j q hq
            refine ⟨u, h1, h2, ?_⟩
            simp only [AV.cells, List.getElem?_map, Option.map_eq_some_iff] at hq
            obtain ⟨q', _, rfl⟩ := hq
            cases h3 with
            | pv _ _ h3 => exact .pv _ _ h3
          · intro d2 s2 b2 _ hb2
            refine ⟨rfl, (blkOf_facts (H2.rows d2 s2) hb2).2.1, fun hq => ?_⟩
            refine hap d2 s2 s' b2 hb2 ?_
            rw [hlr]
            simp only [blkOf, upd_same, Option.map_some, Option.some.injEq] at hq
            simp [blkOf, hs, hq]
      · cases he
    · cases he
  · cases he
structure BodyPost (σ : Sig) (I : Blk) (base : Blk) (w : World) (g : Nat) (v : AV) (h' : Heap) (g' : Nat) (u : Value) (w' : World) (σ' : Sig) (I' : Blk) : Prop where
  rep : Rep σ' I' w' v u
  heap : HRep σ' I' base w' h'
  ext : Ext base σ I w σ' I' w'
  low : ∀ k, k < g → σ' k = σ k
  high : ∀ k, g' ≤ k → σ' k = none
  grow : g ≤ g'
theorem leave_sound {P : Program} {fn : Func} {tmps : Array Value} {R : Ending → World → Prop} {lo : Nat} (I : Blk) (w0 : World) : ∀ (ds : List Deferred) (w : World), (∀ x ∈ ds, ∃ D, lo ≤ D ∧ x = { target := .collected D, args := #[] } ∧ w.heap[D]? = some (Obj.deferred (some []))) → ds.Nodup →
    (∀ w' : World, (∀ b : Nat, (∀ x : Obj, w.heap[b]? = some x → x ≠ Obj.deferred (some [])) → w'.heap[b]? = w.heap[b]?) → (∀ b : Nat, b < lo → w'.heap[b]? = w.heap[b]?) → w'.heap.size = w.heap.size → w'.os = w.os ∧ w'.tape = w.tape ∧ w'.output = w.output →
      ∃ v, (results fn tmps).run P w' = .ok v w' ∧ R (.returned v) w') → LeavesInM (WF none) 0 P fn tmps R ds .returning w
  | [], w, _, _, h => h w (fun _ _ => rfl) (fun _ _ => rfl) rfl ⟨rfl, rfl, rfl⟩
  | d :: ds, w, hm, hnd, h => by
    obtain ⟨D, hD, rfl, hh⟩ := hm d (by simp)
    have hlt := lt_of_heap hh
    have hoth : ∀ b, b ≠ D → (w.putObj D (.deferred none)).heap[b]? = w.heap[b]? := fun b hb => World.putObj_heap_other hb
    refine ⟨by simp, .inl ⟨D, _, rfl, run_takeDeferred hh, ?_⟩⟩
    refine leave_sound (lo := lo) I w0 ds _ (fun x hx => ?_) (List.nodup_cons.1 hnd).2 fun w' h1 h2 h3 h4 => h w' (fun b hb => ?_) (fun b hb => ?_) ?_ h4
    · obtain ⟨D', d1, rfl, d3⟩ := hm x (by simp [hx])
      have hne : D' ≠ D := fun e => by subst e; exact (List.nodup_cons.1 hnd).1 hx
      exact ⟨D', d1, rfl, by rw [hoth D' hne]; exact d3⟩
    · have hne : b ≠ D := fun e => by subst e; exact hb _ hh rfl
      rw [h1 b (fun x hx => by rw [hoth b hne] at hx; exact hb x hx), hoth b hne]
    · rw [h2 b hb, hoth b (by omega)]
    · rw [h3]; simp [World.putObj]
theorem getT_padT (n : Nat) (l : List AV) (i : Nat) : getT (padT n l) i = getT l i := by
  unfold getT padT
  by_cases hi : i < l.length
  · simp [List.getD_eq_getElem?_getD, List.getElem?_append_left hi]
  · have h0 : l[i]? = none := List.getElem?_eq_none (by omega)
    simp only [List.getD_eq_getElem?_getD, h0, Option.getD_none, List.getElem?_append_right (by omega : l.length ≤ i), List.getElem?_replicate]
    split <;> rfl
theorem hget_padH (n d : Nat) (h : Heap) (d' s : Nat) : hget (padH n d h) d' s = hget h d' s := by
  unfold hget padH
  rw [getD_putL]
  by_cases hd : d = d'
  · subst hd
    simp only [if_true]
    by_cases hi : s < (h.getD d []).length
    · simp only [List.getD_eq_getElem?_getD (l := _ ++ _), List.getElem?_append_left hi]
      simp only [List.getD_eq_getElem?_getD]
    · have h0 : (h.getD d [])[s]? = none := List.getElem?_eq_none (by omega)
      rw [List.getD_eq_getElem?_getD (l := _ ++ _), List.getElem?_append_right (by omega), List.getElem?_replicate, List.getD_eq_getElem?_getD (l := h.getD d []), h0]
      split <;> rfl
  · simp [hd]
theorem body_sound (hcall : CallOk E call) (hfz : FzCall E call) (hmix : E.P.follows .mixedOrders = true) (hent : ∀ f, enters E f = true → ∀ args w, (callFunc f args).run E.P w = .ok (.enter f args) w) {f : FuncId} {fn : Func} (hf : E.P.funcs[f]? = some fn) (hwf : fnWf E fn = true) {fuel g g' : Nat} {args : List AV} {v : AV} {h' : Heap} {us : List Value}
    (hb : bodyF E call ys fuel fn d args h g = some (v, h', g')) (hys : YsOk E ys σ I w) (H : HRep σ I base w h) (hB : Bnd base w.heap.size) (hl : us.length = args.length)
    (hr : ∀ (j : Nat) (p : AV) (u : Value), args[j]? = some p → us[j]? = some u → Rep σ I w p u) (hfr : ∀ k, g ≤ k → σ k = none) :
    Does E.P f us.toArray w fun u w' => ∃ σ' I', BodyPost σ I base w g v h' g' u w' σ' I' := by
  unfold bodyF at hb
  simp only [Option.bind_eq_some_iff] at hb
  obtain ⟨c, hc, hb⟩ := hb
  simp only [fnWf, hc, Bool.and_eq_true, Bool.not_eq_true'] at hwf
  have hname := hwf.1
  have hrun : (callFunc f us.toArray).run E.P w = .ok (.enter f us.toArray) w := by
    simp only [beq_eq_false_iff_ne, ne_eq] at hname
    simp [callFunc, hf, hc, hname]
  refine .inr (.inl ⟨hrun, ?_⟩)
  refine (callsIn_wide (n := 0)).1 (callsIn_of_wp_marks (F := WF none) hf hc trivial ?_)
  have H0 : SRel ⟨fn.ntmps, base, w.heap.size, none⟩ σ I w { t := padT fn.ntmps args, h := padH fn.ntmps d h, g := g } { tmps := us.toArray ++ Array.replicate (fn.ntmps - us.toArray.size) undef, defers := [] } := by
    refine ⟨fun i => ?_, H.sub fun d' s' => .inl (hget_padH _ _ _ _ _), hfr, hB, by simp; omega, fun x hx => by simp at hx, List.nodup_nil, fun l hl => (by cases hl), hB, Nat.le_refl _⟩
    rw [getD_get]
    simp only [getT_padT]
    simp only [getT]
    by_cases hi : i < args.length
    · have h1 : args.getD i undefA = args[i] := by simp [hi]
      have h2 : (us.toArray ++ Array.replicate (fn.ntmps - us.toArray.size) undef)[i]? = some us[i] := by
        rw [Array.getElem?_append_left (by simp; omega)]
        simp
      rw [h1, h2]
      exact hr i _ _ (by simp [hi]) (by simp)
    · have h1 : args.getD i undefA = undefA := by simp [List.getElem?_eq_none (by omega : args.length ≤ i)]
      have h2 : ((us.toArray ++ Array.replicate (fn.ntmps - us.toArray.size) undef)[i]?).getD undef = undef := by
        rw [Array.getElem?_append_right (by simp; omega), Array.getElem?_replicate]
        split <;> rfl
      rw [h1, h2]
      exact .pv _ _ (.lit _)
  have key : ∀ (x : AExit) (s : St), codeF E call ys d fuel c { t := padT fn.ntmps args, h := padH fn.ntmps d h, g := g } = some (x, s) → (x = .normal ∨ x = .ret) → (resultsF E.P fn s.h s.t).map (fun v => (v, s.h, s.g)) = some (v, h', g') →
      c.wpIn (WF none) 0 E.P (bodyPostM (WF none) 0 E.P fn fun | .returned u, w' => ∃ σ' I', BodyPost σ I base w g v h' g' u w' σ' I' | _, _ => False) { tmps := us.toArray ++ Array.replicate (fn.ntmps - us.toArray.size) undef, defers := [] } w := by
    intro x s hs hx hres
    simp only [Option.map_eq_some_iff, Prod.mk.injEq] at hres
    obtain ⟨v', hres, rfl, rfl, rfl⟩ := hres
    refine code_sound hcall hfz hmix hent c ⟨fn.ntmps, base, w.heap.size, none⟩ hwf.2 _ x s hs σ I w _ _ H0 hys fun σ' I' w' a' hd => ?_
    have hleave : LeavesInM (WF none) 0 E.P fn a'.tmps (fun | .returned u, w' => ∃ σ' I', BodyPost σ I base w g v' s.h s.g u w' σ' I' | _, _ => False) a'.defers .returning w' := by
      refine leave_sound (lo := w.heap.size) I w a'.defers w' hd.rel.marks hd.rel.nodup fun w2 h1 h2 h3 h4 => ?_
      have hsh : ∀ b e n, w'.shape? b = some (e, n) → w2.heap[b]? = w'.heap[b]? := fun b e n hb => h1 b fun x hx e' => by
        subst e'
        unfold World.shape? at hb
        rw [hx] at hb
        cases hb
      have hkI : ∀ b, I' b → w2.heap[b]? = w'.heap[b]? := fun b hb => let ⟨o, h, hn⟩ := hd.rel.heap.inW b hb; h1 b fun x hx e' => by rw [h] at hx; injection hx with hx; subst hx; exact hn e'
      have hrow : ∀ d s' b, blkOf σ' (hget s.h d s') = some b → w2.heap[b]? = w'.heap[b]? := by
        intro d s' b hb
        have hR := hd.rel.heap.rows d s'
        generalize hget s.h d s' = r at hR hb
        obtain ⟨gr, bd⟩ := r
        cases bd with
        | dead => simp [blkOf] at hb
        | box v0 fz =>
          obtain ⟨b', e, hs', hsh', _⟩ := hR
          cases fz with
          | true => simp [blkOf] at hb
          | false => simp [blkOf, hs'] at hb; subst hb; exact hsh _ _ _ hsh'
        | row k e xs fz =>
          obtain ⟨b', o, n, hs', hsh', _⟩ := hR
          cases fz with
          | true => simp [blkOf] at hb
          | false => simp [blkOf, hs'] at hb; subst hb; exact hsh _ _ _ hsh'
        | iter st pos =>
          obtain ⟨b', k, hs', hh, _⟩ := hR
          simp [blkOf, hs'] at hb
          subst hb
          exact h1 _ fun x hx e' => by rw [hh] at hx; injection hx with hx; subst hx; cases e'
        | lp st =>
          obtain ⟨b', k, hs', ⟨r, hh, _⟩, _⟩ := hR
          simp [blkOf, hs'] at hb
          subst hb
          exact h1 _ fun x hx e' => by rw [hh] at hx; injection hx with hx; subst hx; cases e'
      have hk0 : Keep0 I' w' w2 := ⟨hkI, fun b e n hb => by rw [shape_of_heap (hsh b e n hb)]; exact hb⟩
      have hH2 : HRep σ' I' base w2 s.h := hd.rel.heap.keep (fun _ _ h => h) (fun _ h => h) hk0 (fun b hb => (hd.rel.heap.inW b hb).keep (hkI b hb)) fun d s' b hb => ⟨hrow d s' b hb, (blkOf_facts (hd.rel.heap.rows d s') hb).2.1⟩
      have hS2 : SRel ⟨fn.ntmps, base, w2.heap.size, none⟩ σ' I' w2 s { a' with defers := [] } :=
        ⟨fun i => (hd.rel.tmp i).mono (fun _ _ h => h) (fun _ h => h) hk0, hH2, hd.rel.fresh, hd.rel.hb.mono (Nat.le_of_eq h3.symm), hd.rel.hn, fun x hx => by simp at hx, List.nodup_nil, fun l hl => (by cases hl), hd.rel.hb.mono (Nat.le_of_eq h3.symm),
          Nat.le_refl _⟩
      obtain ⟨u, hu, hrep⟩ := results_sound hS2 hres
      refine ⟨u, hu, σ', I', hrep, hH2, ⟨hd.ext.sig, hd.ext.blk, hd.ext.new, ⟨fun b hb => ?_, fun b e n hb => ?_, fun b r hb => ?_, fun b hb => ?_⟩, ⟨?_, ?_, ?_, ?_, fun k hk => ?_⟩⟩, hd.low, hd.rel.fresh, hd.grow⟩
      · rw [hkI b (hd.ext.blk b hb)]; exact hd.ext.kp.keep b hb
      · exact hk0.shape b e n (hd.ext.kp.shape b e n hb)
      · obtain ⟨r', hr1, hr2⟩ := hd.ext.kp.loop b r hb
        exact ⟨r', by rw [h1 b (fun x hx e' => by rw [hr1] at hx; injection hx with hx; subst hx; cases e')]; exact hr1, hr2⟩
      · rw [h2 b (lt_of_heap hb)]; exact hd.ext.kp.dfr b hb
      · rw [h4.1]; exact hd.ext.below.os
      · rw [h4.2.1]; exact hd.ext.below.tape
      · rw [h4.2.2]; exact hd.ext.below.output
      · rw [h3]; exact hd.ext.below.size
      · rw [h2 k (hB k hk)]; exact hd.ext.below.block k hk
    rcases hx with rfl | rfl
    · exact hleave
    · exact hleave
  split at hb
  · rename_i s hs; exact key _ s hs (.inl rfl) hb
  · rename_i s hs; exact key _ s hs (.inr rfl) hb
  · cases hb
def PureDoes (P : Program) (f : FuncId) (us : Array Value) (w : World) (I : Blk) (r : PV) : Prop := Does P f us w fun u w' => ∃ I' : Blk, PRep I' w' r u ∧ (∀ b, I b → I' b) ∧ (∀ b, I' b → I b ∨ w.heap.size ≤ b) ∧
  Below w.heap.size w w' ∧ ∀ b, I' b → Solid w' b
structure AsOk (P : Program) (gl : Blk → World → Prop) (f : FuncId) (t2 t1 : TypeId) : Prop where
  no : ∀ (x : Value) (w : World), Does P f #[.nilIface, x] w fun u w' => u = .bool false ∧ w' = w
  hit : ∀ (I : Blk) (w : World) (e : Addr) (t : Nat) (old : Value), gl I w → w.cell? ⟨t, 0, none⟩ = some old → w.frozen? ⟨t, 0, none⟩ = false →
    Does P f #[.iface t1 (.pointer (some e)), .iface t2 (.pointer (some ⟨t, 0, none⟩))] w fun u w' => u = .bool true ∧ ∃ w1, Below w.heap.size w w1 ∧ w' = w1.setCell ⟨t, 0, none⟩ (.pointer (some e))
structure CkOk (P : Program) (f : FuncId) (T : TypeId) : Prop where
  fresh : ∀ (b : Nat) (w : World), w.cell? ⟨b, 0, none⟩ = some (.pointer none) → w.shape? b = some (T, 2) → w.frozen? ⟨b, 0, none⟩ = false →
    Does P f #[.pointer (some ⟨b, 0, none⟩)] w fun u w' => u = .tuple #[] ∧ w' = w.setCell ⟨b, 0, none⟩ (.pointer (some ⟨b, 0, none⟩))
  used : ∀ (b : Nat) (w : World), w.cell? ⟨b, 0, none⟩ = some (.pointer (some ⟨b, 0, none⟩)) → Does P f #[.pointer (some ⟨b, 0, none⟩)] w fun u w' => u = .tuple #[] ∧ w' = w
structure EnvOk (E : Env) : Prop where
  ck : ∀ (f : FuncId) (T : TypeId), E.ckf f = some T → CkOk E.P f T
  as : ∀ (f : FuncId) (t2 t1 : TypeId), E.asf f t2 = some t1 → AsOk E.P E.gl f t2 t1
  mixed : E.P.follows .mixedOrders = true
  wf : ∀ (f : FuncId) (fn : Func), E.ok f = true → E.P.funcs[f]? = some fn → fnWf E fn = true
  intr : ∀ (f : FuncId) (F : List PV → Option PV), E.intr f = some F → ∀ (ps : List PV) (r : PV), F ps = some r → ∀ (I : Blk) (w : World) (us : List Value), Gl E I w → us.length = ps.length →
    (∀ (j : Nat) (p : PV) (u : Value), ps[j]? = some p → us[j]? = some u → PRep I w p u) → (∀ b, I b → Solid w b) → PureDoes E.P f us.toArray w I r
theorem enters_run (hE : EnvOk E) (f : FuncId) (he : enters E f = true) (args : Array Value) (w : World) : (callFunc f args).run E.P w = .ok (.enter f args) w := by
  unfold enters at he
  simp only [Bool.and_eq_true] at he
  obtain ⟨⟨h1, h2⟩, h3⟩ := he
  split at h3
  · rename_i fn hfn
    have hwf := hE.wf f fn h1 hfn
    simp only [fnWf, Bool.and_eq_true, Bool.not_eq_true', beq_eq_false_iff_ne, ne_eq] at hwf
    cases hb : fn.body with
    | none => rw [hb] at h3; cases h3
    | some c => simp [callFunc, hfn, hb, hwf.1]
  · cases h3
theorem keep_old {I' : Blk} {w' : World} (H : HRep σ I base w h) (hB : Bnd base w.heap.size) (hI : ∀ b, I b → I' b) (hN : ∀ b, I' b → I b ∨ w.heap.size ≤ b) (hw : Below w.heap.size w w') (hin : ∀ b, I' b → Solid w' b) :
    HRep σ I' base w' h ∧ Ext base σ I w σ I' w' := by
  have hk : Keep I w w' := ⟨fun b hb => hw.block b (H.lt b hb), fun b e n hs => by rw [shape_of_heap (hw.block b (lt_of_shape hs))]; exact hs,
    fun b r hr => ⟨r, by rw [hw.block b (lt_of_heap hr)]; exact hr, SameLoop.refl r⟩, fun b hb => by rw [hw.block b (lt_of_heap hb)]; exact hb⟩
  refine ⟨H.keep (fun _ _ h => h) hI hk hin fun d s b hb => ?_, ⟨fun _ _ h => h, hI, fun b hb => (hN b hb).imp id (fun h1 h2 => Nat.lt_irrefl _ (Nat.lt_of_lt_of_le (hB b h2) h1)), hk, Blw.of_below hw hB⟩⟩
  obtain ⟨h1, h2, h3⟩ := blkOf_facts (H.rows d s) hb
  exact ⟨hw.block b h1, fun hb' => (hN b hb').elim h2 (by omega)⟩
theorem reps_pv {ps : List PV} {us : List Value} {σ : Sig} (hr : ∀ (j : Nat) (p : PV) (u : Value), ps[j]? = some p → us[j]? = some u → PRep I w p u) :
    ∀ (j : Nat) (p : AV) (u : Value), (ps.map AV.pv)[j]? = some p → us[j]? = some u → Rep σ I w p u := by
  intro j p u hp hu
  simp only [List.getElem?_map, Option.map_eq_some_iff] at hp
  obtain ⟨q, hq, rfl⟩ := hp
  exact .pv _ _ (hr j q u hq hu)
theorem own_heap (H : HRep σ I base w h) : HRep (fun _ => none) I (Old w) w [[]] where
  inW := H.inW
  rows d s := by rw [hget_nil]; trivial
  apart d s d' s' b h1 := by rw [hget_nil] at h1; simp [blkOf, row0] at h1
theorem BodyPost.pure {σ' : Sig} {I' : Blk} {w' : World} {g g' : Nat} {v : AV} {hc h2 : Heap} {u : Value} {p : PV} {k : Nat} (hp : BodyPost (fun _ => none) I (Old w) w g v hc g' u w' σ' I') (hf : frz k v hc = some (p, h2)) :
    ∃ I'', PRep I'' w' p u ∧ (∀ b, I b → I'' b) ∧ (∀ b, I'' b → I b ∨ w.heap.size ≤ b) ∧ Below w.heap.size w w' ∧ ∀ b, I'' b → Solid w' b := by
  obtain ⟨I2, hpr, H2, m⟩ := frz_sound k v hc p h2 u I' hf hp.rep hp.heap
  refine ⟨I2, hpr, fun b hb => m.1 b (hp.ext.blk b hb), fun b hb => ?_, hp.ext.below.below, H2.inW⟩
  rcases m.2 b hb with h | h
  · exact (hp.ext.new b h).imp id Nat.le_of_not_lt
  · exact .inr (Nat.le_of_not_lt h)
theorem callN_fz (E : Env) : ∀ n, FzCall E (callN E n)
  | 0 => fun f args _ _ _ _ => ⟨fun _ => none, fun ys d slot gen h g => by cases frzs frzDepth args h <;> rfl⟩
  | n + 1 => fun f args hown hinl hrd hm => by
    have has : ∀ h, specF E f args h = none := fun h => by
      unfold specF
      split
      · unfold ckF
        split
        · simp [hasMut, frzDepth] at hm
        · rfl
      · unfold asF
        split
        · simp [hasMut, frzDepth] at hm
        · rfl
    cases hi : E.intr f with
    | some F =>
      refine ⟨F, fun ys d slot gen h g => ?_⟩
      simp only [callN, hi]
    | none =>
      cases hf : E.P.funcs[f]? with
      | none => exact ⟨fun _ => none, fun ys d slot gen h g => by simp only [callN, hi, hf]; cases frzs frzDepth args h <;> rfl⟩
      | some fn =>
        by_cases hok : E.ok f = false
        · exact ⟨fun _ => none, fun ys d slot gen h g => by simp only [callN, hi, hf, hok, if_true, has]; cases frzs frzDepth args h <;> rfl⟩
        · refine ⟨fun ps => (bodyF E (callN E n) [] n fn 0 (ps.map .pv) [[]] 0).bind fun (v, hc, _) => (frz frzDepth v hc).map fun (p, _) => p, fun ys d slot gen h g => ?_⟩
          simp only [callN, hi, hf, hok, hinl, hown, hm, hrd, Bool.and_false, rdOut]
          cases frzs frzDepth args h with
          | none => rfl
          | some q =>
            obtain ⟨ps, h1⟩ := q
            simp only [Option.bind_some, Bool.or_self, Bool.false_eq_true, if_false]
            cases bodyF E (callN E n) [] n fn 0 (ps.map .pv) [[]] 0 with
            | none => rfl
            | some q =>
              obtain ⟨v, hc, g2⟩ := q
              simp only [Option.bind_some]
              cases frz frzDepth v hc with
              | none => rfl
              | some q => rfl
theorem rep_ifc {t : TypeId} {v : AV} {u : Value} (hr : Rep σ I w (.ifc t v) u) : ∃ u0, u = .iface t u0 ∧ Rep σ I w v u0 := by
  cases hr with
  | ifc _ _ u h => exact ⟨u, rfl, h⟩
theorem prep_iface {t : TypeId} {p : PV} {u : Value} (hr : PRep I w (.iface t p) u) : ∃ u0, u = .iface t u0 ∧ PRep I w p u0 := by
  cases hr with
  | iface _ _ u h => exact ⟨u, rfl, h⟩
theorem as_sound (hE : EnvOk E) {f : FuncId} {args : List AV} {gen g : Nat} {v : AV} {h' : Heap} {us : List Value} (ha : asF E f args h = some (v, h')) (hG : Gl E I w) (H : HRep σ I base w h) (hB : Bnd base w.heap.size)
    (hl : us.length = args.length) (hr : ∀ (j : Nat) (p : AV) (u : Value), args[j]? = some p → us[j]? = some u → Rep σ I w p u) (hg : σ gen = none) (hlt : gen < g) (hfr : ∀ k, g ≤ k → σ k = none) :
    Does E.P f us.toArray w fun u w' => ∃ σ' I', CallPost σ I base w gen g v h' g u w' σ' I' := by
  unfold asF at ha
  split at ha
  rotate_left
  · cases ha
  rename_i e t2 d s g0
  simp only [Option.bind_eq_some_iff] at ha
  obtain ⟨t1, ht1, ha⟩ := ha
  have hA := hE.as f t2 t1 ht1
  match us, hl with
  | [ue, ut], _ =>
    have he := hr 0 _ ue rfl rfl
    have ht := hr 1 _ ut rfl rfl
    obtain ⟨ut, rfl, ht2⟩ := rep_ifc ht
    obtain ⟨b, o, k, hs, rfl⟩ := rep_mptr ht2
    simp only [Nat.zero_mul, Nat.add_zero] at *
    split at ha
    · rename_i old t r o1 hlive hlx
      split at ha
      rotate_left
      · cases ha
      rename_i hc
      obtain ⟨rfl, hok, hag⟩ := hc
      simp only [Option.some.injEq, Prod.mk.injEq] at ha
      obtain ⟨rfl, rfl⟩ := ha
      have hpe := rep_pv he
      obtain ⟨ue, rfl, hpe2⟩ := prep_iface hpe
      obtain ⟨b1, ob1, vs, rfl, hI1, _⟩ := prep_ptr hpe2
      have hcs : old.cells = [old] := noAgg_cellsP hag
      obtain ⟨b0, k0, e0, u0', hs0, hsh, hok', hru, hz, hf, h1c, hsz, hcell⟩ := box_val (H.live hlive (by simp))
      rw [hs] at hs0
      simp only [Option.some.injEq, Prod.mk.injEq] at hs0
      obtain ⟨rfl, rfl, rfl⟩ := hs0
      subst hf
      have hlen1 : (AV.pv old).cells.length = 1 := by simp [AV.cells, hcs]
      rw [hlen1] at hsz hz
      have hu0 : ∃ x, u0'.cells[0]? = some x := ⟨u0'.cells[0], Array.getElem?_eq_getElem (by omega)⟩
      obtain ⟨x0, hx0⟩ := hu0
      refine (hA.hit I w ⟨b1, ob1 + o1, none⟩ b x0 hG (hcell 0 x0 hx0) (hz.2.2 0 (by omega))).mono ?_
      rintro u w' ⟨rfl, w1, hw, rfl⟩
      obtain ⟨H1, hx⟩ := keep_old (I' := I) H hB (fun _ h => h) (fun _ h => .inl h) hw (fun b hb => (H.inW b hb).keep (hw.block b (H.lt b hb)))
      have hput := box_put (off := 0) (new := [.pv (.ptr r o1)]) (vs := [.pointer (some ⟨b1, ob1 + o1, none⟩)]) (v' := .pv (.ptr r o1)) H1 hlive hs rfl (by simp [Value.oneCell'])
        (fun j p u hp hu => by
          match j with
          | 0 => simp at hp hu; subst hp; subst hu; exact hx.rep (.pv _ _ hpe2)
          | j + 1 => simp at hp) (by simp) (by simp [setA, AV.cells, AV.isAgg, AV.isTag, hcs, hag])
      exact ⟨σ, I, .pv _ _ (.lit _), hput.1, hx.trans hput.2.1, fun _ _ _ => rfl, hfr, Nat.le_refl _⟩
    · rename_i he0
      simp only [Option.some.injEq, Prod.mk.injEq] at ha
      obtain ⟨rfl, rfl⟩ := ha
      have hpe := rep_pv he
      cases hpe
      refine (hA.no _ w).mono ?_
      rintro u w' ⟨rfl, rfl⟩
      exact ⟨σ, I, .pv _ _ (.lit _), H, Ext.refl _ _ _ _, fun _ _ _ => rfl, hfr, Nat.le_refl _⟩
    · cases ha
theorem ck_sound (hE : EnvOk E) {f : FuncId} {args : List AV} {gen g : Nat} {v : AV} {h' : Heap} {us : List Value} (ha : ckF E f args h = some (v, h')) (H : HRep σ I base w h)
    (hl : us.length = args.length) (hr : ∀ (j : Nat) (p : AV) (u : Value), args[j]? = some p → us[j]? = some u → Rep σ I w p u) (hfr : ∀ k, g ≤ k → σ k = none) :
    Does E.P f us.toArray w fun u w' => ∃ σ' I', CallPost σ I base w gen g v h' g u w' σ' I' := by
  unfold ckF at ha
  split at ha
  rotate_left
  · cases ha
  rename_i d s g0
  simp only [Option.bind_eq_some_iff] at ha
  obtain ⟨T, hT, ha⟩ := ha
  have hC := hE.ck f T hT
  match us, hl with
  | [up], _ =>
    have hp := hr 0 _ up rfl rfl
    obtain ⟨b, o, k, hs, rfl⟩ := rep_mptr hp
    split at ha
    · rename_i c l hlive
      obtain ⟨b0, k0, e0, u0, hs0, hsh, hok0, hru, hz, hf, h1c, hsz, hcell⟩ := box_val (H.live hlive (by simp))
      rw [hs] at hs0
      simp only [Option.some.injEq, Prod.mk.injEq] at hs0
      obtain ⟨rfl, rfl, rfl⟩ := hs0
      subst hf
      have hlt : 0 < u0.cells.size := by rw [hsz]; simp [AV.cells]
      have hx0 : ∃ x, u0.cells[0]? = some x := ⟨u0.cells[0], Array.getElem?_eq_getElem hlt⟩
      obtain ⟨x0, hx0⟩ := hx0
      have hc0 := (hru.cells hok0).2.2 0 c x0 rfl hx0
      have hcl := hcell 0 x0 hx0
      simp only [Nat.zero_mul, Nat.add_zero, Nat.zero_add] at *
      split at ha
      · rename_i t
        split at ha
        rotate_left
        · cases ha
        rename_i ht
        obtain ⟨rfl, hl1⟩ := ht
        simp only [Option.some.injEq, Prod.mk.injEq] at ha
        obtain ⟨rfl, rfl⟩ := ha
        have hbt := boxOk_tag (box_tag (H.live hlive (by simp)) hs hsh) rfl
        subst hbt
        have hx : x0 = .pointer none := by cases hc0; rfl
        subst hx
        have hsz2 : (AV.agg (.btag t :: l)).cells.length = 2 := by simp [AV.cells, hl1]
        rw [hsz2] at hsh
        refine (hC.fresh b w hcl hsh (hz.2.2 0 (by rw [hsz2]; omega))).mono ?_
        rintro u w' ⟨rfl, rfl⟩
        have hput := box_put (off := 0) (new := [.mptr d s g0 0 0]) (vs := [.pointer (some ⟨b, 0, none⟩)]) (v' := .agg (.mptr d s g0 0 0 :: l)) H hlive hs rfl (by simp [Value.oneCell'])
          (fun j p u hp' hu => by
            match j with
            | 0 =>
              simp at hp' hu
              subst hp'; subst hu
              have := Rep.mptr (I := I) (w := w) d s g0 0 0 b 0 1 hs
              simpa using this
            | j + 1 => simp at hp') (by simp) (by simp [setA, AV.cells, AV.isAgg, AV.isTag, splice, mkAgg, allPV])
        exact ⟨σ, I, .pv _ _ (.tup [] [] rfl fun j p v hp => by simp at hp), hput.1, hput.2.1, fun _ _ _ => rfl, hfr, Nat.le_refl _⟩
      · rename_i d' s' g'
        split at ha
        rotate_left
        · cases ha
        rename_i heq
        obtain ⟨rfl, rfl, rfl⟩ := heq
        simp only [Option.some.injEq, Prod.mk.injEq] at ha
        obtain ⟨rfl, rfl⟩ := ha
        obtain ⟨b1, o1, k1, hs1, hx⟩ := rep_mptr hc0
        rw [hs] at hs1
        simp only [Option.some.injEq, Prod.mk.injEq] at hs1
        obtain ⟨rfl, rfl, rfl⟩ := hs1
        simp only [Nat.zero_mul, Nat.add_zero] at hx
        subst hx
        refine (hC.used b w hcl).mono ?_
        rintro u w' ⟨rfl, rfl⟩
        exact ⟨σ, I, .pv _ _ (.tup [] [] rfl fun j p v hp => by simp at hp), H, Ext.refl _ _ _ _, fun _ _ _ => rfl, hfr, Nat.le_refl _⟩
      · cases ha
    · cases ha
theorem spec_sound (hE : EnvOk E) {f : FuncId} {args : List AV} {gen g : Nat} {v : AV} {h' : Heap} {us : List Value} (ha : specF E f args h = some (v, h')) (hG : Gl E I w) (H : HRep σ I base w h) (hB : Bnd base w.heap.size)
    (hl : us.length = args.length) (hr : ∀ (j : Nat) (p : AV) (u : Value), args[j]? = some p → us[j]? = some u → Rep σ I w p u) (hg : σ gen = none) (hlt : gen < g) (hfr : ∀ k, g ≤ k → σ k = none) :
    Does E.P f us.toArray w fun u w' => ∃ σ' I', CallPost σ I base w gen g v h' g u w' σ' I' := by
  unfold specF at ha
  split at ha
  · exact ck_sound hE ha H hl hr hfr
  · exact as_sound hE ha hG H hB hl hr hg hlt hfr
theorem callN_sound (hE : EnvOk E) : ∀ n, CallOk E (callN E n) := by
  intro n
  induction n with
  | zero => intro ys σ I base w h f args d slot gen g v h' g' us he; simp [callN] at he
  | succ n ih =>
    intro ys σ I base w h f args d slot gen g v h' g' us he hys H hB hl hr hg hlt hfr
    -- a call that is given frozen arguments and gives a frozen result
    have pure : ∀ (ps : List PV) (h1 : Heap) (p : PV), frzs frzDepth args h = some (ps, h1) → (∀ (I1 : Blk), Gl E I1 w → HRep σ I1 base w h1 → us.length = ps.length →
        (∀ (j : Nat) (p : PV) (u : Value), ps[j]? = some p → us[j]? = some u → PRep I1 w p u) → PureDoes E.P f us.toArray w I1 p) → v = .pv p → h' = h1 → g' = g →
        Does E.P f us.toArray w fun u w' => ∃ σ' I', CallPost σ I base w gen g v h' g' u w' σ' I' := by
      rintro ps h1 p hfz hdo rfl rfl rfl
      obtain ⟨I1, hlen, hpr, H1, m⟩ := frzs_sound frzDepth args h ps h' us I hfz hl hr H
      refine (hdo I1 (hys.2.mono m.1 fun _ _ => rfl) H1 (by omega) hpr).mono ?_
      rintro u w' ⟨I', hp, hI, hN, hw, hin⟩
      obtain ⟨H2, hx⟩ := keep_old H1 hB hI hN hw hin
      exact ⟨σ, I', .pv _ _ hp, H2, m.ext.trans hx, fun _ _ _ => rfl, hfr, Nat.le_refl _⟩
    simp only [callN] at he
    split at he
    · rename_i F hF
      simp only [Option.bind_eq_some_iff, Option.map_eq_some_iff, Prod.mk.injEq] at he
      obtain ⟨⟨ps, h1⟩, hfz, r, hFr, rfl, rfl, rfl⟩ := he
      exact pure ps _ r hfz (fun I1 hG1 H1 hl1 hpr => hE.intr f F hF ps r hFr I1 w us hG1 hl1 hpr H1.inW) rfl rfl rfl
    · split at he
      · cases he
      · rename_i hF _ fn hfn
        split at he
        · simp only [Option.map_eq_some_iff, Prod.mk.injEq] at he
          obtain ⟨⟨v1, h1⟩, has, rfl, rfl, rfl⟩ := he
          exact spec_sound hE has hys.2 H hB hl hr hg hlt hfr
        · rename_i hok
          have hwf := hE.wf f fn (by simpa using hok) hfn
          split at he
          · split at he
            · -- under names of its own
              simp only [Option.bind_eq_some_iff] at he
              obtain ⟨⟨ks, cargs, rows⟩, hin, he⟩ := he
              simp only [] at he
              split at he
              rotate_left
              · cases he
              rename_i hgen
              simp only [Option.bind_eq_some_iff, Option.map_eq_some_iff, Prod.mk.injEq] at he
              obtain ⟨⟨vc, rs⟩, hcan, ⟨v1, h1⟩, hbk, rfl, rfl, rfl⟩ := he
              unfold canF at hcan
              simp only [Option.bind_eq_some_iff] at hcan
              obtain ⟨⟨vb, hb1, gb1⟩, hbody, hout⟩ := hcan
              obtain ⟨Hc, hBc, hlc, hrc, hrl, hnd⟩ := canIn_sound H hB hin hgen hl hr
              refine (body_sound ih (callN_fz E n) hE.mixed (enters_run hE) hfn hwf hbody (YsOk.nil hys.2) Hc.append hBc hlc hrc (fun k hk => by simp [sigIn, List.getElem?_eq_none (show ks.length ≤ k by omega)])).mono ?_
              rintro u w' ⟨σ', I', hp⟩
              obtain ⟨I2, τ, hτ, Hc2, hr2, m2, hm1, hm2, hov, hor⟩ := canOut_sound hp.heap hp.rep hout
              rw [hrl] at hm1 hm2
              obtain ⟨σ1, s1, s2, H3, hr3⟩ := canBack_sound (I' := I2) H hg hnd (fun i hi => (hτ i (by omega)).trans (hp.low i (by omega))) (fun b hb => m2.1 b (hp.ext.blk b hb)) (fun b hb => (m2.2 b hb).elim (fun h => hp.ext.new b h) .inr) hp.ext.kp.zero hp.ext.below Hc2 hr2 hm1 hm2 hov hor hbk
              refine ⟨σ1, I2, hr3, H3, ⟨s1, fun b hb => m2.1 b (hp.ext.blk b hb), fun b hb => ?_, hp.ext.kp, ⟨hp.ext.below.os, hp.ext.below.tape, hp.ext.below.output, hp.ext.below.size, fun k hk => hp.ext.below.block k (.inl hk)⟩⟩, fun k _ hne => s2 k hne, fun k hk => by rw [s2 k (by omega)]; exact hfr k hk, Nat.le_refl _⟩
              rcases m2.2 b hb with h2 | h2
              · exact (hp.ext.new b h2).imp id fun h3 h4 => h3 (.inl h4)
              · exact .inr fun h4 => h2 (.inl h4)
            -- in the caller's own heap
            simp only [Option.bind_eq_some_iff] at he
            obtain ⟨⟨v0, h1, g1⟩, hbody, he⟩ := he
            simp only [] at he
            refine (body_sound ih (callN_fz E n) hE.mixed (enters_run hE) hfn hwf hbody hys H.append hB hl hr hfr).mono ?_
            rintro u w' ⟨σ', I', hp⟩
            have hgen : σ' gen = none := by rw [hp.low gen hlt]; exact hg
            split at he
            · simp only [Option.some.injEq, Prod.mk.injEq] at he
              obtain ⟨rfl, rfl, rfl⟩ := he
              exact ⟨σ', I', hp.rep, hp.heap.take _, hp.ext, fun k hk _ => hp.low k hk, hp.high, hp.grow⟩
            · split at he
              · rename_i v' h2 had
                simp only [Option.some.injEq, Prod.mk.injEq] at he
                obtain ⟨rfl, rfl, rfl⟩ := he
                obtain ⟨x, hrep, H3⟩ := adopt_sound (hp.heap.take h.length) hp.heap (fun _ h => h) hp.rep had hgen fun d s s' b hb1 hb2 => by
                  rw [hget_take] at hb1
                  split at hb1
                  · rename_i hd
                    have := hp.heap.apart _ _ _ _ b hb1 hb2
                    omega
                  · simp [blkOf, row0] at hb1
                refine ⟨_, I', hrep, H3, ⟨fun k y hk => upd_sub hgen _ _ (hp.ext.sig k y hk), hp.ext.blk, hp.ext.new, hp.ext.kp, hp.ext.below⟩, fun k hk hne => ?_, fun k hk => ?_, hp.grow⟩
                · rw [upd, if_neg (by omega)]; exact hp.low k hk
                · have := hp.grow
                  rw [upd, if_neg (by omega)]; exact hp.high k hk
              · split at he
                · simp only [Option.some.injEq, Prod.mk.injEq] at he
                  obtain ⟨rfl, rfl, rfl⟩ := he
                  exact ⟨σ', I', hp.rep, hp.heap, hp.ext, fun k hk _ => hp.low k hk, hp.high, hp.grow⟩
                · simp only [Option.map_eq_some_iff, Prod.mk.injEq] at he
                  obtain ⟨⟨p, h2⟩, hfz, rfl, rfl, rfl⟩ := he
                  obtain ⟨I2, hpr, H2, m⟩ := frz_sound frzDepth v0 h1 p h2 u I' hfz hp.rep hp.heap
                  exact ⟨σ', I2, .pv _ _ hpr, H2.take _, hp.ext.trans m.ext, fun k hk _ => hp.low k hk, hp.high, hp.grow⟩
          · simp only [Option.bind_eq_some_iff] at he
            obtain ⟨⟨ps, h1⟩, hfz, ⟨v0, hc, g0⟩, hbody, he⟩ := he
            simp only [] at hbody he
            have run : ∀ (I1 : Blk), Gl E I1 w → HRep σ I1 base w h1 → us.length = ps.length → (∀ (j : Nat) (p : PV) (u : Value), ps[j]? = some p → us[j]? = some u → PRep I1 w p u) →
                Does E.P f us.toArray w fun u w' => ∃ σ' I', BodyPost (fun _ => none) I1 (Old w) w 0 v0 hc g0 u w' σ' I' := fun I1 hG1 H1 hl1 hpr =>
              body_sound ih (callN_fz E n) hE.mixed (enters_run hE) hfn hwf hbody (YsOk.nil hG1) (own_heap H1) (Old.bnd w) (by simpa using hl1) (reps_pv hpr) fun _ _ => rfl
            have dopure : ∀ (p : PV) (k : Nat) (h2 : Heap), frz k v0 hc = some (p, h2) → ∀ (I1 : Blk), Gl E I1 w → HRep σ I1 base w h1 → us.length = ps.length →
                (∀ (j : Nat) (p : PV) (u : Value), ps[j]? = some p → us[j]? = some u → PRep I1 w p u) → PureDoes E.P f us.toArray w I1 p := fun p k h2 hf I1 hG1 H1 hl1 hpr =>
              (run I1 hG1 H1 hl1 hpr).mono fun u w' ⟨σ', I', hp⟩ => hp.pure hf
            split at he
            · split at he
              · rename_i p
                simp only [Option.some.injEq, Prod.mk.injEq] at he
                obtain ⟨rfl, rfl, rfl⟩ := he
                exact pure ps _ p hfz (dopure p 1 hc (by simp [frz, pk, marks])) rfl rfl rfl
              · simp only [Option.map_eq_some_iff, Prod.mk.injEq] at he
                obtain ⟨⟨v', h2⟩, had, rfl, rfl, rfl⟩ := he
                obtain ⟨I1, hlen, hpr, H1, m⟩ := frzs_sound frzDepth args h ps h1 us I hfz hl hr H
                refine (run I1 (hys.2.mono m.1 fun _ _ => rfl) H1 (by omega) hpr).mono ?_
                rintro u w' ⟨σ', I', hp⟩
                obtain ⟨H2, hx⟩ := keep_old (I' := I') (w' := w') H1 hB hp.ext.blk (fun b hb => (hp.ext.new b hb).imp id Nat.le_of_not_lt) hp.ext.below.below hp.heap.inW
                obtain ⟨x, hrep, H3⟩ := adopt_sound H2 hp.heap (fun b h1 h2 => h1 (hB b h2)) hp.rep had hg fun d s s' b hb1 hb2 => by
                  have h1' := (H1.rows d s)
                  have h3 : b < w.heap.size := by
                    have := blkOf_facts h1' (b := b) (by exact hb1)
                    exact this.1
                  exact (blkOf_facts (hp.heap.rows 0 s') hb2).2.2 h3
                refine ⟨_, I', hrep, H3, m.ext.trans ⟨fun k y hk => upd_sub hg _ _ hk, hx.blk, hx.new, hx.kp, hx.below⟩, fun k hk hne => ?_, fun k hk => ?_, Nat.le_refl _⟩
                · rw [upd, if_neg (by omega)]
                · rw [upd, if_neg (by omega)]; exact hfr k hk
            · simp only [Option.bind_eq_some_iff] at he
              obtain ⟨⟨p, h2⟩, hf, he⟩ := he
              unfold rdOut at he
              split at he
              · -- it reads alone
                split at he
                · rename_i x hx0
                  have hx0 : p = .lit x := hx0
                  subst hx0
                  simp only [Option.some.injEq, Prod.mk.injEq] at he
                  obtain ⟨rfl, rfl, rfl⟩ := he
                  obtain ⟨I1, hlen, hpr, H1, m⟩ := frzs_sound frzDepth args h ps h1 us I hfz hl hr H
                  refine (dopure _ _ h2 hf I1 (hys.2.mono m.1 fun _ _ => rfl) H1 (by omega) hpr).mono ?_
                  rintro u w' ⟨I', hp, hI, hN, hw, hin⟩
                  obtain ⟨H2, hx⟩ := keep_old (I' := I) H hB (fun _ h => h) (fun _ h => .inl h) hw (fun b hb => (H.inW b hb).keep (hw.block b (H.lt b hb)))
                  have hu : Rep σ I w' (.pv (.lit x)) u := by
                    have hp : PRep I' w' (.lit x) u := hp
                    cases hp
                    exact .pv _ _ (.lit _)
                  exact ⟨σ, I, hu, H2, hx, fun _ _ _ => rfl, hfr, Nat.le_refl _⟩
                · cases he
              · simp only [Option.some.injEq, Prod.mk.injEq] at he
                obtain ⟨rfl, rfl, rfl⟩ := he
                exact pure ps _ p hfz (dopure p _ h2 hf) rfl rfl rfl
end
end Go.Proofs.YtcoeigibikbfdaaGreatDoor.Abs

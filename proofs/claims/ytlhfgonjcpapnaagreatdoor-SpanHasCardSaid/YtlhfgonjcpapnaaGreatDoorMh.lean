/-
  The environment keeps its promises: library functions by their contracts. Conditions: none.
-/
import Derived.Test.YtlhfgonjcpapnaaGreatDoorShelf
import Derived.Lib.Walk
import Derived.Lib.ItoaMem
import Derived.WalkKit
import Derived.BigCall
import Derived.BigGuard
import Derived.Test.YtlhfgonjcpapnaaGreatDoorMd

set_option linter.all false
set_option linter.unnecessarySimpa false

/- strconv.FormatUint at base 10: u's decimal numeral, for every uint64. -/
namespace Go.Proofs.YtlhfgonjcpapnaaGreatDoor.Abs
open Go.Proofs
open Go.Shelf Go.RowKit Go.Sort Go.Lib
theorem fu_holds_zero (w : World) (T : TypeId) (nd : Nat) (hs : nd ≤ 24) : Holds (fun (b : UInt8) => Value.int .u8 (b.toNat : Int)) (w.alloc (.cells zeros24 T)) w.heap.size 0 (Array.replicate nd (0 : UInt8)) := fun j hj => by
  have hj' : j < nd := by simpa using hj
  refine ⟨?_, World.frozen?_alloc_new _ _ _ _⟩
  rw [World.cell?_alloc_new, zeros24_at _ (by omega), getElem!_pos _ j hj]
  simp
theorem fu_fin (w : World) (o : Obj) (dk : Array UInt8) (k : Nat) : ∃ os, (putRow (fun (b : UInt8) => Value.int .u8 (b.toNat : Int)) (w.alloc o) w.heap.size 0 dk).drewN k = grow (w.drewN k) os := by
  rw [alloc_eq_grow]
  obtain ⟨os', _, e⟩ := putRow_grow_new (fun (b : UInt8) => Value.int .u8 (b.toNat : Int)) w #[o] w.heap.size 0 dk (Nat.le_refl _)
  exact ⟨os', by rw [e]; rfl⟩
set_option maxHeartbeats 6400000 in
set_option maxRecDepth 100000 in
theorem fu_internal (u : Nat) (hu64 : u < 18446744073709551616) (w : World) (htab : Lib.TabIs Tryz.prog w "internal/strconv.uint64pow10" .u64 Lib.pow10Tab) :
    Calls Tryz.prog 141 #[.int .u64 u, .int .i64 10] w fun e w' => e = .returned (.string ⟨(Lib.decDigits u).toArray⟩) ∧ ∃ k os, w' = grow (w.drewN k) os := by
  have mixed : Tryz.prog.follows .mixedOrders = true := by kernel_rfl
  have e171 : ∀ args w, (callFunc 171 args).run Tryz.prog w = .ok (.enter 171 args) w := enters_of (fn := Tryz.f171) (by kernel_rfl) (by kernel_rfl) rfl
  have e172 : ∀ args w, (callFunc 172 args).run Tryz.prog w = .ok (.enter 172 args) w := enters_of (fn := Tryz.f172) (by kernel_rfl) (by kernel_rfl) rfl
  have e173 : ∀ args w, (callFunc 173 args).run Tryz.prog w = .ok (.enter 173 args) w := enters_of (fn := Tryz.f173) (by kernel_rfl) (by kernel_rfl) rfl
  have hf : Tryz.prog.funcs[141]? = some Tryz.f141 := by kernel_rfl
  have hn : Tryz.f141.ntmps = 32 := rfl
  by_cases hs : u < 100
  · go_enter hf, hn
    go_wp2_with (go_at_fn 171; refine (Tryz.internal_strconv_small u hs _).mono ?_; rintro e w' ⟨rfl, rfl⟩)
    go_ret
    exact ⟨rfl, 0, #[], by simp [World.drewN_zero]⟩
  · have hu1 : 1 ≤ u := by omega
    have hnd20 : Lib.nDigits u ≤ 20 := by have := Lib.numDigits_eq u hu1 hu64; split at this <;> omega
    have hb3 : Lib.nDigits u ≤ 24 := by omega
    have hal : Tryz.prog.arrayLen 187 = 24 := by simp [Program.arrayLen, Tryz.underlying187]
    have hsl1 : ∀ W, (Instr.sliceAt 187 (.pointer (some ⟨w.heap.size, 0, none⟩)) none (some (.int .i64 (Lib.nDigits u : Int))) none).run Tryz.prog W = .ok (.slice (some ⟨w.heap.size, 0, none⟩) (Lib.nDigits u) 24) W := fun W => by
      rw [run_sliceAt_array_h W 187 ⟨w.heap.size, 0, none⟩ (by simp [Program.arrayLen, Program.elem, Tryz.underlying187]) .i64 (Lib.nDigits u : Int) (by omega) (by rw [hal]; omega)]
      go_simp
    have hH0 := fu_holds_zero w 187 (Lib.nDigits u) (by omega)
    have hfmt := Tryz.internal_strconv_formatBase10 w.heap.size 0 24 u (Array.replicate (Lib.nDigits u) 0) (w.alloc (.cells Lib.zeros24 187)) hH0 (by rw [Array.size_replicate]; exact Lib.lt_pow_nDigits u) hu64 (by rw [Array.size_replicate]; omega)
    rw [Array.size_replicate] at hfmt
    have HH0 := Lib.hid hH0
    clear hH0 hal
    go_enter hf, hn
    go_wp2_with (first
      | (go_at_fn 172; refine (Tryz.internal_strconv_numDigits u hu1 hu64 _ (Lib.tabIs_alloc htab _)).mono ?_; rintro e w' ⟨rfl, rfl⟩))
    go_at_fn 173
    refine hfmt.mono ?_
    rintro e w' ⟨rfl, k, v', dk, rfl, hF⟩
    have hcv : (convert 105 9 (.slice (some ⟨w.heap.size, 0, none⟩) (Lib.nDigits u) 24)).run Tryz.prog ((putRow (fun (b : UInt8) => Value.int .u8 (b.toNat : Int)) (w.alloc (.cells Lib.zeros24 187)) w.heap.size 0 dk).drewN k) = .ok (.string ⟨(Lib.decDigits u).toArray⟩) ((putRow (fun (b : UInt8) => Value.int .u8 (b.toNat : Int)) (w.alloc (.cells Lib.zeros24 187)) w.heap.size 0 dk).drewN k) := by
      have h := run_convert_bytes_back (P := Tryz.prog) ((putRow (fun (b : UInt8) => Value.int .u8 (b.toNat : Int)) (w.alloc (.cells Lib.zeros24 187)) w.heap.size 0 dk).drewN k) 105 9 5 ⟨w.heap.size, 0, none⟩ 24 (Lib.decDigits u) Tryz.underlying105 Tryz.underlying5 Tryz.underlying9 (fun j hj => by
        rw [Lib.row_is_numeral hF j hj, Lib.add_plain, World.cell?_drewN]
        exact cell?_putRow (fun (b : UInt8) => Value.int .u8 (b.toNat : Int)) _ w.heap.size 0 _ dk HH0.out (by rw [hF.size, Array.size_replicate]) j (by rw [hF.size]; rw [Lib.decDigits_length] at hj; exact hj))
      rw [Lib.decDigits_length] at h
      exact h
    go_wp2
    go_ret
    obtain ⟨os, eo⟩ := fu_fin w (.cells Lib.zeros24 187) dk k
    exact ⟨rfl, k, os, eo⟩
set_option maxRecDepth 100000 in
theorem fu_public (u : Nat) (hu64 : u < 18446744073709551616) (w : World) (htab : Lib.TabIs Tryz.prog w "internal/strconv.uint64pow10" .u64 Lib.pow10Tab) :
    Calls Tryz.prog 112 #[.int .u64 u, .int .i64 10] w fun e w' => e = .returned (.string ⟨(Lib.decDigits u).toArray⟩) ∧ ∃ k os, w' = grow (w.drewN k) os := by
  have mixed : Tryz.prog.follows .mixedOrders = true := by kernel_rfl
  have e141 : ∀ args w, (callFunc 141 args).run Tryz.prog w = .ok (.enter 141 args) w := enters_of (fn := Tryz.f141) (by kernel_rfl) (by kernel_rfl) rfl
  have hf : Tryz.prog.funcs[112]? = some Tryz.f112 := by kernel_rfl
  have hn : Tryz.f112.ntmps = 8 := rfl
  go_enter hf, hn
  go_wp2_with (go_at_fn 141; refine (fu_internal u hu64 _ htab).mono ?_; rintro e w' ⟨rfl, k, os, rfl⟩)
  go_ret
  exact ⟨rfl, k, os, rfl⟩
end Go.Proofs.YtlhfgonjcpapnaaGreatDoor.Abs

/- The environment keeps what it promises: Go's library functions by their contracts, all code well formed. -/
set_option linter.unusedVariables false
set_option linter.unusedSimpArgs false
namespace Go.Proofs.YtlhfgonjcpapnaaGreatDoor.Abs
open Go Go.Proofs Go.RowKit

theorem mixed0 : Tryz.prog.follows .mixedOrders = true := by kernel_rfl
theorem enters0 (f : FuncId) (fn : Func) (c : Code) (h1 : Tryz.prog.funcs[f]? = some fn) (h2 : (fn.name == "runtime.NumGoroutine") = false) (h3 : fn.body = some c) : ∀ args w, (callFunc f args).run Tryz.prog w = .ok (.enter f args) w := enters_of h1 h2 h3
theorem maxLen_of (I : Blk) (w : World) (h : glE I w) : ∃ m, w.cell? ⟨0, 0, none⟩ = some (.int .i64 m) := by
  obtain ⟨⟨m, h1⟩, _⟩ := h
  exact ⟨m, gv_cell h1⟩

theorem wf_list : (Tryz.prog.funcs.toList.zipIdx.all fun q => q.2 == 79 || fnWf E0 q.1) = true := by kernel_rfl
theorem wf0 (f : FuncId) (fn : Func) (h1 : E0.ok f = true) (h2 : Tryz.prog.funcs[f]? = some fn) : fnWf E0 fn = true := by
  have h := List.all_eq_true.1 wf_list (fn, f) (by
    rw [List.mem_zipIdx_iff_getElem?]
    simpa using h2)
  simp only [Bool.or_eq_true] at h
  rcases h with h | h
  · have : (!(f == 79)) = true := h1
    rw [h] at this
    cases this
  · exact h

theorem below_grow (w : World) (k : Nat) (os : Array Obj) : Below w.heap.size w (Go.Sort.grow (w.drewN k) os) :=
  ⟨rfl, rfl, rfl, by simp [Go.Sort.grow, World.drewN], fun b hb => by simp [Go.Sort.grow, World.drewN, Array.getElem?_append, hb]⟩
theorem fmt_intr (hent : ∀ args w, (callFunc 112 args).run Tryz.prog w = .ok (.enter 112 args) w) : IntrAt E0 112 fmtP := by
  intro ps r hF I w us hgl hl hr hin
  unfold fmtP at hF
  split at hF
  · rename_i n b
    split at hF
    · rename_i hs
      injection hF with hF
      subst hF
      obtain ⟨rfl, h0, h1⟩ := hs
      obtain ⟨u, rfl⟩ : ∃ u : Nat, n = u := ⟨n.toNat, by omega⟩
      rw [two_lits (by simpa using hl) hr]
      refine pure_of_calls (P := Tryz.prog) hent (fu_public u (by omega) w hgl.2.1) ?_
      rintro w' ⟨k, os, rfl⟩
      rw [Int.toNat_natCast]
      exact post_below (below_grow w k os) hin (.lit _)
    · cases hF
  · cases hF

theorem intr0 (f : FuncId) (F : List PV → Option PV) (h : libF0 f = some F) : IntrAt E0 f F := by
  unfold libF0 at h
  split at h
  · cases h; exact cut_intr (E := E0) (enters0 _ Tryz.f68 _ (by kernel_rfl) (by kernel_rfl) rfl) maxLen_of Tryz.strings_Cut
  · cases h; exact split_intr (E := E0) (enters0 _ Tryz.f69 _ (by kernel_rfl) (by kernel_rfl) rfl) maxLen_of (fun s sep h => Lib.splitB_all sep h 0 _ s rfl) Tryz.strings_Split
  · cases h; exact join_intr (E := E0) (enters0 _ Tryz.f40 _ (by kernel_rfl) (by kernel_rfl) rfl) Tryz.strings_Join_none (fun bk o c xs sep w h1 h2 h3 h4 h5 => Tryz.strings_Join bk o c xs sep w h1 h2 h3 h4 h5)
  · cases h; exact repeat_intr (E := E0) (enters0 _ Tryz.f75 _ (by kernel_rfl) (by kernel_rfl) rfl) Tryz.strings_Repeat
  · cases h; exact parse_intr (E := E0) (enters0 _ Tryz.f110 _ (by kernel_rfl) (by kernel_rfl) rfl) Tryz.strconv_ParseUint_10_at64_ok
  · cases h; exact fmt_intr (enters0 _ Tryz.f112 _ (by kernel_rfl) (by kernel_rfl) rfl)
  · cases h
theorem envOk0 : EnvOk E0 := ⟨mixed0, wf0, fun f F hF ps r hr I w us h1 h2 h3 h4 => intr0 f F hF ps r hr I w us h1 h2 h3 h4⟩
end Go.Proofs.YtlhfgonjcpapnaaGreatDoor.Abs

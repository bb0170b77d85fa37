/-
  The environment keeps its promises: library functions by their contracts. Conditions: none.
-/
import Derived.Test.YtlhfgonjcpapnaaGreatDoorNc

set_option linter.all false
set_option linter.unnecessarySimpa false

namespace Go.Proofs.YtlhfgonjcpapnaaGreatDoor.Abs
open Go Go.Proofs Go.RowKit
theorem mixed0 : Tryz.prog.follows .mixedOrders = true := by kernel_rfl
theorem enters0 (f : FuncId) (fn : Func) (c : Code) (h1 : Tryz.prog.funcs[f]? = some fn) (h2 : (fn.name == "runtime.NumGoroutine") = false) (h3 : fn.body = some c) : ∀ args w, (callFunc f args).run Tryz.prog w = .ok (.enter f args) w := enters_of h1 h2 h3
theorem maxLen_of (I : Blk) (w : World) (h : glE I w) : ∃ m, w.cell? ⟨0, 0, none⟩ = some (.int .i64 m) := by
  obtain ⟨⟨m, h1⟩, _⟩ := h
  exact ⟨m, gv_cell h1⟩
theorem wf_list : (Tryz.prog.funcs.toList.zipIdx.all fun q => q.2 == 79 || fnWf E0 q.1) = true := by kernel_rfl
theorem wf0 (f : FuncId) (fn : Func) (h1 : E0.ok f = true) (h2 : Tryz.prog.funcs[f]? = some fn) : fnWf E0 fn = true := by
  have h := List.all_eq_true.1 wf_list (fn, f) (by
    rw [List.mem_zipIdx_iff_getElem?]
    simpa using h2)
  simp only [Bool.or_eq_true] at h
  rcases h with h | h
  · have : (!(f == 79)) = true := h1
    rw [h] at this
    cases this
  · exact h
theorem below_grow (w : World) (k : Nat) (os : Array Obj) : Below w.heap.size w (Go.Sort.grow (w.drewN k) os) :=
  ⟨rfl, rfl, rfl, by simp [Go.Sort.grow, World.drewN], fun b hb => by simp [Go.Sort.grow, World.drewN, Array.getElem?_append, hb]⟩
theorem fmt_intr (hent : ∀ args w, (callFunc 112 args).run Tryz.prog w = .ok (.enter 112 args) w) : IntrAt E0 112 fmtP := by
  intro ps r hF I w us hgl hl hr hin
  unfold fmtP at hF
  split at hF
  · rename_i n b
    split at hF
    · rename_i hs
      injection hF with hF
      subst hF
      obtain ⟨rfl, h0, h1⟩ := hs
      obtain ⟨u, rfl⟩ : ∃ u : Nat, n = u := ⟨n.toNat, by omega⟩
      rw [two_lits (by simpa using hl) hr]
      refine pure_of_calls (P := Tryz.prog) hent (fu_public u (by omega) w hgl.2.1) ?_
      rintro w' ⟨k, os, rfl⟩
      rw [Int.toNat_natCast]
      exact post_below (below_grow w k os) hin (.lit _)
    · cases hF
  · cases hF
theorem intr0 (f : FuncId) (F : List PV → Option PV) (h : libF0 f = some F) : IntrAt E0 f F := by
  unfold libF0 at h
  split at h
  · cases h; exact cut_intr (E := E0) (enters0 _ Tryz.f68 _ (by kernel_rfl) (by kernel_rfl) rfl) maxLen_of Tryz.strings_Cut
  · cases h; exact split_intr (E := E0) (enters0 _ Tryz.f69 _ (by kernel_rfl) (by kernel_rfl) rfl) maxLen_of (fun s sep h => Lib.splitB_all sep h 0 _ s rfl) Tryz.strings_Split
  · cases h; exact join_intr (E := E0) (enters0 _ Tryz.f40 _ (by kernel_rfl) (by kernel_rfl) rfl) Tryz.strings_Join_none (fun bk o c xs sep w h1 h2 h3 h4 h5 => Tryz.strings_Join bk o c xs sep w h1 h2 h3 h4 h5)
  · cases h; exact repeat_intr (E := E0) (enters0 _ Tryz.f75 _ (by kernel_rfl) (by kernel_rfl) rfl) Tryz.strings_Repeat
  · cases h; exact parse_intr (E := E0) (enters0 _ Tryz.f110 _ (by kernel_rfl) (by kernel_rfl) rfl) Tryz.strconv_ParseUint_10_at64_ok
  · cases h; exact fmt_intr (enters0 _ Tryz.f112 _ (by kernel_rfl) (by kernel_rfl) rfl)
  · cases h
theorem envOk0 : EnvOk E0 := ⟨mixed0, wf0, fun f F hF ps r hr I w us h1 h2 h3 h4 => intr0 f F hF ps r hr I w us h1 h2 h3 h4⟩
end Go.Proofs.YtlhfgonjcpapnaaGreatDoor.Abs

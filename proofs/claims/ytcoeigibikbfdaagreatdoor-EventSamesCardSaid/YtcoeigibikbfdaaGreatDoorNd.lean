/-
  The environment keeps its promises: library functions by their contracts. Conditions: none.
-/
import Derived.Test.YtcoeigibikbfdaaGreatDoorNc

set_option linter.all false
set_option linter.unnecessarySimpa false

namespace Go.Proofs.YtcoeigibikbfdaaGreatDoor.Abs
open Go Go.Proofs Go.RowKit
theorem mixed0 : Tryz.prog.follows .mixedOrders = true := by kernel_rfl
theorem enters0 (f : FuncId) (fn : Func) (c : Code) (h1 : Tryz.prog.funcs[f]? = some fn) (h2 : (fn.name == "runtime.NumGoroutine") = false) (h3 : fn.body = some c) : ∀ args w, (callFunc f args).run Tryz.prog w = .ok (.enter f args) w := enters_of h1 h2 h3
theorem maxLen_of (I : Blk) (w : World) (h : glE I w) : ∃ m, w.cell? ⟨1, 0, none⟩ = some (.int .i64 m) := by
  obtain ⟨⟨m, h1⟩, _⟩ := h
  exact ⟨m, gv_cell h1⟩
theorem wf_list : (Tryz.prog.funcs.toList.zipIdx.all fun q => !(E0.ok q.2) || fnWf E0 q.1) = true := by kernel_rfl
theorem wf0 (f : FuncId) (fn : Func) (h1 : E0.ok f = true) (h2 : Tryz.prog.funcs[f]? = some fn) : fnWf E0 fn = true := by
  have h : (!(E0.ok f) || fnWf E0 fn) = true := List.all_eq_true.1 wf_list (fn, f) (by
    rw [List.mem_zipIdx_iff_getElem?]
    simpa using h2)
  rw [h1] at h
  simpa using h
theorem below_grow (w : World) (k : Nat) (os : Array Obj) : Below w.heap.size w (Go.Sort.grow (w.drewN k) os) :=
  ⟨rfl, rfl, rfl, by simp [Go.Sort.grow, World.drewN], fun b hb => by simp [Go.Sort.grow, World.drewN, Array.getElem?_append, hb]⟩
theorem fmt_intr (hent : ∀ args w, (callFunc 92 args).run Tryz.prog w = .ok (.enter 92 args) w) : IntrAt E0 92 fmtP := by
  intro ps r hF I w us hgl hl hr hin
  unfold fmtP at hF
  split at hF
  · rename_i n b
    split at hF
    · rename_i hs
      injection hF with hF
      subst hF
      obtain ⟨rfl, h0, h1⟩ := hs
      obtain ⟨u, rfl⟩ : ∃ u : Nat, n = u := ⟨n.toNat, by omega⟩
      rw [two_lits (by simpa using hl) hr]
      refine pure_of_calls (P := Tryz.prog) hent (fu_public u (by omega) w hgl.2.1) ?_
      rintro w' ⟨k, os, rfl⟩
      rw [Int.toNat_natCast]
      exact post_below (below_grow w k os) hin (.lit _)
    · cases hF
  · cases hF
theorem err_ty (n : Int) (w : World) : (Extern.ReflectliteType.typeOf #[.iface 32 (.int .i64 n)]).run Tryz.prog w = .ok (.iface 162 (.agg #[.pointer (some ⟨14, 32, none⟩)])) w := by kernel_rfl
theorem typeOf_intr : IntrAt E0 73 typeOfP := by
  intro ps r hF I w us hgl hl hr hin
  unfold typeOfP at hF
  split at hF
  · rename_i n
    cases hF
    obtain ⟨u, rfl⟩ := List.length_eq_one_iff.1 hl
    have h1 := hr 0 _ u rfl rfl
    cases h1 with
    | iface _ _ v h2 =>
      cases h2
      refine .inl ⟨_, w, ?_, I, .iface _ _ _ (.agg _ [.pointer (some ⟨14, 32, none⟩)] rfl (fun v hv => ?_) (fun j p v hp hv => ?_)), fun _ h => h, fun _ h => .inl h, .refl _ _, hin⟩
      · rw [show (@List.toArray Value [.iface 32 (.int .i64 n)]) = #[.iface 32 (.int .i64 n)] from rfl, show E0.P = Tryz.prog from rfl, @run_callFunc_extern Tryz.prog 73 _ Extern.ReflectliteType.typeOf Tryz.func73 (by kernel_rfl) (by kernel_rfl) (by kernel_rfl) (by kernel_rfl), err_ty]
        rfl
      · simp only [List.mem_singleton] at hv
        subst hv; rfl
      · cases j with
        | zero => simp only [List.getElem?_cons_zero, Option.some.injEq] at hp hv; subst hp; subst hv; exact .lit _
        | succ j => simp at hp
  · cases hF
theorem comp_intr : IntrAt E0 311 compP := by
  intro ps r hF I w us hgl hl hr hin
  unfold compP at hF
  split at hF
  · cases hF
    obtain ⟨u, rfl⟩ := List.length_eq_one_iff.1 hl
    have h1 := hr 0 _ u rfl rfl
    cases h1 with
    | agg _ vs hlv h1 hrv =>
      obtain ⟨x, rfl⟩ := List.length_eq_one_iff.1 hlv
      have h2 := hrv 0 _ x rfl rfl
      cases h2
      refine .inl ⟨.bool true, w, ?_, I, .lit _, fun _ h => h, fun _ h => .inl h, .refl _ _, hin⟩
      show (callFunc 311 #[.agg #[.pointer (some ⟨14, 32, none⟩)]]).run Tryz.prog w = _
      kernel_rfl
  · cases hF
theorem does_of {P : Program} {f : FuncId} {us : Array Value} {w : World} (hent : ∀ args w, (callFunc f args).run P w = .ok (.enter f args) w) {R : Value → World → Prop} {u : Value} {Q : World → Prop} (hc : Calls P f us w fun e w' => e = .returned u ∧ Q w') (hR : ∀ w', Q w' → R u w') : Does P f us w R :=
  .inr (.inl ⟨hent _ _, hc.mono fun e w' ⟨he, hq⟩ => by subst he; exact hR w' hq⟩)
theorem ck_ok : CkOk Tryz.prog 127 142 where
  fresh b w h1 h2 h3 := does_of (enters0 _ Tryz.f127 _ (by kernel_rfl) (by kernel_rfl) rfl) (copyCheck_fresh b w h1 h2 h3) fun _ h => ⟨rfl, h⟩
  used b w h1 := does_of (enters0 _ Tryz.f127 _ (by kernel_rfl) (by kernel_rfl) rfl) (copyCheck_used b w h1) fun _ h => ⟨rfl, h⟩
theorem as_ok : AsOk Tryz.prog glE 26 53 51 where
  no x w := does_of (enters0 _ Tryz.f26 _ (by kernel_rfl) (by kernel_rfl) rfl) (as_nil x w) fun _ h => ⟨rfl, h⟩
  hit I w e t old hgl h1 h2 := does_of (enters0 _ Tryz.f26 _ (by kernel_rfl) (by kernel_rfl) rfl) (as_hit e ⟨t, 0, none⟩ old w hgl.2.2.2.1 h1 h2) fun w' h => ⟨rfl, _, ((((Below.refl _ _).alloc (by simp <;> omega) _).alloc (by simp <;> omega) _).alloc (by simp <;> omega) _).alloc (by simp <;> omega) _, h⟩
theorem intr0 (f : FuncId) (F : List PV → Option PV) (h : libF0 f = some F) : IntrAt E0 f F := by
  unfold libF0 at h
  split at h
  · cases h; exact cut_intr (E := E0) (enters0 _ Tryz.f147 _ (by kernel_rfl) (by kernel_rfl) rfl) maxLen_of Tryz.strings_Cut
  · cases h; exact split_intr (E := E0) (enters0 _ Tryz.f75 _ (by kernel_rfl) (by kernel_rfl) rfl) maxLen_of (fun s sep h => Lib.splitB_all sep h 0 _ s rfl) Tryz.strings_Split
  · cases h; exact join_intr (E := E0) (enters0 _ Tryz.f47 _ (by kernel_rfl) (by kernel_rfl) rfl) Tryz.strings_Join_none (fun bk o c xs sep w h1 h2 h3 h4 h5 => Tryz.strings_Join bk o c xs sep w h1 h2 h3 h4 h5)
  · cases h; exact repeat_intr (E := E0) (enters0 _ Tryz.f244 _ (by kernel_rfl) (by kernel_rfl) rfl) Tryz.strings_Repeat
  · cases h; exact parse_intr (E := E0) (enters0 _ Tryz.f113 _ (by kernel_rfl) (by kernel_rfl) rfl) Tryz.strconv_ParseUint_10_at64_ok
  · cases h; exact fmt_intr (enters0 _ Tryz.f92 _ (by kernel_rfl) (by kernel_rfl) rfl)
  · cases h; exact typeOf_intr
  · cases h; exact comp_intr
  · cases h
theorem ck0 (f : FuncId) (T : TypeId) (h : E0.ckf f = some T) : CkOk E0.P f T := by
  simp only [E0] at h
  split at h
  · rename_i h1
    cases h; subst h1
    exact ck_ok
  · cases h
theorem as0 (f : FuncId) (t2 t1 : TypeId) (h : E0.asf f t2 = some t1) : AsOk E0.P E0.gl f t2 t1 := by
  simp only [E0] at h
  split at h
  · rename_i h1
    cases h; obtain ⟨rfl, rfl⟩ := h1
    exact as_ok
  · cases h
theorem envOk0 : EnvOk E0 := ⟨ck0, as0, mixed0, wf0, fun f F hF ps r hr I w us h1 h2 h3 h4 => intr0 f F hF ps r hr I w us h1 h2 h3 h4⟩
end Go.Proofs.YtcoeigibikbfdaaGreatDoor.Abs

/-
  An evaluator that computes what must hold for a walk; the environment of this program; names of its values. Conditions: none.
-/
import Derived.Test.YtlhfgonjcpapnaaGreatDoorMc
import Derived.Test.YtlhfgonjcpapnaaGreatDoorProg
import Derived.KernelRfl
import Derived.Lib.ItoaNum
import Derived.Lib.LaidTab

set_option linter.all false
set_option linter.unnecessarySimpa false

/- What must hold for a walk, computed: an evaluator of conditions over the abstract machine's code. -/
set_option linter.unusedVariables false
set_option linter.unusedSimpArgs false
namespace Go.Proofs.YtlhfgonjcpapnaaGreatDoor.Abs
open Go

/-- what a walk is told on its way: branches, elements, results -/
inductive Scr where
  | hole (n : Nat)
  | br (b : Bool) (k : Scr)
  | fork (a b : Scr)
  | lit (k : Scr)
  | val (p : PV) (k : Scr)
  | res (r : PV) (k : Scr)
  | resB (e : Bool) (a b : Scr)
  | resC (v : AV) (rs : List Row) (k : Scr)
  | frz (ps : List PV) (h : Heap) (k : Scr)
  | ev (k : Scr)
  | go (k : Scr)
  | mask (js hs : List Nat)
  deriving Inhabited
inductive Frame where
  | seqK (c : Code)
  | blockK (id : Nat)
  | loopK (c : Code)

/-- what is missing where a walk stands still -/
inductive NeedBr (id : Nat) (e : Bool) : Prop
inductive NeedVal (id : Nat) (x : Option PV) : Prop
inductive NeedRes (id : Nat) (f : FuncId) (ps : List PV) : Prop
inductive NeedResC (id : Nat) (f : FuncId) (args : List AV) (rows : List Row) : Prop
inductive NeedFrz (id : Nat) (l : List AV) (h : Heap) : Prop
inductive Bad (o : Oper) (s : St) : Prop
inductive BadC (c : Code) (s : St) : Prop
inductive NeedMask (id : Nat) (c : Code) (s : St) : Prop
inductive Tired : Prop
def Scr.id : Scr → Nat
  | .hole n => n
  | _ => 0

def wpBr (scr : Scr) (e : Bool) (K : Bool → Scr → Prop) : Prop := match scr with
  | .br true k => e = true ∧ K true k
  | .br false k => e = false ∧ K false k
  | .fork a b => (e = true → K true a) ∧ (e = false → K false b)
  | .lit k => match e with
    | true => K true k
    | false => K false k
  | scr => NeedBr scr.id e
def wpVal (scr : Scr) (x : Option PV) (K : PV → Scr → Prop) : Prop := match scr with
  | .val p k => x = some p ∧ K p k
  | scr => NeedVal scr.id x
def wpFrzs (scr : Scr) (l : List AV) (h : Heap) (K : List PV → Heap → Scr → Prop) : Prop := match allPV l with
  | some ps => K ps h scr
  | none => match scr with
    | .frz ps h1 k => frzs frzDepth l h = some (ps, h1) ∧ K ps h1 k
    | .ev k => match frzs frzDepth l h with
      | some (ps, h1) => K ps h1 k
      | none => False
    | scr => NeedFrz scr.id l h
def wpLive (h : Heap) (d s g : Nat) (K : Body → Prop) : Prop := (hget h d s).g = g ∧ K (hget h d s).b
def wpNat (v : Option AV) (dflt top : Nat) (K : Nat → Prop) : Prop := match v with
  | none => K dflt
  | some a => match intOf? a with
    | some i => (0 ≤ i ∧ i ≤ (top : Int)) ∧ K i.toNat
    | none => False
def wpBounds (n : Nat) (lo hi mx : Option AV) (K : Nat → Nat → Option Nat → Prop) : Prop := match mx with
  | none => wpNat hi n n fun r => wpNat lo 0 r fun l => K l r none
  | some _ => match hi with
    | none => False
    | some _ => wpNat mx n n fun m => wpNat hi n m fun r => wpNat lo 0 r fun l => K l r (some m)
def byteAt (s : ByteArray) (i : Nat) : Int := ((s.data.toList.getD i 0).toNat : Int)

theorem wpBr_ok {scr : Scr} {e : Bool} {K : Bool → Scr → Prop} (h : wpBr scr e K) : ∃ k, K e k := by
  unfold wpBr at h
  split at h
  · obtain ⟨rfl, h⟩ := h; exact ⟨_, h⟩
  · obtain ⟨rfl, h⟩ := h; exact ⟨_, h⟩
  · cases e with
    | true => exact ⟨_, h.1 rfl⟩
    | false => exact ⟨_, h.2 rfl⟩
  · cases e <;> exact ⟨_, h⟩
  · exact nomatch h
theorem wpVal_ok {scr : Scr} {x : Option PV} {K : PV → Scr → Prop} (h : wpVal scr x K) : ∃ p k, x = some p ∧ K p k := by
  unfold wpVal at h
  split at h
  · exact ⟨_, _, h⟩
  · exact nomatch h
theorem wpFrzs_ok {scr : Scr} {l : List AV} {h : Heap} {K : List PV → Heap → Scr → Prop} (hk : wpFrzs scr l h K) : ∃ ps h1 k, frzs frzDepth l h = some (ps, h1) ∧ K ps h1 k := by
  unfold wpFrzs at hk
  split at hk
  · rename_i ps hps
    rw [allPV_map hps]
    exact ⟨ps, h, scr, frzs_pvs ps 7 h, hk⟩
  · split at hk
    · exact ⟨_, _, _, hk⟩
    · split at hk
      · rename_i hz
        exact ⟨_, _, _, hz, hk⟩
      · exact hk.elim
    · exact nomatch hk
theorem wpLive_ok {h : Heap} {d s g : Nat} {K : Body → Prop} (hk : wpLive h d s g K) : (hget h d s).g = g ∧ live h d s g = (hget h d s).b ∧ K (hget h d s).b :=
  ⟨hk.1, by unfold live; rw [if_pos hk.1], hk.2⟩
theorem wpNat_ok {v : Option AV} {dflt top : Nat} {K : Nat → Prop} (h : wpNat v dflt top K) : ∃ i, natIn v dflt top = some i ∧ K i := by
  unfold wpNat at h
  split at h
  · exact ⟨_, rfl, h⟩
  · split at h
    · rename_i a _ i hi
      obtain ⟨h1, h2⟩ := h
      exact ⟨_, by simp only [natIn, hi, Option.bind_some]; rw [if_pos h1], h2⟩
    · exact nomatch h
theorem wpBounds_ok {n : Nat} {lo hi mx : Option AV} {K : Nat → Nat → Option Nat → Prop} (h : wpBounds n lo hi mx K) : ∃ l r m, bounds n lo hi mx = some (l, r, m) ∧ K l r m := by
  unfold wpBounds at h
  split at h
  · obtain ⟨r, hr, h⟩ := wpNat_ok h
    obtain ⟨l, hl, h⟩ := wpNat_ok h
    exact ⟨l, r, none, by simp [bounds, hr, hl], h⟩
  · split at h
    · exact nomatch h
    · obtain ⟨m, hm, h⟩ := wpNat_ok h
      obtain ⟨r, hr, h⟩ := wpNat_ok h
      obtain ⟨l, hl, h⟩ := wpNat_ok h
      exact ⟨l, r, some m, by simp [bounds, hm, hr, hl], h⟩

/-! ### operations -/
def wpElems (size : Nat) (h : Heap) (y : AV) (K : List PV → Prop) : Prop := match y with
  | .pv (.sl k nl _ ys) => ((nl = true → ys = []) ∧ (nl = false → k = size)) ∧ K ys
  | .pv (.lit (.string s)) => size = 1 ∧ K (bytesPV s)
  | .msl d s g off n _ => wpLive h d s g fun
    | .row k _ xs _ => (k = size ∧ off + n ≤ xs.length) ∧ K ((xs.drop off).take n)
    | _ => False
  | _ => False
theorem wpElems_ok {size : Nat} {h : Heap} {y : AV} {K : List PV → Prop} (hk : wpElems size h y K) : ∃ ys, elemsOf size h y = some ys ∧ K ys := by
  unfold wpElems at hk
  split at hk
  · rename_i k nl full ys
    obtain ⟨⟨h1, h2⟩, hk⟩ := hk
    refine ⟨ys, ?_, hk⟩
    unfold elemsOf
    cases nl with
    | true => have := h1 rfl; subst this; rfl
    | false => simp [h2 rfl]
  · rename_i s
    obtain ⟨rfl, hk⟩ := hk
    exact ⟨_, rfl, hk⟩
  · rename_i d s g off n full
    obtain ⟨_, h2, hk⟩ := wpLive_ok hk
    unfold elemsOf
    simp only [h2]
    split at hk
    · rename_i k e xs fz hb
      try rw [hb]
      exact ⟨_, by simp only []; rw [if_pos hk.1], hk.2⟩
    · exact nomatch hk
  · exact nomatch hk

def wpAppend (e size bytes d slot gen : Nat) (h : Heap) (scr : Scr) (tgt : AV) (ys : List PV) (K : Scr → AV → Heap → Prop) (bad : Prop) : Prop := match tgt with
  | .pv (.sl k nl full xs) => wpBr scr ys.isEmpty fun b scr => if b then K scr tgt h else wpBr scr nl fun b scr =>
    if b then (xs.length = 0 ∧ fitsRow ys.length bytes = true) ∧ K scr (.msl d slot gen 0 ys.length false) (hput h d slot ⟨gen, .row size e ys false⟩)
    else (full = true ∧ k = size ∧ fitsRow (xs.length + ys.length) bytes = true) ∧ K scr (.msl d slot gen 0 (xs.length + ys.length) false) (hput h d slot ⟨gen, .row size e (xs ++ ys) false⟩)
  | .msl d' s' g' off n full => wpLive h d' s' g' fun
    | .row k e' xs fz => wpBr scr full fun b scr =>
      if b then wpBr scr ys.isEmpty fun b scr => if b then K scr tgt h
        else (k = size ∧ off + n ≤ xs.length ∧ fitsRow (n + ys.length) bytes = true) ∧ K scr (.msl d slot gen 0 (n + ys.length) false) (hput h d slot ⟨gen, .row size e ((xs.drop off).take n ++ ys) false⟩)
      else (fz = false ∧ k = size ∧ e' = e ∧ off + n = xs.length ∧ fitsRow (n + ys.length) bytes = true) ∧ K scr (.msl d' s' gen 0 (n + ys.length) false) (hput h d' s' ⟨gen, .row size e (xs.drop off ++ ys) false⟩)
    | _ => bad
  | _ => bad
theorem wpAppend_ok {e size bytes d slot gen : Nat} {h : Heap} {scr : Scr} {tgt : AV} {ys : List PV} {K : Scr → AV → Heap → Prop} {bad : Prop} (hbad : ¬ bad) (hk : wpAppend e size bytes d slot gen h scr tgt ys K bad) :
    ∃ k v h1, aappend e size bytes d slot gen h tgt ys = some (v, h1) ∧ K k v h1 := by
  unfold wpAppend at hk
  split at hk
  · rename_i k nl full xs
    obtain ⟨scr, hk⟩ := wpBr_ok hk
    unfold aappend
    simp only []
    cases hy : ys.isEmpty with
    | true => rw [hy] at hk; exact ⟨_, _, _, by simp, hk⟩
    | false =>
      rw [hy] at hk
      simp only [Bool.false_eq_true, if_false] at hk ⊢
      obtain ⟨scr, hk⟩ := wpBr_ok hk
      cases nl with
      | true =>
        simp only [if_true] at hk ⊢
        exact ⟨_, _, _, by rw [if_pos hk.1], hk.2⟩
      | false =>
        simp only [Bool.false_eq_true, if_false] at hk ⊢
        exact ⟨_, _, _, by rw [if_pos hk.1], hk.2⟩
  · rename_i d' s' g' off n full
    obtain ⟨_, h2, hk⟩ := wpLive_ok hk
    unfold aappend
    simp only [h2]
    split at hk
    · rename_i k e' xs fz hb
      try rw [hb]
      simp only []
      obtain ⟨scr, hk⟩ := wpBr_ok hk
      cases full with
      | true =>
        simp only [if_true] at hk ⊢
        obtain ⟨scr, hk⟩ := wpBr_ok hk
        cases hy : ys.isEmpty with
        | true => rw [hy] at hk; exact ⟨_, _, _, by simp, hk⟩
        | false =>
          rw [hy] at hk
          simp only [Bool.false_eq_true, if_false] at hk ⊢
          exact ⟨_, _, _, by rw [if_pos hk.1], hk.2⟩
      | false =>
        simp only [Bool.false_eq_true, if_false] at hk ⊢
        exact ⟨_, _, _, by rw [if_pos hk.1], hk.2⟩
    · exact (hbad hk).elim
  · exact (hbad hk).elim

def wpRun (r : Option (AV × Heap)) (scr : Scr) (K : Scr → AV → Heap → Prop) (bad : Prop) : Prop := match r with
  | some (v, h) => K scr v h
  | none => bad
theorem wpRun_ok {r : Option (AV × Heap)} {scr : Scr} {K : Scr → AV → Heap → Prop} {bad : Prop} (hbad : ¬ bad) (hk : wpRun r scr K bad) : ∃ k v h1, r = some (v, h1) ∧ K k v h1 := by
  unfold wpRun at hk
  split at hk
  · exact ⟨_, _, _, rfl, hk⟩
  · exact (hbad hk).elim

def wpLoad (ag : Bool) (m : Nat) (a : AV) (h : Heap) (scr : Scr) (K : Scr → AV → Heap → Prop) (bad : Prop) : Prop := match a with
  | .mptr d s g i off => wpLive h d s g fun
    | .box v _ => wpRun (if i = 0 then (subA ag m off v).map (·, h) else none) scr K bad
    | .row _ _ xs _ => wpVal scr xs[i]? fun x scr => wpRun ((subP ag m off x).map fun p => (.pv p, h)) scr K bad
    | _ => bad
  | .pv (.ptr root off) => wpRun ((subP ag m off root).map fun p => (.pv p, h)) scr K bad
  | _ => bad
def wpStore (m : Nat) (a x : AV) (h : Heap) (scr : Scr) (K : Scr → AV → Heap → Prop) (bad : Prop) : Prop :=
  if x.cells.length = m ∧ m ≠ 0 ∧ x.ok = true then match a with
    | .mptr d s g i off => wpLive h d s g fun
      | .box v false => wpRun (if i = 0 then (setA v off x.cells).map fun v' => (undefA, hput h d s ⟨g, .box v' false⟩) else none) scr K bad
      | .row _ _ _ false => wpFrzs scr [x] h fun ps h1 scr => match ps with
        | [p] => wpLive h1 d s g fun
          | .row k e xs false => wpVal scr xs[i]? fun y scr => wpRun (if off + p.cells.length ≤ y.cells.length then (setP y off p.cells).map fun y' => (undefA, hput h1 d s ⟨g, .row k e (xs.set i y') false⟩) else none) scr K bad
          | _ => bad
        | _ => bad
      | _ => bad
    | _ => bad
  else bad
def wpSlice (P : Program) (t : TypeId) (h : Heap) (x : AV) (lo hi mx : Option AV) (K : AV → Prop) (bad : Prop) : Prop := match P.underlying t, x with
  | some .string, .pv (.lit (.string s)) => wpBounds s.size lo hi mx fun l r m => match m with
    | none => K (litA (.string (s.extract l r)))
    | some _ => bad
  | some (.slice e), .pv (.sl k nl full xs) => match szOf P e with
    | some size => wpBounds xs.length lo hi mx fun l r m => (nl = true ∨ k = size) ∧ K (.pv (.sl k nl (match m with | some m => m == r | none => full && r == xs.length) ((xs.drop l).take (r - l))))
    | none => bad
  | some (.slice e), .msl d s g off n full => match szOf P e with
    | some size => wpBounds n lo hi mx fun l r m => wpLive h d s g fun
      | .row k _ _ _ => k = size ∧ K (.msl d s g (off + l) (r - l) (match m with | some m => m == r | none => full && r == n))
      | _ => bad
    | none => bad
  | _, _ => bad
theorem wpSlice_ok {P : Program} {t : TypeId} {h : Heap} {x : AV} {lo hi mx : Option AV} {K : AV → Prop} {bad : Prop} (hbad : ¬ bad) (hk : wpSlice P t h x lo hi mx K bad) : ∃ v, aslice P t h x lo hi mx = some v ∧ K v := by
  unfold wpSlice at hk
  unfold aslice
  split at hk
  · rename_i s hP
    obtain ⟨l, r, m, hb, hk⟩ := wpBounds_ok hk
    cases m with
    | none => exact ⟨_, by simp [hP, hb], hk⟩
    | some m => exact (hbad hk).elim
  · rename_i e k nl full xs hP
    split at hk
    · rename_i size hs
      obtain ⟨l, r, m, hb, h1, hk⟩ := wpBounds_ok hk
      exact ⟨_, by cases m <;> simp [hP, hb, hs, h1], hk⟩
    · exact (hbad hk).elim
  · rename_i e d s g off n full hP
    split at hk
    · rename_i size hs
      obtain ⟨l, r, m, hb, hk⟩ := wpBounds_ok hk
      obtain ⟨_, h2, hk⟩ := wpLive_ok hk
      split at hk
      · rename_i k _ _ _ hr
        exact ⟨_, by cases m <;> simp [hP, hb, hs, h2, hr, hk.1], hk.2⟩
      · exact (hbad hk).elim
    · exact (hbad hk).elim
  · exact (hbad hk).elim

def wpIndexAddr (P : Program) (t : TypeId) (h : Heap) (x ix : AV) (scr : Scr) (K : Scr → AV → Heap → Prop) (bad : Prop) : Prop := match intOf? ix with
  | none => bad
  | some i => match P.underlying t, x with
    | some (.slice e), .pv (.sl k nl _ xs) => match szOf P e with
      | some size => (0 ≤ i ∧ nl = false ∧ k = size) ∧ wpVal scr xs[i.toNat]? fun y scr => K scr (.pv (.ptr y 0)) h
      | none => bad
    | some (.slice e), .msl d s g off n _ => match szOf P e with
      | some size => wpLive h d s g fun
        | .row k _ _ _ => (0 ≤ i ∧ i < n ∧ k = size) ∧ K scr (.mptr d s g (off + i.toNat) 0) h
        | _ => bad
      | none => bad
    | some (.array n e), .mptr d s g j o => match szOf P e with
      | some size => (0 ≤ i ∧ i < n) ∧ K scr (.mptr d s g j (o + i.toNat * size)) h
      | none => bad
    | some (.array n e), .pv (.ptr r o) => match szOf P e with
      | some size => (0 ≤ i ∧ i < n) ∧ K scr (.pv (.ptr r (o + i.toNat * size))) h
      | none => bad
    | _, _ => bad
def wpIndex (P : Program) (t : TypeId) (h : Heap) (x ix : AV) (other : Option (AV × Heap)) (scr : Scr) (K : Scr → AV → Heap → Prop) (bad : Prop) : Prop := match P.underlying t, x, ix with
  | some .string, .pv (.lit (.string s)), .pv (.lit (.int _ i)) => (0 ≤ i ∧ i.toNat < s.size) ∧ K scr (litA (.int .u8 (byteAt s i.toNat))) h
  | _, _, _ => wpRun other scr K bad
def wpMakeSlice (P : Program) (t : TypeId) (d gen : Nat) (dst : Option Tmp) (h : Heap) (l c : AV) (scr : Scr) (K : Scr → AV → Heap → Prop) (bad : Prop) : Prop := match P.underlying t with
  | some (.slice e) => match szOf P e, byOf P e, zeroOf P e, dst, intOf? l, intOf? c with
    | some size, some bytes, some z, some s, some l, some c =>
      if size ≠ 0 ∧ (ofVal z).cells.length = size ∧ (ofVal z).ok = true then (0 ≤ l ∧ l ≤ c ∧ fitsRow c.toNat bytes = true) ∧ K scr (.msl d s gen 0 l.toNat (decide (l = c))) (hput h d s ⟨gen, .row size e (List.replicate l.toNat (ofVal z)) false⟩)
      else bad
    | _, _, _, _, _, _ => bad
  | _ => bad
def wpBuildSlice (P : Program) (t : TypeId) (d gen : Nat) (dst : Option Tmp) (h : Heap) (len : Nat) (parts : List (Nat × AV)) (scr : Scr) (K : Scr → AV → Heap → Prop) (bad : Prop) : Prop := match P.underlying t with
  | some (.slice e) => match szOf P e, zeroOf P e with
    | some size, some z =>
      if len = 0 ∧ parts.length = 0 then K scr (.pv (.sl size false true [])) h else match dst with
        | some s =>
          if len * size ≤ 16777216 ∧ len * size ≠ 0 ∧ (ofVal z).cells.length = size ∧ (ofVal z).ok = true then
            wpFrzs scr (parts.map (·.2)) h fun ps h1 scr =>
              if (ps.all fun p => p.cells.length == size && p.ok) && (parts.all fun q => decide (q.1 < len)) then
                K scr (.msl d s gen 0 len true) (hput h1 d s ⟨gen, .row size e (((parts.map (·.1)).zip ps).foldl (fun l q => l.set q.1 q.2) (List.replicate len (ofVal z))) false⟩)
              else bad
          else bad
        | none => bad
    | _, _ => bad
  | _ => bad
def wpAdd (a b : AV) (h : Heap) (other : Option (AV × Heap)) (scr : Scr) (K : Scr → AV → Heap → Prop) (bad : Prop) : Prop := match a, b with
  | .pv (.lit (.string a)), .pv (.lit (.string b)) => a.size + b.size ≤ 9223372036854775807 ∧ K scr (litA (.string (a ++ b))) h
  | _, _ => wpRun other scr K bad
theorem add_strings (P : Program) (t : TypeId) (x y : Operand) (a b : ByteArray) (h : a.size + b.size ≤ 9223372036854775807) : pureRun P (do eqGuard .add t x y (.string a) (.string b); binOp .add t (.string a) (.string b)) = some (.string (a ++ b)) := by
  have h2 : ¬ (((a.size + b.size : Nat) : Int) > IntKind.i64.max) := by
    have : IntKind.i64.max = 9223372036854775807 := by decide
    omega
  have h1 : Op.stringOp .add a b = pure (.string (a ++ b)) := by unfold Op.stringOp; simp only [h2, if_false]
  show pureRun P (Op.stringOp .add a b) = _
  rw [h1]
  rfl
def wpClear (P : Program) (t : TypeId) (h : Heap) (x : AV) (other : Option (AV × Heap)) (scr : Scr) (K : Scr → AV → Heap → Prop) (bad : Prop) : Prop := match P.underlying t, x with
  | some (.slice e), .msl d s g off n _ => match zeroOf P e with
    | some z => wpLive h d s g fun
      | .row k e' xs false => wpBr scr (n == 0) fun b scr => if b then K scr undefA h else
          ((ofVal z).ok = true ∧ (ofVal z).cells.length = k ∧ k ≠ 0 ∧ off + n ≤ xs.length) ∧ K scr undefA (hput h d s ⟨g, .row k e' (splice xs off (List.replicate n (ofVal z))) false⟩)
      | .box .. => wpRun other scr K bad
      | _ => bad
    | none => bad
  | _, _ => wpRun other scr K bad
def wpAop (P : Program) (o : Oper) (ρ : Operand → AV) (d gen : Nat) (h : Heap) (scr : Scr) (K : Scr → AV → Heap → Prop) (bad : Prop) : Prop := match o.op with
  | .pick c a b => match ρ c with
    | .pv (.lit (.bool t)) => wpBr scr t fun b' scr => K scr (if b' then ρ a else ρ b) h
    | _ => bad
  | .load t a => match szOf P t, aggT P t with
    | some m, some ag => wpLoad ag m (ρ a) h scr K bad
    | _, _ => bad
  | .store t a x => match szOf P t with
    | some m => wpStore m (ρ a) (ρ x) h scr K bad
    | none => bad
  | .slice t x lo hi mx => wpSlice P t h (ρ x) (lo.map ρ) (hi.map ρ) (mx.map ρ) (fun v => K scr v h) bad
  | .indexAddr t x ix => wpIndexAddr P t h (ρ x) (ρ ix) scr K bad
  | .binOp .add t x y _ => wpAdd (ρ x) (ρ y) h (aop P o ρ d gen h) scr K bad
  | .index t x ix => wpIndex P t h (ρ x) (ρ ix) (aop P o ρ d gen h) scr K bad
  | .makeSlice t l c => wpMakeSlice P t d gen o.dst h (ρ l) (ρ c) scr K bad
  | .buildSlice t len parts => wpBuildSlice P t d gen o.dst h len (parts.toList.map fun q => (q.1, ρ q.2)) scr K bad
  | .makeInterface t x => match P.underlying t with
    | some (.interface _) | none => bad
    | some _ => wpFrzs scr [ρ x] h fun ps h1 scr => match ps with
      | [p] => K scr (.pv (.iface t p)) h1
      | _ => bad
  | .call { callee := .builtin .append, args, argTypes } => match args.toList, argTypes.toList with
    | [x, y], [t0, t1] => match P.underlying t0, appendable P t1 with
      | some (.slice e), true => match szOf P e, byOf P e, zeroOf P e with
        | some size, some bytes, some z => if size = 0 ∨ z.cells.size ≠ size then bad else
          wpElems size h (ρ y) fun ys => wpAppend e size bytes d (o.dst.getD 0) gen h scr (ρ x) ys K bad
        | _, _, _ => bad
      | _, _ => bad
    | _, _ => bad
  | .call { callee := .builtin .clear, args, argTypes } => match args.toList, argTypes.toList with
    | [x], [t] => wpClear P t h (ρ x) (aop P o ρ d gen h) scr K bad
    | _, _ => bad
  | _ => wpRun (aop P o ρ d gen h) scr K bad

theorem frzs_one {v : AV} {h h1 : Heap} {p : PV} (hz : frzs frzDepth [v] h = some ([p], h1)) : frz frzDepth v h = some (p, h1) := by
  unfold frzs at hz
  unfold frz
  simp only [pks, Option.bind_some, Option.map_some, Option.map_eq_some_iff, Option.bind_eq_some_iff, Prod.mk.injEq] at hz
  obtain ⟨⟨qs, ks⟩, ⟨⟨q, k1⟩, hq, hqs, rfl⟩, h1, h2⟩ := hz
  simp only [List.cons.injEq, and_true] at h1
  subst h1
  simp only [hq, Option.map_some, Option.some.injEq, Prod.mk.injEq, true_and]
  simpa using h2
theorem wpLoad_ok {ag : Bool} {m : Nat} {a : AV} {h : Heap} {scr : Scr} {K : Scr → AV → Heap → Prop} {bad : Prop} (hbad : ¬ bad) (hk : wpLoad ag m a h scr K bad) :
    ∃ k v h1, (match a with
    | .mptr d s g i off => match live h d s g with
      | .box v _ => if i = 0 then (subA ag m off v).map (·, h) else none
      | .row _ _ xs _ => (xs[i]?).bind fun x => (subP ag m off x).map fun p => (AV.pv p, h)
      | _ => none
    | .pv (.ptr root off) => (subP ag m off root).map fun p => (AV.pv p, h)
    | _ => none) = some (v, h1) ∧ K k v h1 := by
  unfold wpLoad at hk
  split at hk
  · obtain ⟨_, h2, hk⟩ := wpLive_ok hk
    simp only [h2]
    split at hk
    · rename_i hb
      try rw [hb]
      exact wpRun_ok hbad hk
    · rename_i hb
      try rw [hb]
      obtain ⟨x, scr, hx, hk⟩ := wpVal_ok hk
      simp only [hx, Option.bind_some]
      exact wpRun_ok hbad hk
    · exact (hbad hk).elim
  · exact wpRun_ok hbad hk
  · exact (hbad hk).elim
theorem wpStore_ok {m : Nat} {a x : AV} {h : Heap} {scr : Scr} {K : Scr → AV → Heap → Prop} {bad : Prop} (hbad : ¬ bad) (hk : wpStore m a x h scr K bad) :
    ∃ k v h1, (if x.cells.length = m ∧ m ≠ 0 ∧ x.ok = true then
      match a with
      | .mptr d s g i off => match live h d s g with
        | .box v false => if i = 0 then (setA v off x.cells).map fun v' => (undefA, hput h d s ⟨g, .box v' false⟩) else none
        | .row _ _ _ false => (frz frzDepth x h).bind fun (p, h1) => match live h1 d s g with
          | .row k e xs false => (xs[i]?).bind fun y => if off + p.cells.length ≤ y.cells.length then (setP y off p.cells).map fun y' => (undefA, hput h1 d s ⟨g, .row k e (xs.set i y') false⟩) else none
          | _ => none
        | _ => none
      | _ => none
    else none) = some (v, h1) ∧ K k v h1 := by
  unfold wpStore at hk
  split at hk
  · rename_i hc
    rw [if_pos hc]
    split at hk
    · obtain ⟨_, h2, hk⟩ := wpLive_ok hk
      simp only [h2]
      split at hk
      · rename_i hb
        try rw [hb]
        exact wpRun_ok hbad hk
      · rename_i hb
        try rw [hb]
        obtain ⟨ps, h3, scr, hz, hk⟩ := wpFrzs_ok hk
        split at hk
        · rename_i p
          obtain ⟨_, h4, hk⟩ := wpLive_ok hk
          simp only [frzs_one hz, Option.bind_some, h4]
          split at hk
          · rename_i hb2
            try rw [hb2]
            obtain ⟨y, scr, hy, hk⟩ := wpVal_ok hk
            simp only [hy, Option.bind_some]
            exact wpRun_ok hbad hk
          · exact (hbad hk).elim
        · exact (hbad hk).elim
      · exact (hbad hk).elim
    · exact (hbad hk).elim
  · exact (hbad hk).elim
theorem wpIndexAddr_ok {P : Program} {t : TypeId} {h : Heap} {x ix : AV} {scr : Scr} {K : Scr → AV → Heap → Prop} {bad : Prop} (hbad : ¬ bad) (hk : wpIndexAddr P t h x ix scr K bad) :
    ∃ k v h1, ((intOf? ix).bind fun i => match P.underlying t, x with
    | some (.slice e), .pv (.sl k nl _ xs) => (szOf P e).bind fun size => if 0 ≤ i ∧ nl = false ∧ k = size then (xs[i.toNat]?).map fun y => (AV.pv (.ptr y 0), h) else none
    | some (.slice e), .msl d s g off n _ => (szOf P e).bind fun size => match live h d s g with
      | .row k _ _ _ => if 0 ≤ i ∧ i < n ∧ k = size then some (.mptr d s g (off + i.toNat) 0, h) else none
      | _ => none
    | some (.array n e), .mptr d s g j o => (szOf P e).bind fun size => if 0 ≤ i ∧ i < n then some (.mptr d s g j (o + i.toNat * size), h) else none
    | some (.array n e), .pv (.ptr r o) => (szOf P e).bind fun size => if 0 ≤ i ∧ i < n then some (.pv (.ptr r (o + i.toNat * size)), h) else none
    | _, _ => none) = some (v, h1) ∧ K k v h1 := by
  unfold wpIndexAddr at hk
  split at hk
  · exact (hbad hk).elim
  · rename_i i hi
    simp only [hi, Option.bind_some]
    split at hk
    · rename_i hP
      split at hk
      · rename_i size hs
        obtain ⟨h1, hk⟩ := hk
        obtain ⟨y, scr, hy, hk⟩ := wpVal_ok hk
        exact ⟨_, _, _, by simp only [hP, hs, Option.bind_some]; rw [if_pos h1, hy]; rfl, hk⟩
      · exact (hbad hk).elim
    · rename_i hP
      split at hk
      · rename_i size hs
        obtain ⟨_, h2, hk⟩ := wpLive_ok hk
        split at hk
        · rename_i hb
          exact ⟨_, _, _, by simp only [hP, hs, Option.bind_some, h2, hb]; rw [if_pos hk.1], hk.2⟩
        · exact (hbad hk).elim
      · exact (hbad hk).elim
    · rename_i hP
      split at hk
      · rename_i size hs
        exact ⟨_, _, _, by simp only [hP, hs, Option.bind_some]; rw [if_pos hk.1], hk.2⟩
      · exact (hbad hk).elim
    · rename_i hP
      split at hk
      · rename_i size hs
        exact ⟨_, _, _, by simp only [hP, hs, Option.bind_some]; rw [if_pos hk.1], hk.2⟩
      · exact (hbad hk).elim
    · exact (hbad hk).elim
theorem byteAt_get (s : ByteArray) (i : Nat) (hi : i < s.size) : byteAt s i = ((s[i]'hi).toNat : Int) := by
  unfold byteAt
  have : s.data.toList.getD i 0 = s[i]'hi := by
    rw [List.getD_eq_getElem?_getD, Array.getElem?_toList]
    have hi' : i < s.data.size := hi
    rw [Array.getElem?_eq_getElem hi']
    rfl
  rw [this]

theorem wpAop_ok {P : Program} {o : Oper} {ρ : Operand → AV} {d gen : Nat} {h : Heap} {scr : Scr} {K : Scr → AV → Heap → Prop} {bad : Prop} (hbad : ¬ bad) (hk : wpAop P o ρ d gen h scr K bad) :
    ∃ k v h1, aop P o ρ d gen h = some (v, h1) ∧ K k v h1 := by
  unfold wpAop at hk
  split at hk
  · rename_i c a b ho
    unfold aop
    simp only [ho]
    split at hk
    · rename_i t hc
      obtain ⟨scr, hk⟩ := wpBr_ok hk
      exact ⟨_, _, _, by simp only [hc], hk⟩
    · exact (hbad hk).elim
  · rename_i t a ho
    unfold aop
    simp only [ho]
    split at hk
    · rename_i m ag hm ha
      simp only [hm, ha, Option.bind_eq_bind, Option.bind_some]
      exact wpLoad_ok hbad hk
    · exact (hbad hk).elim
  · rename_i t a x ho
    unfold aop
    simp only [ho]
    split at hk
    · rename_i m hm
      simp only [hm, Option.bind_eq_bind, Option.bind_some]
      exact wpStore_ok hbad hk
    · exact (hbad hk).elim
  · rename_i t x lo hi mx ho
    obtain ⟨v, hv, hk⟩ := wpSlice_ok hbad hk
    exact ⟨_, _, _, by unfold aop; simp only [ho, hv, Option.map_some], hk⟩
  · rename_i t x ix ho
    unfold aop
    simp only [ho]
    exact wpIndexAddr_ok hbad hk
  · rename_i t x y _ ho
    unfold wpAdd at hk
    split at hk
    · rename_i a b hx hy
      refine ⟨_, _, _, ?_, hk.2⟩
      unfold aop
      simp only [ho, abin, hx, hy, valA, toVal, toVal1]
      rw [add_strings _ _ _ _ _ _ hk.1]
      rfl
    · exact wpRun_ok hbad hk
  · rename_i t x ix ho
    unfold wpIndex at hk
    split at hk
    · rename_i s k i hP hx hix
      obtain ⟨h12, hk⟩ := hk
      refine ⟨_, _, _, ?_, hk⟩
      unfold aop
      simp only [ho, hP, hx, hix]
      rw [dif_pos h12, byteAt_get s i.toNat h12.2]
    · exact wpRun_ok hbad hk
  · rename_i t l c ho
    unfold wpMakeSlice at hk
    unfold aop
    simp only [ho]
    split at hk
    · rename_i e hP
      split at hk
      · rename_i size bytes z s l' c' h1 h2 h3 h4 h5 h6
        split at hk
        · rename_i hc
          exact ⟨_, _, _, by simp only [hP, h1, h2, h3, h4, h5, h6, Option.bind_eq_bind, Option.bind_some]; rw [if_pos ⟨hk.1.1, hk.1.2.1, hk.1.2.2, hc⟩], hk.2⟩
        · exact (hbad hk).elim
      · exact (hbad hk).elim
    · exact (hbad hk).elim
  · rename_i t len parts ho
    unfold wpBuildSlice at hk
    unfold aop
    simp only [ho]
    split at hk
    · rename_i e hP
      split at hk
      · rename_i size z h1 h2
        simp only [hP, h1, h2, Option.bind_eq_bind, Option.bind_some]
        split at hk
        · rename_i hc
          rw [if_pos (by simpa using hc)]
          exact ⟨_, _, _, rfl, hk⟩
        · rename_i hc
          rw [if_neg (by simpa using hc)]
          split at hk
          · rename_i s hs
            simp only [hs, Option.bind_some]
            split at hk
            · rename_i hc2
              rw [if_pos hc2]
              obtain ⟨ps, h3, scr, hz, hk⟩ := wpFrzs_ok hk
              simp only [List.map_map] at hz
              have hz' : frzs frzDepth (parts.toList.map fun q => ρ q.2) h = some (ps, h3) := hz
              simp only [hz', Option.bind_some]
              split at hk
              · rename_i hc3
                simp only [List.all_map, List.map_map] at hc3 hk
                have hc4 : ((ps.all fun p => p.cells.length == size && p.ok) && (parts.toList.all fun q => decide (q.1 < len))) = true := hc3
                exact ⟨_, _, _, by rw [if_pos hc4]; rfl, hk⟩
              · exact (hbad hk).elim
            · exact (hbad hk).elim
          · exact (hbad hk).elim
      · exact (hbad hk).elim
    · exact (hbad hk).elim
  · rename_i t x ho
    unfold aop
    simp only [ho]
    split at hk
    · exact (hbad hk).elim
    · exact (hbad hk).elim
    · rename_i d' hd1 hP
      obtain ⟨ps, h3, scr, hz, hk⟩ := wpFrzs_ok hk
      split at hk
      · rename_i p
        refine ⟨_, _, _, ?_, hk⟩
        rw [hP]
        split
        · rename_i hc; simp at hc; exact (hd1 _ hc).elim
        · rename_i hc; cases hc
        · rw [frzs_one hz]; rfl
      · exact (hbad hk).elim
  · rename_i args argTypes ho
    unfold aop
    simp only [ho]
    split at hk
    · rename_i x y t0 t1 hx ht
      unfold abuiltin
      simp only [hx, ht, List.map_cons, List.map_nil]
      split at hk
      · rename_i e hP ha
        simp only [hP, ha]
        split at hk
        · rename_i size bytes z h1 h2 h3
          split at hk
          · exact (hbad hk).elim
          · rename_i hc
            obtain ⟨ys, hy, hk⟩ := wpElems_ok hk
            obtain ⟨k, v, h4, ha, hk⟩ := wpAppend_ok hbad hk
            exact ⟨k, v, h4, by simp only [h1, h2, h3, hy, Option.bind_eq_bind, Option.bind_some]; rw [if_neg hc]; exact ha, hk⟩
        · exact (hbad hk).elim
      · exact (hbad hk).elim
    · exact (hbad hk).elim
  · rename_i args argTypes ho
    split at hk
    · rename_i x t hx ht
      unfold wpClear at hk
      split at hk
      · rename_i e d1 s g off n full hP hv
        split at hk
        · rename_i z hz
          obtain ⟨_, h2, hk⟩ := wpLive_ok hk
          split at hk
          · rename_i k e' xs hb
            obtain ⟨scr, hk⟩ := wpBr_ok hk
            have hlive : live h d1 s g = .row k e' xs false := by rw [h2, hb]
            have h0 : argTypes[0]? = some t := by rw [← Array.getElem?_toList, ht]; rfl
            by_cases hn : n = 0
            · subst hn
              simp only [beq_self_eq_true, if_true] at hk
              refine ⟨_, _, _, ?_, hk⟩
              unfold aop abuiltin
              simp only [ho, hx, List.map_cons, List.map_nil, h0, Option.bind_some, hP, hv, hz, hlive, if_true]
            · have hnb : (n == 0) = false := by simpa using hn
              simp only [hnb, Bool.false_eq_true, if_false] at hk
              refine ⟨_, _, _, ?_, hk.2⟩
              unfold aop abuiltin
              simp only [ho, hx, List.map_cons, List.map_nil, h0, Option.bind_some, hP, hv, hz, hlive]
              rw [if_neg hn, if_pos hk.1]
          · exact wpRun_ok hbad hk
          · exact (hbad hk).elim
        · exact (hbad hk).elim
      · exact wpRun_ok hbad hk
    · exact (hbad hk).elim
  · exact wpRun_ok hbad hk
end Go.Proofs.YtlhfgonjcpapnaaGreatDoor.Abs

/- What must hold for a walk, computed: code. -/
set_option linter.unusedVariables false
set_option linter.unusedSimpArgs false
namespace Go.Proofs.YtlhfgonjcpapnaaGreatDoor.Abs
open Go

section
variable (E : Env) (ys : Fam) (d : Nat)

def gensP (h : Heap) (K : Prop) : List (K2 × Nat) → Prop
  | [] => K
  | q :: l => q.2 = (hget h q.1.1 q.1.2).g ∧ gensP h K l
theorem gensP_ok {h : Heap} {K : Prop} : ∀ {l : List (K2 × Nat)}, gensP h K l → gensOk h l = true ∧ K
  | [], hk => ⟨rfl, hk⟩
  | q :: l, hk => by
    obtain ⟨h1, h2⟩ := gensP_ok hk.2
    refine ⟨?_, h2⟩
    unfold gensOk at h1 ⊢
    simp only [List.all_cons, h1, Bool.and_true, beq_iff_eq]
    exact hk.1
def canRefs (h : Heap) (ks : List K2) (args : List AV) : List (K2 × Nat) := args.flatMap (refs frzDepth) ++ ks.flatMap fun k => refsB (hget h k.1 k.2).b
theorem canGens_of {h : Heap} {ks : List K2} {args : List AV} (hg : gensOk h (canRefs h ks args) = true) : canGens h ks args = true := by
  unfold gensOk canRefs at hg
  simp only [List.all_append, Bool.and_eq_true, List.all_flatMap] at hg
  simp only [canGens, gensOk, Bool.and_eq_true, List.all_flatMap]
  exact hg
def wpCan (fid : FuncId) (l : List AV) (h : Heap) (scr : Scr) (K : Scr → AV → Heap → Prop) (bad : Prop) : Prop := match canIn h l with
  | none => bad
  | some (ks, cargs, rows) => gensP h (match scr with
    | .resC v rs k => DenC E fid cargs rows v rs ∧ (match canBack ks h v rs with
      | some (v', h') => K k v' h'
      | none => bad)
    | scr => NeedResC scr.id fid cargs rows) (canRefs h ks l)
def wpStep (st : Bool) (gen : Nat) (o : Oper) (s : St) (scr : Scr) (K : Scr → AV → Heap → Nat → Prop) : Prop := match o.op with
  | .call { callee := .value f, args, .. } => match evalA s.t f with
    | .yld _ _ gl => match s.h with
      | [] => Bad o s
      | f0 :: up => ∃ (b : Bool) (f0' : List Row) (g' : Nat), YTo ys gl (args.toList.map (evalA s.t)) (f0 :: up) s.g b (f0' :: up) g' ∧ K scr (litA (.bool b)) (f0' :: up) g'
    | fv => match calleeOf fv with
      | none => Bad o s
      | some (fid, a, b) =>
        if E.can fid && ((E.intr fid).isNone && (E.ok fid && (E.inl fid || (!E.rd fid && (a ++ args.toList.map (evalA s.t) ++ b).any (hasMut frzDepth))))) then
          if st && (clsOp E o == .fz) then Bad o s else wpCan E fid (a ++ args.toList.map (evalA s.t) ++ b) s.h scr (fun k v h => K k v h s.g) (Bad o s)
        else if (a ++ args.toList.map (evalA s.t) ++ b).any (hasMut frzDepth) && (!E.rd fid || (st && (clsOp E o == .fz))) then Bad o s else
        wpFrzs scr (a ++ args.toList.map (evalA s.t) ++ b) s.h fun ps h1 scr => match scr with
          | .res r scr => Den E fid ps r ∧ K scr (.pv r) h1 s.g
          | .resB e a b => Den E fid ps (.lit (.bool e)) ∧ wpBr (.fork a b) e fun e scr => K scr (litA (.bool e)) h1 s.g
          | scr => NeedRes scr.id fid ps
  | _ => if st && (clsOp E o == .al) && !deadK s.h d o.dst then Bad o s else wpAop E.P o (evalA s.t) d gen s.h scr (fun k v h => K k v h s.g) (Bad o s)
/-- is the operation a guard of others? -/
def isGuard (all : Array Oper) (i : Nat) : Bool := all.any fun o => match o.guard with
  | some (j, _) => j == i
  | none => false
/-- the value goes into its place; that of a guard is settled -/
def wpPut (all : Array Oper) (i : Nat) (o : Oper) (s : St) (K : Scr → St → Prop) (scr : Scr) (v : AV) (h : Heap) (g : Nat) : Prop :=
  if isGuard all i then match boolA v with
    | some e => wpBr scr e fun b scr => K scr { t := putD s.t o.dst (litA (.bool b)), h := h, g := g }
    | none => K scr { t := putD s.t o.dst v, h := h, g := g }
  else K scr { t := putD s.t o.dst v, h := h, g := g }
def wpOp (st : Bool) (gb : Nat) (all : Array Oper) (i : Nat) (o : Oper) (s : St) (scr : Scr) (K : Scr → St → Prop) : Prop := match o.guard with
  | none => wpStep E ys d st (gb + i) o s scr (wpPut all i o s K)
  | some (j, want) => match ((all[j]?).bind (·.dst)).bind fun i => boolA (getT s.t i) with
    | none => K scr { t := putD s.t o.dst undefA, h := s.h, g := s.g }
    | some e => wpBr scr e fun b scr => if b == want then wpStep E ys d st (gb + i) o s scr (wpPut all i o s K)
        else K scr { t := putD s.t o.dst undefA, h := s.h, g := s.g }

inductive Task where
  | code (c : Code) (fr : List Frame) (s : St)
  | ops (all : Array Oper) (draw : Bool) (gb : Nat) (os : List Oper) (i : Nat) (fr : List Frame) (s : St)
  | exit (x : AExit) (fr : List Frame) (s : St)

def KQ : List Frame → (AExit → St → Prop) → AExit → St → Prop
  | [], Q => Q
  | .seqK b :: fr, Q => thenQ E ys d b (KQ fr Q)
  | .blockK id :: fr, Q => blockQ id (KQ fr Q)
  | .loopK c :: fr, Q => roundQ E ys d c (KQ fr Q)

/-- at the head of a loop -/
inductive AtL (E : Env) (ys : Fam) (d : Nat) (c : Code) (Q : AExit → St → Prop) (s : St) : Prop
  | mk (h : WpL E ys d c Q s)
theorem AtL.h {E : Env} {ys : Fam} {d : Nat} {c : Code} {Q : AExit → St → Prop} {s : St} : AtL E ys d c Q s → WpL E ys d c Q s
  | ⟨h⟩ => h

/-- temps and rows that a loop's head does not read: whatever they are -/
def maskT (js : List Nat) (j : Nat → AV) (t : List AV) : List AV := js.foldl (fun t i => t.set i (j i)) t
def maskH (d : Nat) (hs : List Nat) (jr : Nat → Row) (h : Heap) : Heap := h.set d (hs.foldl (fun l i => l.set i (jr i)) (h.getD d []))
theorem maskT_id (t : List AV) : ∀ js, maskT js (getT t) t = t
  | [] => rfl
  | i :: js => by
    have : t.set i (getT t i) = t := by
      unfold getT
      by_cases hi : i < t.length
      · simp [List.getD_eq_getElem?_getD, hi]
      · exact List.set_eq_of_length_le (by omega)
    show maskT js (getT t) (t.set i (getT t i)) = t
    rw [this]
    exact maskT_id t js
theorem maskH_id (d : Nat) (h : Heap) (hs : List Nat) : maskH d hs (fun i => (h.getD d []).getD i row0) h = h := by
  have key : ∀ (l : List Row) (hs : List Nat), hs.foldl (fun l' i => l'.set i (l.getD i row0)) l = l := by
    intro l hs
    induction hs with
    | nil => rfl
    | cons i hs ih =>
      have : l.set i (l.getD i row0) = l := by
        by_cases hi : i < l.length
        · simp [List.getD_eq_getElem?_getD, hi]
        · exact List.set_eq_of_length_le (by omega)
      rw [List.foldl_cons, this]
      exact ih
  unfold maskH
  rw [key]
  by_cases hd : d < h.length
  · simp [List.getD_eq_getElem?_getD, hd]
  · exact List.set_eq_of_length_le (by omega)
def AtM (E : Env) (ys : Fam) (d : Nat) (js hs : List Nat) (c : Code) (Q : AExit → St → Prop) (s : St) : Prop := ∀ (j : Nat → AV) (jr : Nat → Row) (g : Nat), AtL E ys d c Q { t := maskT js j s.t, h := maskH d hs jr s.h, g := g }
theorem AtM.h {E : Env} {ys : Fam} {d : Nat} {js hs : List Nat} {c : Code} {Q : AExit → St → Prop} {s : St} (h : AtM E ys d js hs c Q s) : WpL E ys d c Q s := by
  have := (h (getT s.t) (fun i => (s.h.getD d []).getD i row0) s.g).h
  rw [maskT_id, maskH_id] at this
  exact this

/-- at a range over a function -/
inductive RangeAt (E : Env) (ys : Fam) (d : Nat) (f : Operand) (ps : Array Tmp) (assign body : Code) (Q : AExit → St → Prop) (s : St) : Prop
  | mk (h : Wp E ys d (.rangeFunc f ps assign body) Q s)
theorem RangeAt.h {E : Env} {ys : Fam} {d : Nat} {f : Operand} {ps : Array Tmp} {assign body : Code} {Q : AExit → St → Prop} {s : St} : RangeAt E ys d f ps assign body Q s → Wp E ys d (.rangeFunc f ps assign body) Q s
  | ⟨h⟩ => h
/-- one step; what follows is open -/
def goStep (Q : AExit → St → Prop) (go : Scr → Task → Prop) : Scr → Task → Prop
  | scr, .code c fr s => match c with
    | .skip | .label _ => go scr (.exit .normal fr s)
    | .ret => go scr (.exit .ret fr s)
    | .exit id => go scr (.exit (.exit id) fr s)
    | .goto l => go scr (.exit (.goto l) fr s)
    | .region _ ops draw => go scr (.ops ops draw s.g ops.toList 0 fr { s with h := if draw then killKeys E d ops.toList s.h else s.h, g := s.g + ops.size })
    | .seq a b => go scr (.code a (.seqK b :: fr) s)
    | .cond c a b => match boolA (evalA s.t c) with
      | some e => wpBr scr e fun b' scr => go scr (.code (if b' then a else b) fr s)
      | none => BadC (.cond c a b) s
    | .block id c => go scr (.code c (.blockK id :: fr) s)
    | .loop c => match scr with
      | .go scr => go scr (.code c (.loopK c :: fr) s)
      | .mask js hs => AtM E ys d js hs c (KQ E ys d fr Q) s
      | scr => NeedMask scr.id c s
    | .rangeFunc f ps assign body => RangeAt E ys d f ps assign body (KQ E ys d fr Q) s
    | c => BadC c s
  | scr, .ops all draw gb os i fr s => match os with
    | [] => go scr (.exit .normal fr s)
    | o :: os => wpOp E ys d draw gb all i o s scr fun scr s1 => go scr (.ops all draw gb os (i + 1) fr s1)
  | scr, .exit x fr s => match fr with
    | [] => Q x s
    | .seqK b :: fr => match x with
      | .normal => go scr (.code b fr s)
      | x => go scr (.exit x fr s)
    | .blockK id :: fr => match x with
      | .exit id' => if id' = id then go scr (.exit .normal fr s) else go scr (.exit (.exit id') fr s)
      | x => go scr (.exit x fr s)
    | .loopK c :: fr => match x with
      | .normal => match scr with
        | .go scr => go scr (.code c (.loopK c :: fr) s)
        | .mask js hs => AtM E ys d js hs c (KQ E ys d fr Q) s
        | scr => NeedMask scr.id c s
      | x => go scr (.exit x fr s)
def wpGo (Q : AExit → St → Prop) : Nat → Scr → Task → Prop
  | 0, _, _ => Tired
  | n + 1, scr, t => goStep E ys d Q (wpGo Q n) scr t

def TaskWp (Q : AExit → St → Prop) : Task → Prop
  | .code c fr s => Wp E ys d c (KQ E ys d fr Q) s
  | .ops all draw gb os i fr s => WpOps E ys draw d gb all os i (fun s => KQ E ys d fr Q .normal s) s
  | .exit x fr s => KQ E ys d fr Q x s

variable {E ys d}
theorem wpStep_ok {st : Bool} {gb i : Nat} {all : Array Oper} {o : Oper} {s : St} {scr : Scr} {K : Scr → AV → Heap → Nat → Prop} (hw : wantedA all s.t o = true) (hk : wpStep E ys d st (gb + i) o s scr K) :
    ∃ k v h1 g1, OpTo E ys st d gb all i o s { t := putD s.t o.dst v, h := h1, g := g1 } ∧ K k v h1 g1 := by
  unfold wpStep at hk
  split at hk
  · rename_i f args ats ho
    split at hk
    · rename_i d1 s1 gl hev
      split at hk
      · exact nomatch hk
      · rename_i f0 up hh
        obtain ⟨b, f0', g', hy, hk⟩ := hk
        rw [← hh] at hy
        exact ⟨_, _, _, _, op_yld hw ho hev hy, hk⟩
    · rename_i hny
      split at hk
      · exact nomatch hk
      · rename_i fid a b hc
        split at hk
        · rename_i hcc
          simp only [Bool.and_eq_true, Option.isNone_iff_eq_none] at hcc
          obtain ⟨hcan, hi, hok, hm⟩ := hcc
          split at hk
          · exact nomatch hk
          rename_i hst
          unfold wpCan at hk
          split at hk
          · exact nomatch hk
          rename_i ks cargs rows hin
          obtain ⟨hgen, hk⟩ := gensP_ok hk
          split at hk
          · obtain ⟨hd, hk⟩ := hk
            split at hk
            · rename_i v' h' hb
              exact ⟨_, _, _, _, op_can hw ho hc (by simpa using hst) hi hok hcan hm hin (canGens_of hgen) hd hb, hk⟩
            · exact nomatch hk
          · exact nomatch hk
        split at hk
        · exact nomatch hk
        · rename_i hm0
          have hm : (!E.rd fid && (a ++ args.toList.map (evalA s.t) ++ b).any (hasMut frzDepth)) = false ∧ (st && (clsOp E o == .fz) && (a ++ args.toList.map (evalA s.t) ++ b).any (hasMut frzDepth)) = false := by
            generalize (a ++ args.toList.map (evalA s.t) ++ b).any (hasMut frzDepth) = m at hm0
            cases m <;> simp_all
          obtain ⟨ps, h1, scr, hz, hk⟩ := wpFrzs_ok hk
          split at hk
          · exact ⟨_, _, _, _, op_call hw ho hc hz hm.1 hm.2 hk.1, hk.2⟩
          · obtain ⟨hd, hk⟩ := hk
            obtain ⟨scr, hk⟩ := wpBr_ok hk
            exact ⟨_, _, _, _, op_call hw ho hc hz hm.1 hm.2 hd, hk⟩
          · exact nomatch hk
  · rename_i hno
    split at hk
    · exact nomatch hk
    · rename_i hst
      obtain ⟨k, v, h1, ha, hk⟩ := wpAop_ok (fun h => nomatch h) hk
      refine ⟨k, v, h1, _, op_do ?_, hk⟩
      unfold ostep opV
      rw [hw]
      simp only [if_true]
      unfold stepV
      split
      · rename_i f args ats ho
        exact (hno _ _ _ ho).elim
      · rw [if_neg hst, ha]
        rfl
theorem boolA_lit {v : AV} {e : Bool} (h : boolA v = some e) : v = litA (.bool e) := by
  unfold boolA at h
  split at h
  · simp only [Option.some.injEq] at h; subst h; rfl
  · cases h
theorem wpPut_ok {all : Array Oper} {i : Nat} {o : Oper} {s : St} {K : Scr → St → Prop} {scr : Scr} {v : AV} {h : Heap} {g : Nat} (hk : wpPut all i o s K scr v h g) : ∃ k, K k { t := putD s.t o.dst v, h := h, g := g } := by
  unfold wpPut at hk
  split at hk
  · split at hk
    · rename_i e he
      obtain ⟨k, hk⟩ := wpBr_ok hk
      rw [boolA_lit he]
      exact ⟨k, hk⟩
    · exact ⟨_, hk⟩
  · exact ⟨_, hk⟩
theorem wpOp_ok {st : Bool} {gb i : Nat} {all : Array Oper} {o : Oper} {s : St} {scr : Scr} {K : Scr → St → Prop} (hk : wpOp E ys d st gb all i o s scr K) : ∃ k s1, OpTo E ys st d gb all i o s s1 ∧ K k s1 := by
  unfold wpOp at hk
  have off : wantedA all s.t o = false → OpTo E ys st d gb all i o s { t := putD s.t o.dst undefA, h := s.h, g := s.g } := fun hw => ⟨0, fun a _ n _ => by unfold ostep opV; rw [hw]; rfl⟩
  split at hk
  · rename_i hg
    obtain ⟨k, v, h1, g1, ho, hk⟩ := wpStep_ok (ys := ys) (all := all) (by simp [wantedA, hg]) hk
    obtain ⟨k, hk⟩ := wpPut_ok hk
    exact ⟨k, _, ho, hk⟩
  · rename_i j want hg
    split at hk
    · rename_i hb
      exact ⟨_, _, off (by simp only [wantedA, hg]; rw [hb]; rfl), hk⟩
    · rename_i e hb
      obtain ⟨scr, hk⟩ := wpBr_ok hk
      split at hk
      · rename_i he
        obtain ⟨k, v, h1, g1, ho, hk⟩ := wpStep_ok (ys := ys) (all := all) (by simp only [wantedA, hg]; rw [hb]; simpa using he) hk
        obtain ⟨k, hk⟩ := wpPut_ok hk
        exact ⟨k, _, ho, hk⟩
      · rename_i he
        exact ⟨_, _, off (by simp only [wantedA, hg]; rw [hb]; simpa using he), hk⟩

theorem wpGo_ok {Q : AExit → St → Prop} : ∀ (n : Nat) (scr : Scr) (t : Task), wpGo E ys d Q n scr t → TaskWp E ys d Q t := by
  intro n
  induction n with
  | zero => intro scr t h; cases t <;> exact nomatch h
  | succ n ih =>
    intro scr t h
    cases t with
    | code c fr s =>
      cases c with
      | skip => exact ev_skip (ih _ _ h)
      | label l => exact ev_label (ih _ _ h)
      | ret => exact ev_ret (ih _ _ h)
      | exit id => exact ev_exit (ih _ _ h)
      | goto l => exact ev_goto (ih _ _ h)
      | region id ops draw => exact ev_region (ih _ _ h)
      | seq a b => exact ev_seq (ih _ _ h)
      | cond c a b =>
        have h : (match boolA (evalA s.t c) with
          | some e => wpBr scr e fun b' scr => wpGo E ys d Q n scr (.code (if b' then a else b) fr s)
          | none => BadC (.cond c a b) s) := h
        split at h
        · rename_i e he
          obtain ⟨scr, h⟩ := wpBr_ok h
          exact ev_cond he (ih _ _ h)
        · exact nomatch h
      | block id c => exact ev_block (ih _ _ h)
      | loop c =>
        have h : (match (generalizing := false) scr with
          | .go scr => wpGo E ys d Q n scr (.code c (.loopK c :: fr) s)
          | .mask js hs => AtM E ys d js hs c (KQ E ys d fr Q) s
          | scr => NeedMask scr.id c s) := h
        split at h
        · exact ev_loop (ev_round (ih _ _ h))
        · exact ev_loop h.h
        · exact nomatch h
      | rangeFunc f ps assign body => exact RangeAt.h h
      | _ => exact nomatch h
    | ops all draw gb os i fr s =>
      cases os with
      | nil => exact ops_nil (ih _ _ h)
      | cons o os =>
        have h : wpOp E ys d draw gb all i o s scr fun scr s1 => wpGo E ys d Q n scr (.ops all draw gb os (i + 1) fr s1) := h
        obtain ⟨k, s1, h1, h⟩ := wpOp_ok (ys := ys) h
        exact ops_cons h1 (ih _ _ h)
    | exit x fr s =>
      cases fr with
      | nil => exact h
      | cons f fr =>
        cases f with
        | seqK b => cases x with
          | normal => exact ih scr (.code b fr s) h
          | _ => exact ih scr (.exit _ fr s) h
        | blockK id =>
          cases x with
          | exit id' =>
            have h : (if id' = id then wpGo E ys d Q n scr (.exit .normal fr s) else wpGo E ys d Q n scr (.exit (.exit id') fr s)) := h
            show blockQ id (KQ E ys d fr Q) (.exit id') s
            simp only [blockQ]
            split at h
            · rename_i he; rw [if_pos he]; exact ih scr (.exit .normal fr s) h
            · rename_i he; rw [if_neg he]; exact ih scr (.exit _ fr s) h
          | _ => exact ih scr (.exit _ fr s) h
        | loopK c =>
          cases x with
          | normal =>
            have h : (match (generalizing := false) scr with
              | .go scr => wpGo E ys d Q n scr (.code c (.loopK c :: fr) s)
              | .mask js hs => AtM E ys d js hs c (KQ E ys d fr Q) s
              | scr => NeedMask scr.id c s) := h
            show WpL E ys d c (KQ E ys d fr Q) s
            split at h
            · exact ev_round (ih _ _ h)
            · exact h.h
            · exact nomatch h
          | _ => exact ih scr (.exit _ fr s) h
end

/-! ### functions and their loops -/
def bodyOf (fn : Func) : Code := match fn.body with
  | some c => c
  | none => .skip
def finQ (P : Program) (fn : Func) (r : PV) (x : AExit) (s : St) : Prop := match x with
  | .normal | .ret => match resultsF P fn s.h s.t with
    | some (.pv p) => p = r
    | some v => ∃ hp, frz frzDepth v s.h = some (r, hp)
    | none => False
  | _ => False
theorem finQ_ok {P : Program} {fn : Func} {r : PV} {x : AExit} {s : St} (h : finQ P fn r x s) : endQ P fn r x s := by
  unfold finQ at h
  have key : (match resultsF P fn s.h s.t with
    | some (.pv p) => p = r
    | some v => ∃ hp, frz frzDepth v s.h = some (r, hp)
    | none => False) → ∃ v hp, resultsF P fn s.h s.t = some v ∧ frz frzDepth v s.h = some (r, hp) := by
    intro h
    split at h
    · rename_i p hp
      subst h
      exact ⟨_, s.h, hp, rfl⟩
    · rename_i v _ hv
      obtain ⟨hp, h⟩ := h
      exact ⟨_, hp, hv, h⟩
    · exact h.elim
  cases x with
  | normal => exact ⟨.inl rfl, key h⟩
  | ret => exact ⟨.inr rfl, key h⟩
  | _ => exact h.elim
theorem wp_mono {E : Env} {ys : Fam} {d : Nat} {c : Code} {Q R : AExit → St → Prop} {s : St} (hQ : ∀ x s, Q x s → R x s) (h : Wp E ys d c Q s) : Wp E ys d c R s :=
  let ⟨x, s', h1, h2⟩ := h; ⟨x, s', h1, hQ x s' h2⟩
def startOf (fn : Func) (ps : List PV) : Task := .code (bodyOf fn) [] { t := padT fn.ntmps (ps.map .pv), h := [List.replicate fn.ntmps row0], g := 0 }
/-- a function at arguments: what must hold is computed from its code -/
def FnGo (E : Env) (fn : Func) (ps : List PV) (r : PV) (n : Nat) (scr : Scr) : Prop := wpGo E noY 0 (finQ E.P fn r) n scr (startOf fn ps)
theorem den_go {E : Env} {f : FuncId} {fn : Func} {ps : List PV} {r : PV} (n : Nat) (scr : Scr) (hi : E.intr f = none) (hf : E.P.funcs[f]? = some fn) (hb : fn.body.isSome = true) (hok : E.ok f = true) (hinl : E.inl f = false) (hown : E.own f = false)
    (h : FnGo E fn ps r n scr) : Den E f ps r := by
  obtain ⟨c, hc⟩ := Option.isSome_iff_exists.1 hb
  refine den_body hi hf hc hok hinl hown (wp_mono (fun x s h => finQ_ok h) ?_)
  have h1 := wpGo_ok _ _ _ h
  simp only [startOf, TaskWp, KQ, bodyOf, hc] at h1
  exact h1

/-! ### functions that are handed rows -/
def rowsP (h1 : Heap) (K : Prop) : Nat → Nat → Prop
  | _, 0 => K
  | i, n + 1 => (hget h1 0 i).g = i ∧ gensP h1 (rowsP h1 K (i + 1) n) (refsB (hget h1 0 i).b)
theorem rowsP_ok {h1 : Heap} {K : Prop} : ∀ {n i : Nat}, rowsP h1 K i n → rowsOk h1 i n = true ∧ K
  | 0, i, h => ⟨rfl, h⟩
  | n + 1, i, h => by
    obtain ⟨h2, h3⟩ := gensP_ok h.2
    obtain ⟨h4, h5⟩ := rowsP_ok h3
    exact ⟨by simp only [rowsOk, h2, h4, Bool.and_true, beq_iff_eq]; exact h.1, h5⟩
def outP (m : Nat) (v0 : AV) (h1 : Heap) (v : AV) (rs : List Row) : Prop := match ren (nameOut m) frzDepth v0 with
  | some v' => gensP h1 (rowsP h1 (match outRows m h1 0 m with
    | some rs' => v' = v ∧ rs' = rs
    | none => False) 0 m) (refs frzDepth v0)
  | none => ∃ p h2, frz frzDepth v0 h1 = some (p, h2) ∧ rowsOk h2 0 m = true ∧ outRows m h2 0 m = some rs ∧ v = .pv p
theorem outP_ok {m : Nat} {v0 v : AV} {h1 : Heap} {rs : List Row} (h : outP m v0 h1 v rs) : canOut m v0 h1 = some (v, rs) := by
  unfold outP at h
  unfold canOut
  split at h
  · rename_i v' hv
    obtain ⟨h2, h⟩ := gensP_ok h
    obtain ⟨h3, h⟩ := rowsP_ok h
    split at h
    · rename_i rs' hrs
      obtain ⟨rfl, rfl⟩ := h
      simp only [hv, h2, h3, Bool.and_self, if_true, hrs, Option.map_some]
    · exact h.elim
  · rename_i hv
    obtain ⟨p, h2, hz, hok, hrs, rfl⟩ := h
    simp only [hv, hz, Option.bind_some, hok, if_true, hrs, Option.map_some]
def finQC (P : Program) (fn : Func) (m : Nat) (v : AV) (rs : List Row) (x : AExit) (s : St) : Prop := match x with
  | .normal | .ret => match resultsF P fn s.h s.t with
    | some v0 => outP m v0 s.h v rs
    | none => False
  | _ => False
theorem finQC_ok {P : Program} {fn : Func} {m : Nat} {v : AV} {rs : List Row} {x : AExit} {s : St} (h : finQC P fn m v rs x s) : endQC P fn m v rs x s := by
  unfold finQC at h
  have key : (match resultsF P fn s.h s.t with
    | some v0 => outP m v0 s.h v rs
    | none => False) → ∃ v0, resultsF P fn s.h s.t = some v0 ∧ canOut m v0 s.h = some (v, rs) := by
    intro h
    split at h
    · rename_i v0 hv
      exact ⟨v0, hv, outP_ok h⟩
    · exact h.elim
  cases x with
  | normal => exact ⟨.inl rfl, key h⟩
  | ret => exact ⟨.inr rfl, key h⟩
  | _ => exact h.elim
def startC (fn : Func) (args : List AV) (rows : List Row) : Task := .code (bodyOf fn) [] { t := padT fn.ntmps args, h := [rows, List.replicate fn.ntmps row0], g := rows.length }
def FnGoC (E : Env) (fn : Func) (args : List AV) (rows : List Row) (v : AV) (rs : List Row) (n : Nat) (scr : Scr) : Prop := wpGo E noY 1 (finQC E.P fn rows.length v rs) n scr (startC fn args rows)
theorem denC_go {E : Env} {f : FuncId} {fn : Func} {args : List AV} {rows rs : List Row} {v : AV} (n : Nat) (scr : Scr) (hf : E.P.funcs[f]? = some fn) (hb : fn.body.isSome = true) (h : FnGoC E fn args rows v rs n scr) : DenC E f args rows v rs := by
  obtain ⟨c, hc⟩ := Option.isSome_iff_exists.1 hb
  refine denC_body hf hc (wp_mono (fun x s h => finQC_ok h) ?_)
  have h1 := wpGo_ok _ _ _ h
  simp only [startC, TaskWp, KQ, bodyOf, hc] at h1
  exact h1

def loopsOf : Code → List Frame → List (Code × List Frame)
  | .seq a b, fr => loopsOf a (.seqK b :: fr) ++ loopsOf b fr
  | .cond _ a b, fr => loopsOf a fr ++ loopsOf b fr
  | .block id c, fr => loopsOf c (.blockK id :: fr)
  | .loop c, fr => (c, fr) :: loopsOf c (.loopK c :: fr)
  | _, _ => []
/-- at the head of the function's loop number k -/
def LoopAt (E : Env) (fn : Func) (r : PV) (k : Nat) (s : St) : Prop := match (loopsOf (bodyOf fn) [])[k]? with
  | some (c, fr) => AtL E noY 0 c (KQ E noY 0 fr (finQ E.P fn r)) s
  | none => False
def LoopGo (E : Env) (fn : Func) (r : PV) (k : Nat) (n : Nat) (scr : Scr) (s : St) : Prop := match (loopsOf (bodyOf fn) [])[k]? with
  | some (c, fr) => wpGo E noY 0 (finQ E.P fn r) n scr (.code c (.loopK c :: fr) s)
  | none => False
theorem loop_go {E : Env} {fn : Func} {r : PV} {k : Nat} {s : St} (n : Nat) (scr : Scr) (h : LoopGo E fn r k n scr s) : LoopAt E fn r k s := by
  unfold LoopGo at h
  unfold LoopAt
  split at h
  · exact ⟨ev_round (wpGo_ok _ _ _ h)⟩
  · exact h.elim
def LoopAtC (E : Env) (fn : Func) (m : Nat) (v : AV) (rs : List Row) (k : Nat) (s : St) : Prop := match (loopsOf (bodyOf fn) [])[k]? with
  | some (c, fr) => AtL E noY 1 c (KQ E noY 1 fr (finQC E.P fn m v rs)) s
  | none => False
def LoopGoC (E : Env) (fn : Func) (m : Nat) (v : AV) (rs : List Row) (k : Nat) (n : Nat) (scr : Scr) (s : St) : Prop := match (loopsOf (bodyOf fn) [])[k]? with
  | some (c, fr) => wpGo E noY 1 (finQC E.P fn m v rs) n scr (.code c (.loopK c :: fr) s)
  | none => False
theorem loopC_go {E : Env} {fn : Func} {m : Nat} {v : AV} {rs : List Row} {k : Nat} {s : St} (n : Nat) (scr : Scr) (h : LoopGoC E fn m v rs k n scr s) : LoopAtC E fn m v rs k s := by
  unfold LoopGoC at h
  unfold LoopAtC
  split at h
  · exact ⟨ev_round (wpGo_ok _ _ _ h)⟩
  · exact h.elim

/-! ### ranges over functions -/
def rangesOf : Code → List Frame → List (Operand × Array Tmp × Code × Code × List Frame)
  | .seq a b, fr => rangesOf a (.seqK b :: fr) ++ rangesOf b fr
  | .cond _ a b, fr => rangesOf a fr ++ rangesOf b fr
  | .block id c, fr => rangesOf c (.blockK id :: fr)
  | .loop c, fr => rangesOf c (.loopK c :: fr)
  | .rangeFunc f ps a b, fr => [(f, ps, a, b, fr)]
  | _, _ => []
/-- a function that is ranged over, at its start; the rounds are open -/
def FnGoI (E : Env) (ys : Fam) (D : Nat) (fn : Func) (args : List AV) (h : Heap) (g : Nat) (R : AExit → St → Prop) (n : Nat) (scr : Scr) : Prop := wpGo E ys D R n scr (.code (bodyOf fn) [] { t := padT fn.ntmps args, h := h, g := g })
theorem fnI_go {E : Env} {ys : Fam} {D : Nat} {fn : Func} {c : Code} {args : List AV} {h : Heap} {g : Nat} {R : AExit → St → Prop} (n : Nat) (scr : Scr) (hb : fn.body = some c) (hk : FnGoI E ys D fn args h g R n scr) : Wp E ys D c R { t := padT fn.ntmps args, h := h, g := g } := by
  have h1 := wpGo_ok _ _ _ hk
  simp only [TaskWp, KQ, bodyOf, hb] at h1
  exact h1
def LoopAtI (E : Env) (ys : Fam) (D : Nat) (fn : Func) (R : AExit → St → Prop) (k : Nat) (s : St) : Prop := match (loopsOf (bodyOf fn) [])[k]? with
  | some (c, fr) => AtL E ys D c (KQ E ys D fr R) s
  | none => False
def LoopGoI (E : Env) (ys : Fam) (D : Nat) (fn : Func) (R : AExit → St → Prop) (k : Nat) (n : Nat) (scr : Scr) (s : St) : Prop := match (loopsOf (bodyOf fn) [])[k]? with
  | some (c, fr) => wpGo E ys D R n scr (.code c (.loopK c :: fr) s)
  | none => False
theorem loopI_go {E : Env} {ys : Fam} {D : Nat} {fn : Func} {R : AExit → St → Prop} {k : Nat} {s : St} (n : Nat) (scr : Scr) (h : LoopGoI E ys D fn R k n scr s) : LoopAtI E ys D fn R k s := by
  unfold LoopGoI at h
  unfold LoopAtI
  split at h
  · exact ⟨ev_round (wpGo_ok _ _ _ h)⟩
  · exact h.elim
/-- the function's range number k -/
def RangeAtF (E : Env) (fn : Func) (r : PV) (k : Nat) (s : St) : Prop := match (rangesOf (bodyOf fn) [])[k]? with
  | some (f, ps, a, b, fr) => RangeAt E noY 0 f ps a b (KQ E noY 0 fr (finQ E.P fn r)) s
  | none => False
/-- the body of the function's range number k -/
def BodyGo (E : Env) (fn : Func) (k : Nat) (R : AExit → St → Prop) (n : Nat) (scr : Scr) (s : St) : Prop := match (rangesOf (bodyOf fn) [])[k]? with
  | some (_, _, _, b, _) => wpGo E noY 0 R n scr (.code b [] s)
  | none => False
def AssignGo (E : Env) (fn : Func) (k : Nat) (R : AExit → St → Prop) (n : Nat) (scr : Scr) (s : St) : Prop := match (rangesOf (bodyOf fn) [])[k]? with
  | some (_, _, a, _, _) => wpGo E noY 0 R n scr (.code a [] s)
  | none => False
/-- what follows the function's range number k -/
def AfterGo (E : Env) (fn : Func) (r : PV) (k : Nat) (n : Nat) (scr : Scr) (x : AExit) (s : St) : Prop := match (rangesOf (bodyOf fn) [])[k]? with
  | some (_, _, _, _, fr) => wpGo E noY 0 (finQ E.P fn r) n scr (.exit x fr s)
  | none => False
end Go.Proofs.YtlhfgonjcpapnaaGreatDoor.Abs

/- The environment of the walks: this program, the contracts of Go's library. -/
namespace Go.Proofs.YtlhfgonjcpapnaaGreatDoor.Abs
open Go Go.Proofs
/-- strconv.FormatUint at base 10 -/
def fmtP : List PV → Option PV
  | [.lit (.int .u64 n), .lit (.int .i64 b)] => if b = 10 ∧ 0 ≤ n ∧ n < 18446744073709551616 then some (strP (Lib.decDigits n.toNat)) else none
  | _ => none
def libF0 (f : FuncId) : Option (List PV → Option PV) := match f with
  | 68 => some cutP
  | 69 => some splitP
  | 40 => some joinP
  | 75 => some repeatP
  | 110 => some parseP
  | 112 => some fmtP
  | _ => none
/-- the law's own closed check, proved apart -/
def aliveP : List PV → Option PV
  | [] => some (.lit (.bool true))
  | _ => none
def libF (f : FuncId) : Option (List PV → Option PV) := match f with
  | 10 => some aliveP
  | f => libF0 f
/-! ### short names for values -/
abbrev bs (l : List UInt8) : ByteArray := ⟨l.toArray⟩
abbrev verP (a b c : Int) (p : PV) : PV := .agg [.lit (.int .u32 a), .lit (.int .u32 b), .lit (.int .u32 c), p]
abbrev bndP (a b c : Int) (p : PV) (o : Bool) : PV := .agg [.lit (.int .u32 a), .lit (.int .u32 b), .lit (.int .u32 c), p, .lit (.bool o)]
abbrev edgP (a b c : Int) (p : PV) (o e : Bool) : PV := .agg [.lit (.int .u32 a), .lit (.int .u32 b), .lit (.int .u32 c), p, .lit (.bool o), .lit (.bool e)]
abbrev itvP (a b c : Int) (p : PV) (o : Bool) (a1 b1 c1 : Int) (p1 : PV) (o1 e : Bool) : PV :=
  .agg [.lit (.int .u32 a), .lit (.int .u32 b), .lit (.int .u32 c), p, .lit (.bool o), .lit (.int .u32 a1), .lit (.int .u32 b1), .lit (.int .u32 c1), p1, .lit (.bool o1), .lit (.bool e)]
abbrev intA (x : Int) : AV := .pv (.lit (.int .i64 x))
abbrev bolA (x : Bool) : AV := .pv (.lit (.bool x))
abbrev strA (x : ByteArray) : AV := .pv (.lit (.string x))
abbrev intP (x : Int) : PV := .lit (.int .i64 x)
abbrev bolP (x : Bool) : PV := .lit (.bool x)
/-! ### package-level variables -/
def glE (I : Nat → Prop) (w : World) : Prop := (∃ m, PRep I w (.ptr (.lit (.int .i64 m)) 0) (.pointer (some ⟨0, 0, none⟩))) ∧ Lib.TabIs Tryz.prog w "internal/strconv.uint64pow10" .u64 Lib.pow10Tab ∧ I 3
theorem glE_mono (I I' : Nat → Prop) (w w' : World) (h : glE I w) (hI : ∀ b, I b → I' b) (hk : ∀ b, I b → w'.heap[b]? = w.heap[b]?) : glE I' w' := by
  obtain ⟨⟨m, h1⟩, h2, h3⟩ := h
  refine ⟨⟨m, h1.mono hI hk⟩, ?_, hI _ h3⟩
  have hg : Tryz.prog.globalNamed "internal/strconv.uint64pow10" = some 3 := by kernel_rfl
  unfold Lib.TabIs World.var? at *
  rw [hg] at h2 ⊢
  simp only [Option.bind_some] at h2 ⊢
  rw [hk _ h3]
  exact h2
noncomputable def E0 : Env := {
  P := Tryz.prog
  intr := libF0
  inl := fun f => [51, 94, 97, 132, 154, 155, 178, 191].contains f
  own := fun f => [92, 95].contains f
  can := fun f => [94, 97, 132, 154, 155, 178, 191].contains f
  rd := fun f => [83, 121].contains f
  ok := fun f => !(f == 79)
  gl := glE
  glm := glE_mono }
noncomputable def E1 : Env := { E0 with intr := libF }
end Go.Proofs.YtlhfgonjcpapnaaGreatDoor.Abs

/- Small laws for walks: bytes, numbers, closing rules. -/
set_option linter.unusedVariables false
set_option linter.unusedSimpArgs false
namespace Go.Proofs.YtlhfgonjcpapnaaGreatDoor.Abs
open Go Go.Proofs

theorem size_bs (l : List UInt8) : ByteArray.size (bs l) = l.length := rfl
theorem toList_bs (l : List UInt8) : ByteArray.toList (bs l) = l := by
  rw [ByteArray.toList_eq]
theorem byteAt_bs (l : List UInt8) (i : Nat) (h : i < l.length) : byteAt (bs l) i = (l[i].toNat : Int) := by
  simp [byteAt, List.getD_eq_getElem?_getD, h]
theorem wrap_i64 (x : Int) (h1 : -9223372036854775808 ≤ x) (h2 : x < 9223372036854775808) : IntKind.wrap IntKind.i64 x = x := by
  simp only [IntKind.wrap, IntKind.bits, IntKind.signed]
  simp
  omega
theorem wrap_u64 (x : Int) (h1 : 0 ≤ x) (h2 : x < 18446744073709551616) : IntKind.wrap IntKind.u64 x = x := by
  simp only [IntKind.wrap, IntKind.bits, IntKind.signed]
  simp
  omega
end Go.Proofs.YtlhfgonjcpapnaaGreatDoor.Abs

/- Versions, intervals, edges: as values of the walks. -/
set_option linter.unusedVariables false
set_option linter.unusedSimpArgs false
namespace Go.Proofs.YtlhfgonjcpapnaaGreatDoor.Abs
open Go Go.Proofs

abbrev preP (k : Nat) (nl full : Bool) (l : List (List UInt8)) : PV := .sl k nl full (l.map strP)
structure V where
  a : Int
  b : Int
  c : Int
  k : Nat
  nl : Bool
  full : Bool
  pre : List (List UInt8)
  deriving Inhabited
abbrev V.p (v : V) : PV := verP v.a v.b v.c (preP v.k v.nl v.full v.pre)
structure I where
  lo : V
  lopen : Bool
  hi : V
  hopen : Bool
  less : Bool
  deriving Inhabited
abbrev I.p (x : I) : PV := itvP x.lo.a x.lo.b x.lo.c (preP x.lo.k x.lo.nl x.lo.full x.lo.pre) x.lopen x.hi.a x.hi.b x.hi.c (preP x.hi.k x.hi.nl x.hi.full x.hi.pre) x.hopen x.less
structure Ed where
  v : V
  behind : Bool
  less : Bool
  deriving Inhabited
abbrev Ed.p (x : Ed) : PV := edgP x.v.a x.v.b x.v.c (preP x.v.k x.v.nl x.v.full x.v.pre) x.behind x.less
structure Bd where
  v : V
  op : Bool
  deriving Inhabited
abbrev Bd.p (x : Bd) : PV := bndP x.v.a x.v.b x.v.c (preP x.v.k x.v.nl x.v.full x.v.pre) x.op
abbrev listP (k : Nat) (nl full : Bool) (l : List I) : PV := .sl k nl full (l.map I.p)

/-! ### what the values of a running program are -/
def small (n : Nat) : Prop := n < 4611686018427387904
def u32 (n : Int) : Prop := 0 ≤ n ∧ n < 4294967296
/-- a slice of cells of this size: nil has none -/
def slOk (sz k : Nat) (nl : Bool) (n : Nat) : Prop := (nl = true → n = 0) ∧ (nl = false → k = sz)
theorem sl_at {sz k : Nat} {nl : Bool} {n i : Nat} (h : slOk sz k nl n) (hi : i < n) : nl = false ∧ k = sz := by
  cases nl with
  | false => exact ⟨rfl, h.2 rfl⟩
  | true => have := h.1 rfl; omega
structure V.ok (v : V) : Prop where
  a : u32 v.a
  b : u32 v.b
  c : u32 v.c
  sl : slOk 1 v.k v.nl v.pre.length
  len : small v.pre.length
  str : ∀ s ∈ v.pre, small s.length
structure I.ok (x : I) : Prop where
  lo : x.lo.ok
  hi : x.hi.ok
end Go.Proofs.YtlhfgonjcpapnaaGreatDoor.Abs

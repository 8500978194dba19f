/- The abstract values of the walk, how they stand for the model's values in a world, and how that carries over as the world grows. No program is named here. -/
import Derived.Calls
import Derived.Laws.AppendOwn
import Derived.Laws.MakeOwn
import Derived.Laws.OwnMore
import Derived.Laws.CopyOwn
import Derived.Laws.Cells
import Derived.Laws.Entries
import Derived.Laws.Slices
import Derived.Below
import Derived.IntWalk
import Derived.OwnWalk
import Derived.Laws.Strings
import Derived.Laws.Concat
import Derived.Laws.Small
import Derived.Laws.Shifts
import Derived.Laws.AppendOwnNone
set_option linter.unusedVariables false
set_option linter.unusedSimpArgs false
namespace Go.Aw
open Go

/-- Kinds of elements of slices. -/
inductive E where
  | int | byte | bool | str | row (f : Bool) | lrow | vec | pr
  deriving DecidableEq

@[reducible] def E.D : E → Type
  | .int => Int
  | .byte => Int
  | .bool => Bool
  | .str => List UInt8
  | .row _ => List Int
  | .lrow => Nat × List Int
  | .vec => List Int
  | .pr => (Nat × List Int) × (Nat × List Int)

def E.size : E → Nat
  | .vec => 4
  | .pr => 2
  | _ => 1
def E.bytes : E → Nat
  | .int => 8
  | .byte => 1
  | .bool => 1
  | .str => 16
  | .row _ => 24
  | .lrow => 24
  | .vec => 32
  | .pr => 48
def E.zero : E → Value
  | .int => .int .i64 0
  | .byte => .int .u8 0
  | .bool => .bool false
  | .str => .string ByteArray.empty
  | .row _ => .slice none 0 0
  | .lrow => .slice none 0 0
  | .vec => .agg #[.int .i64 0, .int .i64 0, .int .i64 0, .int .i64 0]
  | .pr => .agg #[.slice none 0 0, .slice none 0 0]

/-- What can be read and is not written: the blocks that nobody here owns; which of them are of this call's own making; the number of the type int. -/
structure Vw where
  H : Nat → Option Obj
  Fr : Nat → Prop
  ti : TypeId

def Vw.cell (V : Vw) (a : Addr) : Option Value :=
  match V.H a.block with
  | some (.cells c _ _) => if a.spot.isSome then none else c[a.off]?
  | _ => none

structure Vw.le (V V' : Vw) : Prop where
  H : ∀ b o, V.H b = some o → V'.H b = some o
  Fr : ∀ b, V.Fr b → V'.Fr b
  ti : V'.ti = V.ti

theorem Vw.le.refl (V : Vw) : V.le V := ⟨fun _ _ h => h, fun _ h => h, rfl⟩
theorem Vw.le.trans {A B C : Vw} (h : A.le B) (k : B.le C) : A.le C :=
  ⟨fun b o x => k.H b o (h.H b o x), fun b x => k.Fr b (h.Fr b x), k.ti.trans h.ti⟩

theorem Vw.le.cell {V V' : Vw} (h : V.le V') {a : Addr} {v : Value} (hc : V.cell a = some v) : V'.cell a = some v := by
  unfold Vw.cell at *
  cases hb : V.H a.block with
  | none => rw [hb] at hc; simp at hc
  | some o => rw [hb] at hc; rw [h.H _ _ hb]; exact hc

/-- A slice of integers that is only read. -/
def RowRel (V : Vw) (f : Bool) (xs : List Int) (v : Value) : Prop :=
  ∃ base cap, v = .slice base xs.length cap ∧ xs.length ≤ cap ∧ cap ≤ maxLen ∧
    ∀ i (_ : i < xs.length), ∃ a, base = some a ∧ (f = true → V.Fr a.block) ∧ V.cell (a.add i) = some (.int .i64 xs[i])

/-- A slice of integers that owns its block, which bears the number l. -/
def LRowRel (V : Vw) (l : Nat) (xs : List Int) (v : Value) : Prop :=
  ∃ cap cur, v = .slice (some ⟨l, 0, none⟩) xs.length cap ∧ V.Fr l ∧ V.H l = some (.cells cur V.ti (0, 0)) ∧ xs.length ≤ cap ∧ cap ≤ maxLen ∧
    cur.size = cap ∧ cur.toList.take xs.length = xs.map (Value.int .i64)

def ElRel (V : Vw) : (e : E) → e.D → Value → Prop
  | .int, n, v => v = .int .i64 n
  | .byte, n, v => v = .int .u8 n
  | .bool, b, v => v = .bool b
  | .str, s, v => v = .string ⟨s.toArray⟩ ∧ s.length ≤ maxLen
  | .row f, xs, v => RowRel V f xs v
  | .lrow, (l, xs), v => LRowRel V l xs v
  | .vec, xs, v => v = .agg (xs.map (Value.int .i64)).toArray ∧ xs.length = 4
  | .pr, ((l, xs), (m, ys)), v => ∃ u1 u2, v = .agg #[u1, u2] ∧ LRowRel V l xs u1 ∧ LRowRel V m ys u2

theorem RowRel.mono {V V' : Vw} (h : V.le V') {f : Bool} {xs : List Int} {v : Value} : RowRel V f xs v → RowRel V' f xs v
  | ⟨base, cap, hv, h1, h2, hx⟩ => ⟨base, cap, hv, h1, h2, fun i hi =>
      let ⟨a, ha, hf, hc⟩ := hx i hi
      ⟨a, ha, fun e => h.Fr _ (hf e), h.cell hc⟩⟩

theorem LRowRel.mono {V V' : Vw} (h : V.le V') {l : Nat} {xs : List Int} {v : Value} : LRowRel V l xs v → LRowRel V' l xs v
  | ⟨cap, cur, hv, hf, hb, rest⟩ => ⟨cap, cur, hv, h.Fr _ hf, by rw [h.ti]; exact h.H _ _ hb, rest⟩

theorem ElRel.mono {V V' : Vw} (h : V.le V') : {e : E} → {d : e.D} → {v : Value} → ElRel V e d v → ElRel V' e d v
  | .int, _, _, k => k
  | .byte, _, _, k => k
  | .bool, _, _, k => k
  | .str, _, _, k => k
  | .row _, _, _, k => RowRel.mono h k
  | .lrow, (_, _), _, k => LRowRel.mono h k
  | .vec, _, _, k => k
  | .pr, ((_, _), (_, _)), _, ⟨u1, u2, hv, h1, h2⟩ => ⟨u1, u2, hv, LRowRel.mono h h1, LRowRel.mono h h2⟩

theorem RowRel.oneCell {V : Vw} {f : Bool} {xs : List Int} {v : Value} (h : RowRel V f xs v) : v.oneCell' = true := by
  obtain ⟨b, c, rfl, _⟩ := h; rfl
theorem LRowRel.oneCell {V : Vw} {l : Nat} {xs : List Int} {v : Value} (h : LRowRel V l xs v) : v.oneCell' = true := by
  obtain ⟨b, c, rfl, _⟩ := h; rfl

theorem cells_oneCell {v : Value} (h : v.oneCell' = true) : v.cells = #[v] := by
  cases v <;> first | rfl | simp [Value.oneCell'] at h

/-- A value of a kind has that kind's number of cells, each of one cell. -/
theorem ElRel.cells {V : Vw} : {e : E} → {d : e.D} → {v : Value} → ElRel V e d v → v.cells.size = e.size ∧ ∀ u ∈ v.cells.toList, u.oneCell' = true
  | .int, _, _, k => by cases k; simp [Value.cells, E.size, Value.oneCell']
  | .byte, _, _, k => by cases k; simp [Value.cells, E.size, Value.oneCell']
  | .bool, _, _, k => by cases k; simp [Value.cells, E.size, Value.oneCell']
  | .str, _, _, k => by obtain ⟨rfl, _⟩ := k; simp [Value.cells, E.size, Value.oneCell']
  | .row _, _, v, k => by have := RowRel.oneCell k; rw [cells_oneCell this]; simp [E.size, this]
  | .lrow, (_, _), v, k => by have := LRowRel.oneCell k; rw [cells_oneCell this]; simp [E.size, this]
  | .vec, xs, _, k => by
      obtain ⟨rfl, h4⟩ := k
      simp only [Value.cells, E.size]
      refine ⟨by simp [h4], ?_⟩
      simp [Value.oneCell']
  | .pr, ((_, _), (_, _)), _, ⟨u1, u2, hv, h1, h2⟩ => by
      subst hv
      simp [Value.cells, E.size, LRowRel.oneCell h1, LRowRel.oneCell h2]

/-- A row of cells bears the elements. -/
def Enc (V : Vw) (e : E) (xs : List e.D) (cs : List Value) : Prop :=
  cs.length = xs.length * e.size ∧ ∀ i (h : i < xs.length), ∃ u, ElRel V e xs[i] u ∧ ∀ j, j < e.size → cs[i * e.size + j]? = u.cells[j]?

theorem Enc.mono {V V' : Vw} (h : V.le V') {e : E} {xs : List e.D} {cs : List Value} (k : Enc V e xs cs) : Enc V' e xs cs :=
  ⟨k.1, fun i hi => let ⟨u, h1, h2⟩ := k.2 i hi; ⟨u, h1.mono h, h2⟩⟩

/-- A slice that is only read. -/
def SlRel (V : Vw) (f : Bool) (e : E) (xs : List e.D) (v : Value) : Prop :=
  ∃ base cap, v = .slice base xs.length cap ∧ xs.length ≤ cap ∧ cap ≤ maxLen ∧
    ∀ i (h : i < xs.length), ∃ a u, base = some a ∧ (f = true → V.Fr a.block) ∧ ElRel V e xs[i] u ∧ ∀ j, j < e.size → V.cell (a.add (i * e.size + j)) = u.cells[j]?

theorem SlRel.mono {V V' : Vw} (h : V.le V') {f : Bool} {e : E} {xs : List e.D} {v : Value} : SlRel V f e xs v → SlRel V' f e xs v
  | ⟨base, cap, hv, h1, h2, hx⟩ => ⟨base, cap, hv, h1, h2, fun i hi => by
      obtain ⟨a, u, ha, hf, hr, hc⟩ := hx i hi
      refine ⟨a, u, ha, fun k => h.Fr _ (hf k), hr.mono h, fun j hj => ?_⟩
      have hsz := hr.cells.1
      have h3 := hc j hj
      rw [Array.getElem?_eq_getElem (by omega)] at h3 ⊢
      exact h.cell h3⟩

theorem size_int : E.size .int = 1 := rfl

theorem RowRel.toSl {V : Vw} {f : Bool} {xs : List Int} {v : Value} (h : RowRel V f xs v) : SlRel V f .int xs v := by
  obtain ⟨base, cap, hv, h1, h2, hx⟩ := h
  refine ⟨base, cap, hv, h1, h2, fun i hi => ?_⟩
  obtain ⟨a, ha, hf, hc⟩ := hx i hi
  refine ⟨a, .int .i64 xs[i], ha, hf, rfl, fun j hj => ?_⟩
  have : j = 0 := by simp [E.size] at hj; omega
  subst this
  simpa [E.size, Value.cells] using hc

theorem SlRel.toRow {V : Vw} {f : Bool} {xs : List Int} {v : Value} (h : SlRel V f .int xs v) : RowRel V f xs v := by
  obtain ⟨base, cap, hv, h1, h2, hx⟩ := h
  refine ⟨base, cap, hv, h1, h2, fun i hi => ?_⟩
  obtain ⟨a, u, ha, hf, hr, hc⟩ := hx i hi
  cases hr
  refine ⟨a, ha, hf, ?_⟩
  have := hc 0 (by simp [E.size])
  simpa [E.size, Value.cells] using this

theorem add_add (a : Addr) (m n : Nat) : (a.add m).add n = a.add (m + n) := by
  unfold Addr.add
  by_cases hm : m = 0
  · subst hm; simp
  · by_cases hn : n = 0
    · subst hn; simp [hm]
    · simp [hm, hn, Nat.add_assoc]
theorem add_block (a : Addr) (n : Nat) : (a.add n).block = a.block := by unfold Addr.add; split <;> rfl
theorem add_plain (b o n : Nat) : (⟨b, o, none⟩ : Addr).add n = ⟨b, o + n, none⟩ := by
  unfold Addr.add; split <;> simp_all

theorem SlRel.weaken {V : Vw} {f : Bool} {e : E} {xs : List e.D} {v : Value} (h : SlRel V f e xs v) : SlRel V false e xs v := by
  obtain ⟨base, cap, hv, h1, h2, hx⟩ := h
  exact ⟨base, cap, hv, h1, h2, fun i hi => let ⟨a, u, ha, _, r⟩ := hx i hi; ⟨a, u, ha, by simp, r⟩⟩

theorem RowRel.weaken {V : Vw} {f : Bool} {xs : List Int} {v : Value} (h : RowRel V f xs v) : RowRel V false xs v :=
  (h.toSl.weaken).toRow

/-- A piece of a slice that is only read. -/
theorem SlRel.piece {V : Vw} {f : Bool} {e : E} {xs : List e.D} {base : Option Addr} {len cap : Nat} (h : SlRel V f e xs (.slice base len cap)) {lo hi m : Nat} (h1 : lo ≤ hi) (h2 : hi ≤ xs.length) (hm : hi ≤ m) (hm2 : m ≤ maxLen)
    {base' : Option Addr} (hb : lo < hi → base' = base.map (·.add (lo * e.size))) : SlRel V f e ((xs.drop lo).take (hi - lo)) (.slice base' (hi - lo) (m - lo)) := by
  obtain ⟨b, c, hv, h3, h4, hx⟩ := h
  cases hv
  have hl : ((xs.drop lo).take (hi - lo)).length = hi - lo := by simp; omega
  refine ⟨base', m - lo, by rw [hl], by rw [hl]; omega, by omega, fun i hi' => ?_⟩
  rw [hl] at hi'
  obtain ⟨a, u, ha, hf, hr, hc⟩ := hx (lo + i) (by omega)
  refine ⟨a.add (lo * e.size), u, by rw [hb (by omega), ha]; rfl, by rw [add_block]; exact hf, by simpa using hr, fun j hj => ?_⟩
  rw [add_add, ← hc j hj, Nat.add_mul, Nat.add_assoc]

theorem E.size_pos (e : E) : 0 < e.size := by cases e <;> simp [E.size]

/-- What one view shows another one shows, too, and holds it for fresh if the first does. -/
structure Vw.sub (V V' : Vw) : Prop where
  H : ∀ b o, V.H b = some o → V'.H b = some o
  Fr : ∀ b o, V.H b = some o → V.Fr b → V'.Fr b
  ti : V'.ti = V.ti

theorem Vw.le.sub {V V' : Vw} (h : V.le V') : V.sub V' := ⟨h.H, fun b _ _ hf => h.Fr b hf, h.ti⟩

theorem Vw.sub.cell {V V' : Vw} (h : V.sub V') {a : Addr} {v : Value} (hc : V.cell a = some v) : V'.cell a = some v ∧ (V.Fr a.block → V'.Fr a.block) := by
  unfold Vw.cell at *
  cases hb : V.H a.block with
  | none => rw [hb] at hc; simp at hc
  | some o => rw [hb] at hc; rw [h.H _ _ hb]; exact ⟨hc, h.Fr _ _ hb⟩

theorem RowRel.sub {V V' : Vw} (h : V.sub V') {f : Bool} {xs : List Int} {v : Value} : RowRel V f xs v → RowRel V' f xs v
  | ⟨base, cap, hv, h1, h2, hx⟩ => ⟨base, cap, hv, h1, h2, fun i hi => by
      obtain ⟨a, ha, hf, hc⟩ := hx i hi
      have := h.cell hc
      rw [add_block] at this
      exact ⟨a, ha, fun e => this.2 (hf e), this.1⟩⟩

theorem LRowRel.sub {V V' : Vw} (h : V.sub V') {l : Nat} {xs : List Int} {v : Value} : LRowRel V l xs v → LRowRel V' l xs v
  | ⟨cap, cur, hv, hf, hb, rest⟩ => ⟨cap, cur, hv, h.Fr _ _ hb hf, by rw [h.ti]; exact h.H _ _ hb, rest⟩

theorem ElRel.sub {V V' : Vw} (h : V.sub V') : {e : E} → {d : e.D} → {v : Value} → ElRel V e d v → ElRel V' e d v
  | .int, _, _, k => k
  | .byte, _, _, k => k
  | .bool, _, _, k => k
  | .str, _, _, k => k
  | .row _, _, _, k => RowRel.sub h k
  | .lrow, (_, _), _, k => LRowRel.sub h k
  | .vec, _, _, k => k
  | .pr, ((_, _), (_, _)), _, ⟨u1, u2, hv, h1, h2⟩ => ⟨u1, u2, hv, LRowRel.sub h h1, LRowRel.sub h h2⟩

theorem Enc.sub {V V' : Vw} (h : V.sub V') {e : E} {xs : List e.D} {cs : List Value} (k : Enc V e xs cs) : Enc V' e xs cs :=
  ⟨k.1, fun i hi => let ⟨u, h1, h2⟩ := k.2 i hi; ⟨u, h1.sub h, h2⟩⟩

theorem SlRel.sub {V V' : Vw} (h : V.sub V') {f : Bool} {e : E} {xs : List e.D} {v : Value} : SlRel V f e xs v → SlRel V' f e xs v
  | ⟨base, cap, hv, h1, h2, hx⟩ => ⟨base, cap, hv, h1, h2, fun i hi => by
      obtain ⟨a, u, ha, hf, hr, hc⟩ := hx i hi
      have hsz := hr.cells.1
      refine ⟨a, u, ha, fun k => ?_, hr.sub h, fun j hj => ?_⟩
      · have h3 := hc 0 e.size_pos
        rw [Array.getElem?_eq_getElem (by have := e.size_pos; omega)] at h3
        have := (h.cell h3).2
        rw [add_block] at this
        exact this (hf k)
      · have h3 := hc j hj
        rw [Array.getElem?_eq_getElem (by omega)] at h3 ⊢
        exact (h.cell h3).1⟩

theorem LRowRel.toRow {V : Vw} {l : Nat} {xs : List Int} {v : Value} (h : LRowRel V l xs v) : RowRel V true xs v := by
  obtain ⟨cap, cur, hv, hf, hb, h1, h2, h3, h4⟩ := h
  refine ⟨some ⟨l, 0, none⟩, cap, hv, h1, h2, fun i hi => ⟨⟨l, 0, none⟩, rfl, fun _ => hf, ?_⟩⟩
  rw [add_plain]
  have : (cur.toList.take xs.length)[i]? = (xs.map (Value.int .i64))[i]? := by rw [h4]
  rw [List.getElem?_take, if_pos hi] at this
  simp [Vw.cell, hb]
  simpa [hi] using this

end Go.Aw

/- The abstract state of a walk, and what it says of a frame and a world. -/
namespace Go.Aw
open Go
open Go.RowKit (Below)

theorem ask_drawn {α : Type} : ∀ (k : Ask α) (w : World), w.drawn ≤ (w.ask k).2.drawn
  | .done a, w => Nat.le_refl _
  | .ask what range k, w => by
    unfold World.ask
    simp only
    split
    · exact ask_drawn _ w
    · exact Nat.le_trans (Nat.le_succ _) (ask_drawn _ { w with drawn := w.drawn + 1 })
theorem sys_drawn (c : Sys) (w : World) : w.drawn ≤ (w.sys c).2.drawn := by
  have h := ask_drawn (Kernel.perform c w.os) w
  unfold World.sys
  generalize w.ask (Kernel.perform c w.os) = r at h
  obtain ⟨⟨r, os⟩, w'⟩ := r
  cases r <;> first | exact h | exact Nat.le_refl _
theorem view_drawn {p : Program} {w w' : World} {a k : Addr} {u : TypeId} {v : Value} {b : Bool} {l : List Addr} (h : w.viewStore p a u k v b = .ok (w', l)) : w'.drawn = w.drawn := by
  unfold World.viewStore at h
  simp only [bind, Except.bind, pure, Except.pure] at h
  (repeat' split at h) <;> first | (cases h; done) | (cases h; rfl)
theorem run_drawn {α : Type} {P : Program} : ∀ (m : Sem α) {w w' : World} {a : α}, m.run P w = .ok a w' → w.drawn ≤ w'.drawn := by
  intro m
  induction m with
  | pure b => intro w w' a h; simp only [Sem.run] at h; cases h; exact Nat.le_refl _
  | load m x k ih =>
    intro w w' a h
    simp only [Sem.run] at h
    split at h
    · exact ih _ h
    · split at h
      · exact ih _ h
      · cases h
  | store m x v k ih =>
    intro w w' a h
    have key : (match w.cell? x with
      | some _ => if w.frozen? x then Result.halt (.unsupported (.unsafePointer "a write to bytes that a string shares")) w else k.run P (w.setCell x v)
      | none => match w.farStore P x v (m == Mode.atomic) with
        | .ok (w, _) => k.run P w
        | .error h => .halt h w) = .ok a w' := by
      cases v <;> first | exact h | (simp only [Sem.run] at h; done) | (simp only [Sem.run] at h; cases h; done) | (simp only [Sem.run] at h; exact h)
    split at key
    · split at key
      · cases key
      · have t := ih key; exact t
    · split at key
      · rename_i w2 l hf
        unfold World.farStore at hf
        split at hf
        · split at hf
          · rename_i r hv
            obtain ⟨w3, l3⟩ := r
            cases hf
            have := view_drawn hv
            have := ih key
            omega
          · cases hf
        · cases hf
      · cases key
  | new o k ih =>
    intro w w' a h
    simp only [Sem.run] at h
    have t := ih _ h
    exact t
  | shape r k ih =>
    intro w w' a h
    simp only [Sem.run] at h
    exact ih _ h
  | freeze x n k ih =>
    intro w w' a h
    simp only [Sem.run] at h
    have := ih h
    have e : (w.freeze x n).drawn = w.drawn := by unfold World.freeze; split <;> rfl
    omega
  | frozen x k ih =>
    intro w w' a h
    simp only [Sem.run] at h
    exact ih _ h
  | getObj r k ih =>
    intro w w' a h
    simp only [Sem.run] at h
    split at h <;> first | (cases h; done) | exact ih _ h
  | setObj r o k ih =>
    intro w w' a h
    simp only [Sem.run] at h
    split at h <;> first | (cases h; done) | (have t := ih h; exact t)
  | choose q k ih =>
    intro w w' a h
    simp only [Sem.run] at h
    split at h
    · exact ih _ h
    · exact Nat.le_trans (Nat.le_succ _) (ih _ h)
  | sys c k ih =>
    intro w w' a h
    simp only [Sem.run] at h
    exact Nat.le_trans (sys_drawn c w) (ih _ h)
  | program k ih =>
    intro w w' a h
    simp only [Sem.run] at h
    exact ih _ h
  | mark x k ih =>
    intro w w' a h
    simp only [Sem.run] at h
    exact ih h
  | halt x =>
    intro w w' a h
    simp only [Sem.run] at h
    cases h

/-- Abstract values. -/
inductive AV where
  | junk
  | int (k : IntKind) (n : Int)
  | bool (b : Bool)
  | str (s : List UInt8)
  | sl (f : Bool) (e : E) (xs : List e.D)
  | lr (l : Nat) (xs : List Int)
  | vec (xs : List Int)
  | nils
  | own (id g : Nat)
  | elt (id g s k : Nat)
  | relt (f : Bool) (e : E) (d : e.D)
  | hdr (h : Option Nat) (n : Nat)
  | emp (b : Bool)
  | fn (f : Nat)
  | hp (h k : Nat)
  | lenv (n : Nat)

/-- Keys and values of maps. -/
inductive MK where
  | str (s : List UInt8)
  | vec (xs : List Int)
  deriving DecidableEq
inductive MV where
  | bool (b : Bool)
  | int (n : Int)
/-- A map's type: keys are vectors, or strings; values are integers, or booleans. -/
structure MT where
  kv : Bool
  vi : Bool
def MK.val : MK → Value
  | .str s => .string ⟨s.toArray⟩
  | .vec xs => .agg (xs.map (Value.int .i64)).toArray
def MV.val : MV → Value
  | .bool b => .bool b
  | .int n => .int .i64 n
def MK.ok : Bool → MK → Prop
  | false, .str _ => True
  | true, .vec xs => xs.length = 4
  | _, _ => False
def MV.ok : Bool → MV → Prop
  | false, .bool _ => True
  | true, .int _ => True
  | _, _ => False

/-- Owned objects. -/
inductive O where
  | dead
  | arr (e : E) (xs : List e.D) (g : Nat) (nn : Bool)
  | mat (hs : List (Option Nat)) (rows : List (List Int)) (g : Nat) (nn : Bool)
  | gm (D : List Nat) (F : Nat → List Int) (hs : List Nat) (g : Nat) (nn : Bool)
  | mp (m : MT) (l : List (MK × MV)) (g : Nat)
  | ap (h : Nat) (ys : List (Nat × List Int)) (fr : Bool) (g : Nat) (nn : Bool)

def O.gen : O → Option Nat
  | .dead => none
  | .arr _ _ g _ => some g
  | .mat _ _ g _ => some g
  | .gm _ _ _ g _ => some g
  | .mp _ _ g => some g
  | .ap _ _ _ g _ => some g

/-- A row's head: its block and its capacity in one number; none: a nil row. -/
def hdB (h : Nat) : Nat := h / 18446744073709551616
def hdC (h : Nat) : Nat := h % 18446744073709551616

/-- A row of an owned matrix. -/
def MRel (w : World) (ti : TypeId) (h : Option Nat) (xs : List Int) (v : Value) : Prop :=
  match h with
  | none => v = .slice none 0 0 ∧ xs = []
  | some h => v = .slice (some ⟨hdB h, 0, none⟩) xs.length (hdC h) ∧ ∃ cur, w.heap[hdB h]? = some (.cells cur ti (0, 0)) ∧ xs.length ≤ hdC h ∧ hdC h ≤ maxLen ∧ cur.size = hdC h ∧ cur.toList.take xs.length = xs.map (Value.int .i64)

/-- A frame's slot: one value, or the several results of a call. -/
inductive Sl where
  | v (x : AV)
  | t (l : List AV)

structure St where
  n : Nat
  fr : List (Nat × Bool × Sl)
  obs : List O

def genOf (obs : List O) (id : Nat) : Option Nat := (obs[id]?).bind O.gen

def AVRel (V : Vw) (obs : List O) (ρ : Nat → Value) : AV → Value → Prop
  | .junk, _ => True
  | .int k n, v => v = .int k n
  | .bool b, v => v = .bool b
  | .str s, v => v = .string ⟨s.toArray⟩
  | .sl f e xs, v => SlRel V f e xs v
  | .lr l xs, v => LRowRel V l xs v
  | .vec xs, v => v = .agg (xs.map (Value.int .i64)).toArray
  | .nils, v => v = .slice none 0 0
  | .own id g, v => id < obs.length ∧ ∀ c, genOf obs id = some c → g ≤ c ∧ (g = c → v = ρ id)
  | .elt id g s k, v => id < obs.length ∧ ∀ c, genOf obs id = some c → g ≤ c ∧ (g = c → ∃ a len cap, ρ id = .slice (some a) len cap ∧ k < len ∧ v = .pointer (some (a.add (k * s))))
  | .relt f e d, v => ∃ a u, v = .pointer (some a) ∧ (f = true → V.Fr a.block) ∧ ElRel V e d u ∧ ∀ j, j < e.size → V.cell (a.add j) = u.cells[j]?
  | .hdr h n, v => v = (match h with | none => .slice none 0 0 | some h => .slice (some ⟨hdB h, 0, none⟩) n (hdC h))
  | .emp b, v => ∃ a c, v = .slice a 0 c ∧ c ≤ maxLen ∧ a.isNone = b
  | .fn f, v => v = .func (.func f) #[] #[]
  | .hp h k, v => v = .pointer (some ((⟨hdB h, 0, none⟩ : Addr).add k))
  | .lenv n, v => ∃ a c, v = .slice a n c

def SlotRel (V : Vw) (obs : List O) (ρ : Nat → Value) : Sl → Value → Prop
  | .v x, v => AVRel V obs ρ x v
  | .t l, v => ∃ vs : List Value, v = .tuple vs.toArray ∧ vs.length = l.length ∧ ∀ (i : Nat) (x : AV) (y : Value), l[i]? = some x → vs[i]? = some y → AVRel V obs ρ x y

/-- Plain types. -/
inductive BT where
  | int (k : IntKind) | bool | str

def BT.desc : BT → TypeDesc
  | .int k => .int k
  | .bool => .bool
  | .str => .string

/-- What is fixed in one call's walk. -/
structure Ctx where
  P : Program
  fn : Func
  R : Ending → World → Prop
  w0 : World
  M : Nat → Prop
  tid : E → TypeId
  Γ : TypeId → Option E
  bt : TypeId → Option BT
  mt : TypeId → Option MT
  pin : List Value
  L : Nat → Prop

/-- The tables' facts that the walk leans on. -/
structure Ctx.Ok (C : Ctx) : Prop where
  sl : ∀ t e, C.Γ t = some e → C.P.underlying t = some (.slice (C.tid e)) ∧ ∃ i, C.P.info? (C.tid e) = some i ∧ i.zero = some e.zero ∧ i.size = e.size ∧ i.bytes = e.bytes
  slc : ∀ t e, C.Γ t = some e → ∃ i, C.P.info? t = some i ∧ i.size = 1
  bt : ∀ t b, C.bt t = some b → C.P.underlying t = some b.desc ∧ ∃ i, C.P.info? t = some i ∧ i.size = 1
  same : ∀ f, C.tid (.row f) = C.tid .lrow
  mixed : C.P.follows .mixedOrders = true
  u8 : ∀ t, C.Γ t = some .byte → C.P.underlying (C.tid .byte) = some (.int .u8)
  mt : ∀ t m, C.mt t = some m → ∃ kt et, C.P.underlying t = some (.map kt et) ∧ (m.kv = false → C.P.underlying kt = some .string) ∧ (m.kv = true → ∃ ti, C.P.underlying kt = some (.array 4 ti) ∧ C.P.underlying ti = some (.int .i64)) ∧ ∀ w, (zeroValue et).run C.P w = .ok (if m.vi then .int .i64 0 else .bool false) w

/-- Types of one cell. -/
def Ctx.sc (C : Ctx) (t : TypeId) : Bool := (C.bt t).isSome || (C.Γ t).isSome

/-- The blocks that the call may write. -/
def Ctx.Wr (C : Ctx) (b : Nat) : Prop := C.w0.heap.size ≤ b ∨ C.M b
/-- These, and the ones that its caller lets it hand on. -/
def Ctx.Fr (C : Ctx) (b : Nat) : Prop := C.Wr b ∨ C.L b

def fpo (v : Value) : O → Nat → Prop
  | .dead, _ => False
  | .arr _ _ _ _, b => v.ownBlock = some b
  | .mat hs _ _ _, b => v.ownBlock = some b ∨ ∃ h, some h ∈ hs ∧ hdB h = b
  | .gm D _ _ _ _, b => v.ownBlock = some b ∨ ∃ h, h ∈ D ∧ hdB h = b
  | .mp _ _ _, b => v = .map (some b)
  | .ap h _ _ _ _, b => v.ownBlock = some b ∨ hdB h = b

/-- The blocks that are owned. -/
def Own (obs : List O) (ρ : Nat → Value) (b : Nat) : Prop := ∃ id o, obs[id]? = some o ∧ fpo (ρ id) o b

open Classical in
noncomputable def mask (w : World) (obs : List O) (ρ : Nat → Value) (b : Nat) : Option Obj := if Own obs ρ b then none else w.heap[b]?

noncomputable def Ctx.V (C : Ctx) (w : World) (obs : List O) (ρ : Nat → Value) : Vw := ⟨mask w obs ρ, C.Fr, C.tid .int⟩

def ORel (tid : E → TypeId) (w : World) (V : Vw) (v : Value) : O → Prop
  | .dead => True
  | .arr e xs _ nn => ∃ cs, w.ownsRow 0 (tid e) e.size v xs.length cs ∧ Enc V e xs cs ∧ (nn = true → v ≠ .slice none 0 0) ∧ xs.length ≤ maxLen
  | .mat hs rows _ nn => ∃ cs, w.ownsRow 0 (tid .lrow) 1 v rows.length cs ∧ hs.length = rows.length ∧ (∀ (i : Nat) (h : Option Nat) (xs : List Int) (u : Value), hs[i]? = some h → rows[i]? = some xs → cs[i]? = some u → MRel w (tid .int) h xs u) ∧
      (∀ (i j h h' : Nat), hs[i]? = some (some h) → hs[j]? = some (some h') → hdB h = hdB h' → i = j) ∧ (∀ h, some h ∈ hs → v.ownBlock ≠ some (hdB h)) ∧ (nn = true → v ≠ .slice none 0 0) ∧ rows.length ≤ maxLen
  | .gm D F hs _ nn => ∃ cs, w.ownsRow 0 (tid .lrow) 1 v hs.length cs ∧ (∀ (i : Nat) (h : Nat) (u : Value), hs[i]? = some h → cs[i]? = some u → h ∈ D ∧ u = .slice (some ⟨hdB h, 0, none⟩) (F h).length (hdC h)) ∧
      (∀ h, h ∈ D → MRel w (tid .int) (some h) (F h) (.slice (some ⟨hdB h, 0, none⟩) (F h).length (hdC h))) ∧ (∀ h h', h ∈ D → h' ∈ D → hdB h = hdB h' → h = h') ∧ (∀ h, h ∈ D → v.ownBlock ≠ some (hdB h)) ∧ (nn = true → v ≠ .slice none 0 0) ∧ hs.length ≤ maxLen
  | .mp m l _ => ∃ b es clock, v = .map (some b) ∧ w.heap[b]? = some (.map es clock) ∧ es.toList.map (fun e => (e.key, e.val)) = l.map (fun p => (p.1.val, p.2.val)) ∧ ∀ p ∈ l, p.1.ok m.kv ∧ p.2.ok m.vi
  | .ap h ys fr _ nn => ∃ cs, w.ownsRow 0 (tid .lrow) 1 v ys.length cs ∧ Enc V .lrow ys cs ∧ (nn = true → v ≠ .slice none 0 0) ∧ ys.length ≤ maxLen ∧ hdC h ≤ ys.length ∧
      (∃ cur t f, w.heap[hdB h]? = some (.cells cur t f) ∧ ∀ i, i < hdC h → cur[i]? = cs[i]?) ∧ (fr = true → v.ownBlock = some (hdB h) ∧ hdC h = ys.length)

def look (s : Nat) : List (Nat × Bool × Sl) → Option (Bool × Sl)
  | [] => none
  | (k, x) :: r => if s == k then some x else look s r

/-- What the state says of the world. -/
structure WRel (C : Ctx) (obs : List O) (w : World) (ρ : Nat → Value) : Prop where
  os : ∀ id o, obs[id]? = some o → ORel C.tid w (C.V w obs ρ) (ρ id) o
  dis : ∀ i j o o' b, obs[i]? = some o → obs[j]? = some o' → fpo (ρ i) o b → fpo (ρ j) o' b → i = j
  own : ∀ b, Own obs ρ b → C.Wr b
  os0 : w.os = C.w0.os
  tape : w.tape = C.w0.tape
  output : w.output = C.w0.output
  grow : C.w0.heap.size ≤ w.heap.size
  drawn : C.w0.drawn ≤ w.drawn
  kept : ∀ b, b < C.w0.heap.size → ¬ C.M b → w.heap[b]? = C.w0.heap[b]?

structure Rel (C : Ctx) (σ : St) (a : Act) (w : World) (ρ : Nat → Value) : Prop where
  defers : a.defers = []
  size : a.tmps.size = σ.n
  fr : ∀ s ex x, look s σ.fr = some (ex, x) → (ex = true → SlotRel (C.V w σ.obs ρ) σ.obs ρ x (a.tmps.getD s undef)) ∧ (ex = false → a.tmps.getD s undef = undef)
  w : WRel C σ.obs w ρ
  pin : ∀ (j : Nat) (v : Value), C.pin[j]? = some v → j < σ.obs.length ∧ (genOf σ.obs j = some 0 → ρ j = v)

/-- One step of the world: only the blocks of S and new ones may differ. -/
structure Ext (S : Nat → Prop) (w w' : World) : Prop where
  os : w'.os = w.os
  tape : w'.tape = w.tape
  output : w'.output = w.output
  size : w.heap.size ≤ w'.heap.size
  drawn : w.drawn ≤ w'.drawn
  block : ∀ b, b < w.heap.size → ¬ S b → w'.heap[b]? = w.heap[b]?

theorem Ext.refl (S : Nat → Prop) (w : World) : Ext S w w := ⟨rfl, rfl, rfl, Nat.le_refl _, Nat.le_refl _, fun _ _ _ => rfl⟩
theorem Ext.trans {S : Nat → Prop} {a b c : World} (h : Ext S a b) (k : Ext S b c) : Ext S a c :=
  ⟨k.os.trans h.os, k.tape.trans h.tape, k.output.trans h.output, Nat.le_trans h.size k.size, Nat.le_trans h.drawn k.drawn, fun i hi hs => (k.block i (Nat.lt_of_lt_of_le hi h.size) hs).trans (h.block i hi hs)⟩
theorem Ext.mono {S T : Nat → Prop} {a b : World} (h : Ext S a b) (k : ∀ x, S x → T x) : Ext T a b :=
  ⟨h.os, h.tape, h.output, h.size, h.drawn, fun i hi hs => h.block i hi (fun x => hs (k i x))⟩
theorem Ext.drew (S : Nat → Prop) (w : World) : Ext S w { w with drawn := w.drawn + 1 } := ⟨rfl, rfl, rfl, Nat.le_refl _, Nat.le_succ _, fun _ _ _ => rfl⟩
theorem Ext.alloc (S : Nat → Prop) (w : World) (o : Obj) : Ext S w (w.alloc o) :=
  ⟨rfl, rfl, rfl, by simp, Nat.le_refl _, fun b hb _ => World.alloc_eq w o ▸ by show (w.heap.push o)[b]? = _; rw [Array.getElem?_push, if_neg (by omega)]⟩
theorem Ext.grownBy {w w' : World} {r : Option Nat} (h : w.grownBy w' r) (hd : w.drawn ≤ w'.drawn) : Ext (fun b => r = some b) w w' :=
  ⟨h.os, h.tape, h.output, h.size, hd, fun b hb hs => h.block b hb (fun e => hs e.symm)⟩

theorem mem_lt_of_ownsRow {w : World} {base e size : Nat} {v : Value} {n : Nat} {xs : List Value} (h : w.ownsRow base e size v n xs) {b : Nat} (hb : v.ownBlock = some b) : b < w.heap.size :=
  (h.lt b hb).2

theorem ORel.lt {tid : E → TypeId} {w : World} {V : Vw} {v : Value} {o : O} (h : ORel tid w V v o) {b : Nat} (hb : fpo v o b) : b < w.heap.size := by
  cases o with
  | dead => simp [fpo] at hb
  | arr e xs g nn => obtain ⟨cs, h1, _⟩ := h; exact mem_lt_of_ownsRow h1 hb
  | mat hs rows g nn =>
    obtain ⟨cs, h1, h2, h3, _⟩ := h
    rcases hb with hb | ⟨h, hm, rfl⟩
    · exact mem_lt_of_ownsRow h1 hb
    · obtain ⟨i, hi⟩ := List.getElem?_of_mem hm
      have hlt : i < hs.length := (List.getElem?_eq_some_iff.1 hi).1
      have hc : cs.length = rows.length := by have := h1.1; omega
      obtain ⟨_, cur, hg, _⟩ := h3 i (some h) rows[i] cs[i] hi (by simp) (by simp)
      exact (Array.getElem?_eq_some_iff.1 hg).1
  | gm D F hs g nn =>
    obtain ⟨cs, h1, h2, h3, _⟩ := h
    rcases hb with hb | ⟨h, hm, rfl⟩
    · exact mem_lt_of_ownsRow h1 hb
    · obtain ⟨_, cur, hg, _⟩ := h3 h hm
      exact (Array.getElem?_eq_some_iff.1 hg).1
  | mp m l g =>
    obtain ⟨b', es, clock, h1, h2, _⟩ := h
    have hb : v = .map (some b) := hb
    rw [h1] at hb
    cases hb
    exact (Array.getElem?_eq_some_iff.1 h2).1
  | ap q ys fr g nn =>
    obtain ⟨cs, h1, _, _, _, _, ⟨cur, ty, f, h2, _⟩, _⟩ := h
    rcases hb with hb | hb
    · exact mem_lt_of_ownsRow h1 hb
    · rw [← hb]; exact (Array.getElem?_eq_some_iff.1 h2).1

theorem MRel.kept {w w' : World} {ti : TypeId} {h : Option Nat} {xs : List Int} {v : Value} (k : MRel w ti h xs v) (hw : ∀ x, h = some x → w'.heap[hdB x]? = w.heap[hdB x]?) : MRel w' ti h xs v := by
  cases h with
  | none => exact k
  | some h =>
    obtain ⟨h1, cur, hg, rest⟩ := k
    exact ⟨h1, cur, by rw [hw h rfl]; exact hg, rest⟩

theorem ownsRow_kept {w w' : World} {e size : Nat} {v : Value} {n : Nat} {cs : List Value} (h1 : w.ownsRow 0 e size v n cs) (hw : ∀ b, v.ownBlock = some b → w'.heap[b]? = w.heap[b]?) : w'.ownsRow 0 e size v n cs := by
  refine ⟨h1.1, ?_⟩
  rcases h1.2 with hn | ⟨k, cap, cur, hv, hb, hg, rest⟩
  · exact .inl hn
  · refine .inr ⟨k, cap, cur, hv, hb, ?_, rest⟩
    subst hv
    rw [hw k rfl]
    exact hg

theorem ORel.kept {tid : E → TypeId} {w w' : World} {V V' : Vw} {v : Value} {o : O} (h0 : ORel tid w V v o) (hV : V.le V') {S : Nat → Prop} (hx : Ext S w w') (hS : ∀ b, fpo v o b → ¬ S b) :
    ORel tid w' V' v o := by
  have h := h0
  cases o with
  | dead => trivial
  | arr e xs g nn =>
    obtain ⟨cs, h1, h2, h3⟩ := h
    refine ⟨cs, ?_, h2.mono hV, h3⟩
    refine ⟨h1.1, ?_⟩
    rcases h1.2 with hn | ⟨k, cap, cur, hv, hb, hg, rest⟩
    · exact .inl hn
    · refine .inr ⟨k, cap, cur, hv, hb, ?_, rest⟩
      subst hv
      rw [hx.block k (Array.getElem?_eq_some_iff.1 hg).1 (hS k (by simp [fpo, Value.ownBlock]))]
      exact hg
  | mat hs rows g nn =>
    have hlt := fun b => ORel.lt (o := .mat hs rows g nn) h (b := b)
    obtain ⟨cs, h1, h2, h3, h4, h5, h6⟩ := h
    have hk : ∀ b, fpo v (.mat hs rows g nn) b → w'.heap[b]? = w.heap[b]? := fun b hb => hx.block b (hlt b hb) (hS b hb)
    exact ⟨cs, ownsRow_kept h1 fun b hb => hk b (.inl hb), h2, fun i h xs u a b c => (h3 i h xs u a b c).kept fun x hx => hk _ (.inr ⟨x, by rw [← hx]; exact List.mem_of_getElem? a, rfl⟩), h4, h5, h6⟩
  | gm D F hs g nn =>
    have hlt := fun b => ORel.lt (o := .gm D F hs g nn) h (b := b)
    obtain ⟨cs, h1, h2, h3, h4⟩ := h
    have hk : ∀ b, fpo v (.gm D F hs g nn) b → w'.heap[b]? = w.heap[b]? := fun b hb => hx.block b (hlt b hb) (hS b hb)
    exact ⟨cs, ownsRow_kept h1 fun b hb => hk b (.inl hb), h2, fun h hm => (h3 h hm).kept fun x hx => hk _ (.inr ⟨x, by rw [← Option.some.inj hx]; exact hm, rfl⟩), h4⟩
  | mp m l g =>
    obtain ⟨b, es, clock, h1, h2, h3⟩ := h
    exact ⟨b, es, clock, h1, by rw [hx.block b (Array.getElem?_eq_some_iff.1 h2).1 (hS b h1)]; exact h2, h3⟩
  | ap q ys fr g nn =>
    have hlt := fun b => ORel.lt (o := .ap q ys fr g nn) h0 (b := b)
    have hk : ∀ b, fpo v (.ap q ys fr g nn) b → w'.heap[b]? = w.heap[b]? := fun b hb => hx.block b (hlt b hb) (hS b hb)
    obtain ⟨cs, h1, h2, h3, h4, h5, ⟨cur, ty, f, h6, h7⟩, h8⟩ := h0
    exact ⟨cs, ownsRow_kept h1 fun b hb => hk b (.inl hb), h2.mono hV, h3, h4, h5, ⟨cur, ty, f, by rw [hk _ (.inr rfl)]; exact h6, h7⟩, h8⟩

theorem AVRel.carry {V V' : Vw} {obs obs' : List O} {ρ ρ' : Nat → Value} (hV : V.le V') (hl : obs.length ≤ obs'.length)
    (hg : ∀ id c', id < obs.length → genOf obs' id = some c' → ∃ c, genOf obs id = some c ∧ ((c' = c ∧ ρ' id = ρ id) ∨ c < c')) {x : AV} {v : Value}
    (h : AVRel V obs ρ x v) : AVRel V' obs' ρ' x v := by
  cases x with
  | junk => trivial
  | int k n => exact h
  | bool b => exact h
  | str s => exact h
  | sl f e xs => exact SlRel.mono hV h
  | lr l xs => exact LRowRel.mono hV h
  | vec xs => exact h
  | nils => exact h
  | own id g =>
    refine ⟨Nat.lt_of_lt_of_le h.1 hl, fun c' hc' => ?_⟩
    obtain ⟨c, hc, hh⟩ := hg id c' h.1 hc'
    obtain ⟨h1, h2⟩ := h.2 c hc
    rcases hh with ⟨rfl, e⟩ | hlt
    · exact ⟨h1, fun k => by rw [e]; exact h2 k⟩
    · exact ⟨by omega, fun k => by omega⟩
  | elt id g s k =>
    refine ⟨Nat.lt_of_lt_of_le h.1 hl, fun c' hc' => ?_⟩
    obtain ⟨c, hc, hh⟩ := hg id c' h.1 hc'
    obtain ⟨h1, h2⟩ := h.2 c hc
    rcases hh with ⟨rfl, e⟩ | hlt
    · exact ⟨h1, fun k => by rw [e]; exact h2 k⟩
    · exact ⟨by omega, fun k => by omega⟩
  | relt f e d =>
    obtain ⟨a, u, hv, hf, hr, hc⟩ := h
    refine ⟨a, u, hv, fun k => hV.Fr _ (hf k), hr.mono hV, fun j hj => ?_⟩
    have hsz := hr.cells.1
    have h3 := hc j hj
    rw [Array.getElem?_eq_getElem (by omega)] at h3 ⊢
    exact hV.cell h3
  | hdr h n => exact h
  | emp b => exact h
  | fn f => exact h
  | hp q k => exact h
  | lenv n => exact h

theorem SlotRel.carry {V V' : Vw} {obs obs' : List O} {ρ ρ' : Nat → Value} (hV : V.le V') (hl : obs.length ≤ obs'.length)
    (hg : ∀ id c', id < obs.length → genOf obs' id = some c' → ∃ c, genOf obs id = some c ∧ ((c' = c ∧ ρ' id = ρ id) ∨ c < c')) {x : Sl} {v : Value}
    (h : SlotRel V obs ρ x v) : SlotRel V' obs' ρ' x v := by
  cases x with
  | v x => exact AVRel.carry hV hl hg h
  | t l =>
    obtain ⟨vs, h1, h2, h3⟩ := h
    exact ⟨vs, h1, h2, fun i x y hx hy => AVRel.carry hV hl hg (h3 i x y hx hy)⟩

/-- How the owned objects may turn in one step: what stays lies outside S; what is new or turned lies in S or in new blocks, and its generation has gone up. -/
structure Turn (C : Ctx) (w w' : World) (obs obs' : List O) (ρ ρ' : Nat → Value) (S : Nat → Prop) : Prop where
  ext : Ext S w w'
  len : obs.length ≤ obs'.length
  sown : ∀ b, S b → Own obs ρ b
  each : ∀ j o, obs'[j]? = some o →
    (obs[j]? = some o ∧ ρ' j = ρ j ∧ ∀ b, fpo (ρ j) o b → ¬ S b) ∨
    (ORel C.tid w' (C.V w' obs' ρ') (ρ' j) o ∧ (∀ b, fpo (ρ' j) o b → S b ∨ w.heap.size ≤ b) ∧
      (j < obs.length → ∀ c', o.gen = some c' → ∃ c, genOf obs j = some c ∧ ((c' = c ∧ ρ' j = ρ j) ∨ c < c')))
  dis : ∀ i j o o' b, obs'[i]? = some o → obs'[j]? = some o' → fpo (ρ' i) o b → fpo (ρ' j) o' b → (S b ∨ w.heap.size ≤ b) → i = j

theorem Turn.le {C : Ctx} {w w' : World} {obs obs' : List O} {ρ ρ' : Nat → Value} {S : Nat → Prop} (h : Turn C w w' obs obs' ρ ρ' S) : (C.V w obs ρ).le (C.V w' obs' ρ') := by
  refine ⟨fun b o hb => ?_, fun _ hb => hb, rfl⟩
  simp only [Ctx.V, mask] at hb ⊢
  split at hb
  · cases hb
  · rename_i hn
    have hlt : b < w.heap.size := (Array.getElem?_eq_some_iff.1 hb).1
    have hS : ¬ S b := fun hs => hn (h.sown b hs)
    have hn' : ¬ Own obs' ρ' b := by
      rintro ⟨id, o', ho, hf⟩
      rcases h.each id o' ho with ⟨h1, h2, _⟩ | ⟨_, h2, _⟩
      · exact hn ⟨id, o', h1, by rw [← h2]; exact hf⟩
      · rcases h2 b hf with hs | hs
        · exact hS hs
        · omega
    rw [if_neg hn', h.ext.block b hlt hS]
    exact hb

theorem Turn.gens {C : Ctx} {w w' : World} {obs obs' : List O} {ρ ρ' : Nat → Value} {S : Nat → Prop} (h : Turn C w w' obs obs' ρ ρ' S) :
    ∀ id c', id < obs.length → genOf obs' id = some c' → ∃ c, genOf obs id = some c ∧ ((c' = c ∧ ρ' id = ρ id) ∨ c < c') := by
  intro id c' hl hc
  unfold genOf at hc
  cases ho : obs'[id]? with
  | none => rw [ho] at hc; simp at hc
  | some o =>
    rw [ho] at hc
    rcases h.each id o ho with ⟨h1, h2, _⟩ | ⟨_, _, h3⟩
    · exact ⟨c', by unfold genOf; rw [h1]; exact hc, .inl ⟨rfl, h2⟩⟩
    · exact h3 hl c' hc

theorem Turn.wrel {C : Ctx} {w w' : World} {obs obs' : List O} {ρ ρ' : Nat → Value} {S : Nat → Prop} (h : Turn C w w' obs obs' ρ ρ' S) (r : WRel C obs w ρ) :
    WRel C obs' w' ρ' where
  os := fun id o ho => by
    rcases h.each id o ho with ⟨h1, h2, h3⟩ | ⟨h1, _⟩
    · rw [h2]; exact (r.os id o h1).kept h.le h.ext h3
    · exact h1
  dis := fun i j o o' b hi hj bi bj => by
    by_cases hS : S b ∨ w.heap.size ≤ b
    · exact h.dis i j o o' b hi hj bi bj hS
    · have hS1 : ¬ S b := fun k => hS (.inl k)
      have hS2 : ¬ w.heap.size ≤ b := fun k => hS (.inr k)
      rcases h.each i o hi with ⟨h1, h2, _⟩ | ⟨_, h2, _⟩
      · rcases h.each j o' hj with ⟨k1, k2, _⟩ | ⟨_, k2, _⟩
        · exact r.dis i j o o' b h1 k1 (by rw [← h2]; exact bi) (by rw [← k2]; exact bj)
        · rcases k2 b bj with hs | hs
          · exact absurd hs hS1
          · exact absurd hs hS2
      · rcases h2 b bi with hs | hs
        · exact absurd hs hS1
        · exact absurd hs hS2
  own := fun b ⟨id, o, ho, hf⟩ => by
    rcases h.each id o ho with ⟨h1, h2, _⟩ | ⟨_, h2, _⟩
    · exact r.own b ⟨id, o, h1, by rw [← h2]; exact hf⟩
    · rcases h2 b hf with hs | hs
      · exact r.own b (h.sown b hs)
      · exact .inl (Nat.le_trans r.grow hs)
  os0 := h.ext.os.trans r.os0
  tape := h.ext.tape.trans r.tape
  output := h.ext.output.trans r.output
  grow := Nat.le_trans r.grow h.ext.size
  drawn := Nat.le_trans r.drawn h.ext.drawn
  kept := fun b hb hM => by
    have hS : ¬ S b := fun hs => by
      rcases r.own b (h.sown b hs) with k | k
      · omega
      · exact hM k
    rw [h.ext.block b (Nat.lt_of_lt_of_le hb r.grow) hS]
    exact r.kept b hb hM

/-- One step, or several. -/
structure Step (C : Ctx) (w w' : World) (obs obs' : List O) (ρ ρ' : Nat → Value) : Prop where
  wr : WRel C obs' w' ρ'
  le : (C.V w obs ρ).le (C.V w' obs' ρ')
  len : obs.length ≤ obs'.length
  gens : ∀ id c', id < obs.length → genOf obs' id = some c' → ∃ c, genOf obs id = some c ∧ ((c' = c ∧ ρ' id = ρ id) ∨ c < c')

theorem Turn.step {C : Ctx} {w w' : World} {obs obs' : List O} {ρ ρ' : Nat → Value} {S : Nat → Prop} (h : Turn C w w' obs obs' ρ ρ' S) (r : WRel C obs w ρ) : Step C w w' obs obs' ρ ρ' :=
  ⟨h.wrel r, h.le, h.len, h.gens⟩

theorem Step.refl {C : Ctx} {w : World} {obs : List O} {ρ : Nat → Value} (r : WRel C obs w ρ) : Step C w w obs obs ρ ρ :=
  ⟨r, Vw.le.refl _, Nat.le_refl _, fun _ c' _ h => ⟨c', h, .inl ⟨rfl, rfl⟩⟩⟩

theorem Step.trans {C : Ctx} {w w1 w2 : World} {obs obs1 obs2 : List O} {ρ ρ1 ρ2 : Nat → Value} (h : Step C w w1 obs obs1 ρ ρ1) (k : Step C w1 w2 obs1 obs2 ρ1 ρ2) : Step C w w2 obs obs2 ρ ρ2 where
  wr := k.wr
  le := h.le.trans k.le
  len := Nat.le_trans h.len k.len
  gens := fun id c2 hid hc2 => by
    obtain ⟨c1, h1, k1⟩ := k.gens id c2 (Nat.lt_of_lt_of_le hid h.len) hc2
    obtain ⟨c, h0, k0⟩ := h.gens id c1 hid h1
    refine ⟨c, h0, ?_⟩
    rcases k1 with ⟨e1, f1⟩ | l1
    · rcases k0 with ⟨e0, f0⟩ | l0
      · exact .inl ⟨e1.trans e0, f1.trans f0⟩
      · exact .inr (by omega)
    · rcases k0 with ⟨e0, _⟩ | l0
      · exact .inr (by omega)
      · exact .inr (by omega)

theorem Step.slot {C : Ctx} {w w' : World} {obs obs' : List O} {ρ ρ' : Nat → Value} (h : Step C w w' obs obs' ρ ρ') {x : Sl} {v : Value} (k : SlotRel (C.V w obs ρ) obs ρ x v) : SlotRel (C.V w' obs' ρ') obs' ρ' x v :=
  SlotRel.carry h.le h.len h.gens k
theorem Step.av {C : Ctx} {w w' : World} {obs obs' : List O} {ρ ρ' : Nat → Value} (h : Step C w w' obs obs' ρ ρ') {x : AV} {v : Value} (k : AVRel (C.V w obs ρ) obs ρ x v) : AVRel (C.V w' obs' ρ') obs' ρ' x v :=
  AVRel.carry h.le h.len h.gens k

theorem Step.rel {C : Ctx} {w w' : World} {σ : St} {obs' : List O} {ρ ρ' : Nat → Value} {a : Act} (h : Step C w w' σ.obs obs' ρ ρ') (r : Rel C σ a w ρ) : Rel C { σ with obs := obs' } a w' ρ' where
  defers := r.defers
  size := r.size
  fr := fun s ex x hx => ⟨fun he => h.slot ((r.fr s ex x hx).1 he), (r.fr s ex x hx).2⟩
  w := h.wr
  pin := fun j v hj => by
    obtain ⟨h1, h2⟩ := r.pin j v hj
    refine ⟨Nat.lt_of_lt_of_le h1 h.len, fun hg => ?_⟩
    obtain ⟨c, hc, hh⟩ := h.gens j 0 h1 hg
    rcases hh with ⟨e, f⟩ | hlt
    · rw [f]; exact h2 (by rw [hc, ← e])
    · omega

/-- Nothing owned turns. -/
theorem Turn.none {C : Ctx} {w w' : World} {obs : List O} {ρ : Nat → Value} (r : WRel C obs w ρ) (h : Ext (fun _ => False) w w') : Turn C w w' obs obs ρ ρ (fun _ => False) where
  ext := h
  len := Nat.le_refl _
  sown := fun _ k => k.elim
  each := fun j o ho => .inl ⟨ho, rfl, fun _ _ k => k⟩
  dis := fun i j o o' b hi _ bi _ hS => by
    have := (r.os i o hi).lt bi
    rcases hS with k | k
    · exact k.elim
    · omega

/-- A new object in new blocks. -/
theorem Turn.new {C : Ctx} {w w' : World} {obs : List O} {ρ : Nat → Value} (r : WRel C obs w ρ) (h : Ext (fun _ => False) w w') (o : O) (v : Value)
    (ho : ORel C.tid w' (C.V w' (obs ++ [o]) (fun i => if i = obs.length then v else ρ i)) v o) (hb : ∀ b, fpo v o b → w.heap.size ≤ b) :
    Turn C w w' obs (obs ++ [o]) ρ (fun i => if i = obs.length then v else ρ i) (fun _ => False) where
  ext := h
  len := by simp
  sown := fun _ k => k.elim
  each := fun j o' hj => by
    rw [List.getElem?_append] at hj
    split at hj
    · rename_i hlt
      exact .inl ⟨hj, if_neg (by omega), fun _ _ k => k⟩
    · rename_i hlt
      have hj0 : j = obs.length := by
        rcases Nat.lt_or_ge obs.length j with k | k
        · rw [List.getElem?_eq_none (by simp; omega)] at hj; cases hj
        · omega
      subst hj0
      simp at hj
      subst hj
      refine .inr ⟨by simpa using ho, fun b hb' => .inr (hb b (by simpa using hb')), fun k => absurd k (by omega)⟩
  dis := fun i j o1 o2 b hi hj bi bj hS => by
    have hS : w.heap.size ≤ b := hS.resolve_left (fun k => k)
    have key : ∀ i o1, (obs ++ [o])[i]? = some o1 → fpo (if i = obs.length then v else ρ i) o1 b → i = obs.length := by
      intro i o1 hi bi
      rw [List.getElem?_append] at hi
      split at hi
      · rename_i hlt
        rw [if_neg (by omega)] at bi
        have := (r.os i o1 hi).lt bi
        omega
      · rename_i hlt
        rcases Nat.lt_or_ge obs.length i with k | k
        · rw [List.getElem?_eq_none (by simp; omega)] at hi; cases hi
        · omega
    rw [key i o1 hi bi, key j o2 hj bj]

/-- One object turns: it lies afterwards where it lay, or in a new block (then its generation has gone up); or it is let go. -/
theorem Turn.one {C : Ctx} {w w' : World} {obs : List O} {ρ : Nat → Value} (r : WRel C obs w ρ) (id : Nat) (o o' : O) (v : Value) (hid : obs[id]? = some o)
    (h : Ext (fun b => fpo (ρ id) o b) w w')
    (ho : ORel C.tid w' (C.V w' (obs.set id o') (fun i => if i = id then v else ρ i)) v o')
    (hb : ∀ b, fpo v o' b → fpo (ρ id) o b ∨ w.heap.size ≤ b)
    (hg : ∀ c', o'.gen = some c' → ∃ c, o.gen = some c ∧ ((c' = c ∧ v = ρ id) ∨ c < c')) :
    Turn C w w' obs (obs.set id o') ρ (fun i => if i = id then v else ρ i) (fun b => fpo (ρ id) o b) where
  ext := h
  len := by simp
  sown := fun b k => ⟨id, o, hid, k⟩
  each := fun j o1 hj => by
    have hlt : id < obs.length := (List.getElem?_eq_some_iff.1 hid).1
    by_cases hji : j = id
    · subst hji
      rw [List.getElem?_set_self hlt] at hj
      cases hj
      refine .inr ⟨by simpa using ho, fun b hb' => hb b (by simpa using hb'), fun _ c' hc' => ?_⟩
      obtain ⟨c, hc, hh⟩ := hg c' hc'
      exact ⟨c, by unfold genOf; rw [hid]; exact hc, by simpa using hh⟩
    · rw [List.getElem?_set_ne (Ne.symm hji)] at hj
      refine .inl ⟨hj, if_neg hji, fun b hb' hb2 => hji (r.dis j id o1 o b hj hid hb' hb2)⟩
  dis := fun i j o1 o2 b hi hj bi bj hS => by
    have hlt : id < obs.length := (List.getElem?_eq_some_iff.1 hid).1
    have key : ∀ i o1, (obs.set id o')[i]? = some o1 → fpo (if i = id then v else ρ i) o1 b → i = id := by
      intro i o1 hi bi
      apply Classical.byContradiction
      intro hne
      rw [List.getElem?_set_ne (Ne.symm hne)] at hi
      rw [if_neg hne] at bi
      rcases hS with k | k
      · exact hne (r.dis i id o1 o b hi hid bi k)
      · have := (r.os i o1 hi).lt bi
        omega
    rw [key i o1 hi bi, key j o2 hj bj]

/-- An owned object is let go: from now on it is only read. -/
theorem Turn.letgo {C : Ctx} {w : World} {obs : List O} {ρ : Nat → Value} (r : WRel C obs w ρ) {id : Nat} {o : O} (ho : obs[id]? = some o) :
    Turn C w w obs (obs.set id .dead) ρ (fun i => if i = id then ρ id else ρ i) (fun b => fpo (ρ id) o b) :=
  Turn.one r id o .dead (ρ id) ho (Ext.refl _ _) trivial (fun b hb => by simp [fpo] at hb) (fun c' hc => by simp [O.gen] at hc)

theorem put_tmps (a : Act) (d : Option Nat) (v : Value) : (a.put d v).tmps.size = a.tmps.size := by
  cases d <;> simp [Act.put]

/-- A slot is written. -/
theorem Rel.put {C : Ctx} {σ : St} {a : Act} {w : World} {ρ : Nat → Value} (r : Rel C σ a w ρ) {d : Nat} (hd : d < σ.n) {ex : Bool} {x : Sl} {v : Value}
    (h1 : ex = true → SlotRel (C.V w σ.obs ρ) σ.obs ρ x v) (h2 : ex = false → v = undef) : Rel C { σ with fr := (d, ex, x) :: σ.fr } (a.put (some d) v) w ρ where
  defers := r.defers
  size := by rw [put_tmps]; exact r.size
  fr := fun s ex' x' hs => by
    simp only [look] at hs
    have hsz : d < a.tmps.size := by rw [r.size]; exact hd
    split at hs
    · rename_i hk
      have hk : s = d := by simpa using hk
      cases hs
      subst hk
      have : (a.put (some s) v).tmps.getD s undef = v := by simp [Act.put, Array.getD, hsz]
      rw [this]
      exact ⟨h1, h2⟩
    · rename_i hk
      have hk : s ≠ d := by simpa using hk
      have : (a.put (some d) v).tmps.getD s undef = a.tmps.getD s undef := by
        simp only [Act.put, Array.getD_eq_getD_getElem?]
        rw [Array.getElem?_setIfInBounds_ne (Ne.symm hk)]
      rw [this]
      exact r.fr s ex' x' hs
  w := r.w
  pin := r.pin

end Go.Aw

/- The judgement of the walk: from an abstract state, with this code still to come, the call returns as its statement says. Its rules of control. -/
namespace Go.Aw
open Go

/-- From every frame and world that the state speaks of, the code that is still to come brings the call to an end that the statement allows. -/
def Run (C : Ctx) (k : List Item) (σ : St) : Prop :=
  ∀ a w ρ, Rel C σ a w ρ → ∀ (b : Frame) (cs : List Frame), ∃ e a' w', bodyPost C.P C.fn C.R e a' w' ∧ Arrives C.P (lone (b.at a k) cs w) b [] cs e a' w'

section
variable {C : Ctx} {σ : St} {k : List Item}

theorem Run.of_step {k' : List Item} (h : Run C k' σ) (hs : ∀ (a : Act) (b : Frame) (cs : List Frame) (w : World), step C.P (lone (b.at a k) cs w) = .next (lone (b.at a k') cs w)) : Run C k σ := by
  intro a w ρ r b cs
  obtain ⟨e, a', w', hp, harr⟩ := h a w ρ r b cs
  exact ⟨e, a', w', hp, .of_steps (.one (hs a b cs w)) harr⟩

theorem Run.seq {x y : Code} (h : Run C (.code x :: .code y :: k) σ) : Run C (.code (.seq x y) :: k) σ := h.of_step fun _ _ _ _ => step_seq
theorem Run.skip (h : Run C k σ) : Run C (.code .skip :: k) σ := h.of_step fun _ _ _ _ => step_skip
theorem Run.label {l : Nat} (h : Run C k σ) : Run C (.code (.label l) :: k) σ := h.of_step fun _ _ _ _ => step_label
theorem Run.block {id : Nat} {c : Code} (h : Run C (.code c :: .inBlock id :: k) σ) : Run C (.code (.block id c) :: k) σ := h.of_step fun _ _ _ _ => step_block
theorem Run.unblock {id : Nat} (h : Run C k σ) : Run C (.inBlock id :: k) σ := h.of_step fun _ _ _ _ => step_inBlock
theorem Run.exit {id : Nat} {k' : List Item} (hk : exitTo id k = some k') (h : Run C k' σ) : Run C (.code (.exit id) :: k) σ := h.of_step fun _ _ _ _ => step_exit hk
theorem Run.loop {c : Code} (h : Run C (.code c :: .inLoop c :: k) σ) : Run C (.code (.loop c) :: k) σ := h.of_step fun _ _ _ _ => step_loop
theorem Run.round {c : Code} (h : Run C (.code c :: .inLoop c :: k) σ) : Run C (.inLoop c :: k) σ := h.of_step fun _ _ _ _ => step_inLoop

/-- The state says less. -/
def Le (C : Ctx) (σ σ' : St) : Prop := ∀ a w ρ, Rel C σ a w ρ → ∃ ρ', Rel C σ' a w ρ'

theorem Run.le {σ' : St} (hl : Le C σ σ') (h : Run C k σ') : Run C k σ := fun a w ρ r b cs => by
  obtain ⟨ρ', r'⟩ := hl a w ρ r
  exact h a w ρ' r' b cs

/-- A fact that every frame and world of the state bears out. -/
theorem Run.fact {p : Prop} (hp : ∀ a w ρ, Rel C σ a w ρ → p) (h : p → Run C k σ) : Run C k σ := fun a w ρ r => h (hp a w ρ r) a w ρ r

/-- A loop: the states of its head by a parameter, a measure that every round lowers. -/
theorem Run.loopI {X : Type} {c : Code} (I : X → St) (ok : X → Prop) (μ : X → Nat) (x0 : X) (h0 : ok x0) (hl : Le C σ (I x0))
    (h : ∀ x, ok x → (∀ y, ok y → μ y < μ x → Run C (.inLoop c :: k) (I y)) → Run C (.code c :: .inLoop c :: k) (I x)) : Run C (.code (.loop c) :: k) σ := by
  have key : ∀ n x, μ x = n → ok x → Run C (.code c :: .inLoop c :: k) (I x) := by
    intro n
    induction n using Nat.strongRecOn with
    | _ n ih =>
      intro x hn hx
      exact h x hx fun y hy hlt => (ih (μ y) (hn ▸ hlt) y rfl hy).round
  exact (Run.le hl (key _ x0 rfl h0)).loop

end

/-! ### What an operand stands for -/

def constAV : Value → AV
  | .int k n => .int k n
  | .bool b => .bool b
  | .string s => .str s.data.toList
  | .slice none 0 0 => .nils
  | _ => .junk

def St.ev (σ : St) : Operand → AV
  | .tmp t => match look t σ.fr with
    | some (_, .v x) => x
    | _ => .junk
  | .const v => constAV v
  | .func f => .fn f
  | .global _ => .junk

/-- An operand's slot has been written on this way. -/
def St.has (σ : St) : Operand → Prop
  | .tmp t => match look t σ.fr with
    | some (ex, _) => ex = true
    | none => True
  | _ => True

theorem constAV_rel (V : Vw) (obs : List O) (ρ : Nat → Value) (v : Value) : AVRel V obs ρ (constAV v) v := by
  unfold constAV
  split <;> simp [AVRel]

theorem Rel.ev {C : Ctx} {σ : St} {a : Act} {w : World} {ρ : Nat → Value} (r : Rel C σ a w ρ) {x : Operand} (hx : σ.has x) : AVRel (C.V w σ.obs ρ) σ.obs ρ (σ.ev x) (a.eval x) := by
  cases x with
  | tmp t =>
    simp only [St.ev, St.has, Act.eval] at *
    cases hl : look t σ.fr with
    | none => simp [AVRel]
    | some p =>
      obtain ⟨ex, x⟩ := p
      rw [hl] at hx
      have := (r.fr t ex x hl).1 hx
      cases x with
      | v x => exact this
      | t l => simp [AVRel]
  | const v => exact constAV_rel _ _ _ v
  | func f => simp [St.ev, AVRel, Act.eval]
  | global g => simp [St.ev, AVRel]

section
variable {C : Ctx} {σ : St} {k : List Item}

theorem Run.cond {c : Operand} {x y : Code} {t : Bool} (hc : σ.ev c = .bool t) (hh : σ.has c) (ht : t = true → Run C (.code x :: k) σ) (hf : t = false → Run C (.code y :: k) σ) : Run C (.code (.cond c x y) :: k) σ := by
  intro a w ρ r b cs
  have hv := r.ev hh
  rw [hc] at hv
  simp only [AVRel] at hv
  have hs : ∀ (b : Frame) (cs : List Frame), step C.P (lone (b.at a (.code (.cond c x y) :: k)) cs w) = .next (lone (b.at a (.code (if t then x else y) :: k)) cs w) := fun b cs => step_cond hv
  cases t with
  | true =>
    obtain ⟨e, a', w', hp, harr⟩ := ht rfl a w ρ r b cs
    exact ⟨e, a', w', hp, .of_steps (.one (hs b cs)) harr⟩
  | false =>
    obtain ⟨e, a', w', hp, harr⟩ := hf rfl a w ρ r b cs
    exact ⟨e, a', w', hp, .of_steps (.one (hs b cs)) harr⟩

/-- What the statement asks of the results at the end. -/
def Fin (C : Ctx) (xs : List AV) (obs : List O) : Prop :=
  ∀ w ρ (vs : List Value), WRel C obs w ρ → (∀ (j : Nat) (v : Value), C.pin[j]? = some v → j < obs.length ∧ (genOf obs j = some 0 → ρ j = v)) → vs.length = xs.length → (∀ (i : Nat) (x : AV) (v : Value), xs[i]? = some x → vs[i]? = some v → AVRel (C.V w obs ρ) obs ρ x v) →
    C.R (.returned (if h : vs.length = 1 then vs[0] else .tuple vs.toArray)) w

theorem run_results (P : Program) (fn : Func) (ts : List Nat) (hl : ts.length ≤ 4) (hr : fn.results = (ts.map ResultVar.tmp).toArray) (tmps : Array Value) (w : World) :
    (results fn tmps).run P w = .ok (if h : (ts.map fun t => tmps.getD t undef).length = 1 then (ts.map fun t => tmps.getD t undef)[0] else .tuple (ts.map fun t => tmps.getD t undef).toArray) w := by
  match ts, hl with
  | [], _ => simp at hr; simp [results, hr]
  | [a], _ => simp at hr; simp [results, hr]
  | [a, b], _ => simp at hr; simp [results, hr]
  | [a, b, c], _ => simp at hr; simp [results, hr]
  | [a, b, c, d], _ => simp at hr; simp [results, hr]
  | _ :: _ :: _ :: _ :: _ :: _, h => simp at h

theorem Run.ret_aux {xs : List AV} {ts : List Nat} (hl : ts.length ≤ 4) (hres : C.fn.results = (ts.map ResultVar.tmp).toArray) (hx : xs = ts.map fun t => σ.ev (.tmp t)) (hh : ∀ t ∈ ts, σ.has (.tmp t)) (h : Fin C xs σ.obs)
    {a : Act} {w : World} {ρ : Nat → Value} (r : Rel C σ a w ρ) : ∃ v, (results C.fn a.tmps).run C.P w = .ok v w ∧ C.R (.returned v) w := by
  refine ⟨_, run_results C.P C.fn ts hl hres a.tmps w, ?_⟩
  subst hx
  refine h w ρ _ r.w r.pin (by simp) ?_
  intro i x v hi hv
  simp only [List.getElem?_map, Option.map_eq_some_iff] at hi hv
  obtain ⟨t, ht, rfl⟩ := hi
  obtain ⟨t', ht', rfl⟩ := hv
  rw [ht] at ht'
  cases ht'
  exact r.ev (hh t (List.mem_of_getElem? ht))

theorem Run.ret {xs : List AV} {ts : List Nat} (hl : ts.length ≤ 4) (hres : C.fn.results = (ts.map ResultVar.tmp).toArray) (hx : xs = ts.map fun t => σ.ev (.tmp t)) (hh : ∀ t ∈ ts, σ.has (.tmp t)) (h : Fin C xs σ.obs) : Run C (.code .ret :: k) σ := by
  intro a w ρ r b cs
  exact ⟨.ret, a, w, ⟨r.defers, Run.ret_aux hl hres hx hh h r⟩, _, .one step_ret⟩

theorem Run.done {xs : List AV} {ts : List Nat} (hl : ts.length ≤ 4) (hres : C.fn.results = (ts.map ResultVar.tmp).toArray) (hx : xs = ts.map fun t => σ.ev (.tmp t)) (hh : ∀ t ∈ ts, σ.has (.tmp t)) (h : Fin C xs σ.obs) : Run C [] σ := by
  intro a w ρ r b cs
  exact ⟨.normal, a, w, ⟨r.defers, Run.ret_aux hl hres hx hh h r⟩, Steps.refl _ _⟩

end

end Go.Aw

/- One operation on the abstract state: what it is worth, and that the model's operation does just that. -/
namespace Go.Aw
open Go

/-- What an operation comes to. -/
inductive Res where
  | bad
  | ok (vc : Prop) (x : AV) (obs : List O)
  | skip (vc : Prop) (obs : List O)
  | all (p : Nat → Prop) (x : AV) (obs : Nat → List O)

def E.dflt : (e : E) → e.D
  | .int => (0 : Int)
  | .byte => (0 : Int)
  | .bool => false
  | .str => []
  | .row _ => []
  | .lrow => (0, [])
  | .vec => [0, 0, 0, 0]
  | .pr => ((0, []), (0, []))

/-- A loaded element. -/
def ofE : (e : E) → e.D → AV
  | .int, n => .int .i64 n
  | .byte, n => .int .u8 n
  | .bool, b => .bool b
  | .str, s => .str s
  | .row g, xs => .sl g .int xs
  | .lrow, (l, xs) => .lr l xs
  | .vec, xs => .vec xs
  | .pr, _ => .junk

def w64 (n : Int) : Int := IntKind.i64.wrap n

def andI (k : IntKind) (a b : Int) : Int := k.wrap (BitVec.ofInt k.bits a &&& BitVec.ofInt k.bits b).toNat
def orI (k : IntKind) (a b : Int) : Int := k.wrap (BitVec.ofInt k.bits a ||| BitVec.ofInt k.bits b).toNat
def xorI (k : IntKind) (a b : Int) : Int := k.wrap (BitVec.ofInt k.bits a ^^^ BitVec.ofInt k.bits b).toNat

def sameK (k k' : IntKind) (r : Res) : Res := if k = k' then r else .bad
def binI (op : BinOp) (k k' : IntKind) (a b : Int) (obs : List O) : Res :=
  match op with
  | .add => sameK k k' (.ok True (.int k (k.wrap (a + b))) obs)
  | .sub => sameK k k' (.ok True (.int k (k.wrap (a - b))) obs)
  | .mul => sameK k k' (.ok True (.int k (k.wrap (a * b))) obs)
  | .eql => sameK k k' (.ok True (.bool (a == b)) obs)
  | .neq => sameK k k' (.ok True (.bool (a != b)) obs)
  | .lss => sameK k k' (.ok True (.bool (decide (a < b))) obs)
  | .leq => sameK k k' (.ok True (.bool (decide (a ≤ b))) obs)
  | .gtr => sameK k k' (.ok True (.bool (decide (a > b))) obs)
  | .geq => sameK k k' (.ok True (.bool (decide (a ≥ b))) obs)
  | .quo => sameK k k' (.ok (b ≠ 0) (.int k (k.wrap (a.tdiv b))) obs)
  | .rem => sameK k k' (.ok (b ≠ 0) (.int k (a.tmod b)) obs)
  | .and => sameK k k' (.ok True (.int k (andI k a b)) obs)
  | .or => sameK k k' (.ok True (.int k (orI k a b)) obs)
  | .xor => sameK k k' (.ok True (.int k (xorI k a b)) obs)
  | .shl => .ok (0 ≤ b) (.int k (k.wrap (a * 2 ^ min b.toNat k.bits))) obs
  | .shr => .ok (0 ≤ b) (.int k (a / 2 ^ min b.toNat k.bits)) obs
  | _ => .bad

def binV (op : BinOp) (x y : AV) (obs : List O) : Res :=
  match x, y with
  | .int k a, .int k' b => binI op k k' a b obs
  | .bool a, .bool b => match op with
    | .eql => .ok True (.bool (a == b)) obs
    | .neq => .ok True (.bool (a != b)) obs
    | _ => .bad
  | .str a, .str b => match op with
    | .eql => .ok True (.bool (a == b)) obs
    | .neq => .ok True (.bool (a != b)) obs
    | .add => .ok (a.length + b.length ≤ maxLen) (.str (a ++ b)) obs
    | _ => .bad
  | .sl _ _ xs, .nils => match op with
    | .eql => .ok (xs ≠ []) (.bool false) obs
    | .neq => .ok (xs ≠ []) (.bool true) obs
    | _ => .bad
  | .emp b, .nils => match op with
    | .eql => .ok True (.bool b) obs
    | .neq => .ok True (.bool !b) obs
    | _ => .bad
  | .nils, .nils => match op with
    | .eql => .ok True (.bool true) obs
    | .neq => .ok True (.bool false) obs
    | _ => .bad
  | _, _ => .bad

def lenV (x : AV) (obs : List O) : Res :=
  match x with
  | .sl _ _ xs => .ok True (.int .i64 xs.length) obs
  | .lr _ xs => .ok True (.int .i64 xs.length) obs
  | .nils => .ok True (.int .i64 0) obs
  | .emp _ => .ok True (.int .i64 0) obs
  | .str s => .ok True (.int .i64 s.length) obs
  | .own id g => match obs[id]? with
    | some (.arr _ xs g' _) => if g = g' then .ok True (.int .i64 xs.length) obs else .bad
    | some (.mat _ rows g' _) => if g = g' then .ok True (.int .i64 rows.length) obs else .bad
    | some (.gm _ _ hs g' _) => if g = g' then .ok True (.int .i64 hs.length) obs else .bad
    | some (.ap _ ys _ g' _) => if g = g' then .ok True (.int .i64 ys.length) obs else .bad
    | _ => .bad
  | .hdr (some _) n => .ok True (.int .i64 n) obs
  | .lenv n => .ok True (.int .i64 n) obs
  | _ => .bad

def idxV (e? : Option E) (x i : AV) (obs : List O) : Res :=
  match e?, x, i with
  | some e2, .sl f e xs, .int _ n => if e.size = e2.size then .ok (0 ≤ n ∧ n < xs.length) (.relt f e (xs.getD n.toNat e.dflt)) obs else .bad
  | some e2, .lr _ xs, .int _ n => if e2.size = 1 then .ok (0 ≤ n ∧ n < xs.length) (.relt true .int (xs.getD n.toNat 0)) obs else .bad
  | some e2, .own id g, .int _ n => match obs[id]? with
    | some (.arr e xs g' _) => if g = g' ∧ e.size = e2.size then .ok (0 ≤ n ∧ n < xs.length) (.elt id g e.size n.toNat) obs else .bad
    | some (.mat _ rows g' _) => if g = g' ∧ e2.size = 1 then .ok (0 ≤ n ∧ n < rows.length) (.elt id g 1 n.toNat) obs else .bad
    | some (.gm _ _ hs g' _) => if g = g' ∧ e2.size = 1 then .ok (0 ≤ n ∧ n < hs.length) (.elt id g 1 n.toNat) obs else .bad
    | _ => .bad
  | some e2, .hdr (some h) m, .int _ n => if e2.size = 1 then .ok (0 ≤ n ∧ n < m) (.hp h n.toNat) obs else .bad
  | _, _, _ => .bad

def loadV (sc : Bool) (x : AV) (obs : List O) : Res :=
  match x with
  | .relt f e d => if sc = true ∧ e.size = 1 then .ok True (ofE e d) obs else .bad
  | .elt id g s k => match obs[id]? with
    | some (.arr e xs g' _) => if g = g' ∧ s = e.size ∧ sc = true ∧ e.size = 1 then .ok True (ofE e (xs.getD k e.dflt)) obs else .bad
    | some (.mat hs rows g' _) => if g = g' ∧ s = 1 ∧ sc = true then .ok True (.hdr (hs.getD k none) (rows.getD k []).length) obs else .bad
    | some (.gm _ F hs g' _) => if g = g' ∧ s = 1 ∧ sc = true then .ok True (.hdr (some (hs.getD k 0)) (F (hs.getD k 0)).length) obs else .bad
    | _ => .bad
  | .hp h k => match obs with
    | .gm D F _ _ _ :: _ => if sc = true then .ok (h ∈ D ∧ k < (F h).length) (.int .i64 ((F h).getD k 0)) obs else .bad
    | .ap q ys _ _ _ :: _ => if sc = true then .ok (h = q ∧ k < hdC q) (.lr (ys.getD k (0, [])).1 (ys.getD k (0, [])).2) obs else .bad
    | _ => .bad
  | _ => .bad

/-- One number of a row of a pool is set. -/
def updF (F : Nat → List Int) (h k : Nat) (n : Int) : Nat → List Int := fun y => if y = h then (F h).set k n else F y

/-- An abstract value as an element. -/
def toE : (e : E) → AV → Option e.D
  | .int, .int .i64 n => some n
  | .byte, .int .u8 n => some n
  | .bool, .bool b => some b
  | .str, .str s => some s
  | .row true, .sl true .int xs => some xs
  | .row true, .lr _ xs => some xs
  | .row false, .sl _ .int xs => some xs
  | .row false, .lr _ xs => some xs
  | .lrow, .lr l xs => some (l, xs)
  | _, _ => none

def storeV (sc : Bool) (x y : AV) (obs : List O) : Res :=
  match x with
  | .elt id g s k => match obs[id]? with
    | some (.arr e xs g' nn) => if g = g' ∧ s = e.size ∧ sc = true ∧ e.size = 1 then
        match toE e y with
        | some d => .skip True (obs.set id (.arr e (xs.set k d) g nn))
        | none => .bad
        else .bad
    | some (.mat hs rows g' nn) => if g = g' ∧ s = 1 ∧ sc = true then
        match y with
        | .own id2 g2 => match obs[id2]? with
          | some (.arr .int xs g2' true) => if g2 = g2' then .all (fun _ => True) .junk (fun h => (obs.set id2 .dead).set id (.mat (hs.set k (some h)) (rows.set k xs) g nn)) else .bad
          | _ => .bad
        | _ => .bad
        else .bad
    | some (.gm D F hs g' nn) => if g = g' ∧ s = 1 ∧ sc = true then
        match y with
        | .hdr (some h) m => .skip (h ∈ D ∧ m = (F h).length) (obs.set id (.gm D F (hs.set k h) g nn))
        | _ => .bad
        else .bad
    | _ => .bad
  | .hp h k => match y, obs with
    | .int .i64 n, .gm D F hs g nn :: r => if sc = true then .skip (h ∈ D ∧ k < (F h).length) (.gm D (updF F h k n) hs g nn :: r) else .bad
    | _, _ => .bad
  | _ => .bad

section sound
variable {C : Ctx} {obs : List O} {w : World} {ρ : Nat → Value}

theorem run_equalIn_nil {P : Program} {t e : TypeId} (d : Nat) (ht : P.underlying t = some (.slice e)) (b : Option Addr) (n c : Nat) (w : World) : (Op.equalIn (d + 1) t (.slice b n c) (.slice none 0 0)).run P w = .ok b.isNone w := by
  cases b <;> simp [Op.equalIn, run_underlying ht]
theorem run_equal_nil {P : Program} {t e : TypeId} (ht : P.underlying t = some (.slice e)) (b : Option Addr) (n c : Nat) (w : World) : (Op.equal t (.slice b n c) (.slice none 0 0)).run P w = .ok b.isNone w := run_equalIn_nil 9999 ht b n c w
theorem run_nil_eql {P : Program} {t e : TypeId} (ht : P.underlying t = some (.slice e)) (b : Option Addr) (n c : Nat) (w : World) : (binOp .eql t (.slice b n c) (.slice none 0 0)).run P w = .ok (.bool b.isNone) w := by
  simp only [binOp]
  simp [run_equal_nil ht b n c w]
theorem run_nil_neq {P : Program} {t e : TypeId} (ht : P.underlying t = some (.slice e)) (b : Option Addr) (n c : Nat) (w : World) : (binOp .neq t (.slice b n c) (.slice none 0 0)).run P w = .ok (.bool !b.isNone) w := by
  simp only [binOp]
  simp [run_equal_nil ht b n c w]

theorem sl_base {V : Vw} {f : Bool} {e : E} {xs : List e.D} {v : Value} (h : SlRel V f e xs v) (hx : xs ≠ []) : ∃ a n c, v = .slice (some a) n c := by
  obtain ⟨base, cap, hv, _, _, hel⟩ := h
  obtain ⟨a, _, hb, _⟩ := hel 0 (List.length_pos_iff.2 hx)
  exact ⟨a, _, _, by rw [hv, hb]⟩

theorem binV_sound {op : BinOp} {t : TypeId} {x y : AV} {vc : Prop} {r : AV} {o : List O} (hsl : (∀ s, x ≠ .str s) → (∀ b, x ≠ .bool b) → (∀ k n, x ≠ .int k n) → ∃ e, C.P.underlying t = some (.slice e)) (hb : (∃ a, x = .bool a) → C.P.underlying t = some .bool)
    {u v : Value} (hx : AVRel (C.V w obs ρ) obs ρ x u) (hy : AVRel (C.V w obs ρ) obs ρ y v) (h : binV op x y obs = .ok vc r o) (hv : vc) (ox oy : Operand) :
    o = obs ∧ ∃ z, AVRel (C.V w obs ρ) obs ρ r z ∧ ∀ w', ((do eqGuard op t ox oy u v; binOp op t u v) : Sem Value).run C.P w' = .ok z w' := by
  unfold binV at h
  split at h
  · simp only [AVRel] at hx hy
    subst hx hy
    unfold binI at h
    have sk : ∀ {k k' : IntKind} {a : Res}, sameK k k' a = .ok vc r o → k = k' ∧ a = .ok vc r o := by
      intro k k' a h
      unfold sameK at h
      split at h
      · exact ⟨‹_›, h⟩
      · cases h
    split at h
    · obtain ⟨rfl, h2⟩ := sk h; cases h2; exact ⟨rfl, _, rfl, fun w' => by simp [eqGuard, binOp, Op.intArith]⟩
    · obtain ⟨rfl, h2⟩ := sk h; cases h2; exact ⟨rfl, _, rfl, fun w' => by simp [eqGuard, binOp, Op.intArith]⟩
    · obtain ⟨rfl, h2⟩ := sk h; cases h2; exact ⟨rfl, _, rfl, fun w' => by simp [eqGuard, binOp, Op.intArith]⟩
    · obtain ⟨rfl, h2⟩ := sk h; cases h2; exact ⟨rfl, _, rfl, fun w' => by simp [eqGuard, binOp, Op.intCmp]⟩
    · obtain ⟨rfl, h2⟩ := sk h; cases h2; exact ⟨rfl, _, rfl, fun w' => by simp [eqGuard, binOp, Op.intCmp]⟩
    · obtain ⟨rfl, h2⟩ := sk h; cases h2; exact ⟨rfl, _, rfl, fun w' => by simp [eqGuard, binOp, Op.intCmp]⟩
    · obtain ⟨rfl, h2⟩ := sk h; cases h2; exact ⟨rfl, _, rfl, fun w' => by simp [eqGuard, binOp, Op.intCmp]⟩
    · obtain ⟨rfl, h2⟩ := sk h; cases h2; exact ⟨rfl, _, rfl, fun w' => by simp [eqGuard, binOp, Op.intCmp]⟩
    · obtain ⟨rfl, h2⟩ := sk h; cases h2; exact ⟨rfl, _, rfl, fun w' => by simp [eqGuard, binOp, Op.intCmp]⟩
    · obtain ⟨rfl, h2⟩ := sk h; cases h2; exact ⟨rfl, _, rfl, fun w' => by simp [eqGuard, binOp, Op.intDiv, hv]⟩
    · obtain ⟨rfl, h2⟩ := sk h; cases h2; exact ⟨rfl, _, rfl, fun w' => by simp [eqGuard, binOp, Op.intDiv, hv]⟩
    · obtain ⟨rfl, h2⟩ := sk h; cases h2; exact ⟨rfl, _, rfl, fun w' => by simp [eqGuard, binOp, Op.intBits, andI]⟩
    · obtain ⟨rfl, h2⟩ := sk h; cases h2; exact ⟨rfl, _, rfl, fun w' => by simp [eqGuard, binOp, Op.intBits, orI]⟩
    · obtain ⟨rfl, h2⟩ := sk h; cases h2; exact ⟨rfl, _, rfl, fun w' => by simp [eqGuard, binOp, Op.intBits, xorI]⟩
    · cases h; exact ⟨rfl, _, rfl, fun w' => by simp [eqGuard, binOp, shift_shl_any _ _ _ _ hv]⟩
    · cases h; exact ⟨rfl, _, rfl, fun w' => by simp [eqGuard, binOp, shift_shr_any _ _ _ _ hv]⟩
    · cases h
  · simp only [AVRel] at hx hy
    subst hx hy
    have hu := hb ⟨_, rfl⟩
    split at h <;> cases h
    · refine ⟨rfl, _, rfl, fun w' => ?_⟩
      have := run_eql_bool (P := C.P) w' t
      simp [eqGuard, this _ _ hu]
    · refine ⟨rfl, _, rfl, fun w' => ?_⟩
      have := run_neq_bool (P := C.P) w' t
      simp [eqGuard, this _ _ hu, bne]
  · simp only [AVRel] at hx hy
    subst hx hy
    split at h <;> cases h
    · refine ⟨rfl, _, rfl, fun w' => ?_⟩
      simp [eqGuard, binOp, Op.stringOp, ByteArray.toList_eq]
    · refine ⟨rfl, _, rfl, fun w' => ?_⟩
      simp [eqGuard, binOp, Op.stringOp, ByteArray.toList_eq, bne]
    · rename_i a b _
      refine ⟨rfl, _, rfl, fun w' => ?_⟩
      have := run_string_add_sum (P := C.P) w' ⟨a.toArray⟩ ⟨b.toArray⟩ (by simp [ByteArray.size]; simp [maxLen] at hv; exact hv)
      rw [ByteArray.mk_append_mk] at this
      simp [eqGuard, binOp, this]
  · simp only [AVRel] at hy
    subst hy
    obtain ⟨e, he⟩ := hsl (by simp) (by simp) (by simp)
    split at h <;> cases h
    · obtain ⟨a, n, c, rfl⟩ := sl_base hx hv
      exact ⟨rfl, _, rfl, fun w' => by simp [eqGuard, run_nil_eql he]⟩
    · obtain ⟨a, n, c, rfl⟩ := sl_base hx hv
      exact ⟨rfl, _, rfl, fun w' => by simp [eqGuard, run_nil_neq he]⟩
  · simp only [AVRel] at hy
    subst hy
    obtain ⟨e, he⟩ := hsl (by simp) (by simp) (by simp)
    obtain ⟨a, c, rfl, _, rfl⟩ := hx
    split at h <;> cases h
    · exact ⟨rfl, _, rfl, fun w' => by simp [eqGuard, run_nil_eql he]⟩
    · exact ⟨rfl, _, rfl, fun w' => by simp [eqGuard, run_nil_neq he]⟩
  · simp only [AVRel] at hx hy
    subst hx hy
    obtain ⟨e, he⟩ := hsl (by simp) (by simp) (by simp)
    split at h <;> cases h
    · exact ⟨rfl, _, rfl, fun w' => by simp [eqGuard, run_nil_eql he]⟩
    · exact ⟨rfl, _, rfl, fun w' => by simp [eqGuard, run_nil_neq he]⟩
  · cases h

theorem own_arr {id g : Nat} {e : E} {xs : List e.D} {nn : Bool} {v : Value} (r : WRel C obs w ρ) (ho : obs[id]? = some (.arr e xs g nn)) (h : AVRel (C.V w obs ρ) obs ρ (.own id g) v) :
    v = ρ id ∧ ∃ cs, w.ownsRow 0 (C.tid e) e.size v xs.length cs ∧ Enc (C.V w obs ρ) e xs cs ∧ (nn = true → v ≠ .slice none 0 0) ∧ xs.length ≤ maxLen := by
  have h1 : v = ρ id := (h.2 g (by simp [genOf, ho, O.gen])).2 rfl
  subst h1
  exact ⟨rfl, r.os id _ ho⟩

theorem own_mat {id g : Nat} {hs : List (Option Nat)} {rows : List (List Int)} {nn : Bool} {v : Value} (r : WRel C obs w ρ) (ho : obs[id]? = some (.mat hs rows g nn)) (h : AVRel (C.V w obs ρ) obs ρ (.own id g) v) :
    v = ρ id ∧ ORel C.tid w (C.V w obs ρ) v (.mat hs rows g nn) := by
  have h1 : v = ρ id := (h.2 g (by simp [genOf, ho, O.gen])).2 rfl
  subst h1
  exact ⟨rfl, r.os id _ ho⟩

theorem own_gm {id g : Nat} {D : List Nat} {F : Nat → List Int} {hs : List Nat} {nn : Bool} {v : Value} (r : WRel C obs w ρ) (ho : obs[id]? = some (.gm D F hs g nn)) (h : AVRel (C.V w obs ρ) obs ρ (.own id g) v) :
    v = ρ id ∧ ORel C.tid w (C.V w obs ρ) v (.gm D F hs g nn) := by
  have h1 : v = ρ id := (h.2 g (by simp [genOf, ho, O.gen])).2 rfl
  subst h1
  exact ⟨rfl, r.os id _ ho⟩

theorem own_ap {id g : Nat} {q : Nat} {ys : List (Nat × List Int)} {fr nn : Bool} {v : Value} (r : WRel C obs w ρ) (ho : obs[id]? = some (.ap q ys fr g nn)) (h : AVRel (C.V w obs ρ) obs ρ (.own id g) v) :
    v = ρ id ∧ ORel C.tid w (C.V w obs ρ) v (.ap q ys fr g nn) := by
  have h1 : v = ρ id := (h.2 g (by simp [genOf, ho, O.gen])).2 rfl
  subst h1
  exact ⟨rfl, r.os id _ ho⟩

theorem ownsRow_len {base e size : Nat} {v : Value} {n : Nat} {cs : List Value} (h : w.ownsRow base e size v n cs) : ∃ a cap, v = .slice a n cap := by
  rcases h.2 with ⟨rfl, rfl⟩ | ⟨g, cap, cur, rfl, _⟩
  · exact ⟨_, _, rfl⟩
  · exact ⟨_, _, rfl⟩

theorem lenV_sound {t ty : TypeId} {x : AV} {vc : Prop} {r : AV} {o : List O} (hs : ∀ s, x = .str s → C.P.underlying t = some .string) (hl : (∀ s, x ≠ .str s) → ∃ e, C.P.underlying t = some (.slice e))
    (rr : WRel C obs w ρ) {u : Value} (hx : AVRel (C.V w obs ρ) obs ρ x u) (h : lenV x obs = .ok vc r o) :
    o = obs ∧ ∃ z, AVRel (C.V w obs ρ) obs ρ r z ∧ ∀ w', (Builtin.len_ #[t] ty #[u]).run C.P w' = .ok z w' := by
  have sl : ∀ a n c, (∃ e, C.P.underlying t = some (.slice e)) → u = .slice a n c → ∀ w', (Builtin.len_ #[t] ty #[u]).run C.P w' = .ok (.int .i64 n) w' := by
    intro a n c ⟨e, he⟩ hu w'
    subst hu
    simp [Builtin.len_, run_underlying he, goInt]
  unfold lenV at h
  split at h
  · cases h
    obtain ⟨b, c, hv, _⟩ := hx
    exact ⟨rfl, _, rfl, sl _ _ _ (hl (by simp)) hv⟩
  · cases h
    obtain ⟨c, cur, hv, _⟩ := hx
    exact ⟨rfl, _, rfl, sl _ _ _ (hl (by simp)) hv⟩
  · cases h
    exact ⟨rfl, _, rfl, sl _ _ _ (hl (by simp)) hx⟩
  · cases h
    obtain ⟨a, c, hv, _⟩ := hx
    exact ⟨rfl, _, rfl, sl _ _ _ (hl (by simp)) hv⟩
  · cases h
    rename_i s
    have hu := hs s rfl
    simp only [AVRel] at hx
    subst hx
    refine ⟨rfl, _, rfl, fun w' => ?_⟩
    have e1 : (⟨s.toArray⟩ : ByteArray).size = s.length := by simp [ByteArray.size]
    simp only [Builtin.len_]
    simp [run_underlying hu, goInt, e1]
  · rename_i id g
    split at h
    · rename_i e xs g' nn ho
      split at h
      · rename_i hg
        subst hg
        cases h
        obtain ⟨_, cs, h1, _⟩ := own_arr rr ho hx
        obtain ⟨a, c, hv⟩ := ownsRow_len h1
        exact ⟨rfl, _, rfl, sl _ _ _ (hl (by simp)) hv⟩
      · cases h
    · rename_i hs rows g' nn ho
      split at h
      · rename_i hg
        subst hg
        cases h
        obtain ⟨_, cs, h1, _⟩ := own_mat rr ho hx
        obtain ⟨a, c, hv⟩ := ownsRow_len h1
        exact ⟨rfl, _, rfl, sl _ _ _ (hl (by simp)) hv⟩
      · cases h
    · rename_i D F hs g' nn ho
      split at h
      · rename_i hg
        subst hg
        cases h
        obtain ⟨_, cs, h1, _⟩ := own_gm rr ho hx
        obtain ⟨a, c, hv⟩ := ownsRow_len h1
        exact ⟨rfl, _, rfl, sl _ _ _ (hl (by simp)) hv⟩
      · cases h
    · rename_i q ys fr g' nn ho
      split at h
      · rename_i hg
        subst hg
        cases h
        obtain ⟨_, cs, h1, _⟩ := own_ap rr ho hx
        obtain ⟨a, c, hv⟩ := ownsRow_len h1
        exact ⟨rfl, _, rfl, sl _ _ _ (hl (by simp)) hv⟩
      · cases h
    · cases h
  · cases h
    exact ⟨rfl, _, rfl, sl _ _ _ (hl (by simp)) hx⟩
  · cases h
    obtain ⟨a, c, hv⟩ := hx
    exact ⟨rfl, _, rfl, sl _ _ _ (hl (by simp)) hv⟩
  · cases h

theorem getD_eq {α : Type} {l : List α} {k : Nat} {d : α} (h : k < l.length) : l.getD k d = l[k] := by
  simp [List.getD, List.getElem?_eq_getElem h]

theorem idxV_sound (hC : C.Ok) {t : TypeId} {e? : Option E} (he : e? = C.Γ t) {x i : AV} {vc : Prop} {r : AV} {o : List O} (rr : WRel C obs w ρ) {u j : Value}
    (hx : AVRel (C.V w obs ρ) obs ρ x u) (hi : AVRel (C.V w obs ρ) obs ρ i j) (h : idxV e? x i obs = .ok vc r o) (hv : vc) :
    o = obs ∧ ∃ z, AVRel (C.V w obs ρ) obs ρ r z ∧ ∀ w', (Instr.indexAt t u j).run C.P w' = .ok z w' := by
  have sl : ∀ e, C.Γ t = some e → ∀ a len cap k (n : Int), u = .slice (some a) len cap → j = .int k n → 0 ≤ n → n < len → ∀ w', (Instr.indexAt t u j).run C.P w' = .ok (.pointer (some (a.add (n.toNat * e.size)))) w' := by
    intro e he a len cap k n hu hj h0 h1 w'
    obtain ⟨ht, i, hinf, _, hs, _⟩ := hC.sl t e he
    subst hu hj
    simp [Instr.indexAt, run_underlying ht, asIntOf, h0, h1, sizeOf, typeInfo, hinf, hs]
  unfold idxV at h
  split at h
  · rename_i _ e2 f e xs k n
    split at h
    case isFalse => cases h
    rename_i hse
    cases h
    obtain ⟨h0, h1⟩ := hv
    simp only [AVRel] at hi
    obtain ⟨base, cap, hu, h2, h3, hel⟩ := hx
    have hlt : n.toNat < xs.length := by omega
    obtain ⟨a, z, hb, hf, hr, hc⟩ := hel n.toNat hlt
    subst hb
    refine ⟨rfl, _, ⟨a.add (n.toNat * e.size), z, rfl, by rw [add_block]; exact hf, by rw [getD_eq hlt]; exact hr, fun q hq => ?_⟩, fun w' => ?_⟩
    · rw [add_add]; exact hc q hq
    · rw [hse]; exact sl e2 he.symm _ _ _ _ _ hu hi h0 h1 w'
  · rename_i _ e2 l xs k n
    split at h
    case isFalse => cases h
    rename_i hse
    cases h
    obtain ⟨h0, h1⟩ := hv
    simp only [AVRel] at hi
    have hx2 := LRowRel.toRow hx
    obtain ⟨base, cap, hu, h2, h3, hel⟩ := hx2
    have hlt : n.toNat < xs.length := by omega
    obtain ⟨a, hb, hf, hc⟩ := hel n.toNat hlt
    subst hb
    refine ⟨rfl, _, ⟨a.add n.toNat, .int .i64 xs[n.toNat], rfl, by rw [add_block]; exact hf, by rw [getD_eq hlt]; rfl, fun q hq => ?_⟩, fun w' => ?_⟩
    · have : q = 0 := by simp [E.size] at hq; omega
      subst this
      rw [add_add]
      simpa [Value.cells] using hc
    · have := sl e2 he.symm _ _ _ _ _ hu hi h0 h1 w'
      rw [hse, Nat.mul_one] at this
      exact this
  · rename_i _ e2 id g k n
    split at h
    · rename_i e xs g' nn ho
      split at h
      · rename_i hg
        obtain ⟨hg, hse⟩ := hg
        subst hg
        cases h
        obtain ⟨h0, h1⟩ := hv
        simp only [AVRel] at hi
        obtain ⟨hρ, cs, hown, _⟩ := own_arr rr ho hx
        have hn : 0 < xs.length := by omega
        rcases hown.2 with ⟨_, hz⟩ | ⟨b, cap, cur, hu, _⟩
        · omega
        · refine ⟨rfl, .pointer (some ((⟨b, 0, none⟩ : Addr).add (n.toNat * e.size))), ⟨hx.1, fun c hc => ?_⟩, fun w' => ?_⟩
          · have : c = g := by simp [genOf, ho, O.gen] at hc; exact hc.symm
            subst this
            exact ⟨Nat.le_refl _, fun _ => ⟨⟨b, 0, none⟩, xs.length, cap, by rw [← hρ]; exact hu, by omega, rfl⟩⟩
          · rw [hse]; exact sl e2 he.symm _ _ _ _ _ hu hi h0 h1 w'
      · cases h
    · rename_i hs rows g' nn ho
      split at h
      · rename_i hg
        obtain ⟨hg, hse⟩ := hg
        subst hg
        cases h
        obtain ⟨h0, h1⟩ := hv
        simp only [AVRel] at hi
        obtain ⟨hρ, cs, hown, _⟩ := own_mat rr ho hx
        have hn : 0 < rows.length := by omega
        rcases hown.2 with ⟨_, hz⟩ | ⟨b, cap, cur, hu, _⟩
        · omega
        · refine ⟨rfl, .pointer (some ((⟨b, 0, none⟩ : Addr).add (n.toNat * 1))), ⟨hx.1, fun c hc => ?_⟩, fun w' => ?_⟩
          · have : c = g := by simp [genOf, ho, O.gen] at hc; exact hc.symm
            subst this
            exact ⟨Nat.le_refl _, fun _ => ⟨⟨b, 0, none⟩, rows.length, cap, by rw [← hρ]; exact hu, by omega, rfl⟩⟩
          · have := sl e2 he.symm _ _ _ _ _ hu hi h0 h1 w'; rw [hse] at this; exact this
      · cases h
    · rename_i D F hs g' nn ho
      split at h
      · rename_i hg
        obtain ⟨hg, hse⟩ := hg
        subst hg
        cases h
        obtain ⟨h0, h1⟩ := hv
        simp only [AVRel] at hi
        obtain ⟨hρ, cs, hown, _⟩ := own_gm rr ho hx
        have hn : 0 < hs.length := by omega
        rcases hown.2 with ⟨_, hz⟩ | ⟨b, cap, cur, hu, _⟩
        · omega
        · refine ⟨rfl, .pointer (some ((⟨b, 0, none⟩ : Addr).add (n.toNat * 1))), ⟨hx.1, fun c hc => ?_⟩, fun w' => ?_⟩
          · have : c = g := by simp [genOf, ho, O.gen] at hc; exact hc.symm
            subst this
            exact ⟨Nat.le_refl _, fun _ => ⟨⟨b, 0, none⟩, hs.length, cap, by rw [← hρ]; exact hu, by omega, rfl⟩⟩
          · have := sl e2 he.symm _ _ _ _ _ hu hi h0 h1 w'; rw [hse] at this; exact this
      · cases h
    · cases h
  · rename_i _ e2 q m k n
    split at h
    case isFalse => cases h
    rename_i hse
    cases h
    obtain ⟨h0, h1⟩ := hv
    simp only [AVRel] at hi
    refine ⟨rfl, .pointer (some ((⟨hdB q, 0, none⟩ : Addr).add n.toNat)), rfl, fun w' => ?_⟩
    have := sl e2 he.symm _ _ _ _ _ hx hi h0 h1 w'
    rw [hse, Nat.mul_one] at this
    exact this
  · cases h

theorem sc_plain (hC : C.Ok) {t : TypeId} (h : C.sc t = true) : (∀ w', (isAgg t).run C.P w' = .ok false w') ∧ ∃ i, C.P.info? t = some i ∧ i.size = 1 := by
  unfold Ctx.sc at h
  rcases Bool.or_eq_true _ _ ▸ h with h | h
  · obtain ⟨b, hb⟩ := Option.isSome_iff_exists.1 h
    obtain ⟨h1, h2⟩ := hC.bt t b hb
    refine ⟨fun w' => ?_, h2⟩
    cases b <;> simp [isAgg, run_underlying h1, BT.desc]
  · obtain ⟨e, he⟩ := Option.isSome_iff_exists.1 h
    obtain ⟨h1, _⟩ := hC.sl t e he
    exact ⟨fun w' => by simp [isAgg, run_underlying h1], hC.slc t e he⟩

theorem ofE_rel {V : Vw} {e : E} (h1 : e.size = 1) {d : e.D} {u : Value} (h : ElRel V e d u) : AVRel V obs ρ (ofE e d) u := by
  cases e with
  | int => exact h
  | byte => exact h
  | bool => exact h
  | str => exact h.1
  | row f => exact RowRel.toSl h
  | lrow => exact h
  | vec => simp [E.size] at h1
  | pr => simp [E.size] at h1

theorem one_cells {V : Vw} {e : E} (h1 : e.size = 1) {d : e.D} {u : Value} (h : ElRel V e d u) : u.cells = #[u] ∧ u.oneCell' = true := by
  cases e with
  | int => cases h; exact ⟨rfl, rfl⟩
  | byte => cases h; exact ⟨rfl, rfl⟩
  | bool => cases h; exact ⟨rfl, rfl⟩
  | str => obtain ⟨rfl, _⟩ := h; exact ⟨rfl, rfl⟩
  | row f => exact ⟨cells_oneCell (RowRel.oneCell h), RowRel.oneCell h⟩
  | lrow => exact ⟨cells_oneCell (LRowRel.oneCell h), LRowRel.oneCell h⟩
  | vec => simp [E.size] at h1
  | pr => simp [E.size] at h1

/-- The view's cells are the world's. -/
theorem V_cell {a : Addr} {v : Value} (h : (C.V w obs ρ).cell a = some v) : w.cell? a = some v := by
  simp only [Vw.cell, Ctx.V, mask] at h
  unfold World.cell?
  split at h
  · rename_i c t f hm
    split at hm
    · cases hm
    · rw [hm]; exact h
  · cases h

/-- The same in every later world in which nothing that is read has turned. -/
theorem loadV_sound (hC : C.Ok) {t : TypeId} {x : AV} {vc : Prop} {r : AV} {o : List O} (rr : WRel C obs w ρ) {u : Value}
    (hx : AVRel (C.V w obs ρ) obs ρ x u) (h : loadV (C.sc t) x obs = .ok vc r o) (hv : vc) :
    o = obs ∧ ∃ z, AVRel (C.V w obs ρ) obs ρ r z ∧ (Instr.loadAt t u).run C.P w = .ok z w := by
  unfold loadV at h
  split at h
  · rename_i f e d
    split at h
    case isFalse => cases h
    rename_i hc
    cases h
    obtain ⟨a, z, hu, hf, hr, hcell⟩ := hx
    subst hu
    have h0 := hcell 0 (by omega)
    rw [(one_cells hc.2 hr).1] at h0
    simp [Addr.add] at h0
    have h1 := V_cell h0
    refine ⟨rfl, z, ofE_rel hc.2 hr, ?_⟩
    simp [Instr.loadAt, Instr.sureAddr, loadVar, (sc_plain hC hc.1).1 w, h1]
  · rename_i id g s k
    split at h
    case h_4 => cases h
    case h_3 =>
      rename_i D F hs g' nn ho
      split at h
      case isFalse => cases h
      rename_i hc
      obtain ⟨hg, hss, hsc⟩ := hc
      subst hg hss
      cases h
      obtain ⟨a, len, cap, hρ, hk, hu⟩ := (hx.2 g (by simp [genOf, ho, O.gen])).2 rfl
      subst hu
      obtain ⟨cs, hown, hrow, _⟩ := rr.os id _ ho
      rw [hρ] at hown
      have hlen : len = hs.length := by
        rcases hown.2 with ⟨hh, _⟩ | ⟨b, c2, cur, hh, _⟩
        · cases hh
        · cases hh; rfl
      subst hlen
      have hcl : cs.length = hs.length := by have := hown.1; omega
      have hm := hrow k hs[k] cs[k] (by simp) (by simp)
      have hcell := hown.cells (g := a.block) (by simp [Value.ownBlock]) k cs[k] (by simp)
      have ha : a = ⟨a.block, 0, none⟩ := by
        rcases hown.2 with ⟨hh, _⟩ | ⟨b, c2, cur, hh, _⟩
        · cases hh
        · cases hh; rfl
      rw [← ha] at hcell
      refine ⟨rfl, cs[k], ?_, by simp [Instr.loadAt, Instr.sureAddr, loadVar, (sc_plain hC hsc).1 w, hcell]⟩
      have e1 : hs.getD k 0 = hs[k] := by simp [hk]
      rw [e1]
      exact hm.2
    case h_2 =>
      rename_i hs rows g' nn ho
      split at h
      case isFalse => cases h
      rename_i hc
      obtain ⟨hg, hss, hsc⟩ := hc
      subst hg hss
      cases h
      obtain ⟨a, len, cap, hρ, hk, hu⟩ := (hx.2 g (by simp [genOf, ho, O.gen])).2 rfl
      subst hu
      obtain ⟨cs, hown, hhl, hrow, _⟩ := rr.os id _ ho
      rw [hρ] at hown
      have hlen : len = rows.length := by
        rcases hown.2 with ⟨hh, _⟩ | ⟨b, c2, cur, hh, _⟩
        · cases hh
        · cases hh; rfl
      subst hlen
      have hcl : cs.length = rows.length := by have := hown.1; omega
      have hm := hrow k hs[k] rows[k] cs[k] (by simp) (by simp) (by simp)
      have hcell := hown.cells (g := a.block) (by simp [Value.ownBlock]) k cs[k] (by simp)
      have ha : a = ⟨a.block, 0, none⟩ := by
        rcases hown.2 with ⟨hh, _⟩ | ⟨b, c2, cur, hh, _⟩
        · cases hh
        · cases hh; rfl
      rw [← ha] at hcell
      refine ⟨rfl, cs[k], ?_, by simp [Instr.loadAt, Instr.sureAddr, loadVar, (sc_plain hC hsc).1 w, hcell]⟩
      have e1 : hs.getD k none = hs[k] := by simp [show k < hs.length by omega]
      have e2 : rows.getD k [] = rows[k] := by simp [hk]
      rw [e1, e2]
      cases hh : hs[k] with
      | none => rw [hh] at hm; exact hm.1
      | some h => rw [hh] at hm; exact hm.1
    rename_i e xs g' nn ho
    split at h
    case isFalse => cases h
    rename_i hc
    obtain ⟨hg, hs, hsc, h1⟩ := hc
    subst hg hs
    cases h
    obtain ⟨a, len, cap, hρ, hk, hu⟩ := (hx.2 g (by simp [genOf, ho, O.gen])).2 rfl
    subst hu
    obtain ⟨cs, hown, henc, _⟩ := rr.os id _ ho
    rw [hρ] at hown
    have hlen : len = xs.length := by
      rcases hown.2 with ⟨hh, _⟩ | ⟨b, c2, cur, hh, _⟩
      · cases hh
      · cases hh; rfl
    subst hlen
    obtain ⟨z, hr, hz⟩ := henc.2 k hk
    have h0 := hz 0 (by omega)
    rw [(one_cells h1 hr).1] at h0
    simp [h1] at h0
    have hcell := hown.cells (g := a.block) (by simp [Value.ownBlock]) k z h0
    have ha : a = ⟨a.block, 0, none⟩ := by
      rcases hown.2 with ⟨hh, _⟩ | ⟨b, c2, cur, hh, _⟩
      · cases hh
      · cases hh; rfl
    rw [← ha] at hcell
    refine ⟨rfl, z, by rw [getD_eq hk]; exact ofE_rel h1 hr, ?_⟩
    simp [Instr.loadAt, Instr.sureAddr, loadVar, (sc_plain hC hsc).1 w, h1, hcell]
  · rename_i q k
    split at h
    case h_3 => cases h
    case h_2 =>
      rename_i q' ys fr g nn rest
      split at h
      case isFalse => cases h
      rename_i hsc
      cases h
      obtain ⟨hq, hk⟩ := hv
      subst hq
      obtain ⟨cs, hown, henc, _, _, hle, ⟨cur, ty, f, hg, hcur⟩, _⟩ := rr.os 0 _ rfl
      have hky : k < ys.length := by omega
      obtain ⟨u2, hu2, hc2⟩ := henc.2 k hky
      have h0 := hc2 0 (by simp [E.size])
      simp only [E.size, Nat.mul_one, Nat.add_zero] at h0
      have hl2 : LRowRel (C.V w (.ap q ys fr g nn :: rest) ρ) (ys.getD k (0, [])).1 (ys.getD k (0, [])).2 u2 := by
        rw [getD_eq hky]; exact hu2
      rw [cells_oneCell (LRowRel.oneCell hl2)] at h0
      have hcell : w.cell? ((⟨hdB q, 0, none⟩ : Addr).add k) = some u2 := by
        rw [add_plain]
        simp only [World.cell?, hg, Nat.zero_add]
        have := hcur k hk
        rw [h0] at this
        simpa using this
      refine ⟨rfl, u2, hl2, ?_⟩
      rw [show u = .pointer (some ((⟨hdB q, 0, none⟩ : Addr).add k)) from hx]
      simp [Instr.loadAt, Instr.sureAddr, loadVar, (sc_plain hC hsc).1 w, hcell]
    rename_i D F hs g nn rest
    split at h
    case isFalse => cases h
    rename_i hsc
    cases h
    obtain ⟨hq, hk⟩ := hv
    obtain ⟨cs, _, _, hpool, _⟩ := rr.os 0 _ rfl
    obtain ⟨_, cur, hg, m1, m2, m3, m4⟩ := hpool q hq
    have hcell : w.cell? ((⟨hdB q, 0, none⟩ : Addr).add k) = some (.int .i64 ((F q).getD k 0)) := by
      have h5 : (cur.toList.take (F q).length)[k]? = ((F q).map (Value.int .i64))[k]? := by rw [m4]
      rw [List.getElem?_take, if_pos hk] at h5
      rw [add_plain]
      simp only [World.cell?, hg, Nat.zero_add]
      simpa [hk] using h5
    refine ⟨rfl, _, rfl, ?_⟩
    rw [show u = .pointer (some ((⟨hdB q, 0, none⟩ : Addr).add k)) from hx]
    simp [Instr.loadAt, Instr.sureAddr, loadVar, (sc_plain hC hsc).1 w, hcell]
  · cases h

end sound
end Go.Aw

/- Operations that make or write memory: make, a literal slice, append, a store, a piece of a slice. -/
namespace Go.Aw
open Go

theorem maxLen_num : maxLen = 9223372036854775807 := rfl

def E.fam : E → E
  | .row _ => .lrow
  | e => e

/-- What make makes of a slice of slices: rows that are nil yet. -/
def E.made : E → E
  | .lrow => .row true
  | e => e

def E.zeroD : (e : E) → Option e.D
  | .int => some (0 : Int)
  | .byte => some (0 : Int)
  | .bool => some false
  | .str => some []
  | .row _ => some []
  | .lrow => none
  | .vec => some [0, 0, 0, 0]
  | .pr => none

/-- make([]T, n) -/
def makeV (e? : Option E) (l c : AV) (obs : List O) : Res :=
  match e?, l, c with
  | some .lrow, .int _ n, .int _ m => .ok (n = m ∧ 0 ≤ n ∧ 24 * n ≤ 281474976710656) (.own obs.length 0) (obs ++ [.mat (List.replicate n.toNat none) (List.replicate n.toNat []) 0 true])
  | some e, .int _ n, .int _ m =>
    match e.made.zeroD with
    | some z => .ok (n = m ∧ 0 ≤ n ∧ e.bytes * n ≤ 281474976710656) (.own obs.length 0) (obs ++ [.arr e.made (List.replicate n.toNat z) 0 true])
    | none => .bad
  | _, _, _ => .bad

def allE (e : E) : List AV → Option (List e.D)
  | [] => some []
  | x :: r => match toE e x, allE e r with
    | some d, some l => some (d :: l)
    | _, _ => none

/-- Rows that a literal slice of slices borrows: owned ones among them are let go. -/
def rowsOf : List AV → List O → Option (List (List Int) × List O)
  | [], obs => some ([], obs)
  | .sl _ .int xs :: r, obs => (rowsOf r obs).map fun p => (xs :: p.1, p.2)
  | .lr _ xs :: r, obs => (rowsOf r obs).map fun p => (xs :: p.1, p.2)
  | .own id g :: r, obs => match obs[id]? with
    | some (.arr .int xs g' _) => if g = g' then (rowsOf r (obs.set id .dead)).map fun p => (xs :: p.1, p.2) else none
    | _ => none
  | _, _ => none

/-- A number that no labelled row bears. -/
def unapO : O → O
  | .ap _ ys _ g nn => .arr .lrow ys g nn
  | o => o
def FreshL (obs : List O) (l : Nat) : Prop := ∀ o ∈ obs, ∀ ys gg nn, unapO o = .arr .lrow ys gg nn → ∀ p ∈ ys, p.1 ≠ l
theorem lab_enc {tid : E → TypeId} {w : World} {V : Vw} {v : Value} {o : O} {ys : List (Nat × List Int)} {gg : Nat} {nn : Bool} (h : ORel tid w V v o) (he : unapO o = .arr .lrow ys gg nn) : ∃ cs, Enc V .lrow ys cs := by
  cases o with
  | arr e xs g n2 => cases he; obtain ⟨cs, _, h2, _⟩ := h; exact ⟨cs, h2⟩
  | ap q xs fr g n2 => cases he; obtain ⟨cs, _, h2, _⟩ := h; exact ⟨cs, h2⟩
  | _ => cases he

/-- A slice written out. -/
def buildV (e? : Option E) (n : Nat) (parts : List (Nat × AV)) (obs : List O) : Res :=
  match e? with
  | some e =>
    if parts.map (·.1) = List.range n ∧ n ≤ 1000 ∧ e.size = 1 then
      if e = .lrow then
        match parts with
        | [] => .ok True (.own obs.length 0) (obs ++ [.arr .lrow [] 0 true])
        | [(_, .lr l xs)] => .ok True (.own obs.length 0) (obs ++ [.arr .lrow [(l, xs)] 0 true])
        | [(_, .sl true .int xs)] => .ok True (.own obs.length 0) (obs ++ [.arr (.row true) [xs] 0 true])
        | [(_, .own id g)] => match obs[id]? with
          | some (.arr .int xs g' true) => if g = g' then
              .all (FreshL obs) (.own obs.length 0) (fun l => obs.set id .dead ++ [.arr .lrow [(l, xs)] 0 true])
            else .bad
          | _ => .bad
        | _ => match rowsOf (parts.map (·.2)) obs with
          | some (l, obs') => .ok True (.own obs.length 0) (obs' ++ [.arr (.row false) l 0 true])
          | none => .bad
      else
        match allE e (parts.map (·.2)) with
        | some l => .ok (∀ s, AV.str s ∈ parts.map (·.2) → s.length ≤ maxLen) (.own obs.length 0) (obs ++ [.arr e l 0 true])
        | none => .bad
    else .bad
  | none => .bad

def convL : (e' e : E) → List e.D → Option (List e'.D)
  | .int, .int, ys => some ys
  | .byte, .byte, ys => some ys
  | .bool, .bool, ys => some ys
  | .str, .str, ys => some ys
  | .row true, .row true, ys => some ys
  | .row true, .lrow, ys => some (ys.map (·.2))
  | .row false, .row _, ys => some ys
  | .row false, .lrow, ys => some (ys.map (·.2))
  | .lrow, .lrow, ys => some ys
  | .vec, .vec, ys => some ys
  | .pr, .pr, ys => some ys
  | _, _, _ => none

/-- The elements of an append's source. -/
def srcL (e' : E) (x : AV) (obs : List O) (not : Option Nat) : Option (List e'.D) :=
  match x with
  | .sl _ e ys => convL e' e ys
  | .lr _ ys => convL e' .int ys
  | .nils => some []
  | .emp _ => some []
  | .own id g => if not = some id then none else match obs[id]? with
    | some (.arr e ys g' _) => if g = g' then convL e' e ys else none
    | _ => none
  | _ => none

def appendV (e? : Option E) (s x : AV) (obs : List O) : Res :=
  match e?, s with
  | some e, .own id g => match obs[id]? with
    | some (.arr e' xs g' nn) =>
      if g = g' ∧ e'.fam = e.fam then
        match srcL e' x obs (some id) with
        | some ys => .ok ((xs.length + ys.length) * e.bytes ≤ 140737488355328) (.own id (g + 1)) (obs.set id (.arr e' (xs ++ ys) (g + 1) (nn || !ys.isEmpty)))
        | none => .bad
      else .bad
    | some (.ap q ys fr g' nn) =>
      if g = g' ∧ E.lrow.fam = e.fam then
        match srcL .lrow x obs (some id) with
        | some zs => .ok ((ys.length + zs.length) * e.bytes ≤ 140737488355328) (.own id (g + 1)) (obs.set id (.ap q (ys ++ zs) false (g + 1) (nn || !zs.isEmpty)))
        | none => .bad
      else .bad
    | _ => .bad
  | some e, .nils => match srcL e x obs none with
    | some ys => .ok (ys.length * e.bytes ≤ 140737488355328) (.own obs.length 0) (obs ++ [.arr e ys 0 (!ys.isEmpty)])
    | none => .bad
  | _, _ => .bad

def bnd (d : Int) : Option AV → Option Int
  | none => some d
  | some (.int _ n) => some n
  | _ => none

/-- A piece of what is only read. -/
def sliceV (x : AV) (lo hi : Option AV) (obs : List O) : Res :=
  match x with
  | .sl f e xs => match bnd 0 lo, bnd xs.length hi with
    | some l, some h => .ok (0 ≤ l ∧ l ≤ h ∧ h ≤ xs.length) (.sl f e ((xs.drop l.toNat).take (h.toNat - l.toNat))) obs
    | _, _ => .bad
  | .lr _ xs => match bnd 0 lo, bnd xs.length hi with
    | some l, some h => .ok (0 ≤ l ∧ l ≤ h ∧ h ≤ xs.length) (.sl true .int ((xs.drop l.toNat).take (h.toNat - l.toNat))) obs
    | _, _ => .bad
  | .str s => match bnd 0 lo, bnd s.length hi with
    | some l, some h => .ok (0 ≤ l ∧ l ≤ h ∧ h ≤ s.length) (.str ((s.drop l.toNat).take (h.toNat - l.toNat))) obs
    | _, _ => .bad
  | _ => .bad

section sound
variable {C : Ctx} {obs : List O} {w : World} {ρ : Nat → Value}

theorem le_one {w' : World} {id : Nat} {o o' : O} {v : Value} (ho : obs[id]? = some o) (h : Ext (fun b => fpo (ρ id) o b) w w')
    (hb : ∀ b, fpo v o' b → fpo (ρ id) o b ∨ w.heap.size ≤ b) : (C.V w obs ρ).le (C.V w' (obs.set id o') (fun i => if i = id then v else ρ i)) := by
  refine ⟨fun b x hx => ?_, fun _ h => h, rfl⟩
  simp only [Ctx.V, mask] at hx ⊢
  split at hx
  · cases hx
  · rename_i hn
    have hlt := (Array.getElem?_eq_some_iff.1 hx).1
    have hS : ¬ fpo (ρ id) o b := fun hh => hn ⟨id, o, ho, hh⟩
    have hn' : ¬ Own (obs.set id o') (fun i => if i = id then v else ρ i) b := by
      rintro ⟨j, oj, hj, hf⟩
      by_cases hji : id = j
      · subst hji
        rw [List.getElem?_set_self (List.getElem?_eq_some_iff.1 ho).1] at hj
        cases hj
        rcases hb b (by simpa using hf) with hh | hh
        · exact hS hh
        · omega
      · rw [List.getElem?_set_ne hji] at hj
        exact hn ⟨j, oj, hj, by simpa [Ne.symm hji] using hf⟩
    rw [if_neg hn', h.block b hlt hS]
    exact hx

theorem le_new {w' : World} {o : O} {v : Value} (h : Ext (fun _ => False) w w')
    (hb : ∀ b, fpo v o b → w.heap.size ≤ b) : (C.V w obs ρ).le (C.V w' (obs ++ [o]) (fun i => if i = obs.length then v else ρ i)) := by
  refine ⟨fun b x hx => ?_, fun _ h => h, rfl⟩
  simp only [Ctx.V, mask] at hx ⊢
  split at hx
  · cases hx
  · rename_i hn
    have hlt := (Array.getElem?_eq_some_iff.1 hx).1
    have hn' : ¬ Own (obs ++ [o]) (fun i => if i = obs.length then v else ρ i) b := by
      rintro ⟨j, oj, hj, hf⟩
      rw [List.getElem?_append] at hj
      split at hj
      · rename_i hl
        exact hn ⟨j, oj, hj, by simpa [Nat.ne_of_lt hl] using hf⟩
      · have hj0 : j = obs.length := by
          rcases Nat.lt_or_ge obs.length j with k | k
          · rw [List.getElem?_eq_none (by simp; omega)] at hj; cases hj
          · omega
        subst hj0
        simp at hj
        subst hj
        have := hb b (by simpa using hf)
        omega
    rw [if_neg hn', h.block b hlt (fun k => k)]
    exact hx

/-! ### A store -/

theorem toE_rel {V : Vw} {e : E} {x : AV} {d : e.D} {u : Value} (h : toE e x = some d) (hs : ∀ s, x = .str s → s.length ≤ maxLen) (hx : AVRel V obs ρ x u) : ElRel V e d u := by
  unfold toE at h
  split at h <;> simp at h
  · subst h; exact hx
  · subst h; exact hx
  · subst h; exact hx
  · subst h; exact ⟨hx, hs _ rfl⟩
  · subst h; exact SlRel.toRow hx
  · subst h; exact LRowRel.toRow hx
  · subst h; exact (SlRel.toRow hx).weaken
  · subst h; exact (LRowRel.toRow hx).weaken
  · subst h; exact hx

theorem enc_set {V : Vw} {e : E} (h1 : e.size = 1) {xs : List e.D} {cs : List Value} (h : Enc V e xs cs) {k : Nat} {d : e.D} {u : Value} (hd : ElRel V e d u) : Enc V e (xs.set k d) (cs.set k u) := by
  refine ⟨by simpa using h.1, fun i hi => ?_⟩
  simp at hi
  by_cases hk : k = i
  · subst hk
    refine ⟨u, by simpa using hd, fun j hj => ?_⟩
    have : j = 0 := by omega
    subst this
    have hl : k < cs.length := by have := h.1; rw [h1] at this; omega
    rw [(one_cells h1 hd).1]
    simp [h1, hl]
  · obtain ⟨z, hz, hc⟩ := h.2 i hi
    refine ⟨z, by simpa [hk] using hz, fun j hj => ?_⟩
    have : j = 0 := by omega
    subst this
    rw [← hc 0 hj]
    simp [h1, List.getElem?_set_ne hk]

theorem get_set {α : Type} {l : List α} {i k : Nat} {a b : α} (h : (l.set k a)[i]? = some b) : (i = k ∧ b = a) ∨ (i ≠ k ∧ l[i]? = some b) := by
  by_cases hk : k = i
  · subst hk
    rw [List.getElem?_set_self' ] at h
    cases hh : l[k]? with
    | none => rw [hh] at h; cases h
    | some c => rw [hh] at h; cases h; exact .inl ⟨rfl, rfl⟩
  · rw [List.getElem?_set_ne hk] at h
    exact .inr ⟨fun e => hk e.symm, h⟩

/-- A row's head is put into an owned list of heads. -/
theorem storeH_sound (hC : C.Ok) {t : TypeId} {id g k : Nat} {D : List Nat} {F : Nat → List Int} {hs : List Nat} {nn : Bool} {q m : Nat} (rr : WRel C obs w ρ) {u v : Value} (ho : obs[id]? = some (.gm D F hs g nn))
    (hx : AVRel (C.V w obs ρ) obs ρ (.elt id g 1 k) u) (hy : AVRel (C.V w obs ρ) obs ρ (.hdr (some q) m) v) (hsc : C.sc t = true) (hvc : q ∈ D ∧ m = (F q).length) :
    ∃ w', (Instr.storeAt t u v).run C.P w = .ok () w' ∧ Step C w w' obs (obs.set id (.gm D F (hs.set k q) g nn)) ρ ρ := by
  obtain ⟨hq, hm⟩ := hvc
  obtain ⟨a, len, cap, hρ, hk, hu⟩ := (hx.2 g (by simp [genOf, ho, O.gen])).2 rfl
  subst hu
  obtain ⟨cs, hown, hrow, hpool, hinj, hout, hnn, hml⟩ := rr.os id _ ho
  rw [hρ] at hown
  obtain ⟨b, ha, hlen⟩ : ∃ b, a = ⟨b, 0, none⟩ ∧ len = hs.length := by
    rcases hown.2 with ⟨hh, _⟩ | ⟨b, c2, cur, hh, _⟩
    · cases hh
    · cases hh; exact ⟨b, rfl, rfl⟩
  subst ha hlen
  have hcl : cs.length = hs.length := by have := hown.1; omega
  have hvv : v = .slice (some ⟨hdB q, 0, none⟩) (F q).length (hdC q) := by rw [← hm]; exact hy
  have hcell := hown.cellAt k (by omega)
  have hfr := hown.frozenAt k
  obtain ⟨hst, hgr⟩ := hown.stored k v
  rw [List.getElem?_eq_getElem (by omega)] at hcell
  obtain ⟨i, hi, hi1⟩ := (sc_plain hC hsc).2
  have hone : v.oneCell' = true := by rw [hvv]; rfl
  have hrun : (Instr.storeAt t (.pointer (some ((⟨b, 0, none⟩ : Addr).add (k * 1)))) v).run C.P w = .ok () (w.setCell ⟨b, k, none⟩ v) := by
    rw [add_plain]
    simp only [Nat.mul_one, Nat.zero_add, Instr.storeAt, Instr.sureAddr, storeVar, Sem.run_bind, Sem.run_pure, Result.andThen_ok]
    simp [sizeOf, typeInfo, hi, hi1, cells_oneCell hone, storeCells, run_store _ _ _ _ _ hone, Addr.add, hcell, hfr]
  have hfp : fpo (ρ id) (.gm D F hs g nn) b := .inl (by rw [hρ]; rfl)
  have hρe : (fun i => if i = id then ρ id else ρ i) = ρ := by funext i; split <;> simp_all
  refine ⟨_, hrun, ?_⟩
  have hext0 : Ext (fun b' => b' = b) w (w.setCell ⟨b, k, none⟩ v) := (Ext.grownBy hgr (run_drawn _ hrun)).mono fun x hx => by cases hx; rfl
  have hext : Ext (fun b' => fpo (ρ id) (.gm D F hs g nn) b') w (w.setCell ⟨b, k, none⟩ v) := hext0.mono fun x hx => by cases hx; exact hfp
  have hb : ∀ b', fpo (ρ id) (.gm D F (hs.set k q) g nn) b' → fpo (ρ id) (.gm D F hs g nn) b' ∨ w.heap.size ≤ b' := fun b' hb' => .inl hb'
  have T := Turn.one rr id (.gm D F hs g nn) (.gm D F (hs.set k q) g nn) (ρ id) ho hext (w' := w.setCell ⟨b, k, none⟩ v)
    (by
      refine ⟨cs.set k v, by rw [hρ]; simpa using hst, fun i1 h1 u1 q1 q2 => ?_, fun h1 hm1 => (hpool h1 hm1).kept fun x hx => ?_, hinj, hout, hnn, by simpa using hml⟩
      · rcases get_set q1 with ⟨a1, a2⟩ | ⟨a1, a2⟩
        · rcases get_set q2 with ⟨_, b2⟩ | ⟨b1, _⟩
          · subst a2 b2; exact ⟨hq, hvv⟩
          · exact absurd a1 b1
        · rcases get_set q2 with ⟨b1, _⟩ | ⟨_, b2⟩
          · exact absurd b1 a1
          · exact hrow i1 h1 u1 a2 b2
      · have hx := Option.some.inj hx
        subst hx
        refine hext0.block _ ((rr.os id _ ho).lt (b := hdB h1) (.inr ⟨h1, hm1, rfl⟩)) fun e => ?_
        exact hout h1 hm1 (by rw [hρ, e]; rfl)) hb
    (by
      intro c' hc'
      simp [O.gen] at hc'
      exact ⟨g, by simp [O.gen], .inl ⟨hc'.symm, rfl⟩⟩)
  rw [hρe] at T
  exact T.step rr

/-- A number is put into a row of a pool. -/
theorem storeP_sound (hC : C.Ok) {t : TypeId} {q k : Nat} {n : Int} {D : List Nat} {F : Nat → List Int} {hs : List Nat} {g : Nat} {nn : Bool} {rest : List O} {w : World} {ρ : Nat → Value} (rr : WRel C (.gm D F hs g nn :: rest) w ρ) {u v : Value}
    (hx : AVRel (C.V w (.gm D F hs g nn :: rest) ρ) (.gm D F hs g nn :: rest) ρ (.hp q k) u) (hy : AVRel (C.V w (.gm D F hs g nn :: rest) ρ) (.gm D F hs g nn :: rest) ρ (.int .i64 n) v) (hsc : C.sc t = true) (hvc : q ∈ D ∧ k < (F q).length) :
    ∃ w', (Instr.storeAt t u v).run C.P w = .ok () w' ∧ Step C w w' (.gm D F hs g nn :: rest) (.gm D (updF F q k n) hs g nn :: rest) ρ ρ := by
  obtain ⟨hq, hk⟩ := hvc
  have hu : u = .pointer (some ((⟨hdB q, 0, none⟩ : Addr).add k)) := hx
  have hv : v = .int .i64 n := hy
  subst hu hv
  have ho : (.gm D F hs g nn :: rest : List O)[0]? = some (.gm D F hs g nn) := rfl
  obtain ⟨cs, hown, hrow, hpool, hinj, hout, hnn, hml⟩ := rr.os 0 _ ho
  obtain ⟨_, cur, hg, m1, m2, m3, m4⟩ := hpool q hq
  have hin : w.ownsRow 0 (C.tid .int) 1 (.slice (some ⟨hdB q, 0, none⟩) (F q).length (hdC q)) (F q).length ((F q).map (Value.int .i64)) :=
    ⟨by simp, .inr ⟨hdB q, hdC q, cur, rfl, Nat.zero_le _, hg, m1, m2, by simpa using m3, by simpa using m4⟩⟩
  have hcell := hin.cellAt k (by simpa using hk)
  have hfr := hin.frozenAt k
  obtain ⟨hst, hgr⟩ := hin.stored k (.int .i64 n)
  rw [List.getElem?_eq_getElem (by simpa using hk)] at hcell
  obtain ⟨i, hi, hi1⟩ := (sc_plain hC hsc).2
  have hone : (Value.int .i64 n).oneCell' = true := rfl
  have hrun : (Instr.storeAt t (.pointer (some ((⟨hdB q, 0, none⟩ : Addr).add k))) (.int .i64 n)).run C.P w = .ok () (w.setCell ⟨hdB q, k, none⟩ (.int .i64 n)) := by
    rw [add_plain]
    simp only [Nat.zero_add, Instr.storeAt, Instr.sureAddr, storeVar, Sem.run_bind, Sem.run_pure, Result.andThen_ok]
    simp [sizeOf, typeInfo, hi, hi1, cells_oneCell hone, storeCells, run_store _ _ _ _ _ hone, Addr.add, hcell, hfr]
  have hfp : fpo (ρ 0) (.gm D F hs g nn) (hdB q) := .inr ⟨q, hq, rfl⟩
  have hρe : (fun i => if i = 0 then ρ 0 else ρ i) = ρ := by funext i; split <;> simp_all
  refine ⟨_, hrun, ?_⟩
  have hext0 : Ext (fun b' => b' = hdB q) w (w.setCell ⟨hdB q, k, none⟩ (.int .i64 n)) := (Ext.grownBy hgr (run_drawn _ hrun)).mono fun x hx => by cases hx; rfl
  have hext : Ext (fun b' => fpo (ρ 0) (.gm D F hs g nn) b') w (w.setCell ⟨hdB q, k, none⟩ (.int .i64 n)) := hext0.mono fun x hx => by cases hx; exact hfp
  have hb : ∀ b', fpo (ρ 0) (.gm D (updF F q k n) hs g nn) b' → fpo (ρ 0) (.gm D F hs g nn) b' ∨ w.heap.size ≤ b' := fun b' hb' => .inl hb'
  have hlenF : ∀ h, (updF F q k n h).length = (F h).length := by
    intro h
    unfold updF
    split
    · rename_i e; subst e; simp
    · rfl
  have T := Turn.one rr 0 (.gm D F hs g nn) (.gm D (updF F q k n) hs g nn) (ρ 0) ho hext (w' := w.setCell ⟨hdB q, k, none⟩ (.int .i64 n))
    (by
      refine ⟨cs, ownsRow_kept hown fun b' hb' => hext0.block b' ((rr.os 0 _ ho).lt (b := b') (.inl hb')) fun e => hout q hq (by rw [hb', e]), fun i1 h1 u1 q1 q2 => by rw [hlenF]; exact hrow i1 h1 u1 q1 q2, fun h1 hm1 => ?_, hinj, hout, hnn, hml⟩
      rw [hlenF]
      by_cases hh : h1 = q
      · subst hh
        rcases hst.2 with ⟨hz, _⟩ | ⟨b3, cap3, cur3, hv3, _, hg3, n1, n2, n3, n4⟩
        · cases hz
        · have ev := Value.slice.inj hv3
          have eb : hdB h1 = b3 := congrArg Addr.block (Option.some.inj ev.1)
          have ec : hdC h1 = cap3 := ev.2.2
          subst eb ec
          refine ⟨by rw [hlenF], cur3, hg3, by rw [hlenF]; exact m1, m2, by simpa using n3, ?_⟩
          rw [hlenF]
          have e1 : updF F h1 k n h1 = (F h1).set k n := by simp [updF]
          rw [e1, List.map_set]
          simpa using n4
      · have e1 : updF F q k n h1 = F h1 := by unfold updF; rw [if_neg hh]
        rw [e1]
        refine (hpool h1 hm1).kept fun x hx => ?_
        have hx := Option.some.inj hx
        subst hx
        exact hext0.block _ ((rr.os 0 _ ho).lt (b := hdB h1) (.inr ⟨h1, hm1, rfl⟩)) fun e => hh (hinj h1 q hm1 hq e)) hb
    (by
      intro c' hc'
      simp [O.gen] at hc'
      exact ⟨g, by simp [O.gen], .inl ⟨hc'.symm, rfl⟩⟩)
  rw [hρe] at T
  exact T.step rr

theorem storeV_sound (hC : C.Ok) {t : TypeId} {x y : AV} {vc : Prop} {o : List O} (rr : WRel C obs w ρ) {u v : Value}
    (hx : AVRel (C.V w obs ρ) obs ρ x u) (hy : AVRel (C.V w obs ρ) obs ρ y v) (hs : ∀ s, y = .str s → s.length ≤ maxLen) (h : storeV (C.sc t) x y obs = .skip vc o) (hvc : vc) :
    ∃ w', (Instr.storeAt t u v).run C.P w = .ok () w' ∧ Step C w w' obs o ρ ρ := by
  unfold storeV at h
  split at h
  case h_3 => cases h
  case h_2 =>
    rename_i q k
    split at h
    case h_2 => cases h
    rename_i n D F hs g nn rest
    split at h
    case isFalse => cases h
    rename_i hsc
    cases h
    exact storeP_sound hC rr hx hy hsc hvc
  rename_i id g s k
  split at h
  case h_4 => cases h
  case h_3 =>
    rename_i D F hs2 g' nn ho
    split at h
    case isFalse => cases h
    rename_i hc
    obtain ⟨hg, hss, hsc⟩ := hc
    subst hg hss
    split at h
    case h_2 => cases h
    rename_i q m
    cases h
    exact storeH_sound hC rr ho hx hy hsc hvc
  case h_2 =>
    split at h
    case isFalse => cases h
    split at h
    case h_2 => cases h
    split at h
    case h_2 => cases h
    split at h <;> cases h
  rename_i e xs g' nn ho
  split at h
  case isFalse => cases h
  rename_i hc
  obtain ⟨hg, hss, hsc, h1⟩ := hc
  subst hg hss
  split at h
  case h_2 => cases h
  rename_i d hd
  cases h
  have hel := toE_rel hd hs hy
  obtain ⟨a, len, cap, hρ, hk, hu⟩ := (hx.2 g (by simp [genOf, ho, O.gen])).2 rfl
  subst hu
  obtain ⟨cs, hown, henc, hnn, hml⟩ := rr.os id _ ho
  rw [hρ] at hown
  obtain ⟨b, ha, hlen⟩ : ∃ b, a = ⟨b, 0, none⟩ ∧ len = xs.length := by
    rcases hown.2 with ⟨hh, _⟩ | ⟨b, c2, cur, hh, _⟩
    · cases hh
    · cases hh; exact ⟨b, rfl, rfl⟩
  subst ha hlen
  have hcl : cs.length = xs.length := by have := henc.1; rw [h1] at this; omega
  have hcell := hown.cellAt k (by rw [h1]; omega)
  have hfr := hown.frozenAt k
  obtain ⟨hst, hgr⟩ := hown.stored k v
  rw [List.getElem?_eq_getElem (by omega)] at hcell
  obtain ⟨i, hi, hi1⟩ := (sc_plain hC hsc).2
  have hv1 := one_cells h1 hel
  have hrun : (Instr.storeAt t (.pointer (some ((⟨b, 0, none⟩ : Addr).add (k * e.size)))) v).run C.P w = .ok () (w.setCell ⟨b, k, none⟩ v) := by
    rw [add_plain, h1]
    simp only [Nat.mul_one, Nat.zero_add, Instr.storeAt, Instr.sureAddr, storeVar, Sem.run_bind, Sem.run_pure, Result.andThen_ok]
    simp [sizeOf, typeInfo, hi, hi1, hv1.1, storeCells, run_store _ _ _ _ _ hv1.2, Addr.add, hcell, hfr]
  have hfp : fpo (ρ id) (.arr e xs g nn) b := by simp [fpo, hρ, Value.ownBlock]
  have hρe : (fun i => if i = id then ρ id else ρ i) = ρ := by funext i; split <;> simp_all
  refine ⟨_, hrun, ?_⟩
  have hext : Ext (fun b' => fpo (ρ id) (.arr e xs g nn) b') w (w.setCell ⟨b, k, none⟩ v) := (Ext.grownBy hgr (run_drawn _ hrun)).mono fun x hx => by cases hx; exact hfp
  have hb : ∀ b', fpo (ρ id) (.arr e (xs.set k d) g nn) b' → fpo (ρ id) (.arr e xs g nn) b' ∨ w.heap.size ≤ b' := fun b' hb' => .inl hb'
  have hV := le_one (C := C) ho hext hb
  have T := Turn.one rr id (.arr e xs g nn) (.arr e (xs.set k d) g nn) (ρ id) ho hext (w' := w.setCell ⟨b, k, none⟩ v)
    (by
      rw [hρe] at hV ⊢
      refine ⟨cs.set k v, ?_, enc_set h1 (henc.mono hV) (hel.mono hV), hnn, by simpa using hml⟩
      rw [hρ]
      simpa using hst) hb
    (by
      intro c' hc'
      simp [O.gen] at hc'
      exact ⟨g, by simp [O.gen], .inl ⟨hc'.symm, rfl⟩⟩)
  rw [hρe] at T
  exact T.step rr

theorem hd_of (l cap : Nat) (h : cap ≤ maxLen) : hdB (l * 18446744073709551616 + cap) = l ∧ hdC (l * 18446744073709551616 + cap) = cap := by
  rw [maxLen_num] at h
  unfold hdB hdC
  constructor <;> omega

/-- An owned row is put into an owned matrix. -/
theorem storeM_sound (hC : C.Ok) {t : TypeId} {x y : AV} {p : Nat → Prop} {r : AV} {o : Nat → List O} (rr : WRel C obs w ρ) {u v : Value}
    (hx : AVRel (C.V w obs ρ) obs ρ x u) (hy : AVRel (C.V w obs ρ) obs ρ y v) (h : storeV (C.sc t) x y obs = .all p r o) :
    ∃ w' l, p l ∧ (Instr.storeAt t u v).run C.P w = .ok () w' ∧ r = .junk ∧ Step C w w' obs (o l) ρ ρ := by
  unfold storeV at h
  split at h
  case h_3 => cases h
  case h_2 =>
    split at h
    · split at h <;> cases h
    · cases h
  rename_i id g s k
  split at h
  case h_4 => cases h
  case h_3 =>
    split at h
    · split at h <;> cases h
    · cases h
  case h_1 =>
    split at h
    case isFalse => cases h
    split at h <;> cases h
  rename_i hs rows g' nn ho
  split at h
  case isFalse => cases h
  rename_i hc
  obtain ⟨hg, hss, hsc⟩ := hc
  subst hg hss
  split at h
  case h_2 => cases h
  rename_i id2 g2
  split at h
  case h_2 => cases h
  rename_i xs g2' ho2
  split at h
  case isFalse => cases h
  rename_i hg2
  subst hg2
  cases h
  have hne : id2 ≠ id := fun e => by subst e; rw [ho] at ho2; cases ho2
  obtain ⟨a, len, cap, hρ, hk, hu⟩ := (hx.2 g (by simp [genOf, ho, O.gen])).2 rfl
  subst hu
  have hM := rr.os id _ ho
  obtain ⟨cs, hown, hhl, hrow, hnd, hout, hnn, hml⟩ := hM
  rw [hρ] at hown
  obtain ⟨b, ha, hlen⟩ : ∃ b, a = ⟨b, 0, none⟩ ∧ len = rows.length := by
    rcases hown.2 with ⟨hh, _⟩ | ⟨b, c2, cur, hh, _⟩
    · cases hh
    · cases hh; exact ⟨b, rfl, rfl⟩
  subst ha hlen
  have hcl : cs.length = rows.length := by have := hown.1; omega
  obtain ⟨hv2, cs2, hown2, henc2, hnn2, hml2⟩ := own_arr rr ho2 hy
  have hcs2 : cs2 = xs.map (Value.int .i64) := by
    apply List.ext_getElem?
    intro i
    have hl := henc2.1
    simp only [E.size, Nat.mul_one] at hl
    by_cases hi : i < xs.length
    · obtain ⟨u, hu, hc⟩ := henc2.2 i hi
      have h0 := hc 0 (by simp [E.size])
      cases hu
      simp [E.size, Value.cells] at h0
      rw [h0]
      simp [hi]
    · rw [List.getElem?_eq_none (by omega), List.getElem?_eq_none (by simp; omega)]
  subst hcs2
  rcases hown2.2 with ⟨hvn, _⟩ | ⟨l2, cap2, cur2, hvv, _, hg2, m1, m2, m3, m4⟩
  · exact absurd hvn (hv2 ▸ hnn2 rfl)
  have hfp2 : fpo (ρ id2) (.arr .int xs g2 true) l2 := by rw [← hv2]; simp [fpo, hvv, Value.ownBlock]
  have hfpb : fpo (ρ id) (.mat hs rows g nn) b := .inl (by rw [hρ]; rfl)
  have hl2b : l2 ≠ b := fun e => hne (rr.dis id2 id _ _ l2 ho2 ho hfp2 (e ▸ hfpb))
  have hcell := hown.cellAt k (by omega)
  have hfr := hown.frozenAt k
  obtain ⟨hst, hgr⟩ := hown.stored k v
  rw [List.getElem?_eq_getElem (by omega)] at hcell
  obtain ⟨i, hi, hi1⟩ := (sc_plain hC hsc).2
  have hone : v.oneCell' = true := by rw [hvv]; rfl
  have hrun : (Instr.storeAt t (.pointer (some ((⟨b, 0, none⟩ : Addr).add (k * 1)))) v).run C.P w = .ok () (w.setCell ⟨b, k, none⟩ v) := by
    rw [add_plain]
    simp only [Nat.mul_one, Nat.zero_add, Instr.storeAt, Instr.sureAddr, storeVar, Sem.run_bind, Sem.run_pure, Result.andThen_ok]
    simp [sizeOf, typeInfo, hi, hi1, cells_oneCell hone, storeCells, run_store _ _ _ _ _ hone, Addr.add, hcell, hfr]
  obtain ⟨e1, e2⟩ := hd_of l2 cap2 m2
  have hlt : id < obs.length := (List.getElem?_eq_some_iff.1 ho).1
  have hlt2 : id2 < obs.length := (List.getElem?_eq_some_iff.1 ho2).1
  have hext0 : Ext (fun b' => b' = b) w (w.setCell ⟨b, k, none⟩ v) := (Ext.grownBy hgr (run_drawn _ hrun)).mono fun x hx => by cases hx; rfl
  refine ⟨_, l2 * 18446744073709551616 + cap2, trivial, hrun, rfl, ?_⟩
  have T : Turn C w (w.setCell ⟨b, k, none⟩ v) obs ((obs.set id2 .dead).set id (.mat (hs.set k (some (l2 * 18446744073709551616 + cap2))) (rows.set k xs) g nn)) ρ ρ
      (fun b' => fpo (ρ id) (.mat hs rows g nn) b' ∨ fpo (ρ id2) (.arr .int xs g2 true) b') := by
    have get : ∀ (j : Nat) (o1 : O), ((obs.set id2 .dead).set id (.mat (hs.set k (some (l2 * 18446744073709551616 + cap2))) (rows.set k xs) g nn))[j]? = some o1 →
        (id = j ∧ o1 = .mat (hs.set k (some (l2 * 18446744073709551616 + cap2))) (rows.set k xs) g nn) ∨ (id2 = j ∧ o1 = .dead) ∨ (j ≠ id ∧ j ≠ id2 ∧ obs[j]? = some o1) := by
      intro j o1 hj
      rcases get_set hj with ⟨h1, h2⟩ | ⟨h1, h2⟩
      · exact .inl ⟨h1.symm, h2⟩
      · rcases get_set h2 with ⟨h3, h4⟩ | ⟨h3, h4⟩
        · exact .inr (.inl ⟨h3.symm, h4⟩)
        · exact .inr (.inr ⟨h1, h3, h4⟩)
    have newfp : ∀ b', fpo (ρ id) (.mat (hs.set k (some (l2 * 18446744073709551616 + cap2))) (rows.set k xs) g nn) b' → fpo (ρ id) (.mat hs rows g nn) b' ∨ fpo (ρ id2) (.arr .int xs g2 true) b' := by
      rintro b' (h | ⟨h, hm, rfl⟩)
      · exact .inl (.inl h)
      · obtain ⟨j, hj⟩ := List.getElem?_of_mem hm
        rcases get_set hj with ⟨_, h2⟩ | ⟨_, h2⟩
        · cases h2; rw [e1]; exact .inr hfp2
        · exact .inl (.inr ⟨h, List.mem_of_getElem? h2, rfl⟩)
    refine ⟨hext0.mono fun x hx => by cases hx; exact .inl hfpb, by simp, fun b' hb' => ?_, fun j o1 hj => ?_, fun i1 j o1 o2 b' hi1' hj bi bj hS => ?_⟩
    · rcases hb' with h | h
      · exact ⟨id, _, ho, h⟩
      · exact ⟨id2, _, ho2, h⟩
    · rcases get j o1 hj with ⟨rfl, rfl⟩ | ⟨rfl, rfl⟩ | ⟨n1, n2, h3⟩
      · refine .inr ⟨?_, fun b' hb' => .inl (newfp b' hb'), fun _ c' hc' => ⟨g, by simp [genOf, ho, O.gen], .inl ⟨by simp [O.gen] at hc'; exact hc'.symm, rfl⟩⟩⟩
        refine ⟨cs.set k v, by rw [hρ]; simpa using hst, by simpa using hhl, fun i1 h1 xs1 u1 q1 q2 q3 => ?_, fun i1 j1 h1 h2 q1 q2 q3 => ?_, fun h1 q1 => ?_, hnn, by simpa using hml⟩
        · rcases get_set q1 with ⟨a1, a2⟩ | ⟨a1, a2⟩
          · subst a1 a2
            rcases get_set q2 with ⟨_, b2⟩ | ⟨b1, _⟩
            · rcases get_set q3 with ⟨_, c2⟩ | ⟨c1, _⟩
              · subst b2 c2
                refine ⟨by rw [e1, e2]; exact hvv, cur2, ?_, by rw [e2]; exact m1, by rw [e2]; exact m2, by rw [e2]; simpa [E.size] using m3, by simpa [E.size] using m4⟩
                rw [e1, hext0.block l2 (Array.getElem?_eq_some_iff.1 hg2).1 hl2b]
                exact hg2
              · exact absurd rfl c1
            · exact absurd rfl b1
          · rcases get_set q2 with ⟨b1, _⟩ | ⟨_, b2⟩
            · exact absurd b1 a1
            · rcases get_set q3 with ⟨c1, _⟩ | ⟨_, c2⟩
              · exact absurd c1 a1
              · refine (hrow i1 h1 xs1 u1 a2 b2 c2).kept fun x hx => ?_
                subst hx
                have hmem : some x ∈ hs := List.mem_of_getElem? a2
                refine hext0.block _ ((rr.os id _ ho).lt (b := hdB x) (.inr ⟨x, hmem, rfl⟩)) fun e => ?_
                exact hout x hmem (by rw [hρ, e]; rfl)
        · have other : ∀ (n1 : Nat) (hh : Nat), hs[n1]? = some (some hh) → hdB hh ≠ l2 := fun n1 hh q e =>
            hne (rr.dis id2 id _ _ l2 ho2 ho hfp2 (.inr ⟨hh, List.mem_of_getElem? q, e⟩))
          rcases get_set q1 with ⟨a1, a2⟩ | ⟨a1, a2⟩ <;> rcases get_set q2 with ⟨b1, b2⟩ | ⟨b1, b2⟩
          · exact a1.trans b1.symm
          · cases a2; rw [e1] at q3; exact absurd q3.symm (other j1 h2 b2)
          · cases b2; rw [e1] at q3; exact absurd q3 (other i1 h1 a2)
          · exact hnd i1 j1 h1 h2 a2 b2 q3
        · obtain ⟨j1, q2⟩ := List.getElem?_of_mem q1
          rcases get_set q2 with ⟨a1, a2⟩ | ⟨a1, a2⟩
          · cases a2; rw [e1, hρ]; intro hh; simp [Value.ownBlock] at hh; exact hl2b hh.symm
          · exact hout h1 (List.mem_of_getElem? a2)
      · exact .inr ⟨trivial, fun b' hb' => hb'.elim, fun _ c' hc' => by simp [O.gen] at hc'⟩
      · refine .inl ⟨h3, rfl, fun b' hb' hh => ?_⟩
        rcases hh with hh | hh
        · exact n1 (rr.dis j id _ _ b' h3 ho hb' hh)
        · exact n2 (rr.dis j id2 _ _ b' h3 ho2 hb' hh)
    · have key : ∀ (i1 : Nat) (o1 : O), ((obs.set id2 .dead).set id (.mat (hs.set k (some (l2 * 18446744073709551616 + cap2))) (rows.set k xs) g nn))[i1]? = some o1 → fpo (ρ i1) o1 b' → i1 = id := by
        intro i1 o1 h1 h2
        rcases get i1 o1 h1 with ⟨h, _⟩ | ⟨rfl, rfl⟩ | ⟨n1, n2, h3⟩
        · exact h.symm
        · exact h2.elim
        · exfalso
          rcases hS with (hh | hh) | hh
          · exact n1 (rr.dis i1 id _ _ b' h3 ho h2 hh)
          · exact n2 (rr.dis i1 id2 _ _ b' h3 ho2 h2 hh)
          · have := (rr.os i1 o1 h3).lt h2; omega
      rw [key i1 o1 hi1' bi, key j o2 hj bj]
  exact T.step rr

/-! ### make -/

theorem enc_replicate {V : Vw} {e : E} {z : e.D} {u : Value} (hz : ElRel V e z u) {n : Nat} {cs : List Value} (hl : cs.length = n * e.size) (hc : ∀ j, j < n * e.size → cs[j]? = u.cells[j % e.size]?) :
    Enc V e (List.replicate n z) cs := by
  refine ⟨by simpa using hl, fun i hi => ⟨u, by simpa using hz, fun j hj => ?_⟩⟩
  simp at hi
  have hlt : i * e.size + j < n * e.size := by
    have : (i + 1) * e.size ≤ n * e.size := Nat.mul_le_mul_right _ hi
    rw [Nat.add_mul] at this
    omega
  rw [hc _ hlt]
  congr 1
  rw [Nat.mul_comm, Nat.mul_add_mod, Nat.mod_eq_of_lt hj]

theorem zeroD_rel {V : Vw} {e : E} {z : e.D} (h : e.zeroD = some z) : ElRel V e z e.zero := by
  cases e <;> simp [E.zeroD] at h <;> subst h
  · rfl
  · rfl
  · rfl
  · exact ⟨rfl, by simp⟩
  · exact ⟨none, 0, rfl, by simp, by simp, fun i hi => by simp at hi⟩
  · exact ⟨rfl, rfl⟩

theorem zero_fam (e : E) : e.made.zero = e.zero ∧ e.made.size = e.size := by
  cases e <;> simp [E.zero, E.size, E.made]

theorem tid_fam (hC : C.Ok) (e : E) : C.tid e.made = C.tid e := by
  cases e <;> first | rfl | exact hC.same true

theorem madeCells_get (z : Array Value) (n j : Nat) (h : j < n) (hz : 0 < z.size) : (madeCells z n).toList[j]? = z[j % z.size]? := by
  have hm : j % z.size < z.size := Nat.mod_lt _ hz
  simp [madeCells, h, hm, getElem!_pos]


theorem makeV_sound (hC : C.Ok) {t : TypeId} {x y : AV} {vc : Prop} {r : AV} {o : List O} (rr : WRel C obs w ρ) {u v : Value}
    (hx : AVRel (C.V w obs ρ) obs ρ x u) (hy : AVRel (C.V w obs ρ) obs ρ y v) (h : makeV (C.Γ t) x y obs = .ok vc r o) (hv : vc) :
    ∃ z w' ρ', (Instr.makeSlice t u v).run C.P w = .ok z w' ∧ Step C w w' obs o ρ ρ' ∧ AVRel (C.V w' o ρ') o ρ' r z := by
  unfold makeV at h
  split at h
  case h_3 => cases h
  case h_1 =>
    rename_i k n k2 m he
    cases h
    obtain ⟨rfl, h0, hb⟩ := hv
    simp only [AVRel] at hx hy
    subst hx hy
    obtain ⟨ht, i, hi, hzero, hsize, hbytes⟩ := hC.sl t .lrow he
    obtain ⟨q, rfl⟩ := Int.eq_ofNat_of_zero_le h0
    have hbq : 24 * q ≤ 281474976710656 := by omega
    have hq : q ≤ maxLen := by rw [maxLen_num]; omega
    obtain ⟨w', hrun, hown, hgr⟩ := run_make_full (P := C.P) w 0 t (C.tid .lrow) i (E.zero .lrow) 1 ht hi hzero hsize k k2 q (by rw [hbytes]; exact hbq) hq (Nat.zero_le _)
    have hext : Ext (fun _ => False) w w' := (Ext.grownBy hgr (run_drawn _ hrun)).mono fun x hx => by cases hx
    have hfb : ∀ b, fpo (.slice (some ⟨w.heap.size, 0, none⟩) q q) (.mat (List.replicate (q : Int).toNat none) (List.replicate (q : Int).toNat []) 0 true) b → w.heap.size ≤ b := by
      rintro b (hb | ⟨h, hm, _⟩)
      · simp [Value.ownBlock] at hb
        omega
      · simp at hm
    refine ⟨_, w', _, hrun, (Turn.new rr hext _ (.slice (some ⟨w.heap.size, 0, none⟩) q q) ?_ hfb).step rr, ?_⟩
    · refine ⟨_, by simpa using hown, by simp, fun i1 h1 xs1 u1 q1 q2 q3 => ?_, fun i1 j1 h1 h2 q1 => ?_, fun h1 q1 => by simp at q1, by simp, by simpa using hq⟩
      · have hlt : i1 < q := by
          have := (List.getElem?_eq_some_iff.1 q1).1
          simpa using this
        rw [List.getElem?_replicate] at q1 q2
        rw [if_pos (by simpa using hlt)] at q1 q2
        cases q1
        cases q2
        have h3 := madeCells_get (E.zero .lrow).cells (q * 1) i1 (by omega) (by decide)
        rw [Nat.mul_one, q3] at h3
        have h4 : i1 % (E.zero .lrow).cells.size = 0 := Nat.mod_one _
        rw [h4] at h3
        refine ⟨?_, rfl⟩
        simpa [E.zero, Value.cells] using h3
      · rw [List.getElem?_replicate] at q1
        split at q1 <;> cases q1
    · refine ⟨by simp, fun c hc => ?_⟩
      have : c = 0 := by simpa [genOf, O.gen] using hc.symm
      subst this
      simp
  rename_i _ e k n k2 m _ he
  split at h
  case h_2 => cases h
  rename_i z hz
  cases h
  obtain ⟨rfl, h0, hb⟩ := hv
  simp only [AVRel] at hx hy
  subst hx hy
  obtain ⟨ht, i, hi, hzero, hsize, hbytes⟩ := hC.sl t e he
  obtain ⟨q, rfl⟩ := Int.eq_ofNat_of_zero_le h0
  have hbq : e.bytes * q ≤ 281474976710656 := by
    have : ((e.bytes * q : Nat) : Int) ≤ 281474976710656 := by rw [Int.natCast_mul]; exact hb
    omega
  have hbp : 0 < e.bytes := by cases e <;> simp [E.bytes]
  have hq : q ≤ maxLen := by
    have : q ≤ e.bytes * q := Nat.le_mul_of_pos_left q hbp
    rw [maxLen_num]; omega
  have hzs : e.zero.cells.size = e.size := by cases e <;> rfl
  obtain ⟨w', hrun, hown, hgr⟩ := run_make_full (P := C.P) w 0 t (C.tid e) i e.zero e.size ht hi hzero hsize k k2 q (by rw [hbytes]; exact hbq) hq (Nat.zero_le _)
  have hext : Ext (fun _ => False) w w' := (Ext.grownBy hgr (run_drawn _ hrun)).mono fun x hx => by cases hx
  obtain ⟨hzf, hsf⟩ := zero_fam e
  have hfb : ∀ b, fpo (.slice (some ⟨w.heap.size, 0, none⟩) q q) (.arr e.made (List.replicate (q : Int).toNat z) 0 true) b → w.heap.size ≤ b := by
    intro b hb
    simp [fpo, Value.ownBlock] at hb
    omega
  have hV := le_new (C := C) (obs := obs) (ρ := ρ) hext hfb
  refine ⟨_, w', _, hrun, (Turn.new rr hext _ (.slice (some ⟨w.heap.size, 0, none⟩) q q) ?_ hfb).step rr, ?_⟩
  · refine ⟨_, ?_, enc_replicate (u := e.zero) (n := q) (by have := zeroD_rel (V := C.V w' (obs ++ [.arr e.made (List.replicate (q : Int).toNat z) 0 true]) (fun i => if i = obs.length then .slice (some ⟨w.heap.size, 0, none⟩) q q else ρ i)) hz; rw [hzf] at this; exact this) (by rw [hsf]; exact hown.1) ?_, by simp, by simpa using hq⟩
    · rw [tid_fam hC, hsf]
      simpa using hown
    · intro j hj
      rw [hsf] at hj ⊢
      rw [madeCells_get _ _ _ hj (by rw [hzs]; exact e.size_pos), hzs]
  · refine ⟨by simp, fun c hc => ?_⟩
    have : c = 0 := by simpa [genOf, O.gen] using hc.symm
    subst this
    simp

/-! ### append -/

theorem convL_rel {V : Vw} {e' e : E} {ys : List e.D} {zs : List e'.D} (h : convL e' e ys = some zs) {i : Nat} (hi : i < ys.length) :
    ∃ hi' : i < zs.length, e'.size = e.size ∧ ∀ u, ElRel V e ys[i] u → ElRel V e' zs[i] u := by
  unfold convL at h
  split at h <;> simp at h <;> subst h
  · exact ⟨hi, rfl, fun u k => k⟩
  · exact ⟨hi, rfl, fun u k => k⟩
  · exact ⟨hi, rfl, fun u k => k⟩
  · exact ⟨hi, rfl, fun u k => k⟩
  · exact ⟨hi, rfl, fun u k => k⟩
  · exact ⟨by simpa using hi, rfl, fun u k => by have k2 := LRowRel.toRow k; simpa [ElRel] using k2⟩
  · exact ⟨hi, rfl, fun u k => RowRel.weaken k⟩
  · exact ⟨by simpa using hi, rfl, fun u k => by have k2 := (LRowRel.toRow k).weaken; simpa [ElRel] using k2⟩
  · exact ⟨hi, rfl, fun u k => k⟩
  · exact ⟨hi, rfl, fun u k => k⟩
  · exact ⟨hi, rfl, fun u k => k⟩

theorem convL_len {e' e : E} {ys : List e.D} {zs : List e'.D} (h : convL e' e ys = some zs) : zs.length = ys.length := by
  unfold convL at h
  split at h <;> simp at h <;> subst h <;> simp

/-- An append's source as the model reads it. -/
def SrcCells (w : World) (V : Vw) (e : E) (zs : List e.D) (v : Value) : Prop :=
  (zs = [] ∧ ∃ b c, v = .slice b 0 c) ∨
  ∃ a c news, v = .slice (some a) zs.length c ∧ (∀ j u, news[j]? = some u → w.cell? (a.add j) = some u) ∧ (∀ u ∈ news, u.oneCell' = true) ∧ Enc V e zs news

theorem Enc.conv {V : Vw} {e' e : E} {ys : List e.D} {zs : List e'.D} (h : convL e' e ys = some zs) {cs : List Value} (k : Enc V e ys cs) : Enc V e' zs cs := by
  have hl := convL_len h
  by_cases hz : ys.length = 0
  · have h1 := k.1
    rw [hz] at h1 hl
    exact ⟨by rw [hl]; simpa using h1, fun i hi => by omega⟩
  · have hs : e'.size = e.size := (convL_rel (V := V) h (i := 0) (by omega)).2.1
    refine ⟨by rw [hl, hs]; exact k.1, fun i hi => ?_⟩
    obtain ⟨u, hu, hc⟩ := k.2 i (by omega)
    obtain ⟨_, _, hr⟩ := convL_rel (V := V) h (i := i) (by omega)
    exact ⟨u, hr u hu, fun j hj => by rw [hs] at hj ⊢; exact hc j hj⟩

theorem SlRel.src {f : Bool} {e : E} {ys : List e.D} {v : Value} (h : SlRel (C.V w obs ρ) f e ys v) {e' : E} {zs : List e'.D} (hc : convL e' e ys = some zs) : SrcCells w (C.V w obs ρ) e' zs v := by
  obtain ⟨base, cap, hv, h1, h2, hx⟩ := h
  have hl := convL_len hc
  by_cases hz : ys.length = 0
  · exact .inl ⟨List.eq_nil_of_length_eq_zero (by omega), base, cap, by rw [hv, hz]⟩
  · obtain ⟨a, _, ha, _⟩ := hx 0 (by omega)
    have cellOf : ∀ j, j < ys.length * e.size → ∃ i k, j = i * e.size + k ∧ i < ys.length ∧ k < e.size := by
      intro j hj
      have hp := e.size_pos
      refine ⟨j / e.size, j % e.size, (Nat.div_add_mod' j e.size).symm, ?_, Nat.mod_lt _ hp⟩
      exact Nat.div_lt_of_lt_mul (by rw [Nat.mul_comm]; exact hj)
    have each : ∀ j, j < ys.length * e.size → ∃ u, w.cell? (a.add j) = some u ∧ u.oneCell' = true := by
      intro j hj
      obtain ⟨i, k, rfl, hi, hk⟩ := cellOf j hj
      obtain ⟨a', u, ha', _, hr, hcell⟩ := hx i hi
      rw [ha] at ha'
      cases ha'
      have hsz := hr.cells
      have hck := hcell k hk
      rw [Array.getElem?_eq_getElem (by omega)] at hck
      exact ⟨_, V_cell hck, hsz.2 _ (by simp)⟩
    refine .inr ⟨a, cap, (List.range (ys.length * e.size)).map (fun j => (w.cell? (a.add j)).getD undef), by rw [hv, ha, hl], ?_, ?_, ?_⟩
    · intro j u hj
      have hlt : j < ys.length * e.size := by
        rcases Nat.lt_or_ge j (ys.length * e.size) with h | h
        · exact h
        · rw [List.getElem?_eq_none (by simpa using h)] at hj; cases hj
      obtain ⟨u', hu', _⟩ := each j hlt
      simp [hlt, hu'] at hj
      rw [hu', hj]
    · intro u hu
      obtain ⟨j, hj, rfl⟩ := List.mem_map.1 hu
      obtain ⟨u', hu', h1⟩ := each j (List.mem_range.1 hj)
      simpa [hu'] using h1
    · refine Enc.conv hc ⟨by simp, fun i hi => ?_⟩
      obtain ⟨a', u, ha', _, hr, hcell⟩ := hx i hi
      rw [ha] at ha'
      cases ha'
      refine ⟨u, hr, fun k hk => ?_⟩
      have hlt : i * e.size + k < ys.length * e.size := by
        have : (i + 1) * e.size ≤ ys.length * e.size := Nat.mul_le_mul_right _ hi
        rw [Nat.add_mul] at this
        omega
      have hsz := hr.cells
      have hck := hcell k hk
      rw [Array.getElem?_eq_getElem (by omega)] at hck ⊢
      have := V_cell hck
      simp [hlt, this]

theorem srcL_sound {e' : E} {x : AV} {no : Option Nat} {zs : List e'.D} (rr : WRel C obs w ρ) {v : Value} (hx : AVRel (C.V w obs ρ) obs ρ x v) (h : srcL e' x obs no = some zs) :
    SrcCells w (C.V w obs ρ) e' zs v := by
  unfold srcL at h
  split at h
  · exact SlRel.src hx h
  · exact SlRel.src (LRowRel.toRow hx).toSl h
  · simp at h
    subst h
    exact .inl ⟨rfl, none, 0, hx⟩
  · simp at h
    subst h
    obtain ⟨a, c, hv, _⟩ := hx
    exact .inl ⟨rfl, a, c, hv⟩
  · rename_i id g
    split at h
    · cases h
    split at h
    case h_2 => cases h
    rename_i e ys g' nn ho
    split at h
    case isFalse => cases h
    rename_i hg
    subst hg
    obtain ⟨hρ, cs, hown, henc, hnn, hml⟩ := own_arr rr ho hx
    have hl := convL_len h
    have henc' := henc.conv h
    rcases hown.2 with ⟨hv, hz⟩ | ⟨b, cap, cur, hv, rest⟩
    · exact .inl ⟨List.eq_nil_of_length_eq_zero (by omega), none, 0, hv⟩
    · refine .inr ⟨⟨b, 0, none⟩, cap, cs, by rw [hv, hl], fun j u hj => hown.cells (g := b) (by rw [hv]; rfl) j u hj, fun u hu => ?_, henc'⟩
      obtain ⟨j, hj⟩ := List.getElem?_of_mem hu
      have hjl : j < cs.length := (List.getElem?_eq_some_iff.1 hj).1
      have hp := e.size_pos
      have hdiv : j / e.size < ys.length := Nat.div_lt_of_lt_mul (by rw [Nat.mul_comm]; have := henc.1; omega)
      obtain ⟨z, hz, hc⟩ := henc.2 (j / e.size) hdiv
      have hk := hc (j % e.size) (Nat.mod_lt _ hp)
      rw [Nat.div_add_mod', hj] at hk
      have hsz := hz.cells
      rw [Array.getElem?_eq_getElem (by rw [hsz.1]; exact Nat.mod_lt _ hp)] at hk
      have hk2 := Option.some.inj hk
      rw [hk2]
      exact hsz.2 _ (by simp)
  · cases h

theorem enc_append {V : Vw} {e : E} {xs ys : List e.D} {cs ds : List Value} (h : Enc V e xs cs) (k : Enc V e ys ds) : Enc V e (xs ++ ys) (cs ++ ds) := by
  refine ⟨by rw [List.length_append, List.length_append, h.1, k.1, Nat.add_mul], fun i hi => ?_⟩
  by_cases hlt : i < xs.length
  · obtain ⟨u, hu, hc⟩ := h.2 i hlt
    refine ⟨u, by rw [List.getElem_append_left hlt]; exact hu, fun j hj => ?_⟩
    rw [List.getElem?_append_left, hc j hj]
    rw [h.1]
    have : (i + 1) * e.size ≤ xs.length * e.size := Nat.mul_le_mul_right _ hlt
    rw [Nat.add_mul] at this
    omega
  · simp at hi
    obtain ⟨u, hu, hc⟩ := k.2 (i - xs.length) (by omega)
    refine ⟨u, by rw [List.getElem_append_right (by omega)]; exact hu, fun j hj => ?_⟩
    have h1 : xs.length * e.size ≤ i * e.size := Nat.mul_le_mul_right _ (by omega)
    rw [List.getElem?_append_right (by rw [h.1]; omega), ← hc j hj, h.1]
    congr 1
    rw [Nat.sub_mul]
    omega

theorem run_append_zero {t ty e : TypeId} {i : TypeInfo} (ht : C.P.underlying t = some (.slice e)) (hi : C.P.info? e = some i) {v : Value} {n : Nat} {cs : List Value} {size : Nat} (hown : w.ownsRow 0 e size v n cs) (b : Option Addr) (c : Nat) :
    (Builtin.append_ #[t, t] ty #[v, .slice b 0 c]).run C.P w = .ok v w := by
  rcases hown.2 with ⟨rfl, rfl⟩ | ⟨g, cap, cur, rfl, _, _, hnc, _⟩
  · cases b <;> simp [Builtin.append_, run_underlying ht, sizeOf, typeInfo, hi, Builtin.lenOf, Builtin.firstCells, loadCells, loadCellsFrom]
  · cases b <;> simp [Builtin.append_, run_underlying ht, sizeOf, typeInfo, hi, Builtin.lenOf, Builtin.firstCells, hnc, storeCells, loadCells, loadCellsFrom]

theorem append_core {t ty : TypeId} {e0 e : E} (hC : C.Ok) (he : C.Γ t = some e0) (hf : e.fam = e0.fam) {v u : Value} {xs zs : List e.D} {cs : List Value} (hown : w.ownsRow 0 (C.tid e) e.size v xs.length cs)
    (hb : (xs.length + zs.length) * e0.bytes ≤ 140737488355328) (hsrc : SrcCells w (C.V w obs ρ) e zs u) :
    ∃ v' w' ds, (Builtin.append_ #[t, t] ty #[v, u]).run C.P w = .ok v' w' ∧ w'.ownsRow 0 (C.tid e) e.size v' (xs ++ zs).length (cs ++ ds) ∧ Enc (C.V w obs ρ) e zs ds ∧ w.grownBy w' v.ownBlock ∧
      (zs.isEmpty = false → v' ≠ .slice none 0 0) ∧ (v ≠ .slice none 0 0 → v' ≠ .slice none 0 0) ∧ (∀ b, v'.ownBlock = some b → v.ownBlock = some b ∨ w.heap.size ≤ b) ∧ (xs ++ zs).length ≤ maxLen ∧ (∀ b, v.ownBlock = some b → v'.ownBlock = some b ∨ w'.heap[b]? = w.heap[b]?) := by
  obtain ⟨ht, i0, hi0, hz0, hs0, hb0⟩ := hC.sl t e0 he
  have htid : C.tid e = C.tid e0 := by
    cases e <;> cases e0 <;> simp [E.fam] at hf <;> first | rfl | (rename_i f; exact hC.same f) | (rename_i f; exact (hC.same f).symm) | (rename_i f g; exact (hC.same f).trans (hC.same g).symm)
  have hsz : e.size = e0.size := by cases e <;> cases e0 <;> simp [E.fam] at hf <;> rfl
  have hbp : 0 < e0.bytes := by cases e0 <;> simp [E.bytes]
  have hlen : (xs ++ zs).length = xs.length + zs.length := List.length_append
  have hmax : xs.length + zs.length ≤ maxLen := by
    have : xs.length + zs.length ≤ (xs.length + zs.length) * e0.bytes := Nat.le_mul_of_pos_right _ hbp
    rw [maxLen_num]; omega
  rcases hsrc with ⟨rfl, b, c, rfl⟩ | ⟨a, c, news, rfl, h1, h2, h3⟩
  · refine ⟨v, w, [], run_append_zero ht hi0 (by rw [← htid]; exact hown) b c, by simpa using hown, ⟨by simp, fun i hi => by simp at hi⟩, ⟨rfl, rfl, rfl, Nat.le_refl _, fun _ _ _ => rfl⟩, by simp, fun h => h, fun b h => .inl h, by rw [hlen]; exact hmax, fun b h => .inl h⟩
  · rw [htid, hsz] at hown
    have hl : news.length = zs.length * e0.size := by rw [← hsz]; exact h3.1
    obtain ⟨v', w', hrun, hown', hgr, hnil⟩ := run_append_own (P := C.P) w 0 t ty (C.tid e0) i0 e0.zero e0.size e0.bytes ht hi0 hz0 hs0 hb0 (by cases e0 <;> rfl) e0.size_pos v xs.length cs hown a zs.length c news hl h1 h2 hmax hb (Nat.zero_le _)
    refine ⟨v', w', news, hrun, by rw [hlen, htid, hsz]; exact hown', h3, hgr, ?_, fun h k => h (hnil.1 k).1, ?_, by rw [hlen]; exact hmax, ?_⟩
    · intro hz k
      have := (hnil.1 k).2
      have : zs = [] := List.eq_nil_of_length_eq_zero this
      subst this
      simp at hz
    · intro bb hbb
      by_cases hz : zs.length = 0
      · have hzz : zs = [] := List.eq_nil_of_length_eq_zero hz
        subst hzz
        have hr0 := run_append_zero (C := C) (ty := ty) ht hi0 hown (some a) c
        rw [hz] at hrun
        rw [hr0] at hrun
        cases hrun
        exact .inl hbb
      · have hpos : 0 < zs.length := Nat.pos_of_ne_zero hz
        have hmax' := hmax
        rw [maxLen_num] at hmax'
        rcases hown.2 with ⟨rfl, h0⟩ | ⟨g, cap, cur, rfl, _, hg, hnc, hcm, hcs, htake⟩
        · have hr0 := run_append_nil (P := C.P) w t ty (C.tid e0) i0 e0.zero ht hi0 hz0 a zs.length c news (by rw [hs0]; exact hl) h1 hpos (by omega) (by rw [hb0]; have := hb; rw [Nat.add_mul] at this; omega)
          rw [hr0] at hrun
          cases hrun
          simp [Value.ownBlock] at hbb
          exact .inr (by omega)
        · by_cases hroom : xs.length + zs.length ≤ cap
          · have hfit : xs.length * i0.size + news.length ≤ cur.size := by rw [hl, hcs, hs0, ← Nat.add_mul]; exact Nat.mul_le_mul_right _ hroom
            have hr0 := run_append_room (P := C.P) w t ty (C.tid e0) i0 ht hi0 g xs.length cap cur hg a zs.length c news (by rw [hs0]; exact hl) h1 h2 hroom hfit
            rw [hr0] at hrun
            cases hrun
            exact .inl hbb
          · have hr0 := run_append_grow (P := C.P) w t ty (C.tid e0) i0 e0.zero ht hi0 hz0 ⟨g, 0, none⟩ xs.length cap cs (by rw [hs0]; exact hown.1) (hown.cells (g := g) rfl) a zs.length c news (by rw [hs0]; exact hl) h1 (by omega) (by omega)
              (growslice_fits (by omega) (by rw [hb0]; exact hb))
            rw [hr0] at hrun
            cases hrun
            simp [Value.ownBlock] at hbb
            exact .inr (by omega)
    · intro bb hbb
      by_cases hz : zs.length = 0
      · have hzz : zs = [] := List.eq_nil_of_length_eq_zero hz
        subst hzz
        have hr0 := run_append_zero (C := C) (ty := ty) ht hi0 hown (some a) c
        rw [hz] at hrun
        rw [hr0] at hrun
        cases hrun
        exact .inl hbb
      · have hpos : 0 < zs.length := Nat.pos_of_ne_zero hz
        have hmax' := hmax
        rw [maxLen_num] at hmax'
        rcases hown.2 with ⟨rfl, h0⟩ | ⟨g, cap, cur, rfl, _, hg, hnc, hcm, hcs, htake⟩
        · have hr0 := run_append_nil (P := C.P) w t ty (C.tid e0) i0 e0.zero ht hi0 hz0 a zs.length c news (by rw [hs0]; exact hl) h1 hpos (by omega) (by rw [hb0]; have := hb; rw [Nat.add_mul] at this; omega)
          rw [hr0] at hrun
          cases hrun
          simp [Value.ownBlock] at hbb
        · by_cases hroom : xs.length + zs.length ≤ cap
          · have hfit : xs.length * i0.size + news.length ≤ cur.size := by rw [hl, hcs, hs0, ← Nat.add_mul]; exact Nat.mul_le_mul_right _ hroom
            have hr0 := run_append_room (P := C.P) w t ty (C.tid e0) i0 ht hi0 g xs.length cap cur hg a zs.length c news (by rw [hs0]; exact hl) h1 h2 hroom hfit
            rw [hr0] at hrun
            cases hrun
            exact .inl hbb
          · have hr0 := run_append_grow (P := C.P) w t ty (C.tid e0) i0 e0.zero ht hi0 hz0 ⟨g, 0, none⟩ xs.length cap cs (by rw [hs0]; exact hown.1) (hown.cells (g := g) rfl) a zs.length c news (by rw [hs0]; exact hl) h1 (by omega) (by omega)
              (growslice_fits (by omega) (by rw [hb0]; exact hb))
            rw [hr0] at hrun
            cases hrun
            refine .inr ?_
            have hlt : bb < w.heap.size := mem_lt_of_ownsRow hown hbb
            show (w.heap.push _)[bb]? = _
            rw [Array.getElem?_push, if_neg (by omega)]

theorem appendV_sound (hC : C.Ok) {t ty : TypeId} {x y : AV} {vc : Prop} {r : AV} {o : List O} (rr : WRel C obs w ρ) {u v : Value}
    (hx : AVRel (C.V w obs ρ) obs ρ x u) (hy : AVRel (C.V w obs ρ) obs ρ y v) (h : appendV (C.Γ t) x y obs = .ok vc r o) (hv : vc) :
    ∃ z w' ρ', (Builtin.append_ #[t, t] ty #[u, v]).run C.P w = .ok z w' ∧ Step C w w' obs o ρ ρ' ∧ AVRel (C.V w' o ρ') o ρ' r z := by
  unfold appendV at h
  split at h
  · rename_i _ e id g he
    split at h
    case h_3 => cases h
    case h_2 =>
      rename_i q xs fr g' nn ho
      split at h
      case isFalse => cases h
      rename_i hc
      obtain ⟨hg, hf⟩ := hc
      subst hg
      split at h
      case h_2 => cases h
      rename_i zs hz
      cases h
      obtain ⟨hρ, cs, hown, henc, hnn, hml, hq, ⟨cur, ty', f, hcur, hpre⟩, _⟩ := own_ap rr ho hx
      have hsrc := srcL_sound rr hy hz
      obtain ⟨v', w', ds, hrun, hown', hds, hgr, hn1, hn2, hblk, hmax, hold⟩ := append_core (ty := ty) (e := .lrow) hC he hf hown hv hsrc
      have hext : Ext (fun b => fpo (ρ id) (.ap q xs fr g nn) b) w w' := (Ext.grownBy hgr (run_drawn _ hrun)).mono fun b hb => by rw [fpo, ← hρ]; exact .inl hb
      have hb : ∀ b, fpo v' (.ap q (xs ++ zs) false (g + 1) (nn || !zs.isEmpty)) b → fpo (ρ id) (.ap q xs fr g nn) b ∨ w.heap.size ≤ b := by
        intro b hb
        rw [fpo, ← hρ]
        rcases hb with hb | hb
        · exact (hblk b hb).imp .inl (fun k => k)
        · exact .inl (.inr hb)
      have hV := le_one (C := C) ho hext hb
      have hlt : id < obs.length := (List.getElem?_eq_some_iff.1 ho).1
      have hcl : cs.length = xs.length := by have := henc.1; simpa [E.size] using this
      have hpre' : ∃ cur t f, w'.heap[hdB q]? = some (.cells cur t f) ∧ ∀ i, i < hdC q → cur[i]? = (cs ++ ds)[i]? := by
        have hap : ∀ i, i < hdC q → (cs ++ ds)[i]? = cs[i]? := fun i hi => by rw [List.getElem?_append_left (by omega)]
        have hblt : hdB q < w.heap.size := (Array.getElem?_eq_some_iff.1 hcur).1
        have keep : w'.heap[hdB q]? = w.heap[hdB q]? → ∃ cur t f, w'.heap[hdB q]? = some (.cells cur t f) ∧ ∀ i, i < hdC q → cur[i]? = (cs ++ ds)[i]? := fun e => ⟨cur, ty', f, by rw [e]; exact hcur, fun i hi => by rw [hap i hi]; exact hpre i hi⟩
        by_cases hbq : u.ownBlock = some (hdB q)
        · rcases hold _ hbq with h1 | h1
          · rcases hown'.2 with ⟨hn, _⟩ | ⟨k, cap, cur2, hv2, _, hg2, hc1, _, hc3, hc4⟩
            · rw [hn] at h1; simp [Value.ownBlock] at h1
            · rw [hv2] at h1
              have hk : k = hdB q := by simpa [Value.ownBlock] using h1
              subst hk
              refine ⟨cur2, _, _, hg2, fun i hi => ?_⟩
              have hlen : (xs ++ zs).length = xs.length + zs.length := List.length_append
              have := congrArg (fun l => l[i]?) hc4
              simp only [List.getElem?_take, E.size, Nat.mul_one] at this
              rw [if_pos (by omega)] at this
              simpa using this
          · exact keep h1
        · exact keep (hgr.block _ hblt (fun e => hbq e.symm))
      refine ⟨v', w', _, hrun, (Turn.one rr id (.ap q xs fr g nn) (.ap q (xs ++ zs) false (g + 1) (nn || !zs.isEmpty)) v' ho hext ?_ hb ?_).step rr, ?_⟩
      · refine ⟨cs ++ ds, hown', enc_append (henc.mono hV) (hds.mono hV), fun hnz => ?_, hmax, by simp; omega, hpre', by simp⟩
        rcases Bool.or_eq_true _ _ ▸ hnz with k | k
        · exact hn2 (hnn k)
        · exact hn1 (by simpa using k)
      · intro c' hc'
        simp [O.gen] at hc'
        exact ⟨g, by simp [O.gen], .inr (by omega)⟩
      · refine ⟨by simpa using hlt, fun c hc => ?_⟩
        have : c = g + 1 := by simpa [genOf, hlt, O.gen] using hc.symm
        subst this
        simp
    rename_i e' xs g' nn ho
    split at h
    case isFalse => cases h
    rename_i hc
    obtain ⟨hg, hf⟩ := hc
    subst hg
    split at h
    case h_2 => cases h
    rename_i zs hz
    cases h
    obtain ⟨hρ, cs, hown, henc, hnn, hml⟩ := own_arr rr ho hx
    have hsrc := srcL_sound rr hy hz
    obtain ⟨v', w', ds, hrun, hown', hds, hgr, hn1, hn2, hblk, hmax, _⟩ := append_core (ty := ty) hC he hf hown hv hsrc
    have hext : Ext (fun b => fpo (ρ id) (.arr e' xs g nn) b) w w' := (Ext.grownBy hgr (run_drawn _ hrun)).mono fun b hb => by rw [fpo, ← hρ]; exact hb
    have hb : ∀ b, fpo v' (.arr e' (xs ++ zs) (g + 1) (nn || !zs.isEmpty)) b → fpo (ρ id) (.arr e' xs g nn) b ∨ w.heap.size ≤ b := by
      intro b hb
      rw [fpo, ← hρ]
      exact hblk b hb
    have hV := le_one (C := C) ho hext hb
    have hlt : id < obs.length := (List.getElem?_eq_some_iff.1 ho).1
    refine ⟨v', w', _, hrun, (Turn.one rr id (.arr e' xs g nn) (.arr e' (xs ++ zs) (g + 1) (nn || !zs.isEmpty)) v' ho hext ?_ hb ?_).step rr, ?_⟩
    · refine ⟨cs ++ ds, hown', enc_append (henc.mono hV) (hds.mono hV), fun hnz => ?_, hmax⟩
      rcases Bool.or_eq_true _ _ ▸ hnz with k | k
      · exact hn2 (hnn k)
      · exact hn1 (by simpa using k)
    · intro c' hc'
      simp [O.gen] at hc'
      exact ⟨g, by simp [O.gen], .inr (by omega)⟩
    · refine ⟨by simpa using hlt, fun c hc => ?_⟩
      have : c = g + 1 := by simpa [genOf, hlt, O.gen] using hc.symm
      subst this
      simp
  · rename_i _ e he
    split at h
    case h_2 => cases h
    rename_i zs hz
    cases h
    simp only [AVRel] at hx
    subst hx
    have hsrc := srcL_sound rr hy hz
    have hown : w.ownsRow 0 (C.tid e) e.size (.slice none 0 0) ([] : List e.D).length [] := World.ownsRow_nil _ _ _ _
    obtain ⟨v', w', ds, hrun, hown', hds, hgr, hn1, hn2, hblk, hmax, _⟩ := append_core (ty := ty) (xs := []) hC he rfl hown (by simpa using hv) hsrc
    have hext : Ext (fun _ => False) w w' := (Ext.grownBy hgr (run_drawn _ hrun)).mono fun b hb => by simp [Value.ownBlock] at hb
    have hb : ∀ b, fpo v' (.arr e zs 0 (!zs.isEmpty)) b → w.heap.size ≤ b := by
      intro b hb
      rcases hblk b hb with k | k
      · simp [Value.ownBlock] at k
      · exact k
    have hV := le_new (C := C) (obs := obs) (ρ := ρ) hext hb
    refine ⟨v', w', _, hrun, (Turn.new rr hext _ v' ?_ hb).step rr, ?_⟩
    · exact ⟨ds, by simpa using hown', hds.mono hV, fun hnz => hn1 (by simpa using hnz), by simpa using hmax⟩
    · refine ⟨by simp, fun c hc => ?_⟩
      have : c = 0 := by simpa [genOf, O.gen] using hc.symm
      subst this
      simp
  · cases h

end sound
end Go.Aw

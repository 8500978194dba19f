/- The abstract values of the walk, how they stand for the model's values in a world, and how that carries over as the world grows. No program is named here. -/
import Derived.Calls
import Derived.Laws.AppendOwn
import Derived.Laws.MakeOwn
import Derived.Laws.OwnMore
import Derived.Laws.CopyOwn
import Derived.Laws.Cells
import Derived.Laws.Entries
import Derived.Laws.Slices
import Derived.Below
import Derived.IntWalk
set_option linter.unusedVariables false
set_option linter.unusedSimpArgs false
namespace Go.Aw
open Go

/-- Kinds of elements of slices. -/
inductive E where
  | int | byte | bool | str | row (f : Bool) | lrow | vec | pr
  deriving DecidableEq

@[reducible] def E.D : E → Type
  | .int => Int
  | .byte => Int
  | .bool => Bool
  | .str => List UInt8
  | .row _ => List Int
  | .lrow => Nat × List Int
  | .vec => List Int
  | .pr => (Nat × List Int) × (Nat × List Int)

def E.size : E → Nat
  | .vec => 4
  | .pr => 2
  | _ => 1
def E.bytes : E → Nat
  | .int => 8
  | .byte => 1
  | .bool => 1
  | .str => 16
  | .row _ => 24
  | .lrow => 24
  | .vec => 32
  | .pr => 48
def E.zero : E → Value
  | .int => .int .i64 0
  | .byte => .int .u8 0
  | .bool => .bool false
  | .str => .string ByteArray.empty
  | .row _ => .slice none 0 0
  | .lrow => .slice none 0 0
  | .vec => .agg #[.int .i64 0, .int .i64 0, .int .i64 0, .int .i64 0]
  | .pr => .agg #[.slice none 0 0, .slice none 0 0]

/-- What can be read and is not written: the blocks that nobody here owns; which of them are of this call's own making; the number of the type int. -/
structure Vw where
  H : Nat → Option Obj
  Fr : Nat → Prop
  ti : TypeId

def Vw.cell (V : Vw) (a : Addr) : Option Value :=
  match V.H a.block with
  | some (.cells c _ _) => if a.spot.isSome then none else c[a.off]?
  | _ => none

structure Vw.le (V V' : Vw) : Prop where
  H : ∀ b o, V.H b = some o → V'.H b = some o
  Fr : ∀ b, V.Fr b → V'.Fr b
  ti : V'.ti = V.ti

theorem Vw.le.refl (V : Vw) : V.le V := ⟨fun _ _ h => h, fun _ h => h, rfl⟩
theorem Vw.le.trans {A B C : Vw} (h : A.le B) (k : B.le C) : A.le C :=
  ⟨fun b o x => k.H b o (h.H b o x), fun b x => k.Fr b (h.Fr b x), k.ti.trans h.ti⟩

theorem Vw.le.cell {V V' : Vw} (h : V.le V') {a : Addr} {v : Value} (hc : V.cell a = some v) : V'.cell a = some v := by
  unfold Vw.cell at *
  cases hb : V.H a.block with
  | none => rw [hb] at hc; simp at hc
  | some o => rw [hb] at hc; rw [h.H _ _ hb]; exact hc

/-- A slice of integers that is only read. -/
def RowRel (V : Vw) (f : Bool) (xs : List Int) (v : Value) : Prop :=
  ∃ base cap, v = .slice base xs.length cap ∧ xs.length ≤ cap ∧ cap ≤ maxLen ∧
    ∀ i (_ : i < xs.length), ∃ a, base = some a ∧ (f = true → V.Fr a.block) ∧ V.cell (a.add i) = some (.int .i64 xs[i])

/-- A slice of integers that owns its block, which bears the number l. -/
def LRowRel (V : Vw) (l : Nat) (xs : List Int) (v : Value) : Prop :=
  ∃ cap cur, v = .slice (some ⟨l, 0, none⟩) xs.length cap ∧ V.Fr l ∧ V.H l = some (.cells cur V.ti (0, 0)) ∧ xs.length ≤ cap ∧ cap ≤ maxLen ∧
    cur.size = cap ∧ cur.toList.take xs.length = xs.map (Value.int .i64)

def ElRel (V : Vw) : (e : E) → e.D → Value → Prop
  | .int, n, v => v = .int .i64 n
  | .byte, n, v => v = .int .u8 n
  | .bool, b, v => v = .bool b
  | .str, s, v => v = .string ⟨s.toArray⟩ ∧ s.length ≤ maxLen
  | .row f, xs, v => RowRel V f xs v
  | .lrow, (l, xs), v => LRowRel V l xs v
  | .vec, xs, v => v = .agg (xs.map (Value.int .i64)).toArray ∧ xs.length = 4
  | .pr, ((l, xs), (m, ys)), v => ∃ u1 u2, v = .agg #[u1, u2] ∧ LRowRel V l xs u1 ∧ LRowRel V m ys u2

theorem RowRel.mono {V V' : Vw} (h : V.le V') {f : Bool} {xs : List Int} {v : Value} : RowRel V f xs v → RowRel V' f xs v
  | ⟨base, cap, hv, h1, h2, hx⟩ => ⟨base, cap, hv, h1, h2, fun i hi =>
      let ⟨a, ha, hf, hc⟩ := hx i hi
      ⟨a, ha, fun e => h.Fr _ (hf e), h.cell hc⟩⟩

theorem LRowRel.mono {V V' : Vw} (h : V.le V') {l : Nat} {xs : List Int} {v : Value} : LRowRel V l xs v → LRowRel V' l xs v
  | ⟨cap, cur, hv, hf, hb, rest⟩ => ⟨cap, cur, hv, h.Fr _ hf, by rw [h.ti]; exact h.H _ _ hb, rest⟩

theorem ElRel.mono {V V' : Vw} (h : V.le V') : {e : E} → {d : e.D} → {v : Value} → ElRel V e d v → ElRel V' e d v
  | .int, _, _, k => k
  | .byte, _, _, k => k
  | .bool, _, _, k => k
  | .str, _, _, k => k
  | .row _, _, _, k => RowRel.mono h k
  | .lrow, (_, _), _, k => LRowRel.mono h k
  | .vec, _, _, k => k
  | .pr, ((_, _), (_, _)), _, ⟨u1, u2, hv, h1, h2⟩ => ⟨u1, u2, hv, LRowRel.mono h h1, LRowRel.mono h h2⟩

theorem RowRel.oneCell {V : Vw} {f : Bool} {xs : List Int} {v : Value} (h : RowRel V f xs v) : v.oneCell' = true := by
  obtain ⟨b, c, rfl, _⟩ := h; rfl
theorem LRowRel.oneCell {V : Vw} {l : Nat} {xs : List Int} {v : Value} (h : LRowRel V l xs v) : v.oneCell' = true := by
  obtain ⟨b, c, rfl, _⟩ := h; rfl

theorem cells_oneCell {v : Value} (h : v.oneCell' = true) : v.cells = #[v] := by
  cases v <;> first | rfl | simp [Value.oneCell'] at h

/-- A value of a kind has that kind's number of cells, each of one cell. -/
theorem ElRel.cells {V : Vw} : {e : E} → {d : e.D} → {v : Value} → ElRel V e d v → v.cells.size = e.size ∧ ∀ u ∈ v.cells.toList, u.oneCell' = true
  | .int, _, _, k => by cases k; simp [Value.cells, E.size, Value.oneCell']
  | .byte, _, _, k => by cases k; simp [Value.cells, E.size, Value.oneCell']
  | .bool, _, _, k => by cases k; simp [Value.cells, E.size, Value.oneCell']
  | .str, _, _, k => by obtain ⟨rfl, _⟩ := k; simp [Value.cells, E.size, Value.oneCell']
  | .row _, _, v, k => by have := RowRel.oneCell k; rw [cells_oneCell this]; simp [E.size, this]
  | .lrow, (_, _), v, k => by have := LRowRel.oneCell k; rw [cells_oneCell this]; simp [E.size, this]
  | .vec, xs, _, k => by
      obtain ⟨rfl, h4⟩ := k
      simp only [Value.cells, E.size]
      refine ⟨by simp [h4], ?_⟩
      simp [Value.oneCell']
  | .pr, ((_, _), (_, _)), _, ⟨u1, u2, hv, h1, h2⟩ => by
      subst hv
      simp [Value.cells, E.size, LRowRel.oneCell h1, LRowRel.oneCell h2]

/-- A row of cells bears the elements. -/
def Enc (V : Vw) (e : E) (xs : List e.D) (cs : List Value) : Prop :=
  cs.length = xs.length * e.size ∧ ∀ i (h : i < xs.length), ∃ u, ElRel V e xs[i] u ∧ ∀ j, j < e.size → cs[i * e.size + j]? = u.cells[j]?

theorem Enc.mono {V V' : Vw} (h : V.le V') {e : E} {xs : List e.D} {cs : List Value} (k : Enc V e xs cs) : Enc V' e xs cs :=
  ⟨k.1, fun i hi => let ⟨u, h1, h2⟩ := k.2 i hi; ⟨u, h1.mono h, h2⟩⟩

/-- A slice that is only read. -/
def SlRel (V : Vw) (f : Bool) (e : E) (xs : List e.D) (v : Value) : Prop :=
  ∃ base cap, v = .slice base xs.length cap ∧ xs.length ≤ cap ∧ cap ≤ maxLen ∧
    ∀ i (h : i < xs.length), ∃ a u, base = some a ∧ (f = true → V.Fr a.block) ∧ ElRel V e xs[i] u ∧ ∀ j, j < e.size → V.cell (a.add (i * e.size + j)) = u.cells[j]?

theorem SlRel.mono {V V' : Vw} (h : V.le V') {f : Bool} {e : E} {xs : List e.D} {v : Value} : SlRel V f e xs v → SlRel V' f e xs v
  | ⟨base, cap, hv, h1, h2, hx⟩ => ⟨base, cap, hv, h1, h2, fun i hi => by
      obtain ⟨a, u, ha, hf, hr, hc⟩ := hx i hi
      refine ⟨a, u, ha, fun k => h.Fr _ (hf k), hr.mono h, fun j hj => ?_⟩
      have hsz := hr.cells.1
      have h3 := hc j hj
      rw [Array.getElem?_eq_getElem (by omega)] at h3 ⊢
      exact h.cell h3⟩

theorem size_int : E.size .int = 1 := rfl

theorem RowRel.toSl {V : Vw} {f : Bool} {xs : List Int} {v : Value} (h : RowRel V f xs v) : SlRel V f .int xs v := by
  obtain ⟨base, cap, hv, h1, h2, hx⟩ := h
  refine ⟨base, cap, hv, h1, h2, fun i hi => ?_⟩
  obtain ⟨a, ha, hf, hc⟩ := hx i hi
  refine ⟨a, .int .i64 xs[i], ha, hf, rfl, fun j hj => ?_⟩
  have : j = 0 := by simp [E.size] at hj; omega
  subst this
  simpa [E.size, Value.cells] using hc

theorem SlRel.toRow {V : Vw} {f : Bool} {xs : List Int} {v : Value} (h : SlRel V f .int xs v) : RowRel V f xs v := by
  obtain ⟨base, cap, hv, h1, h2, hx⟩ := h
  refine ⟨base, cap, hv, h1, h2, fun i hi => ?_⟩
  obtain ⟨a, u, ha, hf, hr, hc⟩ := hx i hi
  cases hr
  refine ⟨a, ha, hf, ?_⟩
  have := hc 0 (by simp [E.size])
  simpa [E.size, Value.cells] using this

theorem add_add (a : Addr) (m n : Nat) : (a.add m).add n = a.add (m + n) := by
  unfold Addr.add
  by_cases hm : m = 0
  · subst hm; simp
  · by_cases hn : n = 0
    · subst hn; simp [hm]
    · simp [hm, hn, Nat.add_assoc]
theorem add_block (a : Addr) (n : Nat) : (a.add n).block = a.block := by unfold Addr.add; split <;> rfl
theorem add_plain (b o n : Nat) : (⟨b, o, none⟩ : Addr).add n = ⟨b, o + n, none⟩ := by
  unfold Addr.add; split <;> simp_all

theorem SlRel.weaken {V : Vw} {f : Bool} {e : E} {xs : List e.D} {v : Value} (h : SlRel V f e xs v) : SlRel V false e xs v := by
  obtain ⟨base, cap, hv, h1, h2, hx⟩ := h
  exact ⟨base, cap, hv, h1, h2, fun i hi => let ⟨a, u, ha, _, r⟩ := hx i hi; ⟨a, u, ha, by simp, r⟩⟩

theorem RowRel.weaken {V : Vw} {f : Bool} {xs : List Int} {v : Value} (h : RowRel V f xs v) : RowRel V false xs v :=
  (h.toSl.weaken).toRow

/-- A piece of a slice that is only read. -/
theorem SlRel.piece {V : Vw} {f : Bool} {e : E} {xs : List e.D} {base : Option Addr} {len cap : Nat} (h : SlRel V f e xs (.slice base len cap)) {lo hi m : Nat} (h1 : lo ≤ hi) (h2 : hi ≤ xs.length) (hm : hi ≤ m) (hm2 : m ≤ maxLen)
    {base' : Option Addr} (hb : lo < hi → base' = base.map (·.add (lo * e.size))) : SlRel V f e ((xs.drop lo).take (hi - lo)) (.slice base' (hi - lo) (m - lo)) := by
  obtain ⟨b, c, hv, h3, h4, hx⟩ := h
  cases hv
  have hl : ((xs.drop lo).take (hi - lo)).length = hi - lo := by simp; omega
  refine ⟨base', m - lo, by rw [hl], by rw [hl]; omega, by omega, fun i hi' => ?_⟩
  rw [hl] at hi'
  obtain ⟨a, u, ha, hf, hr, hc⟩ := hx (lo + i) (by omega)
  refine ⟨a.add (lo * e.size), u, by rw [hb (by omega), ha]; rfl, by rw [add_block]; exact hf, by simpa using hr, fun j hj => ?_⟩
  rw [add_add, ← hc j hj, Nat.add_mul, Nat.add_assoc]

theorem LRowRel.toRow {V : Vw} {l : Nat} {xs : List Int} {v : Value} (h : LRowRel V l xs v) : RowRel V true xs v := by
  obtain ⟨cap, cur, hv, hf, hb, h1, h2, h3, h4⟩ := h
  refine ⟨some ⟨l, 0, none⟩, cap, hv, h1, h2, fun i hi => ⟨⟨l, 0, none⟩, rfl, fun _ => hf, ?_⟩⟩
  rw [add_plain]
  have : (cur.toList.take xs.length)[i]? = (xs.map (Value.int .i64))[i]? := by rw [h4]
  rw [List.getElem?_take, if_pos hi] at this
  simp [Vw.cell, hb]
  simpa [hi] using this

end Go.Aw

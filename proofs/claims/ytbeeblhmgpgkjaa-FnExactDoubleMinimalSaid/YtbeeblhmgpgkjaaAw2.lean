/- The abstract state of a walk, and what it says of a frame and a world. -/
import Derived.Test.YtbeeblhmgpgkjaaAw1
set_option linter.unusedVariables false
set_option linter.unusedSimpArgs false
namespace Go.Aw
open Go
open Go.RowKit (Below)

/-- Abstract values. -/
inductive AV where
  | junk
  | int (k : IntKind) (n : Int)
  | bool (b : Bool)
  | str (s : List UInt8)
  | sl (f : Bool) (e : E) (xs : List e.D)
  | lr (l : Nat) (xs : List Int)
  | vec (xs : List Int)
  | nils
  | own (id g : Nat)
  | elt (id g s k : Nat)
  | relt (f : Bool) (e : E) (d : e.D)
  | hdr (h : Option Nat) (n : Nat)
  | emp (b : Bool)
  | fn (f : Nat)

/-- Owned objects. -/
inductive O where
  | dead
  | arr (e : E) (xs : List e.D) (g : Nat) (nn : Bool)
  | mat (hs : List (Option Nat)) (rows : List (List Int)) (g : Nat) (nn : Bool)

def O.gen : O → Option Nat
  | .dead => none
  | .arr _ _ g _ => some g
  | .mat _ _ g _ => some g

/-- A row's head: its block and its capacity in one number; none: a nil row. -/
def hdB (h : Nat) : Nat := h / 18446744073709551616
def hdC (h : Nat) : Nat := h % 18446744073709551616

/-- A row of an owned matrix. -/
def MRel (w : World) (ti : TypeId) (h : Option Nat) (xs : List Int) (v : Value) : Prop :=
  match h with
  | none => v = .slice none 0 0 ∧ xs = []
  | some h => v = .slice (some ⟨hdB h, 0, none⟩) xs.length (hdC h) ∧ ∃ cur, w.heap[hdB h]? = some (.cells cur ti (0, 0)) ∧ xs.length ≤ hdC h ∧ hdC h ≤ maxLen ∧ cur.size = hdC h ∧ cur.toList.take xs.length = xs.map (Value.int .i64)

/-- A frame's slot: one value, or the several results of a call. -/
inductive Sl where
  | v (x : AV)
  | t (l : List AV)

structure St where
  n : Nat
  fr : List (Nat × Bool × Sl)
  obs : List O

def genOf (obs : List O) (id : Nat) : Option Nat := (obs[id]?).bind O.gen

def AVRel (V : Vw) (obs : List O) (ρ : Nat → Value) : AV → Value → Prop
  | .junk, _ => True
  | .int k n, v => v = .int k n
  | .bool b, v => v = .bool b
  | .str s, v => v = .string ⟨s.toArray⟩
  | .sl f e xs, v => SlRel V f e xs v
  | .lr l xs, v => LRowRel V l xs v
  | .vec xs, v => v = .agg (xs.map (Value.int .i64)).toArray
  | .nils, v => v = .slice none 0 0
  | .own id g, v => id < obs.length ∧ ∀ c, genOf obs id = some c → g ≤ c ∧ (g = c → v = ρ id)
  | .elt id g s k, v => id < obs.length ∧ ∀ c, genOf obs id = some c → g ≤ c ∧ (g = c → ∃ a len cap, ρ id = .slice (some a) len cap ∧ k < len ∧ v = .pointer (some (a.add (k * s))))
  | .relt f e d, v => ∃ a u, v = .pointer (some a) ∧ (f = true → V.Fr a.block) ∧ ElRel V e d u ∧ ∀ j, j < e.size → V.cell (a.add j) = u.cells[j]?
  | .hdr h n, v => v = (match h with | none => .slice none 0 0 | some h => .slice (some ⟨hdB h, 0, none⟩) n (hdC h))
  | .emp b, v => ∃ a c, v = .slice a 0 c ∧ c ≤ maxLen ∧ a.isNone = b
  | .fn f, v => v = .func (.func f) #[] #[]

def SlotRel (V : Vw) (obs : List O) (ρ : Nat → Value) : Sl → Value → Prop
  | .v x, v => AVRel V obs ρ x v
  | .t l, v => ∃ vs : List Value, v = .tuple vs.toArray ∧ vs.length = l.length ∧ ∀ (i : Nat) (x : AV) (y : Value), l[i]? = some x → vs[i]? = some y → AVRel V obs ρ x y

/-- Plain types. -/
inductive BT where
  | int (k : IntKind) | bool | str

def BT.desc : BT → TypeDesc
  | .int k => .int k
  | .bool => .bool
  | .str => .string

/-- What is fixed in one call's walk. -/
structure Ctx where
  P : Program
  fn : Func
  R : Ending → World → Prop
  w0 : World
  M : Nat → Prop
  tid : E → TypeId
  Γ : TypeId → Option E
  bt : TypeId → Option BT
  pin : List Value

/-- The tables' facts that the walk leans on. -/
structure Ctx.Ok (C : Ctx) : Prop where
  sl : ∀ t e, C.Γ t = some e → C.P.underlying t = some (.slice (C.tid e)) ∧ ∃ i, C.P.info? (C.tid e) = some i ∧ i.zero = some e.zero ∧ i.size = e.size ∧ i.bytes = e.bytes
  slc : ∀ t e, C.Γ t = some e → ∃ i, C.P.info? t = some i ∧ i.size = 1
  bt : ∀ t b, C.bt t = some b → C.P.underlying t = some b.desc ∧ ∃ i, C.P.info? t = some i ∧ i.size = 1
  same : ∀ f, C.tid (.row f) = C.tid .lrow
  mixed : C.P.follows .mixedOrders = true

/-- Types of one cell. -/
def Ctx.sc (C : Ctx) (t : TypeId) : Bool := (C.bt t).isSome || (C.Γ t).isSome

def Ctx.Fr (C : Ctx) (b : Nat) : Prop := C.w0.heap.size ≤ b ∨ C.M b

def fpo (v : Value) : O → Nat → Prop
  | .dead, _ => False
  | .arr _ _ _ _, b => v.ownBlock = some b
  | .mat hs _ _ _, b => v.ownBlock = some b ∨ ∃ h, some h ∈ hs ∧ hdB h = b

/-- The blocks that are owned. -/
def Own (obs : List O) (ρ : Nat → Value) (b : Nat) : Prop := ∃ id o, obs[id]? = some o ∧ fpo (ρ id) o b

open Classical in
noncomputable def mask (w : World) (obs : List O) (ρ : Nat → Value) (b : Nat) : Option Obj := if Own obs ρ b then none else w.heap[b]?

noncomputable def Ctx.V (C : Ctx) (w : World) (obs : List O) (ρ : Nat → Value) : Vw := ⟨mask w obs ρ, C.Fr, C.tid .int⟩

def ORel (tid : E → TypeId) (w : World) (V : Vw) (v : Value) : O → Prop
  | .dead => True
  | .arr e xs _ nn => ∃ cs, w.ownsRow 0 (tid e) e.size v xs.length cs ∧ Enc V e xs cs ∧ (nn = true → v ≠ .slice none 0 0) ∧ xs.length ≤ maxLen
  | .mat hs rows _ nn => ∃ cs, w.ownsRow 0 (tid .lrow) 1 v rows.length cs ∧ hs.length = rows.length ∧ (∀ (i : Nat) (h : Option Nat) (xs : List Int) (u : Value), hs[i]? = some h → rows[i]? = some xs → cs[i]? = some u → MRel w (tid .int) h xs u) ∧
      (∀ (i j h h' : Nat), hs[i]? = some (some h) → hs[j]? = some (some h') → hdB h = hdB h' → i = j) ∧ (∀ h, some h ∈ hs → v.ownBlock ≠ some (hdB h)) ∧ (nn = true → v ≠ .slice none 0 0) ∧ rows.length ≤ maxLen

def look (s : Nat) : List (Nat × Bool × Sl) → Option (Bool × Sl)
  | [] => none
  | (k, x) :: r => if s == k then some x else look s r

/-- What the state says of the world. -/
structure WRel (C : Ctx) (obs : List O) (w : World) (ρ : Nat → Value) : Prop where
  os : ∀ id o, obs[id]? = some o → ORel C.tid w (C.V w obs ρ) (ρ id) o
  dis : ∀ i j o o' b, obs[i]? = some o → obs[j]? = some o' → fpo (ρ i) o b → fpo (ρ j) o' b → i = j
  own : ∀ b, Own obs ρ b → C.Fr b
  os0 : w.os = C.w0.os
  tape : w.tape = C.w0.tape
  output : w.output = C.w0.output
  grow : C.w0.heap.size ≤ w.heap.size
  kept : ∀ b, b < C.w0.heap.size → ¬ C.M b → w.heap[b]? = C.w0.heap[b]?

structure Rel (C : Ctx) (σ : St) (a : Act) (w : World) (ρ : Nat → Value) : Prop where
  defers : a.defers = []
  size : a.tmps.size = σ.n
  fr : ∀ s ex x, look s σ.fr = some (ex, x) → (ex = true → SlotRel (C.V w σ.obs ρ) σ.obs ρ x (a.tmps.getD s undef)) ∧ (ex = false → a.tmps.getD s undef = undef)
  w : WRel C σ.obs w ρ
  pin : ∀ (j : Nat) (v : Value), C.pin[j]? = some v → j < σ.obs.length ∧ (genOf σ.obs j = some 0 → ρ j = v)

/-- One step of the world: only the blocks of S and new ones may differ. -/
structure Ext (S : Nat → Prop) (w w' : World) : Prop where
  os : w'.os = w.os
  tape : w'.tape = w.tape
  output : w'.output = w.output
  size : w.heap.size ≤ w'.heap.size
  block : ∀ b, b < w.heap.size → ¬ S b → w'.heap[b]? = w.heap[b]?

theorem Ext.refl (S : Nat → Prop) (w : World) : Ext S w w := ⟨rfl, rfl, rfl, Nat.le_refl _, fun _ _ _ => rfl⟩
theorem Ext.trans {S : Nat → Prop} {a b c : World} (h : Ext S a b) (k : Ext S b c) : Ext S a c :=
  ⟨k.os.trans h.os, k.tape.trans h.tape, k.output.trans h.output, Nat.le_trans h.size k.size, fun i hi hs => (k.block i (Nat.lt_of_lt_of_le hi h.size) hs).trans (h.block i hi hs)⟩
theorem Ext.mono {S T : Nat → Prop} {a b : World} (h : Ext S a b) (k : ∀ x, S x → T x) : Ext T a b :=
  ⟨h.os, h.tape, h.output, h.size, fun i hi hs => h.block i hi (fun x => hs (k i x))⟩
theorem Ext.drew (S : Nat → Prop) (w : World) : Ext S w { w with drawn := w.drawn + 1 } := ⟨rfl, rfl, rfl, Nat.le_refl _, fun _ _ _ => rfl⟩
theorem Ext.alloc (S : Nat → Prop) (w : World) (o : Obj) : Ext S w (w.alloc o) :=
  ⟨rfl, rfl, rfl, by simp, fun b hb _ => World.alloc_eq w o ▸ by show (w.heap.push o)[b]? = _; rw [Array.getElem?_push, if_neg (by omega)]⟩
theorem Ext.grownBy {w w' : World} {r : Option Nat} (h : w.grownBy w' r) : Ext (fun b => r = some b) w w' :=
  ⟨h.os, h.tape, h.output, h.size, fun b hb hs => h.block b hb (fun e => hs e.symm)⟩

theorem mem_lt_of_ownsRow {w : World} {base e size : Nat} {v : Value} {n : Nat} {xs : List Value} (h : w.ownsRow base e size v n xs) {b : Nat} (hb : v.ownBlock = some b) : b < w.heap.size :=
  (h.lt b hb).2

theorem ORel.lt {tid : E → TypeId} {w : World} {V : Vw} {v : Value} {o : O} (h : ORel tid w V v o) {b : Nat} (hb : fpo v o b) : b < w.heap.size := by
  cases o with
  | dead => simp [fpo] at hb
  | arr e xs g nn => obtain ⟨cs, h1, _⟩ := h; exact mem_lt_of_ownsRow h1 hb
  | mat hs rows g nn =>
    obtain ⟨cs, h1, h2, h3, _⟩ := h
    rcases hb with hb | ⟨h, hm, rfl⟩
    · exact mem_lt_of_ownsRow h1 hb
    · obtain ⟨i, hi⟩ := List.getElem?_of_mem hm
      have hlt : i < hs.length := (List.getElem?_eq_some_iff.1 hi).1
      have hc : cs.length = rows.length := by have := h1.1; omega
      obtain ⟨_, cur, hg, _⟩ := h3 i (some h) rows[i] cs[i] hi (by simp) (by simp)
      exact (Array.getElem?_eq_some_iff.1 hg).1

theorem MRel.kept {w w' : World} {ti : TypeId} {h : Option Nat} {xs : List Int} {v : Value} (k : MRel w ti h xs v) (hw : ∀ x, h = some x → w'.heap[hdB x]? = w.heap[hdB x]?) : MRel w' ti h xs v := by
  cases h with
  | none => exact k
  | some h =>
    obtain ⟨h1, cur, hg, rest⟩ := k
    exact ⟨h1, cur, by rw [hw h rfl]; exact hg, rest⟩

theorem ownsRow_kept {w w' : World} {e size : Nat} {v : Value} {n : Nat} {cs : List Value} (h1 : w.ownsRow 0 e size v n cs) (hw : ∀ b, v.ownBlock = some b → w'.heap[b]? = w.heap[b]?) : w'.ownsRow 0 e size v n cs := by
  refine ⟨h1.1, ?_⟩
  rcases h1.2 with hn | ⟨k, cap, cur, hv, hb, hg, rest⟩
  · exact .inl hn
  · refine .inr ⟨k, cap, cur, hv, hb, ?_, rest⟩
    subst hv
    rw [hw k rfl]
    exact hg

theorem ORel.kept {tid : E → TypeId} {w w' : World} {V V' : Vw} {v : Value} {o : O} (h : ORel tid w V v o) (hV : V.le V') {S : Nat → Prop} (hx : Ext S w w') (hS : ∀ b, fpo v o b → ¬ S b) :
    ORel tid w' V' v o := by
  cases o with
  | dead => trivial
  | arr e xs g nn =>
    obtain ⟨cs, h1, h2, h3⟩ := h
    refine ⟨cs, ?_, h2.mono hV, h3⟩
    refine ⟨h1.1, ?_⟩
    rcases h1.2 with hn | ⟨k, cap, cur, hv, hb, hg, rest⟩
    · exact .inl hn
    · refine .inr ⟨k, cap, cur, hv, hb, ?_, rest⟩
      subst hv
      rw [hx.block k (Array.getElem?_eq_some_iff.1 hg).1 (hS k (by simp [fpo, Value.ownBlock]))]
      exact hg
  | mat hs rows g nn =>
    have hlt := fun b => ORel.lt (o := .mat hs rows g nn) h (b := b)
    obtain ⟨cs, h1, h2, h3, h4, h5, h6⟩ := h
    have hk : ∀ b, fpo v (.mat hs rows g nn) b → w'.heap[b]? = w.heap[b]? := fun b hb => hx.block b (hlt b hb) (hS b hb)
    exact ⟨cs, ownsRow_kept h1 fun b hb => hk b (.inl hb), h2, fun i h xs u a b c => (h3 i h xs u a b c).kept fun x hx => hk _ (.inr ⟨x, by rw [← hx]; exact List.mem_of_getElem? a, rfl⟩), h4, h5, h6⟩

theorem AVRel.carry {V V' : Vw} {obs obs' : List O} {ρ ρ' : Nat → Value} (hV : V.le V') (hl : obs.length ≤ obs'.length)
    (hg : ∀ id c', id < obs.length → genOf obs' id = some c' → ∃ c, genOf obs id = some c ∧ ((c' = c ∧ ρ' id = ρ id) ∨ c < c')) {x : AV} {v : Value}
    (h : AVRel V obs ρ x v) : AVRel V' obs' ρ' x v := by
  cases x with
  | junk => trivial
  | int k n => exact h
  | bool b => exact h
  | str s => exact h
  | sl f e xs => exact SlRel.mono hV h
  | lr l xs => exact LRowRel.mono hV h
  | vec xs => exact h
  | nils => exact h
  | own id g =>
    refine ⟨Nat.lt_of_lt_of_le h.1 hl, fun c' hc' => ?_⟩
    obtain ⟨c, hc, hh⟩ := hg id c' h.1 hc'
    obtain ⟨h1, h2⟩ := h.2 c hc
    rcases hh with ⟨rfl, e⟩ | hlt
    · exact ⟨h1, fun k => by rw [e]; exact h2 k⟩
    · exact ⟨by omega, fun k => by omega⟩
  | elt id g s k =>
    refine ⟨Nat.lt_of_lt_of_le h.1 hl, fun c' hc' => ?_⟩
    obtain ⟨c, hc, hh⟩ := hg id c' h.1 hc'
    obtain ⟨h1, h2⟩ := h.2 c hc
    rcases hh with ⟨rfl, e⟩ | hlt
    · exact ⟨h1, fun k => by rw [e]; exact h2 k⟩
    · exact ⟨by omega, fun k => by omega⟩
  | relt f e d =>
    obtain ⟨a, u, hv, hf, hr, hc⟩ := h
    refine ⟨a, u, hv, fun k => hV.Fr _ (hf k), hr.mono hV, fun j hj => ?_⟩
    have hsz := hr.cells.1
    have h3 := hc j hj
    rw [Array.getElem?_eq_getElem (by omega)] at h3 ⊢
    exact hV.cell h3
  | hdr h n => exact h
  | emp b => exact h
  | fn f => exact h

theorem SlotRel.carry {V V' : Vw} {obs obs' : List O} {ρ ρ' : Nat → Value} (hV : V.le V') (hl : obs.length ≤ obs'.length)
    (hg : ∀ id c', id < obs.length → genOf obs' id = some c' → ∃ c, genOf obs id = some c ∧ ((c' = c ∧ ρ' id = ρ id) ∨ c < c')) {x : Sl} {v : Value}
    (h : SlotRel V obs ρ x v) : SlotRel V' obs' ρ' x v := by
  cases x with
  | v x => exact AVRel.carry hV hl hg h
  | t l =>
    obtain ⟨vs, h1, h2, h3⟩ := h
    exact ⟨vs, h1, h2, fun i x y hx hy => AVRel.carry hV hl hg (h3 i x y hx hy)⟩

/-- How the owned objects may turn in one step: what stays lies outside S; what is new or turned lies in S or in new blocks, and its generation has gone up. -/
structure Turn (C : Ctx) (w w' : World) (obs obs' : List O) (ρ ρ' : Nat → Value) (S : Nat → Prop) : Prop where
  ext : Ext S w w'
  len : obs.length ≤ obs'.length
  sown : ∀ b, S b → Own obs ρ b
  each : ∀ j o, obs'[j]? = some o →
    (obs[j]? = some o ∧ ρ' j = ρ j ∧ ∀ b, fpo (ρ j) o b → ¬ S b) ∨
    (ORel C.tid w' (C.V w' obs' ρ') (ρ' j) o ∧ (∀ b, fpo (ρ' j) o b → S b ∨ w.heap.size ≤ b) ∧
      (j < obs.length → ∀ c', o.gen = some c' → ∃ c, genOf obs j = some c ∧ ((c' = c ∧ ρ' j = ρ j) ∨ c < c')))
  dis : ∀ i j o o' b, obs'[i]? = some o → obs'[j]? = some o' → fpo (ρ' i) o b → fpo (ρ' j) o' b → (S b ∨ w.heap.size ≤ b) → i = j

theorem Turn.le {C : Ctx} {w w' : World} {obs obs' : List O} {ρ ρ' : Nat → Value} {S : Nat → Prop} (h : Turn C w w' obs obs' ρ ρ' S) : (C.V w obs ρ).le (C.V w' obs' ρ') := by
  refine ⟨fun b o hb => ?_, fun _ hb => hb, rfl⟩
  simp only [Ctx.V, mask] at hb ⊢
  split at hb
  · cases hb
  · rename_i hn
    have hlt : b < w.heap.size := (Array.getElem?_eq_some_iff.1 hb).1
    have hS : ¬ S b := fun hs => hn (h.sown b hs)
    have hn' : ¬ Own obs' ρ' b := by
      rintro ⟨id, o', ho, hf⟩
      rcases h.each id o' ho with ⟨h1, h2, _⟩ | ⟨_, h2, _⟩
      · exact hn ⟨id, o', h1, by rw [← h2]; exact hf⟩
      · rcases h2 b hf with hs | hs
        · exact hS hs
        · omega
    rw [if_neg hn', h.ext.block b hlt hS]
    exact hb

theorem Turn.gens {C : Ctx} {w w' : World} {obs obs' : List O} {ρ ρ' : Nat → Value} {S : Nat → Prop} (h : Turn C w w' obs obs' ρ ρ' S) :
    ∀ id c', id < obs.length → genOf obs' id = some c' → ∃ c, genOf obs id = some c ∧ ((c' = c ∧ ρ' id = ρ id) ∨ c < c') := by
  intro id c' hl hc
  unfold genOf at hc
  cases ho : obs'[id]? with
  | none => rw [ho] at hc; simp at hc
  | some o =>
    rw [ho] at hc
    rcases h.each id o ho with ⟨h1, h2, _⟩ | ⟨_, _, h3⟩
    · exact ⟨c', by unfold genOf; rw [h1]; exact hc, .inl ⟨rfl, h2⟩⟩
    · exact h3 hl c' hc

theorem Turn.wrel {C : Ctx} {w w' : World} {obs obs' : List O} {ρ ρ' : Nat → Value} {S : Nat → Prop} (h : Turn C w w' obs obs' ρ ρ' S) (r : WRel C obs w ρ) :
    WRel C obs' w' ρ' where
  os := fun id o ho => by
    rcases h.each id o ho with ⟨h1, h2, h3⟩ | ⟨h1, _⟩
    · rw [h2]; exact (r.os id o h1).kept h.le h.ext h3
    · exact h1
  dis := fun i j o o' b hi hj bi bj => by
    by_cases hS : S b ∨ w.heap.size ≤ b
    · exact h.dis i j o o' b hi hj bi bj hS
    · have hS1 : ¬ S b := fun k => hS (.inl k)
      have hS2 : ¬ w.heap.size ≤ b := fun k => hS (.inr k)
      rcases h.each i o hi with ⟨h1, h2, _⟩ | ⟨_, h2, _⟩
      · rcases h.each j o' hj with ⟨k1, k2, _⟩ | ⟨_, k2, _⟩
        · exact r.dis i j o o' b h1 k1 (by rw [← h2]; exact bi) (by rw [← k2]; exact bj)
        · rcases k2 b bj with hs | hs
          · exact absurd hs hS1
          · exact absurd hs hS2
      · rcases h2 b bi with hs | hs
        · exact absurd hs hS1
        · exact absurd hs hS2
  own := fun b ⟨id, o, ho, hf⟩ => by
    rcases h.each id o ho with ⟨h1, h2, _⟩ | ⟨_, h2, _⟩
    · exact r.own b ⟨id, o, h1, by rw [← h2]; exact hf⟩
    · rcases h2 b hf with hs | hs
      · exact r.own b (h.sown b hs)
      · exact .inl (Nat.le_trans r.grow hs)
  os0 := h.ext.os.trans r.os0
  tape := h.ext.tape.trans r.tape
  output := h.ext.output.trans r.output
  grow := Nat.le_trans r.grow h.ext.size
  kept := fun b hb hM => by
    have hS : ¬ S b := fun hs => by
      rcases r.own b (h.sown b hs) with k | k
      · omega
      · exact hM k
    rw [h.ext.block b (Nat.lt_of_lt_of_le hb r.grow) hS]
    exact r.kept b hb hM

/-- One step, or several. -/
structure Step (C : Ctx) (w w' : World) (obs obs' : List O) (ρ ρ' : Nat → Value) : Prop where
  wr : WRel C obs' w' ρ'
  le : (C.V w obs ρ).le (C.V w' obs' ρ')
  len : obs.length ≤ obs'.length
  gens : ∀ id c', id < obs.length → genOf obs' id = some c' → ∃ c, genOf obs id = some c ∧ ((c' = c ∧ ρ' id = ρ id) ∨ c < c')

theorem Turn.step {C : Ctx} {w w' : World} {obs obs' : List O} {ρ ρ' : Nat → Value} {S : Nat → Prop} (h : Turn C w w' obs obs' ρ ρ' S) (r : WRel C obs w ρ) : Step C w w' obs obs' ρ ρ' :=
  ⟨h.wrel r, h.le, h.len, h.gens⟩

theorem Step.refl {C : Ctx} {w : World} {obs : List O} {ρ : Nat → Value} (r : WRel C obs w ρ) : Step C w w obs obs ρ ρ :=
  ⟨r, Vw.le.refl _, Nat.le_refl _, fun _ c' _ h => ⟨c', h, .inl ⟨rfl, rfl⟩⟩⟩

theorem Step.trans {C : Ctx} {w w1 w2 : World} {obs obs1 obs2 : List O} {ρ ρ1 ρ2 : Nat → Value} (h : Step C w w1 obs obs1 ρ ρ1) (k : Step C w1 w2 obs1 obs2 ρ1 ρ2) : Step C w w2 obs obs2 ρ ρ2 where
  wr := k.wr
  le := h.le.trans k.le
  len := Nat.le_trans h.len k.len
  gens := fun id c2 hid hc2 => by
    obtain ⟨c1, h1, k1⟩ := k.gens id c2 (Nat.lt_of_lt_of_le hid h.len) hc2
    obtain ⟨c, h0, k0⟩ := h.gens id c1 hid h1
    refine ⟨c, h0, ?_⟩
    rcases k1 with ⟨e1, f1⟩ | l1
    · rcases k0 with ⟨e0, f0⟩ | l0
      · exact .inl ⟨e1.trans e0, f1.trans f0⟩
      · exact .inr (by omega)
    · rcases k0 with ⟨e0, _⟩ | l0
      · exact .inr (by omega)
      · exact .inr (by omega)

theorem Step.slot {C : Ctx} {w w' : World} {obs obs' : List O} {ρ ρ' : Nat → Value} (h : Step C w w' obs obs' ρ ρ') {x : Sl} {v : Value} (k : SlotRel (C.V w obs ρ) obs ρ x v) : SlotRel (C.V w' obs' ρ') obs' ρ' x v :=
  SlotRel.carry h.le h.len h.gens k
theorem Step.av {C : Ctx} {w w' : World} {obs obs' : List O} {ρ ρ' : Nat → Value} (h : Step C w w' obs obs' ρ ρ') {x : AV} {v : Value} (k : AVRel (C.V w obs ρ) obs ρ x v) : AVRel (C.V w' obs' ρ') obs' ρ' x v :=
  AVRel.carry h.le h.len h.gens k

theorem Step.rel {C : Ctx} {w w' : World} {σ : St} {obs' : List O} {ρ ρ' : Nat → Value} {a : Act} (h : Step C w w' σ.obs obs' ρ ρ') (r : Rel C σ a w ρ) : Rel C { σ with obs := obs' } a w' ρ' where
  defers := r.defers
  size := r.size
  fr := fun s ex x hx => ⟨fun he => h.slot ((r.fr s ex x hx).1 he), (r.fr s ex x hx).2⟩
  w := h.wr
  pin := fun j v hj => by
    obtain ⟨h1, h2⟩ := r.pin j v hj
    refine ⟨Nat.lt_of_lt_of_le h1 h.len, fun hg => ?_⟩
    obtain ⟨c, hc, hh⟩ := h.gens j 0 h1 hg
    rcases hh with ⟨e, f⟩ | hlt
    · rw [f]; exact h2 (by rw [hc, ← e])
    · omega

/-- Nothing owned turns. -/
theorem Turn.none {C : Ctx} {w w' : World} {obs : List O} {ρ : Nat → Value} (r : WRel C obs w ρ) (h : Ext (fun _ => False) w w') : Turn C w w' obs obs ρ ρ (fun _ => False) where
  ext := h
  len := Nat.le_refl _
  sown := fun _ k => k.elim
  each := fun j o ho => .inl ⟨ho, rfl, fun _ _ k => k⟩
  dis := fun i j o o' b hi _ bi _ hS => by
    have := (r.os i o hi).lt bi
    rcases hS with k | k
    · exact k.elim
    · omega

/-- A new object in new blocks. -/
theorem Turn.new {C : Ctx} {w w' : World} {obs : List O} {ρ : Nat → Value} (r : WRel C obs w ρ) (h : Ext (fun _ => False) w w') (o : O) (v : Value)
    (ho : ORel C.tid w' (C.V w' (obs ++ [o]) (fun i => if i = obs.length then v else ρ i)) v o) (hb : ∀ b, fpo v o b → w.heap.size ≤ b) :
    Turn C w w' obs (obs ++ [o]) ρ (fun i => if i = obs.length then v else ρ i) (fun _ => False) where
  ext := h
  len := by simp
  sown := fun _ k => k.elim
  each := fun j o' hj => by
    rw [List.getElem?_append] at hj
    split at hj
    · rename_i hlt
      exact .inl ⟨hj, if_neg (by omega), fun _ _ k => k⟩
    · rename_i hlt
      have hj0 : j = obs.length := by
        rcases Nat.lt_or_ge obs.length j with k | k
        · rw [List.getElem?_eq_none (by simp; omega)] at hj; cases hj
        · omega
      subst hj0
      simp at hj
      subst hj
      refine .inr ⟨by simpa using ho, fun b hb' => .inr (hb b (by simpa using hb')), fun k => absurd k (by omega)⟩
  dis := fun i j o1 o2 b hi hj bi bj hS => by
    have hS : w.heap.size ≤ b := hS.resolve_left (fun k => k)
    have key : ∀ i o1, (obs ++ [o])[i]? = some o1 → fpo (if i = obs.length then v else ρ i) o1 b → i = obs.length := by
      intro i o1 hi bi
      rw [List.getElem?_append] at hi
      split at hi
      · rename_i hlt
        rw [if_neg (by omega)] at bi
        have := (r.os i o1 hi).lt bi
        omega
      · rename_i hlt
        rcases Nat.lt_or_ge obs.length i with k | k
        · rw [List.getElem?_eq_none (by simp; omega)] at hi; cases hi
        · omega
    rw [key i o1 hi bi, key j o2 hj bj]

/-- One object turns: it lies afterwards where it lay, or in a new block (then its generation has gone up); or it is let go. -/
theorem Turn.one {C : Ctx} {w w' : World} {obs : List O} {ρ : Nat → Value} (r : WRel C obs w ρ) (id : Nat) (o o' : O) (v : Value) (hid : obs[id]? = some o)
    (h : Ext (fun b => fpo (ρ id) o b) w w')
    (ho : ORel C.tid w' (C.V w' (obs.set id o') (fun i => if i = id then v else ρ i)) v o')
    (hb : ∀ b, fpo v o' b → fpo (ρ id) o b ∨ w.heap.size ≤ b)
    (hg : ∀ c', o'.gen = some c' → ∃ c, o.gen = some c ∧ ((c' = c ∧ v = ρ id) ∨ c < c')) :
    Turn C w w' obs (obs.set id o') ρ (fun i => if i = id then v else ρ i) (fun b => fpo (ρ id) o b) where
  ext := h
  len := by simp
  sown := fun b k => ⟨id, o, hid, k⟩
  each := fun j o1 hj => by
    have hlt : id < obs.length := (List.getElem?_eq_some_iff.1 hid).1
    by_cases hji : j = id
    · subst hji
      rw [List.getElem?_set_self hlt] at hj
      cases hj
      refine .inr ⟨by simpa using ho, fun b hb' => hb b (by simpa using hb'), fun _ c' hc' => ?_⟩
      obtain ⟨c, hc, hh⟩ := hg c' hc'
      exact ⟨c, by unfold genOf; rw [hid]; exact hc, by simpa using hh⟩
    · rw [List.getElem?_set_ne (Ne.symm hji)] at hj
      refine .inl ⟨hj, if_neg hji, fun b hb' hb2 => hji (r.dis j id o1 o b hj hid hb' hb2)⟩
  dis := fun i j o1 o2 b hi hj bi bj hS => by
    have hlt : id < obs.length := (List.getElem?_eq_some_iff.1 hid).1
    have key : ∀ i o1, (obs.set id o')[i]? = some o1 → fpo (if i = id then v else ρ i) o1 b → i = id := by
      intro i o1 hi bi
      apply Classical.byContradiction
      intro hne
      rw [List.getElem?_set_ne (Ne.symm hne)] at hi
      rw [if_neg hne] at bi
      rcases hS with k | k
      · exact hne (r.dis i id o1 o b hi hid bi k)
      · have := (r.os i o1 hi).lt bi
        omega
    rw [key i o1 hi bi, key j o2 hj bj]

/-- An owned object is let go: from now on it is only read. -/
theorem Turn.letgo {C : Ctx} {w : World} {obs : List O} {ρ : Nat → Value} (r : WRel C obs w ρ) {id : Nat} {o : O} (ho : obs[id]? = some o) :
    Turn C w w obs (obs.set id .dead) ρ (fun i => if i = id then ρ id else ρ i) (fun b => fpo (ρ id) o b) :=
  Turn.one r id o .dead (ρ id) ho (Ext.refl _ _) trivial (fun b hb => by simp [fpo] at hb) (fun c' hc => by simp [O.gen] at hc)

theorem put_tmps (a : Act) (d : Option Nat) (v : Value) : (a.put d v).tmps.size = a.tmps.size := by
  cases d <;> simp [Act.put]

/-- A slot is written. -/
theorem Rel.put {C : Ctx} {σ : St} {a : Act} {w : World} {ρ : Nat → Value} (r : Rel C σ a w ρ) {d : Nat} (hd : d < σ.n) {ex : Bool} {x : Sl} {v : Value}
    (h1 : ex = true → SlotRel (C.V w σ.obs ρ) σ.obs ρ x v) (h2 : ex = false → v = undef) : Rel C { σ with fr := (d, ex, x) :: σ.fr } (a.put (some d) v) w ρ where
  defers := r.defers
  size := by rw [put_tmps]; exact r.size
  fr := fun s ex' x' hs => by
    simp only [look] at hs
    have hsz : d < a.tmps.size := by rw [r.size]; exact hd
    split at hs
    · rename_i hk
      have hk : s = d := by simpa using hk
      cases hs
      subst hk
      have : (a.put (some s) v).tmps.getD s undef = v := by simp [Act.put, Array.getD, hsz]
      rw [this]
      exact ⟨h1, h2⟩
    · rename_i hk
      have hk : s ≠ d := by simpa using hk
      have : (a.put (some d) v).tmps.getD s undef = a.tmps.getD s undef := by
        simp only [Act.put, Array.getD_eq_getD_getElem?]
        rw [Array.getElem?_setIfInBounds_ne (Ne.symm hk)]
      rw [this]
      exact r.fr s ex' x' hs
  w := r.w
  pin := r.pin

end Go.Aw

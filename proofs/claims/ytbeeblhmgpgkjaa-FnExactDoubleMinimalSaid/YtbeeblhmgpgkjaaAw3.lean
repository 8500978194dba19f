/- The judgement of the walk: from an abstract state, with this code still to come, the call returns as its statement says. Its rules of control. -/
import Derived.Test.YtbeeblhmgpgkjaaAw2
import Derived.OwnWalk
set_option linter.unusedVariables false
set_option linter.unusedSimpArgs false
namespace Go.Aw
open Go

/-- From every frame and world that the state speaks of, the code that is still to come brings the call to an end that the statement allows. -/
def Run (C : Ctx) (k : List Item) (σ : St) : Prop :=
  ∀ a w ρ, Rel C σ a w ρ → ∀ (b : Frame) (cs : List Frame), ∃ e a' w', bodyPost C.P C.fn C.R e a' w' ∧ Arrives C.P (lone (b.at a k) cs w) b [] cs e a' w'

section
variable {C : Ctx} {σ : St} {k : List Item}

theorem Run.of_step {k' : List Item} (h : Run C k' σ) (hs : ∀ (a : Act) (b : Frame) (cs : List Frame) (w : World), step C.P (lone (b.at a k) cs w) = .next (lone (b.at a k') cs w)) : Run C k σ := by
  intro a w ρ r b cs
  obtain ⟨e, a', w', hp, harr⟩ := h a w ρ r b cs
  exact ⟨e, a', w', hp, .of_steps (.one (hs a b cs w)) harr⟩

theorem Run.seq {x y : Code} (h : Run C (.code x :: .code y :: k) σ) : Run C (.code (.seq x y) :: k) σ := h.of_step fun _ _ _ _ => step_seq
theorem Run.skip (h : Run C k σ) : Run C (.code .skip :: k) σ := h.of_step fun _ _ _ _ => step_skip
theorem Run.label {l : Nat} (h : Run C k σ) : Run C (.code (.label l) :: k) σ := h.of_step fun _ _ _ _ => step_label
theorem Run.block {id : Nat} {c : Code} (h : Run C (.code c :: .inBlock id :: k) σ) : Run C (.code (.block id c) :: k) σ := h.of_step fun _ _ _ _ => step_block
theorem Run.unblock {id : Nat} (h : Run C k σ) : Run C (.inBlock id :: k) σ := h.of_step fun _ _ _ _ => step_inBlock
theorem Run.exit {id : Nat} {k' : List Item} (hk : exitTo id k = some k') (h : Run C k' σ) : Run C (.code (.exit id) :: k) σ := h.of_step fun _ _ _ _ => step_exit hk
theorem Run.loop {c : Code} (h : Run C (.code c :: .inLoop c :: k) σ) : Run C (.code (.loop c) :: k) σ := h.of_step fun _ _ _ _ => step_loop
theorem Run.round {c : Code} (h : Run C (.code c :: .inLoop c :: k) σ) : Run C (.inLoop c :: k) σ := h.of_step fun _ _ _ _ => step_inLoop

/-- The state says less. -/
def Le (C : Ctx) (σ σ' : St) : Prop := ∀ a w ρ, Rel C σ a w ρ → ∃ ρ', Rel C σ' a w ρ'

theorem Run.le {σ' : St} (hl : Le C σ σ') (h : Run C k σ') : Run C k σ := fun a w ρ r b cs => by
  obtain ⟨ρ', r'⟩ := hl a w ρ r
  exact h a w ρ' r' b cs

/-- A fact that every frame and world of the state bears out. -/
theorem Run.fact {p : Prop} (hp : ∀ a w ρ, Rel C σ a w ρ → p) (h : p → Run C k σ) : Run C k σ := fun a w ρ r => h (hp a w ρ r) a w ρ r

/-- A loop: the states of its head by a parameter, a measure that every round lowers. -/
theorem Run.loopI {X : Type} {c : Code} (I : X → St) (ok : X → Prop) (μ : X → Nat) (x0 : X) (h0 : ok x0) (hl : Le C σ (I x0))
    (h : ∀ x, ok x → (∀ y, ok y → μ y < μ x → Run C (.inLoop c :: k) (I y)) → Run C (.code c :: .inLoop c :: k) (I x)) : Run C (.code (.loop c) :: k) σ := by
  have key : ∀ n x, μ x = n → ok x → Run C (.code c :: .inLoop c :: k) (I x) := by
    intro n
    induction n using Nat.strongRecOn with
    | _ n ih =>
      intro x hn hx
      exact h x hx fun y hy hlt => (ih (μ y) (hn ▸ hlt) y rfl hy).round
  exact (Run.le hl (key _ x0 rfl h0)).loop

end

/-! ### What an operand stands for -/

def constAV : Value → AV
  | .int k n => .int k n
  | .bool b => .bool b
  | .string s => .str s.data.toList
  | .slice none 0 0 => .nils
  | _ => .junk

def St.ev (σ : St) : Operand → AV
  | .tmp t => match look t σ.fr with
    | some (_, .v x) => x
    | _ => .junk
  | .const v => constAV v
  | .func f => .fn f
  | .global _ => .junk

/-- An operand's slot has been written on this way. -/
def St.has (σ : St) : Operand → Prop
  | .tmp t => match look t σ.fr with
    | some (ex, _) => ex = true
    | none => True
  | _ => True

theorem constAV_rel (V : Vw) (obs : List O) (ρ : Nat → Value) (v : Value) : AVRel V obs ρ (constAV v) v := by
  unfold constAV
  split <;> simp [AVRel]

theorem Rel.ev {C : Ctx} {σ : St} {a : Act} {w : World} {ρ : Nat → Value} (r : Rel C σ a w ρ) {x : Operand} (hx : σ.has x) : AVRel (C.V w σ.obs ρ) σ.obs ρ (σ.ev x) (a.eval x) := by
  cases x with
  | tmp t =>
    simp only [St.ev, St.has, Act.eval] at *
    cases hl : look t σ.fr with
    | none => simp [AVRel]
    | some p =>
      obtain ⟨ex, x⟩ := p
      rw [hl] at hx
      have := (r.fr t ex x hl).1 hx
      cases x with
      | v x => exact this
      | t l => simp [AVRel]
  | const v => exact constAV_rel _ _ _ v
  | func f => simp [St.ev, AVRel, Act.eval]
  | global g => simp [St.ev, AVRel]

section
variable {C : Ctx} {σ : St} {k : List Item}

theorem Run.cond {c : Operand} {x y : Code} {t : Bool} (hc : σ.ev c = .bool t) (hh : σ.has c) (ht : t = true → Run C (.code x :: k) σ) (hf : t = false → Run C (.code y :: k) σ) : Run C (.code (.cond c x y) :: k) σ := by
  intro a w ρ r b cs
  have hv := r.ev hh
  rw [hc] at hv
  simp only [AVRel] at hv
  have hs : ∀ (b : Frame) (cs : List Frame), step C.P (lone (b.at a (.code (.cond c x y) :: k)) cs w) = .next (lone (b.at a (.code (if t then x else y) :: k)) cs w) := fun b cs => step_cond hv
  cases t with
  | true =>
    obtain ⟨e, a', w', hp, harr⟩ := ht rfl a w ρ r b cs
    exact ⟨e, a', w', hp, .of_steps (.one (hs b cs)) harr⟩
  | false =>
    obtain ⟨e, a', w', hp, harr⟩ := hf rfl a w ρ r b cs
    exact ⟨e, a', w', hp, .of_steps (.one (hs b cs)) harr⟩

/-- What the statement asks of the results at the end. -/
def Fin (C : Ctx) (xs : List AV) (obs : List O) : Prop :=
  ∀ w ρ (vs : List Value), WRel C obs w ρ → (∀ (j : Nat) (v : Value), C.pin[j]? = some v → j < obs.length ∧ (genOf obs j = some 0 → ρ j = v)) → vs.length = xs.length → (∀ (i : Nat) (x : AV) (v : Value), xs[i]? = some x → vs[i]? = some v → AVRel (C.V w obs ρ) obs ρ x v) →
    C.R (.returned (if h : vs.length = 1 then vs[0] else .tuple vs.toArray)) w

theorem run_results (P : Program) (fn : Func) (ts : List Nat) (hl : ts.length ≤ 4) (hr : fn.results = (ts.map ResultVar.tmp).toArray) (tmps : Array Value) (w : World) :
    (results fn tmps).run P w = .ok (if h : (ts.map fun t => tmps.getD t undef).length = 1 then (ts.map fun t => tmps.getD t undef)[0] else .tuple (ts.map fun t => tmps.getD t undef).toArray) w := by
  match ts, hl with
  | [], _ => simp at hr; simp [results, hr]
  | [a], _ => simp at hr; simp [results, hr]
  | [a, b], _ => simp at hr; simp [results, hr]
  | [a, b, c], _ => simp at hr; simp [results, hr]
  | [a, b, c, d], _ => simp at hr; simp [results, hr]
  | _ :: _ :: _ :: _ :: _ :: _, h => simp at h

theorem Run.ret_aux {xs : List AV} {ts : List Nat} (hl : ts.length ≤ 4) (hres : C.fn.results = (ts.map ResultVar.tmp).toArray) (hx : xs = ts.map fun t => σ.ev (.tmp t)) (hh : ∀ t ∈ ts, σ.has (.tmp t)) (h : Fin C xs σ.obs)
    {a : Act} {w : World} {ρ : Nat → Value} (r : Rel C σ a w ρ) : ∃ v, (results C.fn a.tmps).run C.P w = .ok v w ∧ C.R (.returned v) w := by
  refine ⟨_, run_results C.P C.fn ts hl hres a.tmps w, ?_⟩
  subst hx
  refine h w ρ _ r.w r.pin (by simp) ?_
  intro i x v hi hv
  simp only [List.getElem?_map, Option.map_eq_some_iff] at hi hv
  obtain ⟨t, ht, rfl⟩ := hi
  obtain ⟨t', ht', rfl⟩ := hv
  rw [ht] at ht'
  cases ht'
  exact r.ev (hh t (List.mem_of_getElem? ht))

theorem Run.ret {xs : List AV} {ts : List Nat} (hl : ts.length ≤ 4) (hres : C.fn.results = (ts.map ResultVar.tmp).toArray) (hx : xs = ts.map fun t => σ.ev (.tmp t)) (hh : ∀ t ∈ ts, σ.has (.tmp t)) (h : Fin C xs σ.obs) : Run C (.code .ret :: k) σ := by
  intro a w ρ r b cs
  exact ⟨.ret, a, w, ⟨r.defers, Run.ret_aux hl hres hx hh h r⟩, _, .one step_ret⟩

theorem Run.done {xs : List AV} {ts : List Nat} (hl : ts.length ≤ 4) (hres : C.fn.results = (ts.map ResultVar.tmp).toArray) (hx : xs = ts.map fun t => σ.ev (.tmp t)) (hh : ∀ t ∈ ts, σ.has (.tmp t)) (h : Fin C xs σ.obs) : Run C [] σ := by
  intro a w ρ r b cs
  exact ⟨.normal, a, w, ⟨r.defers, Run.ret_aux hl hres hx hh h r⟩, Steps.refl _ _⟩

end

end Go.Aw

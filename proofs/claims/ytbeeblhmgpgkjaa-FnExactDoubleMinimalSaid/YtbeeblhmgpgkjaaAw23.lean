/- Contracts with results that are only read; calls under a guard. -/
import Derived.Test.YtbeeblhmgpgkjaaAw22
set_option linter.unusedVariables false
set_option linter.unusedSimpArgs false
namespace Go.Aw
open Go

theorem FunA.frozen {B : Ctx} {f : FuncId} {args : List AV} {e : E} {xs : List e.D} {g : Nat} {nn : Bool} (he : freshE e = true) (h : FunA B f args (fun rs o => rs = [.own 0 g] ∧ o = [.arr e xs g nn])) : FunA B f args (fun rs o => rs = [.sl true e xs] ∧ o = []) := by
  refine ⟨h.1, fun w vs hl ha => (h.2 w vs hl ha).mono ?_⟩
  rintro en w' ⟨us, hen, rs, o, ρ', ⟨rfl, rfl⟩, hul, hu, hw, _, _⟩
  obtain ⟨hst, hsl⟩ := letgo_sl hw (id := 0) (g := g) (e := e) (xs := xs) (nn := nn) rfl
  match us, hul with
  | [u], _ =>
    have hu0 : u = ρ' 0 := ((hu 0 (.own 0 g) u rfl rfl).2 g rfl).2 rfl
    have hno : ∀ b (ρ : Nat → Value), ¬ Own ([] : List O) ρ b := fun b ρ ⟨id, o, ho, _⟩ => by simp at ho
    have hle : ((B.bare w).V w' [.dead] (fun i => if i = 0 then ρ' 0 else ρ' i)).le ((B.bare w).V w' [] ρ') := by
      refine ⟨fun b o hb => ?_, fun _ hb => hb, rfl⟩
      simp only [Ctx.V, mask] at hb ⊢
      rw [if_neg (hno b ρ')]
      split at hb
      · cases hb
      · exact hb
    refine ⟨[u], hen, [.sl true e xs], [], ρ', ⟨rfl, rfl⟩, rfl, fun i x v hx hv => ?_, ⟨fun id o ho => by simp at ho, fun i j o o' b hi => by simp at hi, fun b hb => (hno b _ hb).elim, hw.os0, hw.tape, hw.output, hw.grow, hw.kept⟩, by simp [freshAV, he], rfl⟩
    match i, hx, hv with
    | 0, hx, hv =>
      simp at hx hv
      subst hx hv
      rw [hu0]
      exact SlRel.mono hle hsl

theorem FunA.callG {B C : Ctx} (hP : B.P = C.P) (hT : B.tid = C.tid) {f : FuncId} {args0 : List AV} {x : AV} (h : FunA B f args0 (fun rs o => rs = [x] ∧ o = [])) (hx : ∀ n, shiftAV n x = x) {obs : List O} {args : List AV} {ex : Bool} (ha : ex = true → argsOk obs args args0)
    {K : AV → Prop} (hk : K x) : CallG C obs f args ex fun y => Later (K y) :=
  ⟨x, fun he => FunA.call hP hT h (ha he) fun rs o ⟨h1, h2⟩ => by subst h1 h2; exact ⟨by simp [resSl, hx], by simp⟩, hk⟩
/-- The slots that are still wanted. -/
def consO (s : Nat) : Option (Bool × Sl) → List (Nat × Bool × Sl) → List (Nat × Bool × Sl)
  | some x, l => (s, x) :: l
  | none, l => l
def keepF (fr : List (Nat × Bool × Sl)) : List Nat → List (Nat × Bool × Sl)
  | [] => []
  | s :: ks => consO s (look s fr) (keepF fr ks)
theorem keepF_sub (fr : List (Nat × Bool × Sl)) : ∀ ks : List Nat, subF fr (keepF fr ks)
  | [] => trivial
  | s :: ks => by
    simp only [keepF]
    cases h : look s fr with
    | none => exact keepF_sub fr ks
    | some x => exact ⟨h, keepF_sub fr ks⟩
theorem Run.keep {C : Ctx} {k : List Item} (ks : List Nat) {n : Nat} {fr : List (Nat × Bool × Sl)} {obs : List O} (h : Run C k ⟨n, keepF fr ks, obs⟩) : Run C k ⟨n, fr, obs⟩ := Run.le (Le.sub rfl (keepF_sub fr ks)) h
theorem consO_some (s : Nat) (x : Bool × Sl) (l : List (Nat × Bool × Sl)) : consO s (some x) l = (s, x) :: l := rfl
theorem consO_none (s : Nat) (l : List (Nat × Bool × Sl)) : consO s none l = l := rfl
theorem keepF_nil (fr : List (Nat × Bool × Sl)) : keepF fr [] = [] := rfl
theorem keepF_cons (fr : List (Nat × Bool × Sl)) (s : Nat) (ks : List Nat) : keepF fr (s :: ks) = consO s (look s fr) (keepF fr ks) := rfl
theorem AK : type_of% @consO_some ∧ type_of% @consO_none ∧ type_of% @keepF_nil ∧ type_of% @keepF_cons ∧ type_of% @look_nil ∧ type_of% @look_cons ∧ (∀ (α : Type) (a b : α), (bif true then a else b) = a) ∧ (∀ (α : Type) (a b : α), (bif false then a else b) = b) :=
  ⟨consO_some, consO_none, keepF_nil, keepF_cons, look_nil, look_cons, fun _ _ _ => rfl, fun _ _ _ => rfl⟩
end Go.Aw

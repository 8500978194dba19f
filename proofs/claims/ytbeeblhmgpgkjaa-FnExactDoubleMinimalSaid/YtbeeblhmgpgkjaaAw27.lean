/- A slice that is read and may be nil; a nil slice as an owned one. -/
import Derived.Test.YtbeeblhmgpgkjaaAw26
set_option linter.unusedVariables false
set_option linter.unusedSimpArgs false
namespace Go.Aw
open Go

section
variable {C : Ctx} {k : List Item}

/-- An empty slice that is read: nil, or not. -/
theorem Run.nilcase {n : Nat} {fr : List (Nat × Bool × Sl)} {obs : List O} (s : Nat) {f : Bool} {e : E} (h : look s fr = some (true, .v (.sl f e [])))
    (h1 : ∀ b, Run C k ⟨n, (s, true, .v (.emp b)) :: fr, obs⟩) : Run C k ⟨n, fr, obs⟩ := by
  intro a w ρ r b cs
  obtain ⟨base, cap, hv, _, hm, _⟩ := (show SlRel _ _ _ _ _ from (r.fr s true _ h).1 rfl)
  refine h1 base.isNone a w ρ ⟨r.defers, r.size, fun t ex y hy => ?_, r.w, r.pin⟩ b cs
  simp only [look] at hy
  split at hy
  · rename_i ht
    have : t = s := by simpa using ht
    subst this
    cases hy
    exact ⟨fun _ => ⟨base, cap, hv, hm, rfl⟩, fun q => by cases q⟩
  · exact r.fr t ex y hy

/-- A nil slice is an owned one without elements. -/
theorem Run.nilown {n : Nat} {fr : List (Nat × Bool × Sl)} {obs : List O} (e : E) (s : Nat) (h : look s fr = some (true, .v .nils))
    (h1 : Run C k ⟨n, (s, true, .v (.own obs.length 0)) :: fr, obs ++ [.arr e [] 0 false]⟩) : Run C k ⟨n, fr, obs⟩ := by
  intro a w ρ r b cs
  have hv : a.tmps.getD s undef = .slice none 0 0 := (r.fr s true _ h).1 rfl
  have T := Turn.new (C := C) r.w (Ext.refl (fun _ => False) w) (.arr e [] 0 false) (.slice none 0 0)
    ⟨[], World.ownsRow_nil _ _ _ _, ⟨by simp, fun i hi => by simp at hi⟩, by simp, by simp⟩ (fun b hb => by simp [fpo, Value.ownBlock] at hb)
  have hst := T.step r.w
  have r' := hst.rel r
  refine h1 a w _ ⟨r'.defers, r'.size, fun t ex y hy => ?_, r'.w, r'.pin⟩ b cs
  simp only [look] at hy
  split at hy
  · rename_i ht
    have : t = s := by simpa using ht
    subst this
    cases hy
    refine ⟨fun _ => ?_, fun q => by cases q⟩
    refine ⟨by simp, fun c hc => ?_⟩
    have : c = 0 := by simpa [genOf, O.gen] using hc.symm
    subst this
    refine ⟨Nat.le_refl _, fun _ => ?_⟩
    rw [hv]
    simp
  · exact r'.fr t ex y hy
end
end Go.Aw

/- An array whose older view is no longer read. -/
import Derived.Test.YtdhfonblpbpmmaaBase
set_option linter.unusedVariables false
set_option linter.unusedSimpArgs false
namespace Go.Aw
open Go

theorem Run.unap {C : Ctx} {k : List Item} (id : Nat) {n : Nat} {fr : List (Nat × Bool × Sl)} {obs : List O} {g q : Nat} {ys : List (Nat × List Int)} {fr' nn : Bool} (ho : oAt obs id = .ap q ys fr' g nn)
    (h : Run C k ⟨n, fr, oSet obs id (.arr .lrow ys g nn)⟩) : Run C k ⟨n, fr, obs⟩ := by
  intro a w ρ r
  have hid : id < obs.length := by
    rcases Nat.lt_or_ge id obs.length with h | h
    · exact h
    · rw [oAt_eq, List.getElem?_eq_none h] at ho; cases ho
  have ho' : obs[id]? = some (.ap q ys fr' g nn) := by rw [oAt_get hid, ho]
  have hset : ∀ (j : Nat) (o : O), (obs.set id (.arr .lrow ys g nn))[j]? = some o → (j = id ∧ o = .arr .lrow ys g nn) ∨ (j ≠ id ∧ obs[j]? = some o) := fun j o hj => by
    by_cases e : j = id
    · subst e
      rw [List.getElem?_set_self hid] at hj
      exact .inl ⟨rfl, (Option.some.inj hj).symm⟩
    · rw [List.getElem?_set_ne (Ne.symm e)] at hj
      exact .inr ⟨e, hj⟩
  have hgen : ∀ j, genOf (obs.set id (.arr .lrow ys g nn)) j = genOf obs j := fun j => by
    unfold genOf
    by_cases e : j = id
    · subst e
      rw [List.getElem?_set_self hid, ho']; rfl
    · rw [List.getElem?_set_ne (Ne.symm e)]
  have hOwn : ∀ b', Own (obs.set id (.arr .lrow ys g nn)) ρ b' → Own obs ρ b' := fun b' => by
    rintro ⟨j, o, hj, hb⟩
    rcases hset j o hj with ⟨rfl, rfl⟩ | ⟨_, hj⟩
    · exact ⟨_, _, ho', .inl hb⟩
    · exact ⟨j, o, hj, hb⟩
  have hV : (C.V w obs ρ).le (C.V w (obs.set id (.arr .lrow ys g nn)) ρ) := by
    refine ⟨fun b o hb => ?_, fun _ hb => hb, rfl⟩
    simp only [Ctx.V, mask] at hb ⊢
    split at hb
    · cases hb
    · rename_i hnn
      rw [if_neg (fun k => hnn (hOwn b k))]
      exact hb
  have hav : ∀ (x : AV) (v : Value), AVRel (C.V w obs ρ) obs ρ x v → AVRel (C.V w (obs.set id (.arr .lrow ys g nn)) ρ) (obs.set id (.arr .lrow ys g nn)) ρ x v := fun x v hx =>
    AVRel.carry hV (by simp) (fun i c' _ hc => ⟨c', by rw [← hgen]; exact hc, .inl ⟨rfl, rfl⟩⟩) hx
  refine h a w ρ ⟨r.defers, r.size, fun s ex x hl => ?_, ?_, fun j v hj => ?_⟩
  · rw [oSet_eq]
    obtain ⟨k1, k2⟩ := r.fr s ex x hl
    refine ⟨fun he => ?_, k2⟩
    have h2 := k1 he
    cases x with
    | v x => exact hav x _ h2
    | t l =>
      obtain ⟨vs, e1, e2, e3⟩ := h2
      exact ⟨vs, e1, e2, fun i x v hx hv => hav x v (e3 i x v hx hv)⟩
  · rw [oSet_eq]
    refine ⟨fun j o hj => ?_, fun i j o o' b' hi hj bi bj => ?_, fun b' hb => r.w.own b' (hOwn b' hb), r.w.os0, r.w.tape, r.w.output, r.w.grow, r.w.drawn, r.w.kept⟩
    · rcases hset j o hj with ⟨rfl, rfl⟩ | ⟨_, hj⟩
      · obtain ⟨cs, m1, m2, m3, m4, _⟩ := (r.w.os _ _ ho').kept hV (Ext.refl (fun _ => False) w) (fun _ _ k => k)
        exact ⟨cs, m1, m2, m3, m4⟩
      · exact (r.w.os j o hj).kept hV (Ext.refl (fun _ => False) w) (fun _ _ k => k)
    · rcases hset i o hi with ⟨e1, rfl⟩ | ⟨_, hi2⟩ <;> rcases hset j o' hj with ⟨e2, rfl⟩ | ⟨_, hj2⟩
      · rw [e1, e2]
      · rw [e1] at bi ⊢; exact r.w.dis _ _ _ _ b' ho' hj2 (.inl bi) bj
      · rw [e2] at bj ⊢; exact r.w.dis _ _ _ _ b' hi2 ho' bi (.inl bj)
      · exact r.w.dis i j o o' b' hi2 hj2 bi bj
  · rw [oSet_eq]
    obtain ⟨k1, k2⟩ := r.pin j v hj
    exact ⟨by simpa using k1, fun hg => k2 (by rw [← hgen]; exact hg)⟩
end Go.Aw

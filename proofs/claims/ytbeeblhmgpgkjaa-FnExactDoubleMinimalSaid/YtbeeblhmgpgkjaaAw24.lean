/- Objects at the end that nobody needs any more are dropped. -/
import Derived.Test.YtbeeblhmgpgkjaaAw23
set_option linter.unusedVariables false
set_option linter.unusedSimpArgs false
namespace Go.Aw
open Go

/-- What a value of the abstract state names lies among the first n objects. -/
def idAV (n : Nat) : AV → Bool
  | .own id _ => decide (id < n)
  | .elt id _ _ _ => decide (id < n)
  | _ => true
def idSl (n : Nat) : Sl → Bool
  | .v x => idAV n x
  | .t l => l.all (idAV n)
def idFr (n : Nat) : List (Nat × Bool × Sl) → Bool
  | [] => true
  | p :: r => idSl n p.2.2 && idFr n r

theorem idFr_look {n : Nat} : ∀ {fr : List (Nat × Bool × Sl)}, idFr n fr = true → ∀ {s : Nat} {ex : Bool} {x : Sl}, look s fr = some (ex, x) → idSl n x = true
  | [], _, s, ex, x, h => by simp [look] at h
  | (t, ey, y) :: r, hs, s, ex, x, h => by
    simp only [idFr, Bool.and_eq_true] at hs
    simp only [look] at h
    split at h
    · cases h; exact hs.1
    · exact idFr_look hs.2 h

theorem AVRel.cut {V V' : Vw} {obs rest : List O} {ρ : Nat → Value} (hV : V.le V') {x : AV} {v : Value} (hi : idAV obs.length x = true) (h : AVRel V (obs ++ rest) ρ x v) : AVRel V' obs ρ x v := by
  have hg : ∀ id, id < obs.length → genOf (obs ++ rest) id = genOf obs id := fun id hid => by
    unfold genOf; rw [List.getElem?_append_left hid]
  cases x with
  | junk => trivial
  | int k n => exact h
  | bool b => exact h
  | str s => exact h
  | sl f e xs => exact SlRel.mono hV h
  | lr l xs => exact LRowRel.mono hV h
  | vec xs => exact h
  | nils => exact h
  | own id g =>
    have hid : id < obs.length := by simpa [idAV] using hi
    exact ⟨hid, fun c hc => h.2 c (by rw [hg id hid]; exact hc)⟩
  | elt id g s k =>
    have hid : id < obs.length := by simpa [idAV] using hi
    exact ⟨hid, fun c hc => h.2 c (by rw [hg id hid]; exact hc)⟩
  | relt f e d =>
    obtain ⟨a, u, hv, hf, hr, hc⟩ := h
    refine ⟨a, u, hv, fun k => hV.Fr _ (hf k), hr.mono hV, fun j hj => ?_⟩
    have hsz := hr.cells.1
    have h3 := hc j hj
    rw [Array.getElem?_eq_getElem (by omega)] at h3 ⊢
    exact hV.cell h3
  | hdr h' n => exact h
  | emp b => exact h
  | fn f => exact h

theorem Le.cut {C : Ctx} {n : Nat} {fr fr' : List (Nat × Bool × Sl)} {obs obs' : List O} (rest : List O) (hp : C.pin.length ≤ obs'.length) (ho : obs = obs' ++ rest) (h : subF fr fr') (hi : idFr obs'.length fr' = true) :
    Le C ⟨n, fr, obs⟩ ⟨n, fr', obs'⟩ := by
  subst ho
  intro a w ρ r
  have hown : ∀ b, Own obs' ρ b → Own (obs' ++ rest) ρ b := by
    rintro b ⟨id, o, ho, hb⟩
    exact ⟨id, o, by rw [List.getElem?_append_left (List.getElem?_eq_some_iff.1 ho).1]; exact ho, hb⟩
  have hle : (C.V w (obs' ++ rest) ρ).le (C.V w obs' ρ) := by
    refine ⟨fun b o hb => ?_, fun _ hb => hb, rfl⟩
    simp only [Ctx.V, mask] at hb ⊢
    split at hb
    · cases hb
    · rename_i hnn
      rw [if_neg (fun k => hnn (hown b k))]
      exact hb
  have up : ∀ id o, obs'[id]? = some o → (obs' ++ rest)[id]? = some o := fun id o ho => by rw [List.getElem?_append_left (List.getElem?_eq_some_iff.1 ho).1]; exact ho
  have hw : WRel C obs' w ρ := ⟨fun id o ho => (r.w.os id o (up id o ho)).kept hle (Ext.refl (fun _ => False) w) (fun _ _ k => k), fun i j o o' b hi hj bi bj => r.w.dis i j o o' b (up i o hi) (up j o' hj) bi bj,
    fun b hb => r.w.own b (hown b hb), r.w.os0, r.w.tape, r.w.output, r.w.grow, r.w.kept⟩
  refine ⟨ρ, r.defers, r.size, fun s ex x hl => ?_, hw, fun j v hj => ?_⟩
  · obtain ⟨k1, k2⟩ := r.fr s ex x (subF_look h hl)
    refine ⟨fun he => ?_, k2⟩
    have hid := idFr_look hi hl
    have k := k1 he
    cases x with
    | v x => exact AVRel.cut hle hid k
    | t l =>
      obtain ⟨vs, q1, q2, q3⟩ := k
      refine ⟨vs, q1, q2, fun i x y hx hy => AVRel.cut hle ?_ (q3 i x y hx hy)⟩
      exact List.all_eq_true.1 hid _ (List.mem_of_getElem? hx)
  · have hlt := (List.getElem?_eq_some_iff.1 hj).1
    obtain ⟨k1, k2⟩ := r.pin j v hj
    refine ⟨by show j < obs'.length; omega, fun hg => k2 ?_⟩
    unfold genOf at hg ⊢
    rw [List.getElem?_append_left (by omega)]
    exact hg

theorem Le.cut0 {C : Ctx} (hp : C.pin = []) {n : Nat} {fr fr' : List (Nat × Bool × Sl)} {obs obs' : List O} (rest : List O) (ho : obs = obs' ++ rest) (h : subF fr fr') (hi : idFr obs'.length fr' = true) :
    Le C ⟨n, fr, obs⟩ ⟨n, fr', obs'⟩ := Le.cut rest (by rw [hp]; simp) ho h hi

end Go.Aw

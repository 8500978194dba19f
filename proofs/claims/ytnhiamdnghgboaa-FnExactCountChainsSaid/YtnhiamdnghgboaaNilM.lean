/- A function that is lent a slice, called with a nil one. -/
import Derived.Test.YtnhiamdnghgboaaBase
set_option linter.unusedVariables false
set_option linter.unusedSimpArgs false
namespace Go.Aw
open Go

/-- The same arguments with a nil slice in place of the lent one. -/
def nilA : AV → AV
  | .own _ _ => .nils
  | x => x
def nilOk : AV → Bool
  | .own id g => id == 0 && g == 0
  | x => plainAV x

theorem FunM.nil {B : Ctx} {f : FuncId} {args : List AV} {e : E} {post : List AV → List O → Prop} (h : FunM B f args e [] false post) (hok : args.all nilOk = true) (hp : ∀ rs o, post rs o → o.all freshO = true) :
    FunA B f (args.map nilA) post := by
  refine ⟨h.1, fun w L vs hl ha => ?_⟩
  have hM : (fun b => fpo (.slice none 0 0) (.arr e ([] : List e.D) 0 false) b) = fun _ => False := by
    funext b
    simp [fpo, Value.ownBlock]
  have hV : ∀ (w' : World) (obs : List O) (ρ : Nat → Value), (B.lentB w L (.arr e [] 0 false) (.slice none 0 0)).V w' obs ρ = (B.bareL w L).V w' obs ρ := by
    intro w' obs ρ
    simp only [Ctx.V, Ctx.lentB, Ctx.lent, Ctx.enterL, Ctx.bareL, Ctx.Fr, Ctx.Wr]
    rw [hM]
    rfl
  have hWr : ∀ b, (B.lentB w L (.arr e [] 0 false) (.slice none 0 0)).Wr b ↔ (B.bareL w L).Wr b := by
    intro b
    simp only [Ctx.lentB, Ctx.lent, Ctx.enterL, Ctx.bareL, Ctx.Wr]
    rw [show fpo (.slice none 0 0) (.arr e ([] : List e.D) 0 false) b = False from congrFun hM b]
  have hmask : ∀ (w' : World), mask w' [] (fun _ => undef) = mask w' [.arr e ([] : List e.D) 0 false] (fun _ => .slice none 0 0) := by
    intro w'
    funext b
    unfold mask
    have h1 : ¬ Own [] (fun _ => undef) b := by rintro ⟨id, o, ho, _⟩; simp at ho
    have h2 : ¬ Own [.arr e ([] : List e.D) 0 false] (fun _ => .slice none 0 0) b := by
      rintro ⟨id, o, ho, hf⟩
      cases id with
      | zero => simp at ho; subst ho; simp [fpo, Value.ownBlock] at hf
      | succ id => simp at ho
    rw [if_neg h1, if_neg h2]
  have hH : ((B.lentB w L (.arr e [] 0 false) (.slice none 0 0)).V w [.arr e [] 0 false] (fun _ => .slice none 0 0)).H = ((B.bareL w L).V w [] (fun _ => undef)).H := (hmask w).symm
  refine (h.2 w L (.slice none 0 0) vs ?_ (by simpa using hl) fun i x v hx hv => ?_).mono ?_
  · refine ⟨fun id o ho => ?_, fun i j o o' b hi hj hf _ => ?_, fun b ⟨id, o, ho, hf⟩ => ?_, rfl, rfl, rfl, Nat.le_refl _, Nat.le_refl _, fun _ _ _ => rfl⟩
    · cases id with
      | zero =>
        simp at ho
        subst ho
        refine ⟨[], ⟨by simp, .inl ⟨rfl, rfl⟩⟩, ⟨by simp, fun i hi => by simp at hi⟩, by simp, by simp⟩
      | succ id => simp at ho
    · cases i with
      | zero => simp at hi; subst hi; simp [fpo, Value.ownBlock] at hf
      | succ i => simp at hi
    · cases id with
      | zero => simp at ho; subst ho; simp [fpo, Value.ownBlock] at hf
      | succ id => simp at ho
  · have hx2 : (args.map nilA)[i]? = some (nilA x) := by simp [hx]
    have hk := List.all_eq_true.1 hok x (List.mem_of_getElem? hx)
    have h3 := ha i (nilA x) v hx2 hv
    cases x with
    | own id g =>
      simp [nilOk] at hk
      obtain ⟨rfl, rfl⟩ := hk
      have h3 : v = .slice none 0 0 := h3
      exact ⟨by simp, fun c hc => ⟨Nat.zero_le _, fun _ => h3⟩⟩
    | sl f e2 xs =>
      have h3 : SlRel _ f e2 xs v := h3
      have h4 : SlRel ((B.lentB w L (.arr e [] 0 false) (.slice none 0 0)).V w [.arr e [] 0 false] (fun _ => .slice none 0 0)) f e2 xs v := by
        have := plain_rel hH (x := .sl f e2 xs) hk (v := v) h3
        exact this
      exact h4
    | _ => first | exact h3 | (simp [nilOk, plainAV] at hk)
  · rintro en w' ⟨us, hen, rs, o', obs', ρ', hpost, hul, hu, hw, hfr, _, _⟩
    refine ⟨us, hen, rs, o' :: obs', ρ', hpost, hul, fun i x v hx hv => ?_, ?_, hfr, hp _ _ hpost⟩
    · have := hu i x v hx hv
      rwa [hV] at this
    · exact ⟨fun id o ho => by have := hw.os id o ho; rwa [hV] at this, hw.dis, fun b hb => (hWr b).1 (hw.own b hb), hw.os0, hw.tape, hw.output, hw.grow, hw.drawn, fun b hb hnm => hw.kept b hb (by
        show ¬ (fun b => fpo (.slice none 0 0) (.arr e ([] : List e.D) 0 false) b) b
        rw [hM]; exact fun h => h)⟩

def mvA : AV → AV
  | .own 0 g => .own 1 g
  | .own _ _ => .junk
  | .elt .. => .junk
  | x => x
def mvC (s : Nat) : Option (Bool × Sl) → List (Nat × Bool × AV) → List (Nat × Bool × AV)
  | some (ex, .v x), l => (s, ex, mvA x) :: l
  | _, l => l
def mvF (fr : List (Nat × Bool × Sl)) : List Nat → List (Nat × Bool × AV)
  | [] => []
  | s :: ks => mvC s (look s fr) (mvF fr ks)

theorem mvF_look {fr : List (Nat × Bool × Sl)} : ∀ {ks : List Nat} {s : Nat} {ex : Bool} {x : Sl}, look s (frV (mvF fr ks)) = some (ex, x) → ∃ y, look s fr = some (ex, .v y) ∧ x = .v (mvA y)
  | [], s, ex, x, h => by simp [look, mvF, frV] at h
  | t :: ks, s, ex, x, h => by
    simp only [mvF] at h
    cases hl : look t fr with
    | none => rw [hl] at h; exact mvF_look h
    | some p =>
      obtain ⟨e2, y⟩ := p
      rw [hl] at h
      cases y with
      | t l => exact mvF_look h
      | v y =>
        simp only [mvC, frV, List.map_cons, look] at h
        split at h
        · rename_i ht
          have : s = t := by simpa using ht
          subst this
          cases h
          exact ⟨y, hl, rfl⟩
        · exact mvF_look h

/-- The lent slice is the function's own from here on. -/
theorem Run.mv0 {C : Ctx} {k : List Item} (ks : List Nat) {n : Nat} {fr : List (Nat × Bool × Sl)} {e : E} {xs : List e.D} {nn : Bool} (h : Run C k ⟨n, frV (mvF fr ks), [.dead, .arr e xs 0 nn]⟩) : Run C k ⟨n, fr, [.arr e xs 0 nn]⟩ := by
  intro a w ρ r
  have hOwn : ∀ b, Own [.dead, .arr e xs 0 nn] (fun i => if i = 1 then ρ 0 else ρ i) b ↔ Own [.arr e xs 0 nn] ρ b := by
    intro b
    constructor
    · rintro ⟨id, o, ho, hf⟩
      match id, ho with
      | 0, ho => simp at ho; subst ho; exact hf.elim
      | 1, ho => simp at ho; subst ho; exact ⟨0, _, rfl, hf⟩
      | id + 2, ho => simp at ho
    · rintro ⟨id, o, ho, hf⟩
      match id, ho with
      | 0, ho => simp at ho; subst ho; exact ⟨1, _, rfl, hf⟩
      | id + 1, ho => simp at ho
  have hV : C.V w [.dead, .arr e xs 0 nn] (fun i => if i = 1 then ρ 0 else ρ i) = C.V w [.arr e xs 0 nn] ρ := by
    have : mask w [.dead, .arr e xs 0 nn] (fun i => if i = 1 then ρ 0 else ρ i) = mask w [.arr e xs 0 nn] ρ := by
      funext b
      unfold mask
      by_cases hb : Own [.arr e xs 0 nn] ρ b
      · rw [if_pos hb, if_pos ((hOwn b).2 hb)]
      · rw [if_neg hb, if_neg (fun k => hb ((hOwn b).1 k))]
    simp only [Ctx.V, this]
  refine h a w (fun i => if i = 1 then ρ 0 else ρ i) ⟨r.defers, r.size, fun s ex x hl => ?_, ?_, fun j v hj => ?_⟩
  · obtain ⟨y, h1, rfl⟩ := mvF_look hl
    obtain ⟨k1, k2⟩ := r.fr s ex _ h1
    refine ⟨fun he => ?_, k2⟩
    have h2 : AVRel (C.V w [.arr e xs 0 nn] ρ) [.arr e xs 0 nn] ρ y (a.tmps.getD s undef) := k1 he
    show AVRel _ _ _ (mvA y) _
    cases y with
    | own i g =>
      match i, h2 with
      | 0, h2 =>
        refine ⟨by simp, fun c hc => ?_⟩
        obtain ⟨q1, q2⟩ := h2.2 c hc
        exact ⟨q1, fun e => q2 e⟩
      | i + 1, _ => trivial
    | elt i g s k => trivial
    | sl f e xs => rw [hV]; exact h2
    | lr l xs => rw [hV]; exact h2
    | relt f e d => rw [hV]; exact h2
    | _ => exact h2
  · refine ⟨fun id o ho => ?_, fun i j o o' b hi hj b1 b2 => ?_, fun b hb => r.w.own b ((hOwn b).1 hb), r.w.os0, r.w.tape, r.w.output, r.w.grow, r.w.drawn, r.w.kept⟩
    · rw [hV]
      match id, ho with
      | 0, ho => simp at ho; subst ho; trivial
      | 1, ho => simp at ho; subst ho; exact r.w.os 0 _ rfl
      | id + 2, ho => simp at ho
    · match i, j, hi, hj with
      | 0, _, hi, _ => simp at hi; subst hi; exact b1.elim
      | _, 0, _, hj => simp at hj; subst hj; exact b2.elim
      | 1, 1, _, _ => rfl
      | 1, j + 2, _, hj => simp at hj
      | i + 2, _, hi, _ => simp at hi
  · obtain ⟨k1, k2⟩ := r.pin j v hj
    refine ⟨by simp at k1 ⊢; omega, fun hg => ?_⟩
    have : j = 0 := by simp at k1; exact k1
    subst this
    cases hg
theorem mvA_own0 (g : Nat) : mvA (.own 0 g) = .own 1 g := rfl
theorem mvA_int (k : IntKind) (n : Int) : mvA (.int k n) = .int k n := rfl
theorem mvA_bool (b : Bool) : mvA (.bool b) = .bool b := rfl
theorem mvA_sl (f : Bool) (e : E) (xs : List e.D) : mvA (.sl f e xs) = .sl f e xs := rfl
theorem mvA_nils : mvA .nils = .nils := rfl
theorem mvC_some (s : Nat) (ex : Bool) (x : AV) (l : List (Nat × Bool × AV)) : mvC s (some (ex, .v x)) l = (s, ex, mvA x) :: l := rfl
theorem mvF_nil (fr : List (Nat × Bool × Sl)) : mvF fr [] = [] := rfl
theorem mvF_cons (fr : List (Nat × Bool × Sl)) (s : Nat) (ks : List Nat) : mvF fr (s :: ks) = mvC s (look s fr) (mvF fr ks) := rfl
theorem AMV : type_of% @mvA_own0 ∧ type_of% @mvA_int ∧ type_of% @mvA_bool ∧ type_of% @mvA_sl ∧ type_of% @mvA_nils ∧ type_of% @mvC_some ∧ type_of% @mvF_nil ∧ type_of% @mvF_cons := ⟨@mvA_own0, @mvA_int, @mvA_bool, @mvA_sl, @mvA_nils, @mvC_some, @mvF_nil, @mvF_cons⟩

theorem FunA.frozenE {B : Ctx} {f : FuncId} {args : List AV} {e : E} {xs : List e.D} {g : Nat} (he : freshE e = true) (h : FunA B f args (fun rs o => ∃ nn, rs = [.own 0 g] ∧ o = [.arr e xs g nn])) : FunA B f args (fun rs o => rs = [.sl true e xs] ∧ o = []) := by
  refine ⟨h.1, fun w L vs hl ha => (h.2 w L vs hl ha).mono ?_⟩
  rintro en w' ⟨us, hen, rs, o, ρ', ⟨nn, rfl, rfl⟩, hul, hu, hw, _, _⟩
  obtain ⟨hst, hsl⟩ := letgo_sl hw (id := 0) (g := g) (e := e) (xs := xs) (nn := nn) rfl
  match us, hul with
  | [u], _ =>
    have hu0 : u = ρ' 0 := ((hu 0 (.own 0 g) u rfl rfl).2 g rfl).2 rfl
    have hno : ∀ b (ρ : Nat → Value), ¬ Own ([] : List O) ρ b := fun b ρ ⟨id, o, ho, _⟩ => by simp at ho
    have hle : ((B.bareL w L).V w' [.dead] (fun i => if i = 0 then ρ' 0 else ρ' i)).le ((B.bareL w L).V w' [] ρ') := by
      refine ⟨fun b o hb => ?_, fun _ hb => hb, rfl⟩
      simp only [Ctx.V, mask] at hb ⊢
      rw [if_neg (hno b ρ')]
      split at hb
      · cases hb
      · exact hb
    refine ⟨[u], hen, [.sl true e xs], [], ρ', ⟨rfl, rfl⟩, rfl, fun i x v hx hv => ?_, ⟨fun id o ho => by simp at ho, fun i j o o' b hi => by simp at hi, fun b hb => (hno b _ hb).elim, hw.os0, hw.tape, hw.output, hw.grow, hw.drawn, hw.kept⟩, by simp [freshAV, he], rfl⟩
    match i, hx, hv with
    | 0, hx, hv =>
      simp at hx hv
      subst hx hv
      rw [hu0]
      exact SlRel.mono hle hsl
end Go.Aw

/- The opening of a walk; states that say less; letting an owned object go. -/
import Derived.Test.YtbeeblhmgpgkjaaAw14
set_option linter.unusedVariables false
set_option linter.unusedSimpArgs false
namespace Go.Aw
open Go

/-- The opening of a walk: the context is any one that has the program's tables. -/
theorem FunA.walk {B : Ctx} (hB : B.Ok) {f : FuncId} {fn : Func} {c : Code} {args : List AV} {post : List AV → List O → Prop} (hcall : ∀ (vs : Array Value) (w : World), (callFunc f vs).run B.P w = .ok (.enter f vs) w)
    (hf : B.P.funcs[f]? = some fn) (hb : fn.body = some c) (hn : args.length ≤ fn.ntmps)
    (h : ∀ C : Ctx, C.Ok → B.P = C.P → B.tid = C.tid → C.Γ = B.Γ → C.bt = B.bt → C.fn = fn → C.pin = [] → (∀ xs obs, xs.all freshAV = true → obs.all freshO = true → post xs obs → Fin C xs obs) → Run C [.code c] (entry args fn.ntmps)) : FunA B f args post :=
  FunA.enter hcall hf hb hn fun w => h _ (hB.enter fn _ w _) rfl rfl rfl rfl rfl rfl fun _ _ h1 h2 hp => FunA.fin hp h1 h2

/-- Slots that are kept. -/
def subF (fr : List (Nat × Bool × Sl)) : List (Nat × Bool × Sl) → Prop
  | [] => True
  | (s, x) :: r => look s fr = some x ∧ subF fr r

theorem subF_look {fr : List (Nat × Bool × Sl)} : ∀ {fr' : List (Nat × Bool × Sl)}, subF fr fr' → ∀ {s : Nat} {x : Bool × Sl}, look s fr' = some x → look s fr = some x
  | [], _, s, x, h => by simp [look] at h
  | (t, y) :: r, hs, s, x, h => by
    simp only [look] at h
    split at h
    · rename_i ht
      cases h
      have : s = t := by simpa using ht
      subst this
      exact hs.1
    · exact subF_look hs.2 h

theorem Le.sub {C : Ctx} {n : Nat} {fr fr' : List (Nat × Bool × Sl)} {obs obs' : List O} (ho : obs = obs') (h : subF fr fr') : Le C ⟨n, fr, obs⟩ ⟨n, fr', obs'⟩ := by
  subst ho
  exact fun a w ρ r => ⟨ρ, r.defers, r.size, fun s ex x hl => r.fr s ex x (subF_look h hl), r.w, r.pin⟩

theorem Le.refl' {C : Ctx} {σ : St} : Le C σ σ := fun _ _ ρ r => ⟨ρ, r⟩
theorem Le.trans' {C : Ctx} {σ σ' σ'' : St} (h : Le C σ σ') (k : Le C σ' σ'') : Le C σ σ'' := fun a w ρ r => by
  obtain ⟨ρ', r'⟩ := h a w ρ r
  exact k a w ρ' r'

/-! ### Objects renumbered -/

/-- An object that says less. -/
def leO : O → O → Prop
  | _, .dead => True
  | .arr e xs _ nn, .arr e' xs' _ nn' => (nn' = true → nn = true) ∧ ∃ h : e = e', h ▸ xs = xs'
  | .mat hs rows _ nn, .mat hs' rows' _ nn' => (nn' = true → nn = true) ∧ hs = hs' ∧ rows = rows'
  | _, _ => False

theorem leO_arr (e : E) (xs xs' : List e.D) (g g' : Nat) (nn nn' : Bool) : leO (.arr e xs g nn) (.arr e xs' g' nn') = ((nn' = true → nn = true) ∧ xs = xs') := by simp [leO]
theorem leO_mat (hs hs' : List (Option Nat)) (rows rows' : List (List Int)) (g g' : Nat) (nn nn' : Bool) : leO (.mat hs rows g nn) (.mat hs' rows' g' nn') = ((nn' = true → nn = true) ∧ hs = hs' ∧ rows = rows') := rfl
theorem leO_dead (o : O) : leO o .dead = True := by cases o <;> rfl

/-- The objects of the new state: each by its number in the old one. -/
def leOs (obs : List O) : List Nat → List O → Prop
  | [], [] => True
  | i :: π, o :: l => i < obs.length ∧ leO (oAt obs i) o ∧ leOs obs π l
  | _, _ => False

def nodupB : List Nat → Bool
  | [] => true
  | i :: π => !(π.elem i) && nodupB π

def genO : O → Nat → Prop
  | .arr _ _ g' _, g => g = g'
  | .mat _ _ g' _, g => g = g'
  | .dead, _ => False

/-- A value of the new state, and what stood there in the old one. -/
def leAV (π : List Nat) (obs obs' : List O) : AV → AV → Prop
  | _, .junk => True
  | a, .own j g' => match a with
    | .own i g => j < π.length ∧ π[j]? = some i ∧ genO (oAt obs i) g ∧ genO (oAt obs' j) g'
    | _ => False
  | _, .elt _ _ _ _ => False
  | .lr l xs, .sl f e ys => .sl f e ys = (AV.sl f .int xs)
  | .nils, .sl f e ys => .sl f e ys = (AV.sl f e [])
  | a, a' => a = a'

def leFr (π : List Nat) (obs obs' : List O) (fr : List (Nat × Bool × Sl)) : List (Nat × Bool × AV) → Prop
  | [] => True
  | (s, ex, x) :: r => (∃ y, look s fr = some (ex, .v y) ∧ leAV π obs obs' y x) ∧ leFr π obs obs' fr r

def frV (l : List (Nat × Bool × AV)) : List (Nat × Bool × Sl) := l.map fun p => (p.1, p.2.1, .v p.2.2)

theorem leOs_at {obs : List O} : ∀ {π : List Nat} {l : List O}, leOs obs π l → ∀ {j : Nat} {o : O}, l[j]? = some o → ∃ i, π[j]? = some i ∧ i < obs.length ∧ leO (oAt obs i) o
  | [], [], _, j, o, h => by simp at h
  | i :: π, o' :: _, hs, j, o, h => by
    cases j with
    | zero => simp at h; subst h; exact ⟨i, by simp, hs.1, hs.2.1⟩
    | succ j => simpa using leOs_at hs.2.2 (j := j) (by simpa using h)

theorem leOs_len {obs : List O} : ∀ {π : List Nat} {l : List O}, leOs obs π l → π.length = l.length
  | [], [], _ => rfl
  | _ :: _, _ :: _, h => by simp [leOs_len h.2.2]

theorem leFr_look {π : List Nat} {obs obs' : List O} {fr : List (Nat × Bool × Sl)} : ∀ {l : List (Nat × Bool × AV)}, leFr π obs obs' fr l → ∀ {s : Nat} {ex : Bool} {x : Sl}, look s (frV l) = some (ex, x) →
    ∃ y z, x = .v z ∧ look s fr = some (ex, .v y) ∧ leAV π obs obs' y z
  | [], _, s, ex, x, h => by simp [look, frV] at h
  | (t, ey, y) :: r, hs, s, ex, x, h => by
    simp only [look, frV, List.map_cons] at h
    split at h
    · rename_i ht
      cases h
      have : s = t := by simpa using ht
      subst this
      obtain ⟨z, h1, h2⟩ := hs.1
      exact ⟨z, y, rfl, h1, h2⟩
    · exact leFr_look hs.2 h

theorem nodupB_inj : ∀ {π : List Nat}, nodupB π = true → ∀ {i j k : Nat}, π[i]? = some k → π[j]? = some k → i = j
  | [], _, i, j, k, h, _ => by simp at h
  | p :: π, hn, i, j, k, h1, h2 => by
    simp only [nodupB, Bool.and_eq_true, Bool.not_eq_true', List.elem_eq_mem, decide_eq_false_iff_not] at hn
    cases i with
    | zero =>
      cases j with
      | zero => rfl
      | succ j =>
        simp at h1 h2
        subst h1
        exact absurd (List.mem_of_getElem? h2) hn.1
    | succ i =>
      cases j with
      | zero =>
        simp at h1 h2
        subst h2
        exact absurd (List.mem_of_getElem? h1) hn.1
      | succ j =>
        simp at h1 h2
        exact congrArg _ (nodupB_inj hn.2 h1 h2)

theorem oAt_get {obs : List O} {i : Nat} (h : i < obs.length) : obs[i]? = some (oAt obs i) := by
  rw [oAt_eq, List.getElem?_eq_getElem h]; rfl

theorem RowRel.nilrow {V : Vw} {f : Bool} : RowRel V f [] (.slice none 0 0) := ⟨none, 0, rfl, by simp, by simp, fun i hi => by simp at hi⟩

theorem Le.reP {C : Ctx} {n : Nat} {fr : List (Nat × Bool × Sl)} {obs obs' : List O} (π : List Nat) (l : List (Nat × Bool × AV)) (hp : ∀ j, j < C.pin.length → π[j]? = some j ∧ genOf obs' j = genOf obs j) (hn : nodupB π = true) (ho : leOs obs π obs') (hf : leFr π obs obs' fr l) :
    Le C ⟨n, fr, obs⟩ ⟨n, frV l, obs'⟩ := by
  intro a w ρ r
  have rw0 := r.w
  have hlen : ∀ j o, obs'[j]? = some o → ∃ i o0, π[j]? = some i ∧ obs[i]? = some o0 ∧ leO o0 o := fun j o h => by
    obtain ⟨i, h1, h2, h3⟩ := leOs_at ho h
    exact ⟨i, _, h1, oAt_get h2, h3⟩
  have hfp : ∀ {j i : Nat} {o o0 : O} {b : Nat}, π[j]? = some i → leO o0 o → fpo (ρ ((π[j]?).getD 0)) o b → fpo (ρ i) o0 b := by
    intro j i o o0 b hj hle hb
    rw [hj] at hb
    cases o with
    | dead => simp [fpo] at hb
    | arr e xs g nn =>
      cases o0 with
      | dead => simp [leO] at hle
      | arr e' xs' g' nn' => exact hb
      | mat _ _ _ _ => exact hle.elim
    | mat hs rows g nn =>
      cases o0 with
      | dead => exact hle.elim
      | arr e' xs' g' nn' => exact hle.elim
      | mat hs' rows' _ _ => obtain ⟨_, h1, _⟩ := hle; subst h1; exact hb
  have hown : ∀ b, Own obs' (fun j => ρ ((π[j]?).getD 0)) b → Own obs ρ b := by
    rintro b ⟨j, o, hj, hb⟩
    obtain ⟨i, o0, h1, h2, h3⟩ := hlen j o hj
    exact ⟨i, o0, h2, hfp h1 h3 hb⟩
  have hle : (C.V w obs ρ).le (C.V w obs' (fun j => ρ ((π[j]?).getD 0))) := by
    refine ⟨fun b o hb => ?_, fun _ hb => hb, rfl⟩
    simp only [Ctx.V, mask] at hb ⊢
    split at hb
    · cases hb
    · rename_i hnn
      rw [if_neg (fun k => hnn (hown b k))]
      exact hb
  have hw : WRel C obs' w (fun j => ρ ((π[j]?).getD 0)) := by
    refine ⟨fun id o hid => ?_, fun i j o o' b hi hj bi bj => ?_, fun b hb => rw0.own b (hown b hb), rw0.os0, rw0.tape, rw0.output, rw0.grow, rw0.kept⟩
    · obtain ⟨i, o0, h1, h2, h3⟩ := hlen id o hid
      have h4 := (rw0.os i o0 h2).kept hle (Ext.refl (fun _ => False) w) (fun _ _ k => k)
      simp only [h1, Option.getD_some]
      cases o with
      | dead => trivial
      | arr e xs g nn =>
        cases o0 with
        | dead => simp [leO] at h3
        | arr e' xs' g' nn' =>
          obtain ⟨k1, k2, k3⟩ := h3
          subst k2
          subst k3
          obtain ⟨cs, m1, m2, m3, m4⟩ := h4
          exact ⟨cs, m1, m2, fun k => m3 (k1 k), m4⟩
        | mat _ _ _ _ => exact h3.elim
      | mat hs rows g nn =>
        cases o0 with
        | dead => exact h3.elim
        | arr _ _ _ _ => exact h3.elim
        | mat hs' rows' g' nn' =>
          obtain ⟨k1, k2, k3⟩ := h3
          subst k2
          subst k3
          obtain ⟨cs, m1, m2, m3, m4, m5, m6, m7⟩ := h4
          exact ⟨cs, m1, m2, m3, m4, m5, fun k => m6 (k1 k), m7⟩
    · obtain ⟨i', o0, h1, h2, h3⟩ := hlen i o hi
      obtain ⟨j', o1, k1, k2, k3⟩ := hlen j o' hj
      have := rw0.dis i' j' o0 o1 b h2 k2 (hfp h1 h3 bi) (hfp k1 k3 bj)
      subst this
      exact nodupB_inj hn h1 k1
  refine ⟨fun j => ρ ((π[j]?).getD 0), r.defers, r.size, fun s ex x hl => ?_, hw, fun j v hj => ?_⟩
  case refine_2 =>
    have hlt := (List.getElem?_eq_some_iff.1 hj).1
    obtain ⟨h1, h2⟩ := hp j hlt
    obtain ⟨h3, h4⟩ := r.pin j v hj
    refine ⟨?_, fun hg => ?_⟩
    · have hπ : π.length = obs'.length := leOs_len ho
      rw [← hπ]
      exact (List.getElem?_eq_some_iff.1 h1).1
    · simp only [h1, Option.getD_some]
      exact h4 (by rw [← h2]; exact hg)
  obtain ⟨y, z, rfl, h1, h2⟩ := leFr_look hf hl
  obtain ⟨k1, k2⟩ := r.fr s ex _ h1
  refine ⟨fun he => ?_, k2⟩
  have hy : AVRel (C.V w obs ρ) obs ρ y _ := k1 he
  show AVRel (C.V w obs' (fun j => ρ ((π[j]?).getD 0))) obs' (fun j => ρ ((π[j]?).getD 0)) z _
  have same : y = z → (∀ i g, z ≠ .own i g) → (∀ i g s k, z ≠ .elt i g s k) → AVRel (C.V w obs' (fun j => ρ ((π[j]?).getD 0))) obs' (fun j => ρ ((π[j]?).getD 0)) z (a.tmps.getD s undef) := by
    rintro rfl n1 n2
    cases y with
    | junk => trivial
    | int k n => exact hy
    | bool b => exact hy
    | str s => exact hy
    | sl f e xs => exact SlRel.mono hle hy
    | lr l xs => exact LRowRel.mono hle hy
    | vec xs => exact hy
    | nils => exact hy
    | own id g => exact absurd rfl (n1 id g)
    | elt id g s k => exact absurd rfl (n2 id g s k)
    | relt f e d =>
      obtain ⟨a, u, hv, hf, hr, hc⟩ := hy
      refine ⟨a, u, hv, fun k => hle.Fr _ (hf k), hr.mono hle, fun j hj => ?_⟩
      have hsz := hr.cells.1
      have h3 := hc j hj
      rw [Array.getElem?_eq_getElem (by omega)] at h3 ⊢
      exact hle.cell h3
    | hdr h n => exact hy
    | emp b => exact hy
    | fn f => exact hy
  cases z with
  | junk => trivial
  | own j g' =>
    cases y with
    | own i g =>
      obtain ⟨m0, m1, m2, m3⟩ := h2
      obtain ⟨p1, p2⟩ := hy
      have hj : j < obs'.length := by
        rcases Nat.lt_or_ge j obs'.length with h | h
        · exact h
        · rw [oAt_eq, List.getElem?_eq_none h] at m3; exact m3.elim
      refine ⟨hj, fun c hc => ?_⟩
      have hg : genOf obs i = some g := by
        unfold genOf
        rw [oAt_get p1]
        revert m2
        cases oAt obs i with
        | dead => intro k; exact k.elim
        | arr e xs g0 nn => intro k; exact congrArg some (Eq.symm k)
        | mat _ _ g0 nn => intro k; exact congrArg some (Eq.symm k)
      have hg' : g' = c := by
        unfold genOf at hc
        rw [oAt_get hj] at hc
        revert m3 hc
        cases oAt obs' j with
        | dead => intro k; exact k.elim
        | arr e xs g0 nn => intro k hc; simp [O.gen] at hc; exact (show g' = g0 from k).trans hc
        | mat _ _ g0 nn => intro k hc; simp [O.gen] at hc; exact (show g' = g0 from k).trans hc
      refine ⟨by omega, fun _ => ?_⟩
      simp only [m1, Option.getD_some]
      exact (p2 g hg).2 rfl
    | _ => exact h2.elim
  | elt i g s k => simp [leAV] at h2
  | sl f e xs =>
    cases y with
    | lr l ys =>
      simp only [leAV] at h2
      cases h2
      exact (show SlRel (C.V w obs' _) f .int ys _ from by
        have := LRowRel.toRow (LRowRel.mono hle hy)
        cases f
        · exact (RowRel.weaken this).toSl
        · exact this.toSl)
    | nils =>
      simp only [leAV] at h2
      cases h2
      simp only [AVRel] at hy
      rw [hy]
      exact ⟨none, 0, rfl, by simp, by simp, fun i hi => by simp at hi⟩
    | sl f' e' ys => exact same h2 (by simp) (by simp)
    | _ => exact absurd h2 (by simp [leAV])
  | int k n => cases y <;> first | exact same h2 (by simp) (by simp) | exact absurd h2 (by simp [leAV])
  | bool b => cases y <;> first | exact same h2 (by simp) (by simp) | exact absurd h2 (by simp [leAV])
  | str b => cases y <;> first | exact same h2 (by simp) (by simp) | exact absurd h2 (by simp [leAV])
  | lr l b => cases y <;> first | exact same h2 (by simp) (by simp) | exact absurd h2 (by simp [leAV])
  | vec b => cases y <;> first | exact same h2 (by simp) (by simp) | exact absurd h2 (by simp [leAV])
  | nils => cases y <;> first | exact same h2 (by simp) (by simp) | exact absurd h2 (by simp [leAV])
  | relt f e b => cases y <;> first | exact same h2 (by simp) (by simp) | exact absurd h2 (by simp [leAV])
  | fn b => cases y <;> first | exact same h2 (by simp) (by simp) | exact absurd h2 (by simp [leAV])
  | hdr h n => cases y <;> first | exact same h2 (by simp) (by simp) | exact absurd h2 (by simp [leAV])
  | emp b => cases y <;> first | exact same h2 (by simp) (by simp) | exact absurd h2 (by simp [leAV])

theorem Le.re {C : Ctx} (hC : C.pin = []) {n : Nat} {fr : List (Nat × Bool × Sl)} {obs obs' : List O} (π : List Nat) (l : List (Nat × Bool × AV)) (hn : nodupB π = true) (ho : leOs obs π obs') (hf : leFr π obs obs' fr l) :
    Le C ⟨n, fr, obs⟩ ⟨n, frV l, obs'⟩ := Le.reP π l (fun j hj => by rw [hC] at hj; simp at hj) hn ho hf

/-! ### Letting an object go -/

theorem letgo_sl {C : Ctx} {obs : List O} {w : World} {ρ : Nat → Value} (rr : WRel C obs w ρ) {id g : Nat} {e : E} {xs : List e.D} {nn : Bool} (ho : obs[id]? = some (.arr e xs g nn)) :
    Step C w w obs (obs.set id .dead) ρ (fun i => if i = id then ρ id else ρ i) ∧ SlRel (C.V w (obs.set id .dead) (fun i => if i = id then ρ id else ρ i)) true e xs (ρ id) := by
  have T := Turn.letgo rr ho
  have hst := T.step rr
  obtain ⟨cs, hown, henc, hnn, hml⟩ := rr.os id _ ho
  refine ⟨hst, ?_⟩
  have henc' := henc.mono hst.le
  have hown0 := hown
  rcases hown.2 with ⟨hv, hz⟩ | ⟨b, cap, cur, hv, _, hg, h1, h2, h3, h4⟩
  · exact ⟨none, 0, by rw [hv, hz], by omega, by omega, fun i hi => by omega⟩
  · have hfp : fpo (ρ id) (.arr e xs g nn) b := by simp [fpo, hv, Value.ownBlock]
    have hnot : ¬ Own (obs.set id .dead) (fun i => if i = id then ρ id else ρ i) b := by
      rintro ⟨j, oj, hj, hf⟩
      by_cases hji : id = j
      · subst hji
        rw [List.getElem?_set_self (List.getElem?_eq_some_iff.1 ho).1] at hj
        cases hj
        simp [fpo] at hf
      · rw [List.getElem?_set_ne hji] at hj
        simp only [if_neg (Ne.symm hji)] at hf
        exact hji (rr.dis id j _ oj b ho hj hfp hf)
    refine ⟨some ⟨b, 0, none⟩, cap, hv, by omega, h2, fun i hi => ?_⟩
    obtain ⟨u, hu, hcell⟩ := henc'.2 i (by omega)
    refine ⟨⟨b, 0, none⟩, u, rfl, fun _ => rr.own b ⟨id, _, ho, hfp⟩, hu, fun j hj => ?_⟩
    have hsz := hu.cells.1
    have h5 := hcell j (by omega)
    rw [Array.getElem?_eq_getElem (by omega)] at h5 ⊢
    have h6 := hown0.cells (g := b) (by rw [hv]; rfl) _ _ h5
    have hH : (C.V w (obs.set id .dead) (fun i => if i = id then ρ id else ρ i)).H b = w.heap[b]? := by
      simp only [Ctx.V, mask, if_neg hnot]
    simp only [add_plain, Vw.cell, hH]
    simp only [World.cell?, add_plain] at h6
    revert h6
    cases w.heap[b]? with
    | none => intro h; cases h
    | some o => cases o <;> first | (intro h; cases h) | exact fun h => h

/-- The slots as they stand once object id, of generation g, is let go. -/
def slF (id g : Nat) (x' : AV) (obs : List O) (fr : List (Nat × Bool × Sl)) : List (Nat × Bool × AV) → Prop
  | [] => True
  | (s, ex, x) :: r => ((look s fr = some (ex, .v x)) ∨ (look s fr = some (ex, .v (.own id g)) ∧ x = x')) ∧ slF id g x' obs fr r

theorem slF_look {id g : Nat} {x' : AV} {obs : List O} {fr : List (Nat × Bool × Sl)} : ∀ {l : List (Nat × Bool × AV)}, slF id g x' obs fr l → ∀ {s : Nat} {ex : Bool} {x : Sl}, look s (frV l) = some (ex, x) →
    ∃ z, x = .v z ∧ (look s fr = some (ex, .v z) ∨ (look s fr = some (ex, .v (.own id g)) ∧ z = x'))
  | [], _, s, ex, x, h => by simp [look, frV] at h
  | (t, ey, y) :: r, hs, s, ex, x, h => by
    simp only [look, frV, List.map_cons] at h
    split at h
    · rename_i ht
      cases h
      have : s = t := by simpa using ht
      subst this
      exact ⟨y, rfl, hs.1⟩
    · exact slF_look hs.2 h

theorem Le.letgo {C : Ctx} {n : Nat} {fr : List (Nat × Bool × Sl)} {obs : List O} (id : Nat) {g : Nat} {e : E} {xs : List e.D} {nn : Bool} (l : List (Nat × Bool × AV)) (ho : oAt obs id = .arr e xs g nn) (hf : slF id g (.sl true e xs) obs fr l) :
    Le C ⟨n, fr, obs⟩ ⟨n, frV l, oSet obs id .dead⟩ := by
  intro a w ρ r
  have hid : id < obs.length := by
    rcases Nat.lt_or_ge id obs.length with h | h
    · exact h
    · rw [oAt_eq, List.getElem?_eq_none h] at ho; cases ho
  have ho' : obs[id]? = some (.arr e xs g nn) := by rw [oAt_get hid, ho]
  rw [oSet_eq]
  obtain ⟨hst, hsl⟩ := letgo_sl r.w ho'
  refine ⟨_, r.defers, r.size, fun s ex x hl => ?_, hst.wr, (hst.rel r).pin⟩
  obtain ⟨z, rfl, h1 | ⟨h1, h2⟩⟩ := slF_look hf hl
  · obtain ⟨k1, k2⟩ := r.fr s ex _ h1
    exact ⟨fun he => hst.slot (k1 he), k2⟩
  · obtain ⟨k1, k2⟩ := r.fr s ex _ h1
    refine ⟨fun he => ?_, k2⟩
    subst h2
    obtain ⟨_, hk⟩ := (show AVRel (C.V w obs ρ) obs ρ (.own id g) _ from k1 he)
    have : a.tmps.getD s undef = ρ id := (hk g (by unfold genOf; rw [ho']; rfl)).2 rfl
    show SlRel _ _ _ _ _
    rw [this]
    exact hsl

end Go.Aw

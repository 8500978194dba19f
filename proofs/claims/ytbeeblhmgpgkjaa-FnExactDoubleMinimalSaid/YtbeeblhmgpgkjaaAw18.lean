/- A region that draws its order: every order gives what one order gives. -/
import Derived.Test.YtbeeblhmgpgkjaaAw17
set_option linter.unusedVariables false
set_option linter.unusedSimpArgs false
namespace Go.Aw
open Go

def Res.plain : Res → Prop
  | .bad => True
  | .ok _ _ _ => True
  | _ => False

section
variable {C : Ctx} {rg : Rg} {σ σ' : St}

theorem binV_plain (op : BinOp) (x y : AV) (obs : List O) : (binV op x y obs).plain := by
  have := binV_shape op x y obs
  cases h : binV op x y obs <;> first | trivial | exact absurd h (this.1 _ _) | exact absurd h (this.2 _ _ _)
theorem lenV_plain (x : AV) (obs : List O) : (lenV x obs).plain := by
  have := lenV_shape x obs
  cases h : lenV x obs <;> first | trivial | exact absurd h (this.1 _ _) | exact absurd h (this.2 _ _ _)
theorem idxV_plain (e : Option E) (x i : AV) (obs : List O) : (idxV e x i obs).plain := by
  have := idxV_shape e x i obs
  cases h : idxV e x i obs <;> first | trivial | exact absurd h (this.1 _ _) | exact absurd h (this.2 _ _ _)
theorem loadV_plain (b : Bool) (x : AV) (obs : List O) : (loadV b x obs).plain := by
  have := loadV_shape b x obs
  cases h : loadV b x obs <;> first | trivial | exact absurd h (this.1 _ _) | exact absurd h (this.2 _ _ _)
theorem sliceV_plain (x : AV) (lo hi : Option AV) (obs : List O) : (sliceV x lo hi obs).plain := by
  have := sliceV_shape x lo hi obs
  cases h : sliceV x lo hi obs <;> first | trivial | exact absurd h (this.1 _ _) | exact absurd h (this.2 _ _ _)
theorem maxV_plain (b : Bool) (x y : AV) (obs : List O) : (maxV b x y obs).plain := by
  unfold maxV; split <;> trivial

theorem ro_plain {op : Op} (h : roOp op = true) : (astep C σ op).plain := by
  cases op <;> simp only [roOp] at h <;> first | (cases h; done) | skip
  case move => trivial
  case assign => trivial
  case pick => rw [astep_pick]; unfold pickQ; split <;> trivial
  case binOp =>
    rw [astep_bin]; unfold binQ
    split <;> first | exact binV_plain .. | trivial
  case unOp => simp only [astep, unV]; split <;> trivial
  case load => exact loadV_plain ..
  case indexAddr => exact idxV_plain ..
  case slice t x lo hi mx =>
    cases mx with
    | some _ => trivial
    | none =>
      rw [astep_slice]; unfold sliceQ
      split
      · exact sliceV_plain ..
      · split
        · exact sliceV_plain ..
        · trivial
      · split
        · exact sliceV_plain ..
        · trivial
      · trivial
  case extract x i =>
    simp only [astep, exV]
    split
    · split
      · split <;> trivial
      · trivial
    · trivial
  case call c =>
    obtain ⟨cal, ⟨l⟩, ⟨tl⟩⟩ := c
    cases cal with
    | builtin b =>
      cases b <;> simp only [] at h <;> first | (cases h; done) | skip
      case len =>
        match l, tl with
        | [y], [t] =>
          show (lenQ (C.bt t) (C.Γ t) (σ.ev y) σ.obs).plain
          unfold lenQ
          split
          · exact lenV_plain ..
          · trivial
          · exact lenV_plain ..
          · trivial
        | [], _ => trivial
        | [_], [] => trivial
        | [_], _ :: _ :: _ => trivial
        | _ :: _ :: _, _ => trivial
      case max =>
        match l with
        | [y, z] => exact maxV_plain ..
        | [] => trivial
        | [_] => trivial
        | _ :: _ :: _ :: _ => trivial
      case min =>
        match l with
        | [y, z] => exact maxV_plain ..
        | [] => trivial
        | [_] => trivial
        | _ :: _ :: _ :: _ => trivial
    | _ => cases h

theorem ro_callee {op : Op} (h : roOp op = true) : calleeOf op = none := by
  unfold roOp at h
  split at h <;> first | rfl | cases h

/-- An operation that only reads, and what it hands back. -/
def roS (σ : St) (o : Oper) (x : AV) : Sl := match o.guard with
  | none => mvS σ o.op x
  | some _ => .v x
def RO (C : Ctx) (rg : Rg) (o : Oper) (σ : St) (ex : Bool) (s : Sl) : Prop :=
  inN σ.n o.dst ∧ gex rg.ds σ o.guard = some ex ∧ ∃ vc ob x, astep C σ o.op = .ok vc x ob ∧ (ex = true → hasAll σ o.op ∧ vc) ∧ s = roS σ o x
theorem mvS_agree {op : Op} (h : Agree (opReads op) σ σ') (x : AV) : mvS σ op x = mvS σ' op x := by
  unfold mvS
  split
  · rename_i t
    rw [h t (by simp [opReads, opnd])]
  · rfl
theorem roS_agree {o : Oper} (h : Agree (opReads o.op) σ σ') (x : AV) : roS σ o x = roS σ' o x := by
  unfold roS
  split
  · exact mvS_agree h x
  · rfl

theorem ro_of_aone {o : Oper} (hr : roOp o.op = true) {K : St → Prop} (h : aone C rg o σ K) : ∃ ex x, RO C rg o σ ex x ∧ K (σ.put o.dst ex x σ.obs) := by
  unfold aone at h
  obtain ⟨hd, h⟩ := h
  rw [ro_callee hr] at h
  have hp := ro_plain (C := C) (σ := σ) hr
  cases hg : o.guard with
  | none =>
    rw [hg] at h
    simp only at h
    cases hs : astep C σ o.op with
    | bad => rw [hs] at h; exact h.elim
    | ok vc x ob =>
      rw [hs] at h
      have := roOp_obs hr hs
      subst this
      exact ⟨true, mvS σ o.op x, ⟨hd, by rw [hg]; rfl, vc, _, x, hs, fun _ => ⟨h.1, h.2.1⟩, by simp only [roS, hg]⟩, h.2.2⟩
    | skip vc ob => rw [hs] at hp; exact hp.elim
    | all p x ob => rw [hs] at hp; exact hp.elim
  | some g =>
    rw [hg] at h
    simp only at h
    cases hgx : gex rg.ds σ (some g) with
    | none => rw [hgx] at h; exact h.elim
    | some ex =>
      rw [hgx] at h
      simp only [hr, if_true] at h
      cases hs : astep C σ o.op with
      | bad => rw [hs] at h; exact h.elim
      | ok vc x ob => rw [hs] at h; exact ⟨ex, .v x, ⟨hd, by rw [hg]; exact hgx, vc, ob, x, hs, h.1, by simp only [roS, hg]⟩, h.2⟩
      | skip vc ob => rw [hs] at hp; exact hp.elim
      | all p x ob => rw [hs] at hp; exact hp.elim

theorem aone_of_ro {o : Oper} (hr : roOp o.op = true) {K : St → Prop} {ex : Bool} {s : Sl} (h : RO C rg o σ ex s) (hk : K (σ.put o.dst ex s σ.obs)) : aone C rg o σ K := by
  obtain ⟨hd, hg, vc, ob, x, hs, hh, rfl⟩ := h
  unfold aone
  refine ⟨hd, ?_⟩
  rw [ro_callee hr]
  cases hgg : o.guard with
  | none =>
    rw [hgg] at hg
    cases hg
    simp only [roS, hgg] at hk
    simp only [hs]
    have := roOp_obs hr hs
    subst this
    exact ⟨(hh rfl).1, (hh rfl).2, hk⟩
  | some g =>
    rw [hgg] at hg
    simp only [roS, hgg] at hk
    simp only [hg, hr, if_true, hs]
    exact ⟨hh, hk⟩

/-! ### States alike -/

def Eqv (σ σ' : St) : Prop := σ.n = σ'.n ∧ σ.obs = σ'.obs ∧ ∀ s, look s σ.fr = look s σ'.fr
def Resp (K : St → Prop) : Prop := ∀ σ σ', Eqv σ σ' → K σ → K σ'

theorem Eqv.refl (σ : St) : Eqv σ σ := ⟨rfl, rfl, fun _ => rfl⟩
theorem Eqv.agree (h : Eqv σ σ') (L : List Nat) : Agree L σ σ' := fun s _ => h.2.2 s
theorem look_put (σ : St) (d : Nat) (ex : Bool) (x : Sl) (obs : List O) (s : Nat) : look s (σ.put (some d) ex x obs).fr = if s = d then some (ex, x) else look s σ.fr := by
  simp only [St.put, look, beq_iff_eq]
theorem put_n' (σ : St) (d : Option Nat) (ex : Bool) (x : Sl) (obs : List O) : (σ.put d ex x obs).n = σ.n := by cases d <;> rfl
theorem put_obs' (σ : St) (d : Option Nat) (ex : Bool) (x : Sl) (obs : List O) : (σ.put d ex x obs).obs = obs := by cases d <;> rfl
theorem look_put_ne {σ : St} {d : Option Nat} {ex : Bool} {x : Sl} {obs : List O} {s : Nat} (h : d ≠ some s) : look s (σ.put d ex x obs).fr = look s σ.fr := by
  cases d with
  | none => rfl
  | some d => rw [look_put, if_neg (fun e => h (by rw [e]))]
theorem Eqv.put (h : Eqv σ σ') (d : Option Nat) (ex : Bool) (x : Sl) (obs : List O) : Eqv (σ.put d ex x obs) (σ'.put d ex x obs) := by
  refine ⟨by rw [put_n', put_n', h.1], by rw [put_obs', put_obs'], fun s => ?_⟩
  cases d with
  | none => exact h.2.2 s
  | some d => rw [look_put, look_put, h.2.2 s]
theorem put_swap {d d' : Option Nat} (hd : d = none ∨ d ≠ d') (ex ex' : Bool) (x x' : Sl) (o1 obs : List O) :
    Eqv ((σ.put d ex x o1).put d' ex' x' obs) ((σ.put d' ex' x' obs).put d ex x obs) := by
  refine ⟨by simp [put_n'], by simp [put_obs'], fun s => ?_⟩
  cases d with
  | none => cases d' <;> rfl
  | some d =>
    cases d' with
    | none => rfl
    | some d' =>
      rw [look_put, look_put, look_put, look_put]
      have hne : d ≠ d' := by
        rcases hd with h | h
        · cases h
        · exact fun e => h (by rw [e])
      by_cases h1 : s = d'
      · subst h1
        rw [if_pos rfl, if_neg (Ne.symm hne), if_pos rfl]
      · rw [if_neg h1, if_neg h1]

theorem gex_agree {ds : List (Option Nat)} {g : Option (Nat × Bool)} (h : Agree (gReads ds g) σ σ') : gex ds σ g = gex ds σ' g := by
  cases g with
  | none => rfl
  | some q =>
    obtain ⟨j, b⟩ := q
    simp only [gex]
    cases hs : slotOf ds j with
    | none => rfl
    | some d => simp only [h d (by simp [gReads, hs])]

theorem callee_reads {op : Op} {f : FuncId} {args : List Operand} (h : calleeOf op = some (f, args)) : opReads op = opndL args := by
  obtain ⟨ts, rfl⟩ := calleeOf_op h
  simp [opReads]

theorem aone_mono {o : Oper} {K K' : St → Prop} (hk : ∀ σ, K σ → K' σ) (h : aone C rg o σ K) : aone C rg o σ K' := by
  unfold aone at *
  refine ⟨h.1, ?_⟩
  have h := h.2
  split
  · rename_i hg
    rw [hg] at h
    simp only at h
    split
    · rename_i f args hc
      rw [hc] at h
      exact ⟨h.1, h.2.mono fun x o hh => ⟨hh.1, hk _ hh.2⟩⟩
    · rename_i hc
      rw [hc] at h
      simp only at h
      split <;> rename_i hs <;> rw [hs] at h
      · exact h
      · exact ⟨h.1, h.2.1, hk _ h.2.2⟩
      · exact ⟨h.1, h.2.1, h.2.2.1, hk _ h.2.2.2⟩
      · exact ⟨h.1, fun l hl => hk _ (h.2 l hl)⟩
  · rename_i g hg
    rw [hg] at h
    simp only at h
    split
    · rename_i hx; rw [hx] at h; exact h
    · rename_i ex hx
      rw [hx] at h
      simp only at h
      split
      · rename_i f args hc
        rw [hc] at h
        exact ⟨h.1, h.2.mono (fun x hx => hk _ hx) (fun x o hx => ⟨hx.1, hk _ hx.2⟩)⟩
      · rename_i hc
        rw [hc] at h
        simp only at h
        split
        · rename_i hr
          rw [if_pos hr] at h
          split <;> rename_i hs
          · rw [hs] at h; exact ⟨h.1, hk _ h.2⟩
          · split at h <;> first | exact h | (rename_i h2; exact absurd h2 (hs _ _ _))
        · rename_i hr; rw [if_neg hr] at h; exact h

def keepOp (op : Op) : Bool :=
  (calleeOf op).isSome || match op with
    | .makeSlice _ _ _ => true
    | _ => false

/-- What an operation leaves as it was. -/
structure Left (rg : Rg) (σ σ2 : St) (o : Oper) : Prop where
  n : σ2.n = σ.n
  fr : ∀ s, o.dst ≠ some s → look s σ2.fr = look s σ.fr
  ro : roOp o.op = true → σ2.obs = σ.obs
  keep : rg.kp = true → keepOp o.op = true → Keeps σ.obs σ2.obs

theorem Left.put {o : Oper} {ex : Bool} {x : Sl} {obs : List O} (h1 : roOp o.op = true → obs = σ.obs) (h2 : rg.kp = true → keepOp o.op = true → Keeps σ.obs obs) : Left rg σ (σ.put o.dst ex x obs) o :=
  ⟨put_n' .., fun _ hs => look_put_ne hs, fun h => by rw [put_obs']; exact h1 h, fun h k => by rw [put_obs']; exact h2 h k⟩

theorem ro_not_call {op : Op} {f : FuncId} {args : List Operand} (hc : calleeOf op = some (f, args)) : ¬ roOp op = true := fun h => by rw [ro_callee h] at hc; cases hc

theorem Keeps.refl (obs : List O) : Keeps obs obs := fun _ _ h => h
theorem Keeps.app (obs l : List O) : Keeps obs (obs ++ l) := fun id o h => by
  rw [List.getElem?_append_left (List.getElem?_eq_some_iff.1 h).1]; exact h

theorem keep_make {op : Op} (hk : keepOp op = true) (hc : calleeOf op = none) {vc : Prop} {x : AV} {ob : List O} (hs : astep C σ op = .ok vc x ob) : Keeps σ.obs ob := by
  simp only [keepOp, hc, Option.isSome_none, Bool.false_or] at hk
  cases op <;> first | (cases hk; done) | skip
  simp only [astep] at hs
  unfold makeV at hs
  split at hs
  · cases hs; exact Keeps.app _ _
  · split at hs
    · cases hs; exact Keeps.app _ _
    · cases hs
  · cases hs
theorem keep_not_skip {op : Op} (hk : keepOp op = true) (hc : calleeOf op = none) {vc : Prop} {ob : List O} (hs : astep C σ op = .skip vc ob) : False := by
  simp only [keepOp, hc, Option.isSome_none, Bool.false_or] at hk
  cases op <;> first | (cases hk; done) | skip
  exact (makeV_shape _ _ _ _).1 _ _ hs
theorem keep_not_all {op : Op} (hk : keepOp op = true) (hc : calleeOf op = none) {p : Nat → Prop} {x : AV} {ob : Nat → List O} (hs : astep C σ op = .all p x ob) : False := by
  simp only [keepOp, hc, Option.isSome_none, Bool.false_or] at hk
  cases op <;> first | (cases hk; done) | skip
  exact (makeV_shape _ _ _ _).2 _ _ _ hs

/-- The frame rule of one operation. -/
theorem aone_frame {o : Oper} {d : Option Nat} {ex : Bool} {x : Sl} (h1 : ∀ s ∈ reads rg.ds o, d ≠ some s) (h2 : d = none ∨ d ≠ o.dst) {K : St → Prop} (hK : Resp K) (h : aone C rg o (σ.put d ex x σ.obs) K) :
    aone C rg o σ fun σ2 => Left rg σ σ2 o ∧ K (σ2.put d ex x σ2.obs) := by
  have hag : Agree (reads rg.ds o) (σ.put d ex x σ.obs) σ := fun s hs => look_put_ne (h1 s hs)
  have hob : (σ.put d ex x σ.obs).obs = σ.obs := put_obs' ..
  have hgx := gex_agree (ds := rg.ds) hag.right
  have has := hasAll_agree (op := o.op) hag.left
  have hst := astep_agree (C := C) (op := o.op) hag.left hob
  have swap : ∀ (ex' : Bool) (x' : Sl) (obs : List O), K ((σ.put d ex x σ.obs).put o.dst ex' x' obs) → K ((σ.put o.dst ex' x' obs).put d ex x (σ.put o.dst ex' x' obs).obs) := fun ex' x' obs hk => by
    rw [put_obs']
    exact hK _ _ (put_swap h2 ..) hk
  unfold aone at *
  refine ⟨by rw [← put_n' σ d ex x σ.obs]; exact h.1, ?_⟩
  have h := h.2
  rw [hob] at h
  split
  · rename_i hg
    rw [hg] at h
    simp only at h
    split
    · rename_i f args hc
      rw [hc] at h
      simp only at h
      have hr := callee_reads hc
      have he : args.map (σ.put d ex x σ.obs).ev = args.map σ.ev := by
        rw [← evL_eq, ← evL_eq]
        exact evL_agree (by rw [← hr]; exact hag.left)
      have hh : (∀ y ∈ args, (σ.put d ex x σ.obs).has y) = ∀ y ∈ args, σ.has y := by
        rw [← hasL_eq, ← hasL_eq]
        exact hasL_agree (by rw [← hr]; exact hag.left)
      rw [he, hh] at h
      exact ⟨h.1, h.2.mono fun y ob hy => ⟨hy.1, Left.put (fun k => absurd k (ro_not_call hc)) (fun k _ => hy.1 k), swap _ _ _ hy.2⟩⟩
    · rename_i hc
      rw [hc] at h
      simp only at h
      rw [hst, has] at h
      simp only [mvS_agree hag.left] at h
      split <;> rename_i hs <;> rw [hs] at h
      · exact h
      · exact ⟨h.1, h.2.1, Left.put (fun k => roOp_obs k hs) (fun _ k => keep_make k hc hs), swap _ _ _ h.2.2⟩
      · rename_i vc ob
        obtain ⟨a1, a2, a3, a4⟩ := h
        refine ⟨a1, a2, a3, ?_, ?_⟩
        · have := Left.put (rg := rg) (σ := σ) (o := o) (ex := true) (x := .v .junk) (obs := ob) (fun k => by have := ro_plain (C := C) (σ := σ) k; rw [hs] at this; exact this.elim) (fun _ k => (keep_not_skip k hc hs).elim)
          rw [a3] at this
          exact this
        · have := swap true (.v .junk) ob (by rw [a3]; exact a4)
          rw [a3] at this
          exact this
      · exact ⟨h.1, fun l hl => ⟨Left.put (fun k => by have := ro_plain (C := C) (σ := σ) k; rw [hs] at this; exact this.elim) (fun _ k => (keep_not_all k hc hs).elim), swap _ _ _ (h.2 l hl)⟩⟩
  · rename_i g hg
    rw [hg] at h hgx
    simp only at h
    rw [hgx] at h
    split
    · rename_i hx; rw [hx] at h; exact h
    · rename_i ex' hx
      rw [hx] at h
      simp only at h
      split
      · rename_i f args hc
        rw [hc] at h
        simp only at h
        have hr := callee_reads hc
        have he : args.map (σ.put d ex x σ.obs).ev = args.map σ.ev := by
          rw [← evL_eq, ← evL_eq]
          exact evL_agree (by rw [← hr]; exact hag.left)
        have hh : (∀ y ∈ args, (σ.put d ex x σ.obs).has y) = ∀ y ∈ args, σ.has y := by
          rw [← hasL_eq, ← hasL_eq]
          exact hasL_agree (by rw [← hr]; exact hag.left)
        rw [he, hh] at h
        exact ⟨h.1, h.2.mono (fun y hy => ⟨Left.put (fun _ => rfl) (fun _ _ => Keeps.refl _), swap _ _ _ hy⟩) (fun y ob hy => ⟨hy.1, Left.put (fun k => absurd k (ro_not_call hc)) (fun k _ => hy.1 k), swap _ _ _ hy.2⟩)⟩
      · rename_i hc
        rw [hc] at h
        simp only at h
        split
        · rename_i hr
          rw [if_pos hr, hst, has] at h
          split <;> rename_i hs
          · rw [hs] at h; exact ⟨h.1, Left.put (fun _ => rfl) (fun _ _ => Keeps.refl _), swap _ _ _ h.2⟩
          · split at h <;> first | exact h | (rename_i h2; exact absurd h2 (hs _ _ _))
        · rename_i hr; rw [if_neg hr] at h; exact h

theorem RO.move {o : Oper} {ex : Bool} {x : Sl} (h : RO C rg o σ ex x) (hr : roOp o.op = true) (hn : σ'.n = σ.n) (ha : Agree (reads rg.ds o) σ σ') (hc : pureOp o.op = true ∨ Keeps σ.obs σ'.obs) : RO C rg o σ' ex x := by
  obtain ⟨h1, h2, vc, ob, y, h3, h4, h5⟩ := h
  refine ⟨by rw [hn]; exact h1, by rw [← gex_agree ha.right]; exact h2, vc, σ'.obs, y, ?_, by rw [← hasAll_agree ha.left]; exact h4, by rw [h5]; exact roS_agree ha.left y⟩
  have e : astep C σ o.op = astep C ⟨σ'.n, σ'.fr, σ.obs⟩ o.op := astep_agree (σ := σ) (σ' := ⟨σ'.n, σ'.fr, σ.obs⟩) (fun s hs => ha.left s hs) rfl
  rw [e] at h3
  rcases hc with hp | hk
  · have := astep_pure (C := C) hp σ'.n σ'.fr σ.obs σ'.obs
    rw [h3] at this
    exact this
  · exact astep_keeps hr hk h3

/-- Two operations that may change places: the first of the two only reads. -/
structure MaySwap (rg : Rg) (i j : Oper) : Prop where
  ro : roOp i.op = true
  a1 : ∀ s ∈ reads rg.ds j, i.dst ≠ some s
  a2 : ∀ s ∈ reads rg.ds i, j.dst ≠ some s
  a3 : i.dst = none ∨ i.dst ≠ j.dst
  c : roOp j.op = true ∨ pureOp i.op = true ∨ (rg.kp = true ∧ keepOp j.op = true)

theorem aone_swap {i j : Oper} (m : MaySwap rg i j) {K : St → Prop} (hK : Resp K) (h : aone C rg i σ fun σ1 => aone C rg j σ1 K) : aone C rg j σ fun σ2 => aone C rg i σ2 K := by
  obtain ⟨ex, x, hro, hk⟩ := ro_of_aone m.ro h
  refine aone_mono (fun σ2 h2 => ?_) (aone_frame m.a1 m.a3 hK hk)
  obtain ⟨hl, hk2⟩ := h2
  refine aone_of_ro m.ro (hro.move m.ro hl.n (fun s hs => (hl.fr s (m.a2 s hs)).symm) ?_) hk2
  rcases m.c with c | c | c
  · right; rw [hl.ro c]; exact Keeps.refl _
  · exact .inl c
  · exact .inr (hl.keep c.1 c.2)

theorem aone_resp {o : Oper} {K : St → Prop} (hK : Resp K) : Resp (fun σ => aone C rg o σ K) := by
  intro σ σ' he h
  have hag : Agree (reads rg.ds o) σ σ' := he.agree _
  have hgx := gex_agree (ds := rg.ds) hag.right
  have has := hasAll_agree (op := o.op) hag.left
  have hst := astep_agree (C := C) (op := o.op) hag.left he.2.1
  have swap : ∀ (d : Option Nat) (ex' : Bool) (x' : Sl) (obs : List O), K (σ.put d ex' x' obs) → K (σ'.put d ex' x' obs) := fun d ex' x' obs hk => hK _ _ (he.put ..) hk
  simp only [aone] at *
  rw [← he.1]
  refine ⟨h.1, ?_⟩
  have h := h.2
  rw [← he.2.1]
  split
  · rename_i hg
    rw [hg] at h
    simp only at h
    split
    · rename_i f args hc
      rw [hc] at h
      simp only at h
      have hr := callee_reads hc
      have hev : args.map σ.ev = args.map σ'.ev := by
        rw [← evL_eq, ← evL_eq]
        exact evL_agree (by rw [← hr]; exact hag.left)
      have hh : (∀ y ∈ args, σ.has y) = ∀ y ∈ args, σ'.has y := by
        rw [← hasL_eq, ← hasL_eq]
        exact hasL_agree (by rw [← hr]; exact hag.left)
      rw [hev, hh] at h
      exact ⟨h.1, h.2.mono fun y ob hy => ⟨hy.1, swap _ _ _ _ hy.2⟩⟩
    · rename_i hc
      rw [hc] at h
      simp only at h
      rw [hst, has] at h
      simp only [mvS_agree hag.left] at h
      split <;> rename_i hs <;> rw [hs] at h
      · exact h
      · exact ⟨h.1, h.2.1, swap _ _ _ _ h.2.2⟩
      · exact ⟨h.1, h.2.1, h.2.2.1, swap _ _ _ _ h.2.2.2⟩
      · exact ⟨h.1, fun l hl => swap _ _ _ _ (h.2 l hl)⟩
  · rename_i g hg
    rw [hg] at h hgx
    simp only at h
    rw [hgx] at h
    split
    · rename_i hx; rw [hx] at h; exact h
    · rename_i ex' hx
      rw [hx] at h
      simp only at h
      split
      · rename_i f args hc
        rw [hc] at h
        simp only at h
        have hr := callee_reads hc
        have hev : args.map σ.ev = args.map σ'.ev := by
          rw [← evL_eq, ← evL_eq]
          exact evL_agree (by rw [← hr]; exact hag.left)
        have hh : (∀ y ∈ args, σ.has y) = ∀ y ∈ args, σ'.has y := by
          rw [← hasL_eq, ← hasL_eq]
          exact hasL_agree (by rw [← hr]; exact hag.left)
        rw [hev, hh] at h
        exact ⟨h.1, h.2.mono (fun y hy => swap _ _ _ _ hy) (fun y ob hy => ⟨hy.1, swap _ _ _ _ hy.2⟩)⟩
      · rename_i hc
        rw [hc] at h
        simp only at h
        split
        · rename_i hr
          rw [if_pos hr, hst, has] at h
          split <;> rename_i hs
          · rw [hs] at h; exact ⟨h.1, swap _ _ _ _ h.2⟩
          · split at h <;> first | exact h | (rename_i h2; exact absurd h2 (hs _ _ _))
        · rename_i hr; rw [if_neg hr] at h; exact h

theorem aexec_resp {K : St → Prop} (hK : Resp K) : ∀ l : List Oper, Resp (fun σ => aexec C rg l σ K)
  | [] => hK
  | o :: l => aone_resp (aexec_resp hK l)

/-- An operation is taken to the front. -/
theorem aexec_front {K : St → Prop} (hK : Resp K) {o : Oper} {c2 : List Oper} : ∀ {c1 : List Oper}, (∀ x ∈ c1, MaySwap rg x o) → ∀ {σ : St}, aexec C rg (c1 ++ o :: c2) σ K → aexec C rg (o :: (c1 ++ c2)) σ K
  | [], _, _, h => h
  | x :: c1, hm, σ, h => by
    have h1 : aone C rg x σ fun σ1 => aexec C rg (o :: (c1 ++ c2)) σ1 K := aone_mono (fun σ1 h1 => aexec_front hK (fun y hy => hm y (List.mem_cons_of_mem _ hy)) h1) h
    exact aone_swap (hm x List.mem_cons_self) (aexec_resp hK (c1 ++ c2)) h1

end
end Go.Aw

/- The walk through a region, operation by operation. -/
import Derived.Test.YtbeeblhmgpgkjaaAw7
set_option linter.unusedVariables false
set_option linter.unusedSimpArgs false
namespace Go.Aw
open Go

/-- pick: the outcome of '&&' and '||'. -/
def pickV (σ : St) (c a b : Operand) : Res :=
  match σ.ev c, σ.ev a, σ.ev b with
  | .bool t, .bool x, .bool y => .ok ((t = true → σ.has a) ∧ (t = false → σ.has b)) (.bool (bif t then x else y)) σ.obs
  | _, _, _ => .bad

def unV (op : UnOp) (x : AV) (obs : List O) : Res :=
  match op, x with
  | .neg, .int k n => .ok True (.int k (k.wrap (0 - n))) obs
  | .not, .bool b => .ok True (.bool !b) obs
  | _, _ => .bad

def maxV (big : Bool) (x y : AV) (obs : List O) : Res :=
  match x, y with
  | .int k a, .int _ b => .ok True (.int k (if big then (if b > a then b else a) else (if b < a then b else a))) obs
  | _, _ => .bad

def exV (σ : St) (x : Operand) (i : Nat) : Res :=
  match x with
  | .tmp t => match look t σ.fr with
    | some (true, .t l) => match l[i]? with
      | some v => .ok True v σ.obs
      | none => .bad
    | _ => .bad
  | _ => .bad

def binS (C : Ctx) (σ : St) (op : BinOp) (t : TypeId) (x y : Operand) : Res :=
  match σ.ev x, C.bt t, C.Γ t with
  | .bool _, some .bool, _ => binV op (σ.ev x) (σ.ev y) σ.obs
  | .bool _, _, _ => .bad
  | .int _ _, _, _ => binV op (σ.ev x) (σ.ev y) σ.obs
  | .str _, _, _ => binV op (σ.ev x) (σ.ev y) σ.obs
  | _, _, some _ => binV op (σ.ev x) (σ.ev y) σ.obs
  | _, _, none => .bad

def lenS (C : Ctx) (σ : St) (t : TypeId) (x : Operand) : Res :=
  match σ.ev x, C.bt t, C.Γ t with
  | .str _, some .str, _ => lenV (σ.ev x) σ.obs
  | .str _, _, _ => .bad
  | _, _, some _ => lenV (σ.ev x) σ.obs
  | _, _, none => .bad

def sliceS (C : Ctx) (σ : St) (t : TypeId) (x : Operand) (lo hi : Option Operand) : Res :=
  match σ.ev x, C.bt t, C.Γ t with
  | .str _, some .str, _ => sliceV (σ.ev x) (lo.map σ.ev) (hi.map σ.ev) σ.obs
  | .sl _ e' _, _, some e => if e'.size = e.size then sliceV (σ.ev x) (lo.map σ.ev) (hi.map σ.ev) σ.obs else .bad
  | .lr _ _, _, some e => if e.size = 1 then sliceV (σ.ev x) (lo.map σ.ev) (hi.map σ.ev) σ.obs else .bad
  | _, _, _ => .bad

/-- One operation, a call of a function apart. -/
def astep (C : Ctx) (σ : St) : Op → Res
  | .move x => .ok (σ.has x) (σ.ev x) σ.obs
  | .assign x => .ok (σ.has x) (σ.ev x) σ.obs
  | .pick c a b => pickV σ c a b
  | .binOp op t x y _ => binS C σ op t x y
  | .unOp op _ x => unV op (σ.ev x) σ.obs
  | .load t x => loadV (C.sc t) (σ.ev x) σ.obs
  | .store t x y => match σ.ev y with
    | .str _ => .bad
    | _ => storeV (C.sc t) (σ.ev x) (σ.ev y) σ.obs
  | .indexAddr t x i => idxV (C.Γ t) (σ.ev x) (σ.ev i) σ.obs
  | .makeSlice t l c => makeV (C.Γ t) (σ.ev l) (σ.ev c) σ.obs
  | .buildSlice t n parts => buildV (C.Γ t) n (parts.toList.map fun p => (p.1, σ.ev p.2)) σ.obs
  | .slice t x lo hi none => sliceS C σ t x lo hi
  | .extract x i => exV σ x i
  | .call c => match c with
    | { callee := .builtin b, args, argTypes } => match b, args.toList, argTypes.toList with
      | .len, [x], [t] => lenS C σ t x
      | .max, [x, y], _ => maxV true (σ.ev x) (σ.ev y) σ.obs
      | .min, [x, y], _ => maxV false (σ.ev x) (σ.ev y) σ.obs
      | .append, [x, y], [t, t'] => if t = t' then appendV (C.Γ t) (σ.ev x) (σ.ev y) σ.obs else .bad
      | .copy, [x, y], [t, _] => copyV (C.Γ t) (σ.ev x) (σ.ev y) σ.obs
      | _, _, _ => .bad
    | _ => .bad
  | _ => .bad

/-- The slots that an operation reads have been written (but for 'pick', 'extract', which say so themselves). -/
def hasAll (σ : St) : Op → Prop
  | .pick c _ _ => σ.has c
  | .extract _ _ => True
  | .binOp _ _ x y _ => σ.has x ∧ σ.has y
  | .unOp _ _ x => σ.has x
  | .load _ x => σ.has x
  | .store _ x y => σ.has x ∧ σ.has y
  | .indexAddr _ x y => σ.has x ∧ σ.has y
  | .makeSlice _ x y => σ.has x ∧ σ.has y
  | .buildSlice _ _ parts => ∀ p ∈ parts.toList, σ.has p.2
  | .slice _ x lo hi _ => σ.has x ∧ (∀ y, lo = some y → σ.has y) ∧ (∀ y, hi = some y → σ.has y)
  | .call c => ∀ x ∈ c.args.toList, σ.has x
  | _ => True

section sound
variable {C : Ctx}

/-- What is shown of one operation that is carried out. -/
def OpOk (C : Ctx) (σ : St) (o : Op) (ty : TypeId) (a : Act) (w : World) (ρ : Nat → Value) : Prop :=
  (∀ vc r obs', astep C σ o = .ok vc r obs' → hasAll σ o → vc → ∃ z w', (∀ d p af g, (execOp a.eval ⟨d, o, ty, p, af, g⟩).run C.P w = .ok (.value z) w') ∧ NewOk C σ.obs w ρ r obs' z w') ∧
  (∀ vc obs', astep C σ o = .skip vc obs' → hasAll σ o → vc → ∃ w', (∀ d p af g, (execOp a.eval ⟨d, o, ty, p, af, g⟩).run C.P w = .ok .skip w') ∧ Step C w w' σ.obs obs' ρ ρ) ∧
  (∀ p r obs', astep C σ o = .all p r obs' → hasAll σ o → ∃ z w' l, p l ∧ (((∀ d p af g, (execOp a.eval ⟨d, o, ty, p, af, g⟩).run C.P w = .ok (.value z) w') ∧ NewOk C σ.obs w ρ r (obs' l) z w') ∨
    ((∀ d p af g, (execOp a.eval ⟨d, o, ty, p, af, g⟩).run C.P w = .ok .skip w') ∧ r = .junk ∧ Step C w w' σ.obs (obs' l) ρ ρ)))

theorem NewOk.same {obs : List O} {w : World} {ρ : Nat → Value} {r : AV} {z : Value} (rr : WRel C obs w ρ) (h : AVRel (C.V w obs ρ) obs ρ r z) : NewOk C obs w ρ r obs z w :=
  ⟨ρ, Step.refl rr, h⟩

theorem OpOk.of_ok {σ : St} {o : Op} {ty : TypeId} {a : Act} {w : World} {ρ : Nat → Value}
    (h : ∀ vc r obs', astep C σ o = .ok vc r obs' → hasAll σ o → vc → ∃ z w', (∀ d p af g, (execOp a.eval ⟨d, o, ty, p, af, g⟩).run C.P w = .ok (.value z) w') ∧ NewOk C σ.obs w ρ r obs' z w')
    (h2 : ∀ vc obs', astep C σ o ≠ .skip vc obs') (h3 : ∀ p r obs', astep C σ o ≠ .all p r obs') : OpOk C σ o ty a w ρ :=
  ⟨h, fun vc obs' k => absurd k (h2 vc obs'), fun p r obs' k => absurd k (h3 p r obs')⟩

theorem binV_shape (op : BinOp) (x y : AV) (obs : List O) : (∀ vc o, binV op x y obs ≠ .skip vc o) ∧ ∀ p r o, binV op x y obs ≠ .all p r o := by
  unfold binV
  constructor <;> intros <;> (repeat' split) <;> simp
theorem lenV_shape (x : AV) (obs : List O) : (∀ vc o, lenV x obs ≠ .skip vc o) ∧ ∀ p r o, lenV x obs ≠ .all p r o := by
  unfold lenV
  constructor <;> intros <;> (repeat' split) <;> simp
theorem idxV_shape (e : Option E) (x i : AV) (obs : List O) : (∀ vc o, idxV e x i obs ≠ .skip vc o) ∧ ∀ p r o, idxV e x i obs ≠ .all p r o := by
  unfold idxV
  constructor <;> intros <;> (repeat' split) <;> simp
theorem loadV_shape (b : Bool) (x : AV) (obs : List O) : (∀ vc o, loadV b x obs ≠ .skip vc o) ∧ ∀ p r o, loadV b x obs ≠ .all p r o := by
  unfold loadV
  constructor <;> intros <;> (repeat' split) <;> simp
theorem storeV_shape (b : Bool) (x y : AV) (obs : List O) : ∀ vc r o, storeV b x y obs ≠ .ok vc r o := by
  unfold storeV
  intros; (repeat' split) <;> simp
theorem copyV_shape (e : Option E) (x i : AV) (obs : List O) : (∀ vc o, copyV e x i obs ≠ .skip vc o) ∧ ∀ p r o, copyV e x i obs ≠ .all p r o := by
  unfold copyV
  constructor <;> intros <;> (repeat' split) <;> simp
theorem makeV_shape (e : Option E) (x i : AV) (obs : List O) : (∀ vc o, makeV e x i obs ≠ .skip vc o) ∧ ∀ p r o, makeV e x i obs ≠ .all p r o := by
  unfold makeV
  constructor <;> intros <;> (repeat' split) <;> simp
theorem buildV_shape (e : Option E) (n : Nat) (l : List (Nat × AV)) (obs : List O) : ∀ vc o, buildV e n l obs ≠ .skip vc o := by
  unfold buildV
  intros; (repeat' split) <;> simp
theorem appendV_shape (e : Option E) (x i : AV) (obs : List O) : (∀ vc o, appendV e x i obs ≠ .skip vc o) ∧ ∀ p r o, appendV e x i obs ≠ .all p r o := by
  unfold appendV
  constructor <;> intros <;> (repeat' split) <;> simp
theorem sliceV_shape (x : AV) (lo hi : Option AV) (obs : List O) : (∀ vc o, sliceV x lo hi obs ≠ .skip vc o) ∧ ∀ p r o, sliceV x lo hi obs ≠ .all p r o := by
  unfold sliceV
  constructor <;> intros <;> (repeat' split) <;> simp

section
variable {σ : St} {a : Act} {w : World} {ρ : Nat → Value} {ty : TypeId}

theorem ok_move (r : Rel C σ a w ρ) (x : Operand) : OpOk C σ (.move x) ty a w ρ :=
  .of_ok (fun vc q o h _ hv => by
    simp only [astep] at h
    cases h
    exact ⟨a.eval x, w, fun _ _ _ _ => rfl, NewOk.same r.w (r.ev hv)⟩) (by simp [astep]) (by simp [astep])

theorem ok_assign (r : Rel C σ a w ρ) (x : Operand) : OpOk C σ (.assign x) ty a w ρ :=
  .of_ok (fun vc q o h _ hv => by
    simp only [astep] at h
    cases h
    exact ⟨a.eval x, w, fun _ _ _ _ => rfl, NewOk.same r.w (r.ev hv)⟩) (by simp [astep]) (by simp [astep])

theorem ok_pick (r : Rel C σ a w ρ) (c x y : Operand) : OpOk C σ (.pick c x y) ty a w ρ := by
  refine .of_ok (fun vc q o h hh hv => ?_) (by intro vc o; simp only [astep, pickV]; split <;> simp) (by intro p q o; simp only [astep, pickV]; split <;> simp)
  simp only [astep, pickV] at h
  split at h
  case h_2 => cases h
  rename_i t bx by' hc hx hy
  cases h
  have h1 := r.ev (x := c) hh
  rw [hc] at h1
  simp only [AVRel] at h1
  cases t with
  | true =>
    have h2 := r.ev (hv.1 rfl)
    rw [hx] at h2
    exact ⟨a.eval x, w, fun _ _ _ _ => by simp [execOp, h1, asBool], NewOk.same r.w (by simpa using h2)⟩
  | false =>
    have h2 := r.ev (hv.2 rfl)
    rw [hy] at h2
    exact ⟨a.eval y, w, fun _ _ _ _ => by simp [execOp, h1, asBool], NewOk.same r.w (by simpa using h2)⟩

theorem binS_bin {op : BinOp} {t : TypeId} {x y : Operand} : binS C σ op t x y = .bad ∨ binS C σ op t x y = binV op (σ.ev x) (σ.ev y) σ.obs := by
  unfold binS
  split <;> first | exact .inr rfl | exact .inl rfl

theorem ok_bin (hC : C.Ok) (r : Rel C σ a w ρ) (op : BinOp) (t t' : TypeId) (x y : Operand) : OpOk C σ (.binOp op t x y t') ty a w ρ := by
  refine .of_ok (fun vc q o h hh hv => ?_) (fun vc o k => ?_) (fun p q o k => ?_)
  · simp only [astep] at h
    have hb : (∃ b, σ.ev x = .bool b) → C.P.underlying t = some .bool := by
      rintro ⟨b, hb⟩
      unfold binS at h
      rw [hb] at h
      cases ht : C.bt t with
      | none => rw [ht] at h; simp at h
      | some q => cases q <;> rw [ht] at h <;> first | exact (hC.bt t _ ht).1 | simp at h
    have hsl : (∀ s, σ.ev x ≠ .str s) → (∀ b, σ.ev x ≠ .bool b) → (∀ k n, σ.ev x ≠ .int k n) → ∃ e, C.P.underlying t = some (.slice e) := by
      intro h1 h2 h3
      unfold binS at h
      cases hg : C.Γ t with
      | some e => exact ⟨_, (hC.sl t e hg).1⟩
      | none =>
        rw [hg] at h
        cases hx : σ.ev x <;> rw [hx] at h <;> first | exact absurd hx (h1 _) | exact absurd hx (h2 _) | exact absurd hx (h3 _ _) | (simp at h; done)
    rcases binS_bin (C := C) (σ := σ) (op := op) (t := t) (x := x) (y := y) with k | k
    · rw [k] at h; cases h
    · rw [k] at h
      obtain ⟨rfl, z, h1, h2⟩ := binV_sound (w := w) (t := t) hsl hb (r.ev hh.1) (r.ev hh.2) h hv x y
      refine ⟨z, w, fun _ _ _ _ => ?_, NewOk.same r.w h1⟩
      have h3 := h2 w
      simp only [execOp]
      rw [Sem.run_bind, h3]
      rfl
  · simp only [astep] at k
    rcases binS_bin (C := C) (σ := σ) (op := op) (t := t) (x := x) (y := y) with j | j <;> rw [j] at k
    · cases k
    · exact (binV_shape _ _ _ _).1 _ _ k
  · simp only [astep] at k
    rcases binS_bin (C := C) (σ := σ) (op := op) (t := t) (x := x) (y := y) with j | j <;> rw [j] at k
    · cases k
    · exact (binV_shape _ _ _ _).2 _ _ _ k

theorem ok_un (r : Rel C σ a w ρ) (op : UnOp) (t : TypeId) (x : Operand) : OpOk C σ (.unOp op t x) ty a w ρ := by
  refine .of_ok (fun vc q o h hh hv => ?_) (by intro vc o; simp only [astep, unV]; split <;> simp) (by intro p q o; simp only [astep, unV]; split <;> simp)
  simp only [astep, unV] at h
  have hx := r.ev (x := x) hh
  split at h
  · rename_i k n hk
    cases h
    rw [hk] at hx
    simp only [AVRel] at hx
    exact ⟨.int k (k.wrap (0 - n)), w, fun _ _ _ _ => by simp [execOp, hx, Op.unary, Op.intArith], NewOk.same r.w rfl⟩
  · rename_i b hk
    cases h
    rw [hk] at hx
    simp only [AVRel] at hx
    exact ⟨.bool !b, w, fun _ _ _ _ => by simp [execOp, hx, Op.unary], NewOk.same r.w rfl⟩
  · cases h

theorem ok_load (hC : C.Ok) (r : Rel C σ a w ρ) (t : TypeId) (x : Operand) : OpOk C σ (.load t x) ty a w ρ := by
  refine .of_ok (fun vc q o h hh hv => ?_) (fun vc o => (loadV_shape _ _ _).1 vc o) (fun p q o => (loadV_shape _ _ _).2 p q o)
  obtain ⟨rfl, z, h1, h2⟩ := loadV_sound hC r.w (r.ev hh) h
  exact ⟨z, w, fun _ _ _ _ => by simp [execOp, h2], NewOk.same r.w h1⟩

theorem ok_store (hC : C.Ok) (r : Rel C σ a w ρ) (t : TypeId) (x y : Operand) : OpOk C σ (.store t x y) ty a w ρ := by
  refine ⟨fun vc q o h => ?_, fun vc o h hh hv => ?_, fun p q o h hh => ?_⟩
  · simp only [astep] at h
    split at h
    · cases h
    · exact absurd h (storeV_shape _ _ _ _ _ _ _)
  · simp only [astep] at h
    split at h
    · cases h
    · rename_i hns
      obtain ⟨w', h1, h2⟩ := storeV_sound hC r.w (r.ev hh.1) (r.ev hh.2) (fun s hs => absurd hs (hns s)) h
      exact ⟨w', fun _ _ _ _ => by simp [execOp, h1], h2⟩
  · simp only [astep] at h
    split at h
    · cases h
    · obtain ⟨w', l, h0, h1, h2, h3⟩ := storeM_sound hC r.w (r.ev hh.1) (r.ev hh.2) h
      exact ⟨undef, w', l, h0, .inr ⟨fun _ _ _ _ => by simp [execOp, h1], h2, h3⟩⟩

theorem ok_idx (hC : C.Ok) (r : Rel C σ a w ρ) (t : TypeId) (x i : Operand) : OpOk C σ (.indexAddr t x i) ty a w ρ := by
  refine .of_ok (fun vc q o h hh hv => ?_) (fun vc o => (idxV_shape _ _ _ _).1 vc o) (fun p q o => (idxV_shape _ _ _ _).2 p q o)
  obtain ⟨rfl, z, h1, h2⟩ := idxV_sound hC rfl r.w (r.ev hh.1) (r.ev hh.2) h hv
  exact ⟨z, w, fun _ _ _ _ => by simp [execOp, h2 w], NewOk.same r.w h1⟩

theorem ok_make (hC : C.Ok) (r : Rel C σ a w ρ) (t : TypeId) (x i : Operand) : OpOk C σ (.makeSlice t x i) ty a w ρ := by
  refine .of_ok (fun vc q o h hh hv => ?_) (fun vc o => (makeV_shape _ _ _ _).1 vc o) (fun p q o => (makeV_shape _ _ _ _).2 p q o)
  obtain ⟨z, w', ρ', h1, h2, h3⟩ := makeV_sound hC r.w (r.ev hh.1) (r.ev hh.2) h hv
  exact ⟨z, w', fun _ _ _ _ => by simp [execOp, h1], ρ', h2, h3⟩

theorem ok_build (hC : C.Ok) (r : Rel C σ a w ρ) (t : TypeId) (n : Nat) (parts : Array (Nat × Operand)) : OpOk C σ (.buildSlice t n parts) ty a w ρ := by
  have key : ∀ hh : hasAll σ (.buildSlice t n parts), _ := fun hh => buildV_sound (t := t) (n := n) (parts := parts.toList.map fun p => (p.1, σ.ev p.2)) (pv := parts.map fun p => (p.1, a.eval p.2)) hC r.w (by simp) (by
    intro i x v hx hv
    simp only [Array.toList_map, List.getElem?_map, Option.map_eq_some_iff] at hx hv
    obtain ⟨p, hp, rfl⟩ := hx
    obtain ⟨p', hp', rfl⟩ := hv
    rw [hp] at hp'
    cases hp'
    exact ⟨rfl, r.ev (hh p (List.mem_of_getElem? hp))⟩)
  refine ⟨fun vc q o h hh hv => ?_, fun vc o h => absurd h (buildV_shape _ _ _ _ vc o), fun p q o h hh => ?_⟩
  · obtain ⟨z, w', h1, h2⟩ := (key hh).1 vc q o h hv
    exact ⟨z, w', fun _ _ _ _ => by simp [execOp, h1], h2⟩
  · obtain ⟨z, w', l, hl, h1, h2⟩ := (key hh).2 p q o h
    exact ⟨z, w', l, hl, .inl ⟨fun _ _ _ _ => by simp [execOp, h1], h2⟩⟩

theorem sliceS_v {t : TypeId} {x : Operand} {lo hi : Option Operand} : sliceS C σ t x lo hi = .bad ∨ (sliceS C σ t x lo hi = sliceV (σ.ev x) (lo.map σ.ev) (hi.map σ.ev) σ.obs ∧
    ((∃ s, σ.ev x = .str s ∧ C.bt t = some .str) ∨ ∃ e, C.Γ t = some e ∧ ((∃ f e' xs, σ.ev x = .sl f e' xs ∧ e'.size = e.size) ∨ (∃ l xs, σ.ev x = .lr l xs ∧ e.size = 1)))) := by
  unfold sliceS
  split
  · rename_i s h1 h2; exact .inr ⟨by rw [h1], .inl ⟨s, h1, h2⟩⟩
  · rename_i f e' xs e h1 h2
    split
    · rename_i hs; exact .inr ⟨by rw [h1], .inr ⟨e, h2, .inl ⟨f, e', xs, h1, hs⟩⟩⟩
    · exact .inl rfl
  · rename_i l xs e h1 h2
    split
    · rename_i hs; exact .inr ⟨by rw [h1], .inr ⟨e, h2, .inr ⟨l, xs, h1, hs⟩⟩⟩
    · exact .inl rfl
  · exact .inl rfl

theorem ok_slice (hC : C.Ok) (r : Rel C σ a w ρ) (t : TypeId) (x : Operand) (lo hi mx : Option Operand) : OpOk C σ (.slice t x lo hi mx) ty a w ρ := by
  cases mx with
  | some m => exact .of_ok (fun vc q o h => by simp [astep] at h) (by simp [astep]) (by simp [astep])
  | none =>
    rcases sliceS_v (C := C) (σ := σ) (t := t) (x := x) (lo := lo) (hi := hi) with k | ⟨k, ht⟩
    · exact .of_ok (fun vc q o h => by simp [astep, k] at h) (by simp [astep, k]) (by simp [astep, k])
    · refine .of_ok (fun vc q o h hh hv => ?_) (fun vc o => by simp only [astep, k]; exact (sliceV_shape _ _ _ _).1 vc o) (fun p q o => by simp only [astep, k]; exact (sliceV_shape _ _ _ _).2 p q o)
      simp only [astep, k] at h
      obtain ⟨rfl, z, h1, h2⟩ := sliceV_sound (w := w) (ρ := ρ) (lv := lo.map a.eval) (hv := hi.map a.eval) hC ht (by simp) (by simp) (r.ev hh.1)
        (fun y v hy hv' => by
          cases lo with
          | none => simp at hy
          | some q => simp at hy hv'; subst hy hv'; exact r.ev (hh.2.1 q rfl))
        (fun y v hy hv' => by
          cases hi with
          | none => simp at hy
          | some q => simp at hy hv'; subst hy hv'; exact r.ev (hh.2.2 q rfl)) h hv
      exact ⟨z, w, fun _ _ _ _ => by simp [execOp, h2 w], NewOk.same r.w h1⟩

theorem ok_extract (r : Rel C σ a w ρ) (x : Operand) (i : Nat) : OpOk C σ (.extract x i) ty a w ρ := by
  refine .of_ok (fun vc q o h hh hv => ?_) (by intro vc o; simp only [astep, exV]; (repeat' split) <;> simp) (by intro p q o; simp only [astep, exV]; (repeat' split) <;> simp)
  simp only [astep, exV] at h
  split at h
  case h_2 => cases h
  rename_i t
  split at h
  case h_2 => cases h
  rename_i l hl
  split at h
  case h_2 => cases h
  rename_i hv'
  cases h
  obtain ⟨vs, h1, h2, h3⟩ := (r.fr t true _ hl).1 rfl
  have hlt : i < vs.length := by rw [h2]; exact (List.getElem?_eq_some_iff.1 hv').1
  refine ⟨vs[i], w, fun _ _ _ _ => ?_, NewOk.same r.w (h3 i _ vs[i] hv' (by simp))⟩
  have e1 : a.eval (.tmp t) = .tuple vs.toArray := h1
  simp [execOp, e1, Instr.extract, hlt]

theorem lenS_v {t : TypeId} {x : Operand} : lenS C σ t x = .bad ∨ (lenS C σ t x = lenV (σ.ev x) σ.obs ∧ (∀ s, σ.ev x = .str s → C.bt t = some .str) ∧ ((∀ s, σ.ev x ≠ .str s) → ∃ e, C.Γ t = some e)) := by
  unfold lenS
  split
  · rename_i s h1 h2; exact .inr ⟨by rw [h1], fun _ _ => h2, fun k => absurd h1 (k s)⟩
  · exact .inl rfl
  · rename_i e h1 h2 h3
    refine .inr ⟨rfl, fun s hs => ?_, fun _ => ⟨e, by assumption⟩⟩
    exact (h2 s hs).elim
  · exact .inl rfl

theorem ok_builtin (hC : C.Ok) (r : Rel C σ a w ρ) (b : Builtin) (args : Array Operand) (ts : Array TypeId) : OpOk C σ (.call ⟨.builtin b, args, ts⟩) ty a w ρ := by
  have hargs : args = args.toList.toArray := rfl
  have hts : ts = ts.toList.toArray := rfl
  have bad : astep C σ (.call ⟨.builtin b, args, ts⟩) = .bad → OpOk C σ (.call ⟨.builtin b, args, ts⟩) ty a w ρ := fun k =>
    .of_ok (fun vc q o h => by rw [k] at h; cases h) (by simp [k]) (by simp [k])
  by_cases hb : ∃ x t, b = .len ∧ args.toList = [x] ∧ ts.toList = [t]
  · obtain ⟨x, t, rfl, h1, h2⟩ := hb
    have ha : astep C σ (.call ⟨.builtin .len, args, ts⟩) = lenS C σ t x := by simp [astep, h1, h2]
    rcases lenS_v (C := C) (σ := σ) (t := t) (x := x) with k | ⟨k, k1, k2⟩
    · exact bad (ha.trans k)
    · refine .of_ok (fun vc q o h hh hv => ?_) (fun vc o => by rw [ha, k]; exact (lenV_shape _ _).1 vc o) (fun p q o => by rw [ha, k]; exact (lenV_shape _ _).2 p q o)
      rw [ha, k] at h
      have hx : σ.has x := hh x (by simp [h1])
      obtain ⟨rfl, z, h3, h4⟩ := lenV_sound (w := w) (t := t) (ty := ty) (fun s hs => (hC.bt t _ (k1 s hs)).1) (fun hn => let ⟨e, he⟩ := k2 hn; ⟨_, (hC.sl t e he).1⟩) r.w (r.ev hx) h
      refine ⟨z, w, fun _ _ _ _ => ?_, NewOk.same r.w h3⟩
      have e1 : args = #[x] := by rw [hargs, h1]
      have e2 : ts = #[t] := by rw [hts, h2]
      subst e1 e2
      simp [execOp, resolve, invoke, builtin, h4 w]
  by_cases hb2 : ∃ x y, (b = .max ∨ b = .min) ∧ args.toList = [x, y]
  · obtain ⟨x, y, hbb, h1⟩ := hb2
    obtain ⟨big, hbig⟩ : ∃ big, astep C σ (.call ⟨.builtin b, args, ts⟩) = maxV big (σ.ev x) (σ.ev y) σ.obs ∧ b = (if big then .max else .min) := by
      rcases hbb with rfl | rfl
      · exact ⟨true, by simp [astep, h1], rfl⟩
      · exact ⟨false, by simp [astep, h1], rfl⟩
    refine .of_ok (fun vc q o h hh hv => ?_) (fun vc o => by rw [hbig.1]; unfold maxV; split <;> simp) (fun p q o => by rw [hbig.1]; unfold maxV; split <;> simp)
    rw [hbig.1] at h
    have hx := r.ev (x := x) (hh x (by simp [h1]))
    have hy := r.ev (x := y) (hh y (by simp [h1]))
    unfold maxV at h
    split at h
    case h_2 => cases h
    rename_i k n k' m e1 e2
    cases h
    rw [e1] at hx
    rw [e2] at hy
    simp only [AVRel] at hx hy
    have e3 : args = #[x, y] := by rw [hargs, h1]
    subst e3
    refine ⟨_, w, fun _ _ _ _ => ?_, NewOk.same r.w rfl⟩
    cases big with
    | true => simp only [if_true] at hbig; obtain ⟨_, rfl⟩ := hbig; simp [execOp, resolve, invoke, builtin, hx, hy, Builtin.max_, Builtin.max2]
    | false => simp at hbig; obtain ⟨_, rfl⟩ := hbig; simp [execOp, resolve, invoke, builtin, hx, hy, Builtin.min_, Builtin.min2]
  by_cases hb3 : ∃ x y t, b = .append ∧ args.toList = [x, y] ∧ ts.toList = [t, t]
  · obtain ⟨x, y, t, rfl, h1, h2⟩ := hb3
    have ha : astep C σ (.call ⟨.builtin .append, args, ts⟩) = appendV (C.Γ t) (σ.ev x) (σ.ev y) σ.obs := by simp [astep, h1, h2]
    refine .of_ok (fun vc q o h hh hv => ?_) (fun vc o => by rw [ha]; exact (appendV_shape _ _ _ _).1 vc o) (fun p q o => by rw [ha]; exact (appendV_shape _ _ _ _).2 p q o)
    rw [ha] at h
    have hx := r.ev (x := x) (hh x (by simp [h1]))
    have hy := r.ev (x := y) (hh y (by simp [h1]))
    obtain ⟨z, w', ρ', k1, k2, k3⟩ := appendV_sound (ty := ty) hC r.w hx hy h hv
    refine ⟨z, w', fun _ _ _ _ => ?_, ρ', k2, k3⟩
    have e1 : args = #[x, y] := by rw [hargs, h1]
    have e2 : ts = #[t, t] := by rw [hts, h2]
    subst e1 e2
    simp [execOp, resolve, invoke, builtin, k1]
  by_cases hb4 : ∃ x y t t2, b = .copy ∧ args.toList = [x, y] ∧ ts.toList = [t, t2]
  · obtain ⟨x, y, t, t2, rfl, h1, h2⟩ := hb4
    have ha : astep C σ (.call ⟨.builtin .copy, args, ts⟩) = copyV (C.Γ t) (σ.ev x) (σ.ev y) σ.obs := by simp [astep, h1, h2]
    refine .of_ok (fun vc q o h hh hv => ?_) (fun vc o => by rw [ha]; exact (copyV_shape _ _ _ _).1 vc o) (fun p q o => by rw [ha]; exact (copyV_shape _ _ _ _).2 p q o)
    rw [ha] at h
    have hx := r.ev (x := x) (hh x (by simp [h1]))
    have hy := r.ev (x := y) (hh y (by simp [h1]))
    obtain ⟨z, w', k1, k2, k3⟩ := copyV_sound (t2 := t2) (ty := ty) hC r.w hx hy h
    refine ⟨z, w', fun _ _ _ _ => ?_, ρ, k2, k3⟩
    have e1 : args = #[x, y] := by rw [hargs, h1]
    have e2 : ts = #[t, t2] := by rw [hts, h2]
    subst e1 e2
    simp [execOp, resolve, invoke, builtin, k1]
  · apply bad
    simp only [astep]
    split
    · exact absurd ⟨_, _, rfl, ‹_›, ‹_›⟩ hb
    · exact absurd ⟨_, _, .inl rfl, ‹_›⟩ hb2
    · exact absurd ⟨_, _, .inr rfl, ‹_›⟩ hb2
    · split
      · rename_i h; subst h; exact absurd ⟨_, _, _, rfl, ‹_›, ‹_›⟩ hb3
      · rfl
    · exact absurd ⟨_, _, _, _, rfl, ‹_›, ‹_›⟩ hb4
    · rfl

theorem astep_ok (hC : C.Ok) (r : Rel C σ a w ρ) (o : Op) : OpOk C σ o ty a w ρ := by
  cases o with
  | move x => exact ok_move r x
  | assign x => exact ok_assign r x
  | pick c x y => exact ok_pick r c x y
  | binOp op t x y t' => exact ok_bin hC r op t t' x y
  | unOp op t x => exact ok_un r op t x
  | load t x => exact ok_load hC r t x
  | store t x y => exact ok_store hC r t x y
  | indexAddr t x i => exact ok_idx hC r t x i
  | makeSlice t l c => exact ok_make hC r t l c
  | buildSlice t n parts => exact ok_build hC r t n parts
  | slice t x lo hi mx => exact ok_slice hC r t x lo hi mx
  | extract x i => exact ok_extract r x i
  | call c =>
    obtain ⟨callee, args, ts⟩ := c
    cases callee with
    | builtin b => exact ok_builtin hC r b args ts
    | value f => exact .of_ok (fun vc q o h => by simp [astep] at h) (by simp [astep]) (by simp [astep])
    | invoke f m => exact .of_ok (fun vc q o h => by simp [astep] at h) (by simp [astep]) (by simp [astep])
  | _ => exact .of_ok (fun vc q o h => by simp [astep] at h) (by simp [astep]) (by simp [astep])

end

end sound
end Go.Aw

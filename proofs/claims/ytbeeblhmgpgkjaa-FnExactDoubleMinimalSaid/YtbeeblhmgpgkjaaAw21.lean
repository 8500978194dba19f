/- A contract of a function that writes to one slice of its caller's, used at a call. -/
import Derived.Test.YtbeeblhmgpgkjaaAw20
set_option linter.unusedVariables false
set_option linter.unusedSimpArgs false
namespace Go.Aw
open Go

section
variable {V V' : Vw} (hV : ∀ a v, V.cell a = some v → V'.cell a = some v)
include hV

theorem row_to {f : Bool} {xs : List Int} {v : Value} (h : RowRel V f xs v) : RowRel V' false xs v := by
  obtain ⟨base, cap, hv, h1, h2, hx⟩ := h
  exact ⟨base, cap, hv, h1, h2, fun i hi => let ⟨a, ha, _, hc⟩ := hx i hi; ⟨a, ha, by simp, hV _ _ hc⟩⟩

theorem conv_el_to {e' e : E} {ys : List e.D} {zs : List e'.D} (h : convV e' e ys zs) {i : Nat} (hi : i < ys.length) (hi' : i < zs.length) {u : Value} (hu : ElRel V e ys[i] u) : ElRel V' e' zs[i] u := by
  unfold convV at h
  split at h <;> first | exact h.elim | subst h
  · exact row_to hV hu
  · have k := row_to hV (LRowRel.toRow hu)
    simpa [ElRel] using k
  · exact hu
  · exact hu
  · exact hu
  · exact hu
  · exact hu

theorem sl_to {f : Bool} {e' e : E} {ys : List e.D} {zs : List e'.D} {v : Value} (hc : convV e' e ys zs) (h : SlRel V f e ys v) : SlRel V' false e' zs v := by
  obtain ⟨base, cap, hv, h1, h2, hx⟩ := h
  obtain ⟨hl, hs⟩ := conv_len hc
  refine ⟨base, cap, by rw [hl]; exact hv, by omega, h2, fun i hi => ?_⟩
  obtain ⟨a, u, ha, _, hu, hcell⟩ := hx i (by omega)
  refine ⟨a, u, ha, by simp, conv_el_to hV hc (by omega) hi hu, fun j hj => ?_⟩
  have hsz := hu.cells.1
  have h3 := hcell j (by omega)
  rw [hs, Array.getElem?_eq_getElem (by omega)] at *
  exact hV _ _ h3

theorem own_to {w : World} {e' e : E} {ys : List e.D} {zs : List e'.D} {v : Value} {cs : List Value} {ti : TypeId} (hb : ∀ b, v.ownBlock = some b → ∀ a x, a.block = b → w.cell? a = some x → V'.cell a = some x)
    (hc : convV e' e ys zs) (hown : w.ownsRow 0 ti e.size v ys.length cs) (henc : Enc V e ys cs) : SlRel V' false e' zs v := by
  obtain ⟨hl, hs⟩ := conv_len hc
  rcases hown.2 with ⟨hv, hz⟩ | ⟨b, cap, cur, hv, _, hg, h1, h2, h3, h4⟩
  · exact ⟨none, 0, by rw [hl, hz]; exact hv, by omega, by omega, fun i hi => by omega⟩
  · refine ⟨some ⟨b, 0, none⟩, cap, by rw [hl]; exact hv, by omega, h2, fun i hi => ?_⟩
    obtain ⟨u, hu, hcell⟩ := henc.2 i (by omega)
    refine ⟨⟨b, 0, none⟩, u, rfl, by simp, conv_el_to hV hc (by omega) hi hu, fun j hj => ?_⟩
    have hsz := hu.cells.1
    have h5 := hcell j (by omega)
    rw [Array.getElem?_eq_getElem (by omega)] at h5 ⊢
    rw [hs]
    exact hb b (by rw [hv]; rfl) _ _ (add_block _ _) (hown.cells (g := b) (by rw [hv]; rfl) _ _ h5)
end

def argOkM (obs : List O) (i0 g : Nat) : (actual formal : AV) → Prop
  | x, .own 0 0 => x = .own i0 g
  | .own id g', .sl false e xs => id ≠ i0 ∧ argOk obs (.own id g') (.sl false e xs)
  | x, y => argOk obs x y
def argsOkM (obs : List O) (i0 g : Nat) : List AV → List AV → Prop
  | [], [] => True
  | x :: l, y :: r => argOkM obs i0 g x y ∧ argsOkM obs i0 g l r
  | _, _ => False

section
variable {B C : Ctx} {obs : List O} {w : World} {ρ : Nat → Value} {i0 g : Nat} {o o0 : O}

theorem lent_vis {b : Nat} (h : ¬ fpo (ρ i0) o0 b) : ((B.lentB w o0 (ρ i0)).V w [o0] (fun _ => ρ i0)).H b = w.heap[b]? := by
  have hn : ¬ Own [o0] (fun _ => ρ i0) b := by
    rintro ⟨id, o, ho, hf⟩
    cases id with
    | zero => simp at ho; subst ho; exact h hf
    | succ id => simp at ho
  simp only [Ctx.V, mask, if_neg hn]

theorem cell_of_heap {V : Vw} {a : Addr} {v : Value} (hH : V.H a.block = w.heap[a.block]?) (h : w.cell? a = some v) : V.cell a = some v := by
  simp only [Vw.cell, hH]
  unfold World.cell? at h
  cases hb : w.heap[a.block]? with
  | none => rw [hb] at h; simp at h
  | some o => rw [hb] at h; cases o <;> simp at h ⊢; exact h

theorem lent_cell (hi : obs[i0]? = some o) (hfo : ∀ b, fpo (ρ i0) o0 b → fpo (ρ i0) o b) {a : Addr} {v : Value} (h : (C.V w obs ρ).cell a = some v) : ((B.lentB w o0 (ρ i0)).V w [o0] (fun _ => ρ i0)).cell a = some v := by
  refine cell_of_heap (lent_vis fun hb => ?_) (V_cell h)
  have hown : Own obs ρ a.block := ⟨i0, _, hi, hfo _ hb⟩
  simp [Vw.cell, Ctx.V, mask, hown] at h

/-- An owned matrix, read, where only some blocks are seen. -/
theorem mat_to {V V' : Vw} {tid : E → TypeId} {e' : E} {rows : List (List Int)} {zs : List e'.D} {v : Value} {hs : List (Option Nat)} {g' : Nat} {nn : Bool} (hc : convV e' (.row true) rows zs)
    (hV : ∀ b, fpo v (.mat hs rows g' nn) b → ∀ a x, a.block = b → w.cell? a = some x → V'.cell a = some x) (k : ORel tid w V v (.mat hs rows g' nn)) : SlRel V' false e' zs v := by
  have k0 := mat_rows (V' := ⟨fun b => w.heap[b]?, fun _ => True, V'.ti⟩) (fun a x h => by
    unfold World.cell? at h
    simp only [Vw.cell]
    cases hb : w.heap[a.block]? with
    | none => rw [hb] at h; simp at h
    | some o => rw [hb] at h; cases o <;> simp at h ⊢; exact h) k
  have hz : e' = .row false ∧ HEq zs rows := by
    cases e' with
    | row f => cases f with
      | false => exact ⟨rfl, heq_of_eq hc⟩
      | true => exact hc.elim
    | _ => exact hc.elim
  obtain ⟨rfl, hz⟩ := hz
  have hz : zs = rows := eq_of_heq hz
  subst hz
  have toW : ∀ {a : Addr} {x : Value}, (⟨fun b => w.heap[b]?, fun _ => True, V'.ti⟩ : Vw).cell a = some x → w.cell? a = some x := by
    intro a x h
    simp only [Vw.cell] at h
    unfold World.cell?
    cases hb : w.heap[a.block]? with
    | none => rw [hb] at h; simp at h
    | some o => rw [hb] at h; cases o <;> simp at h ⊢; exact h
  obtain ⟨base, cap, hv, h1, h2, hx⟩ := k0
  obtain ⟨cs, k1, k2, k3, _⟩ := k
  have hcl : cs.length = zs.length := by have := k1.1; omega
  refine ⟨base, cap, hv, h1, h2, fun i hi => ?_⟩
  obtain ⟨a, u, ha, _, hr, hcell⟩ := hx i hi
  have hob : fpo v (.mat hs zs g' nn) a.block := .inl (by rw [hv, ha]; rfl)
  have hca : ∀ j, j < 1 → V'.cell (a.add (i * 1 + j)) = u.cells[j]? := by
    intro j hj
    have h3 := hcell j hj
    have hone := RowRel.oneCell hr
    rw [cells_oneCell hone] at h3 ⊢
    have : j = 0 := by omega
    subst this
    exact hV _ hob _ _ (add_block _ _) (toW h3)
  refine ⟨a, u, ha, by simp, ?_, hca⟩
  -- the row itself
  have hu : u = cs[i] := by
    have h3 := hcell 0 (by simp [E.size])
    rw [cells_oneCell (RowRel.oneCell hr)] at h3
    have h4 := toW h3
    rcases k1.2 with ⟨hv2, hz2⟩ | ⟨b, cap2, cur, hv2, _⟩
    · omega
    · rw [hv2] at hv
      have hab : a = ⟨b, 0, none⟩ := by
        have := congrArg (fun x => match x with | Value.slice p _ _ => p | _ => none) hv
        simp at this
        rw [ha] at this
        exact (Option.some.inj this).symm
      have h5 := k1.cells (g := b) (by rw [hv2]; rfl) i cs[i] (by simp)
      rw [hab] at h4
      simp only [E.size, Nat.mul_one, Nat.add_zero] at h4
      rw [h5] at h4
      simpa using h4.symm
  have hm := k3 i hs[i] zs[i] cs[i] (by simp) (by simp) (by simp)
  obtain ⟨rb, rc, rv, r1, r2, rx⟩ := hr
  refine ⟨rb, rc, rv, r1, r2, fun q hq => ?_⟩
  obtain ⟨ra, hra, _, hrc⟩ := rx q hq
  refine ⟨ra, hra, by simp, ?_⟩
  cases hh : hs[i] with
  | none =>
    rw [hh] at hm
    rw [hm.2] at hq
    simp at hq
  | some h =>
    rw [hh, ← hu] at hm
    obtain ⟨h6, _⟩ := hm
    rw [rv] at h6
    have hblk : ra.block = hdB h := by
      have := congrArg (fun x => match x with | Value.slice p _ _ => p | _ => none) h6
      simp at this
      rw [hra] at this
      exact congrArg Addr.block (Option.some.inj this)
    refine hV (hdB h) (.inr ⟨h, by rw [← hh]; simp, rfl⟩) _ _ (by rw [add_block]; exact hblk) (toW hrc)

theorem argOkM_sound (rr : WRel C obs w ρ) (hi : obs[i0]? = some o) (hog : o.gen = some g) (hog0 : o0.gen = some 0) (hfo : ∀ b, fpo (ρ i0) o0 b → fpo (ρ i0) o b) {x y : AV} {v : Value} (h : argOkM obs i0 g x y) (hx : AVRel (C.V w obs ρ) obs ρ x v) :
    AVRel ((B.lentB w o0 (ρ i0)).V w [o0] (fun _ => ρ i0)) [o0] (fun _ => ρ i0) y v := by
  have hcell : ∀ a v, (C.V w obs ρ).cell a = some v → ((B.lentB w o0 (ρ i0)).V w [o0] (fun _ => ρ i0)).cell a = some v := fun a v h => lent_cell hi hfo h
  have plain : argOk obs x y → (∀ id g' e xs, x = .own id g' → y ≠ .sl false e xs) → AVRel ((B.lentB w o0 (ρ i0)).V w [o0] (fun _ => ρ i0)) [o0] (fun _ => ρ i0) y v := by
    intro h hne
    unfold argOk at h
    split at h
    · subst h; exact hx
    · subst h; exact hx
    · subst h; exact hx
    · subst h; exact hx
    · subst h; exact hx
    · subst h; exact hx
    · split at h
      · exact sl_to hcell h hx
      · exact sl_to hcell h (LRowRel.toRow hx).toSl
      · subst h
        exact ⟨none, 0, hx, by simp, by simp, fun i hi => by simp at hi⟩
      · subst h
        obtain ⟨a, c, hv, hc, _⟩ := hx
        exact emp_rel hv hc
      · exact absurd rfl (hne _ _ _ _ rfl)
      · exact h.elim
    · exact h.elim
  unfold argOkM at h
  split at h
  · subst h
    refine ⟨by simp, fun c hc => ⟨Nat.zero_le _, fun _ => ?_⟩⟩
    exact (hx.2 g (by unfold genOf; rw [hi]; exact hog)).2 rfl
  · rename_i id g' e2 ys
    obtain ⟨hne, h⟩ := h
    simp only [argOk] at h
    split at h
    · rename_i ho
      obtain ⟨hg, hc⟩ := h
      subst hg
      obtain ⟨hv, cs, hown, henc, _, _⟩ := own_arr rr ho hx
      refine own_to hcell (fun b hb a x hab hax => cell_of_heap (lent_vis fun k => hne ?_) hax) hc hown henc
      rw [hab] at k
      exact rr.dis _ _ _ _ b ho hi (by rw [← hv]; exact hb) (hfo _ k)
    · rename_i ho
      obtain ⟨hg, hc⟩ := h
      subst hg
      obtain ⟨hv, hor⟩ := own_mat rr ho hx
      refine mat_to hc (fun b hb a x hab hax => cell_of_heap (lent_vis fun k => hne ?_) hax) hor
      rw [hab] at k
      exact rr.dis _ _ _ _ b ho hi (by rw [← hv]; exact hb) (hfo _ k)
    · exact h.elim
  · rename_i h1 h2
    exact plain h fun id g' e xs hx' hy => h2 id g' e xs hx' hy

theorem argsOkM_sound (rr : WRel C obs w ρ) (hi : obs[i0]? = some o) (hog : o.gen = some g) (hog0 : o0.gen = some 0) (hfo : ∀ b, fpo (ρ i0) o0 b → fpo (ρ i0) o b) : ∀ {l r : List AV} {vs : List Value}, argsOkM obs i0 g l r → vs.length = l.length →
    (∀ (i : Nat) (x : AV) (v : Value), l[i]? = some x → vs[i]? = some v → AVRel (C.V w obs ρ) obs ρ x v) →
    vs.length = r.length ∧ ∀ (i : Nat) (x : AV) (v : Value), r[i]? = some x → vs[i]? = some v → AVRel ((B.lentB w o0 (ρ i0)).V w [o0] (fun _ => ρ i0)) [o0] (fun _ => ρ i0) x v
  | [], [], vs, _, hl, _ => ⟨hl, fun i x v h => by simp at h⟩
  | x :: l, y :: r, vs, h, hl, ha => by
    cases vs with
    | nil => simp at hl
    | cons v vs =>
      obtain ⟨h1, h2⟩ := argsOkM_sound (vs := vs) rr hi hog hog0 hfo h.2 (by simpa using hl) (fun i x v hx hv => ha (i + 1) x v (by simpa using hx) (by simpa using hv))
      refine ⟨by simp [h1], fun i x' v' hx' hv' => ?_⟩
      cases i with
      | zero => simp at hx' hv'; subst hx' hv'; exact argOkM_sound rr hi hog hog0 hfo h.1 (ha 0 x v rfl rfl)
      | succ i => exact h2 i x' v' (by simpa using hx') (by simpa using hv')
  | [], _ :: _, _, h, _, _ => h.elim
  | _ :: _, [], _, h, _, _ => h.elim

end

def resM (i0 g n : Nat) : List AV → Sl
  | [x] => .v (shiftM i0 g n x)
  | l => .t (l.map (shiftM i0 g n))

theorem oAt_lt {obs : List O} {i : Nat} {o : O} {g : Nat} (ho : oAt obs i = o) (hg : o.gen = some g) : obs[i]? = some o := by
  have hid : i < obs.length := by
    rcases Nat.lt_or_ge i obs.length with h | h
    · exact h
    · rw [oAt_eq, List.getElem?_eq_none h] at ho; subst ho; simp [O.gen] at hg
  rw [oAt_get hid, ho]

theorem FunO.callX {B C : Ctx} (hP : B.P = C.P) (hT : B.tid = C.tid) {f : FuncId} {args0 : List AV} {o0 : O} {post : List AV → List O → Prop} (h : FunO B f args0 o0 post) {obs : List O} {args : List AV} (i0 g : Nat) {o : O}
    (ho : oAt obs i0 = o) (hog : o.gen = some g) (hog0 : o0.gen = some 0) (hfo : ∀ v b, fpo v o0 b ↔ fpo v o b) (hor : ∀ w V V' v, ORel C.tid w V v o → ORel B.tid w V' v o0) (ha : argsOkM obs i0 g args args0)
    {K : Sl → List O → Prop} (hk : ∀ rs o' obs', post rs (o' :: obs') → K (resM i0 g obs.length rs) (oSet obs i0 (regO g o') ++ obs')) : ACall C obs f args fun x o => Later (K x o) := by
  have hi : obs[i0]? = some o := oAt_lt ho hog
  refine ⟨fun vs w => by rw [← hP]; exact h.1 vs w, fun w ρ vs rr hl hx => ?_⟩
  obtain ⟨h1, h2⟩ := argsOkM_sound (B := B) (o0 := o0) rr hi hog hog0 (fun b => (hfo _ b).1) ha hl hx
  have hstart : WRel (B.lentB w o0 (ρ i0)) [o0] w (fun _ => ρ i0) := by
    refine ⟨fun id o hh => ?_, fun i j o o' b hi' hj' _ _ => ?_, fun b ⟨id, o, hh, hf⟩ => ?_, rfl, rfl, rfl, Nat.le_refl _, fun _ _ _ => rfl⟩
    · cases id with
      | zero =>
        simp at hh; subst hh
        exact hor _ _ _ _ (rr.os i0 _ hi)
      | succ id => simp at hh
    · cases i with
      | zero =>
        cases j with
        | zero => rfl
        | succ j => simp at hj'
      | succ i => simp at hi'
    · cases id with
      | zero => simp at hh; subst hh; exact .inr hf
      | succ id => simp at hh
  rw [← hP]
  refine (h.2 w (ρ i0) vs hstart h1 h2).mono fun en w' ⟨us, hen, rs, o', obs', ρ', hp, hul, hu, hw', hf1, hf2, hb⟩ => ?_
  obtain ⟨ρ2, hst, hav⟩ := joinM hT rr hi hog (hfo _) hw' hf2 hb
  rw [← oSet_eq] at hst hav
  refine ⟨pack us, hen, resM i0 g obs.length rs, oSet obs i0 (regO g o') ++ obs', ρ2, hst, ?_, hk rs o' obs' hp⟩
  have each : ∀ (i : Nat) (x : AV) (v : Value), rs[i]? = some x → us[i]? = some v → AVRel (C.V w' (oSet obs i0 (regO g o') ++ obs') ρ2) (oSet obs i0 (regO g o') ++ obs') ρ2 (shiftM i0 g obs.length x) v := fun i x v hx hv =>
    hav x v (List.all_eq_true.1 hf1 _ (List.mem_of_getElem? hx)) (hu i x v hx hv)
  match rs, us, hul with
  | [], [], _ => exact ⟨[], rfl, rfl, by simp⟩
  | [x], [u], _ => exact each 0 x u rfl rfl
  | x :: y :: l, u :: u2 :: us, hul =>
    refine ⟨u :: u2 :: us, by simp [pack], by simpa using hul, fun i a b ha hb => ?_⟩
    rw [List.getElem?_map, Option.map_eq_some_iff] at ha
    obtain ⟨z, hz, rfl⟩ := ha
    exact each i z b hz hb

theorem FunM.call {B C : Ctx} (hP : B.P = C.P) (hT : B.tid = C.tid) {f : FuncId} {args0 : List AV} {e : E} {xs : List e.D} {nn : Bool} {post : List AV → List O → Prop} (h : FunM B f args0 e xs nn post) {obs : List O} {args : List AV} (i0 g : Nat) {nn' : Bool}
    (ho : oAt obs i0 = .arr e xs g nn') (hnn : nn = true → nn' = true) (he : flatE e = true) (ha : argsOkM obs i0 g args args0)
    {K : Sl → List O → Prop} (hk : ∀ rs o' obs', post rs (o' :: obs') → K (resM i0 g obs.length rs) (oSet obs i0 (regO g o') ++ obs')) : ACall C obs f args fun x o => Later (K x o) :=
  FunO.callX hP hT h i0 g ho rfl rfl (fun _ _ => Iff.rfl) (fun w V V' v ⟨cs, k1, k2, k3, k4⟩ => ⟨cs, by have : B.tid e = C.tid e := congrFun hT e; rw [this]; exact k1, k2.flat he, fun k => k3 (hnn k), k4⟩) ha hk

/-- A matrix of one's own, lent. -/
theorem FunO.callMat {B C : Ctx} (hP : B.P = C.P) (hT : B.tid = C.tid) {f : FuncId} {args0 : List AV} {hs : List (Option Nat)} {rows : List (List Int)} {nn : Bool} {post : List AV → List O → Prop} (h : FunO B f args0 (.mat hs rows 0 nn) post) {obs : List O} {args : List AV} (i0 g : Nat) {nn' : Bool}
    (ho : oAt obs i0 = .mat hs rows g nn') (hnn : nn = true → nn' = true) (ha : argsOkM obs i0 g args args0)
    {K : Sl → List O → Prop} (hk : ∀ rs o' obs', post rs (o' :: obs') → K (resM i0 g obs.length rs) (oSet obs i0 (regO g o') ++ obs')) : ACall C obs f args fun x o => Later (K x o) :=
  FunO.callX hP hT h i0 g ho rfl rfl (fun _ _ => Iff.rfl) (fun w V V' v k => by
    have h1 : ORel B.tid w V' v (.mat hs rows 0 nn') := ORel.mat_tid (congrFun hT .lrow).symm (congrFun hT .int).symm k
    obtain ⟨cs, k1, k2, k3, k4, k5, k6, k7⟩ := h1
    exact ⟨cs, k1, k2, k3, k4, k5, fun k => k6 (hnn k), k7⟩) ha hk

theorem argsOkM_nil (obs : List O) (i0 g : Nat) : argsOkM obs i0 g [] [] = True := rfl
theorem argsOkM_cons (obs : List O) (i0 g : Nat) (x y : AV) (l r : List AV) : argsOkM obs i0 g (x :: l) (y :: r) = (argOkM obs i0 g x y ∧ argsOkM obs i0 g l r) := rfl
theorem argOkM_own (obs : List O) (i0 g : Nat) (x : AV) : argOkM obs i0 g x (.own 0 0) = (x = .own i0 g) := by cases x <;> rfl
theorem argOkM_int (obs : List O) (i0 g : Nat) (x : AV) (k : IntKind) (n : Int) : argOkM obs i0 g x (.int k n) = (x = .int k n) := by cases x <;> rfl
theorem argOkM_bool (obs : List O) (i0 g : Nat) (x : AV) (n : Bool) : argOkM obs i0 g x (.bool n) = (x = .bool n) := by cases x <;> rfl
theorem argOkM_sl (obs : List O) (i0 g : Nat) (f : Bool) (e e' : E) (xs : List e.D) (ys : List e'.D) : argOkM obs i0 g (.sl f e' ys) (.sl false e xs) = convV e e' ys xs := rfl
theorem argOkM_lr (obs : List O) (i0 g : Nat) (e : E) (xs : List e.D) (l : Nat) (ys : List Int) : argOkM obs i0 g (.lr l ys) (.sl false e xs) = convV e .int ys xs := rfl
theorem argOkM_osl (obs : List O) (i0 g id g' : Nat) (e : E) (xs : List e.D) : argOkM obs i0 g (.own id g') (.sl false e xs) = (id ≠ i0 ∧ argO g' e xs (oAt obs id)) := by rw [← argOk_own]; rfl
theorem regO_arr (g g' : Nat) (e : E) (xs : List e.D) (nn : Bool) : regO g (.arr e xs g' nn) = .arr e xs g nn := rfl
theorem regO_mat (g g' : Nat) (hs : List (Option Nat)) (rows : List (List Int)) (nn : Bool) : regO g (.mat hs rows g' nn) = .mat hs rows g nn := rfl
theorem regO_dead (g : Nat) : regO g .dead = .dead := rfl
theorem resM_one (i0 g n : Nat) (x : AV) : resM i0 g n [x] = .v (shiftM i0 g n x) := rfl
theorem resM_zero (i0 g n : Nat) : resM i0 g n [] = .t [] := rfl
theorem resM_two (i0 g n : Nat) (x y : AV) : resM i0 g n [x, y] = .t [shiftM i0 g n x, shiftM i0 g n y] := rfl
theorem shiftM_own (i0 g n : Nat) : shiftM i0 g n (.own 0 0) = .own i0 g := rfl
theorem shiftM_own1 (i0 g n g1 : Nat) : shiftM i0 g n (.own 1 g1) = .own (n + 0) g1 := rfl
theorem shiftM_int (i0 g n : Nat) (k : IntKind) (x : Int) : shiftM i0 g n (.int k x) = .int k x := rfl
theorem shiftM_bool (i0 g n : Nat) (x : Bool) : shiftM i0 g n (.bool x) = .bool x := rfl
theorem shiftM_str (i0 g n : Nat) (x : List UInt8) : shiftM i0 g n (.str x) = .str x := rfl
theorem shiftM_nils (i0 g n : Nat) : shiftM i0 g n .nils = .nils := rfl

theorem AW0 : type_of% @AZ ∧ type_of% @argsOkM_nil ∧ type_of% @argsOkM_cons ∧ type_of% @argOkM_own ∧ type_of% @argOkM_int ∧ type_of% @argOkM_bool ∧ type_of% @argOkM_sl ∧ type_of% @argOkM_lr ∧ type_of% @argOkM_osl ∧ type_of% @regO_arr ∧ type_of% @regO_dead ∧
    type_of% @resM_one ∧ type_of% @resM_zero ∧ type_of% @resM_two ∧ type_of% @shiftM_own ∧ type_of% @shiftM_own1 ∧ type_of% @shiftM_int ∧ type_of% @shiftM_bool ∧ type_of% @shiftM_str ∧ type_of% @shiftM_nils ∧ (∀ n : Nat, n + 0 = n) ∧ type_of% @inN_some ∧ type_of% @inN_none ∧ (∀ p : Prop, (False → p) = True) := by
  refine ⟨AZ, argsOkM_nil, argsOkM_cons, argOkM_own, argOkM_int, argOkM_bool, argOkM_sl, argOkM_lr, argOkM_osl, regO_arr, regO_dead, resM_one, resM_zero, resM_two, shiftM_own, shiftM_own1, shiftM_int, shiftM_bool, shiftM_str, shiftM_nils, fun _ => rfl, inN_some, inN_none, fun _ => by simp⟩
theorem AW : type_of% @AW0 ∧ type_of% @X_copy ∧ type_of% @copyV_own ∧ type_of% @Q_cpO ∧ type_of% @Q_cpE ∧ type_of% @Q_lenM ∧ type_of% @Q_idxM ∧ type_of% @Q_loadM ∧ type_of% @Q_st_own ∧ type_of% @Q_storeM ∧ type_of% @Q_stR ∧ type_of% @Q_stM ∧ type_of% @S_all0 ∧ type_of% @argO_mat ∧ type_of% @regO_mat :=
  ⟨AW0, X_copy, copyV_own, Q_cpO, Q_cpE, Q_lenM, Q_idxM, Q_loadM, Q_st_own, Q_storeM, Q_stR, Q_stM, S_all0, argO_mat, regO_mat⟩
end Go.Aw

/- Operations, the rest: a literal slice, a piece, a result taken out of several. -/
import Derived.Test.YtdhfonblpbpmmaaAw1
import Derived.Great.BuildSlice
import Derived.Laws.CopyRow
import Derived.Laws.IdiomCopy
import Derived.MapKept
import Derived.Laws.BytesString
import Derived.Laws.BytesArg
import Derived.Orders
set_option linter.unusedVariables false
set_option linter.unusedSimpArgs false
namespace Go.Aw
open Go

section sound
variable {C : Ctx} {obs : List O} {w : World} {ρ : Nat → Value}

theorem run_build {t : TypeId} {e : E} (hC : C.Ok) (he : C.Γ t = some e) (h1 : e.size = 1) {vs : List Value} (hv : ∀ v ∈ vs, v.cells = #[v]) (hl : vs.length ≤ 1000) (parts : Array (Nat × Value)) (hp : parts.toList = (vs.zipIdx 0).map fun x => (x.2, x.1)) :
    (Instr.buildSlice t vs.length parts).run C.P w = .ok (.slice (some ⟨w.heap.size, 0, none⟩) vs.length vs.length) (w.alloc (.cells vs.toArray (C.tid e))) := by
  obtain ⟨ht, i, hi, hz, hs, _⟩ := hC.sl t e he
  by_cases h0 : vs.length = 0
  · have hn : vs = [] := List.eq_nil_of_length_eq_zero h0
    subst hn
    have hpp : parts = #[] := by apply Array.ext'; simpa using hp
    subst hpp
    simp [Instr.buildSlice, run_underlying ht, sizeOf, typeInfo, hi, newRow, Instr.fill, Array.range_zero']
  · refine run_buildSlice w t (C.tid e) vs.length parts vs.toArray i e.zero ht hi hz (by rw [hs, h1]; omega) (by rw [hs, h1]; omega) ?_
    rw [hp, hs, h1]
    exact Great.fill_flat _ _ hv (by simp)

theorem allE_rel {V : Vw} {e : E} : ∀ {l : List AV} {ds : List e.D} {vs : List Value}, allE e l = some ds → vs.length = l.length → (∀ s, AV.str s ∈ l → s.length ≤ maxLen) →
    (∀ (i : Nat) (x : AV) (v : Value), l[i]? = some x → vs[i]? = some v → AVRel V obs ρ x v) → ds.length = vs.length ∧ ∀ (i : Nat) (d : e.D) (v : Value), ds[i]? = some d → vs[i]? = some v → ElRel V e d v
  | [], ds, vs, h, hl, _, _ => by
    simp [allE] at h
    subst h
    simp at hl
    subst hl
    simp
  | x :: l, ds, vs, h, hl, hs, hr => by
    simp only [allE] at h
    split at h
    · rename_i d ds' hd hds
      cases h
      cases vs with
      | nil => simp at hl
      | cons v vs =>
        have h0 := toE_rel hd (fun s k => hs s (by rw [← k]; simp)) (hr 0 x v rfl rfl)
        obtain ⟨i1, i2⟩ := allE_rel hds (by simpa using hl) (fun s k => hs s (List.mem_cons_of_mem _ k)) (fun i x v hx hv => hr (i + 1) x v (by simpa using hx) (by simpa using hv))
        refine ⟨by simp [i1], fun i d' v' hd' hv' => ?_⟩
        cases i with
        | zero => simp at hd' hv'; subst hd' hv'; exact h0
        | succ i => exact i2 i d' v' (by simpa using hd') (by simpa using hv')
    · cases h

theorem enc_flat {V : Vw} {e : E} (h1 : e.size = 1) {ds : List e.D} {vs : List Value} (hl : ds.length = vs.length) (h : ∀ (i : Nat) (d : e.D) (v : Value), ds[i]? = some d → vs[i]? = some v → ElRel V e d v) : Enc V e ds vs := by
  refine ⟨by rw [h1]; omega, fun i hi => ⟨vs[i], h i _ _ (by simp [hi]) (by simp), fun j hj => ?_⟩⟩
  have : j = 0 := by omega
  subst this
  have hr := h i ds[i] (vs[i]'(by omega)) (by simp [hi]) (by simp)
  rw [(one_cells h1 hr).1]
  simp [h1]

theorem zipIdx_from (f : AV → Value) : ∀ (parts : List (Nat × AV)) (s : Nat), parts.map (·.1) = List.range' s parts.length → (parts.map fun p => (p.1, f p.2)) = ((parts.map fun p => f p.2).zipIdx s).map fun x => (x.2, x.1)
  | [], _, _ => rfl
  | p :: parts, s, h => by
    simp only [List.map_cons, List.length_cons, List.range'_succ, List.cons.injEq] at h
    simp only [List.map_cons, List.zipIdx_cons, h.1]
    rw [zipIdx_from f parts (s + 1) h.2]

theorem zipIdx_parts {parts : List (Nat × AV)} {n : Nat} (h : parts.map (·.1) = List.range n) (f : AV → Value) : (parts.map fun p => (p.1, f p.2)) = ((parts.map fun p => f p.2).zipIdx 0).map fun x => (x.2, x.1) := by
  have hl : parts.length = n := by have := congrArg List.length h; simpa using this
  exact zipIdx_from f parts 0 (by rw [h, hl, List.range_eq_range'])

theorem buildNew {t : TypeId} {e e2 : E} (hC : C.Ok) (he : C.Γ t = some e) (h1 : e.size = 1) (h2 : e2.fam = e.fam) (rr : WRel C obs w ρ) {vs : List Value} {ds : List e2.D} (hl : vs.length ≤ 1000) (hds : ds.length = vs.length)
    (hr : ∀ V', (C.V w obs ρ).le V' → ∀ (i : Nat) (d : e2.D) (v : Value), ds[i]? = some d → vs[i]? = some v → ElRel V' e2 d v)
    (parts : Array (Nat × Value)) (hp : parts.toList = (vs.zipIdx 0).map fun x => (x.2, x.1)) :
    ∃ z w' ρ', (Instr.buildSlice t vs.length parts).run C.P w = .ok z w' ∧ Step C w w' obs (obs ++ [.arr e2 ds 0 true]) ρ ρ' ∧ AVRel (C.V w' (obs ++ [.arr e2 ds 0 true]) ρ') (obs ++ [.arr e2 ds 0 true]) ρ' (.own obs.length 0) z := by
  have htid : C.tid e2 = C.tid e := by
    cases e2 <;> cases e <;> simp [E.fam] at h2 <;> first | rfl | (rename_i f; exact hC.same f) | (rename_i f; exact (hC.same f).symm) | (rename_i f g; exact (hC.same f).trans (hC.same g).symm)
  have hs2 : e2.size = 1 := by rw [← h1]; cases e2 <;> cases e <;> simp [E.fam] at h2 <;> rfl
  have hv : ∀ v ∈ vs, v.cells = #[v] := by
    intro v hv
    obtain ⟨i, hi⟩ := List.getElem?_of_mem hv
    have hlt : i < vs.length := (List.getElem?_eq_some_iff.1 hi).1
    exact (one_cells hs2 (hr _ (Vw.le.refl _) i (ds[i]'(by omega)) v (by simp) hi)).1
  have hrun := run_build (w := w) hC he h1 hv hl parts hp
  have hext : Ext (fun _ => False) w (w.alloc (.cells vs.toArray (C.tid e))) := Ext.alloc _ _ _
  have hb : ∀ b, fpo (.slice (some ⟨w.heap.size, 0, none⟩) vs.length vs.length) (.arr e2 ds 0 true) b → w.heap.size ≤ b := by
    intro b hb
    simp [fpo, Value.ownBlock] at hb
    omega
  have hV := le_new (C := C) (obs := obs) (ρ := ρ) hext hb
  refine ⟨_, _, _, hrun, (Turn.new rr hext _ _ ?_ hb).step rr, ?_⟩
  · refine ⟨vs, ⟨by rw [hs2]; omega, .inr ⟨w.heap.size, vs.length, vs.toArray, by rw [hds], Nat.zero_le _, ?_, by omega, by rw [maxLen_num]; omega, by simp [hs2], ?_⟩⟩, enc_flat hs2 hds (hr _ hV), by simp, by rw [hds, maxLen_num]; omega⟩
    · rw [htid]; exact heap_alloc_new w _
    · rw [hds, hs2]; simp
  · refine ⟨by simp, fun c hc => ?_⟩
    have : c = 0 := by simpa [genOf, O.gen] using hc.symm
    subst this
    simp

theorem le_of_ext {w' : World} (h : Ext (fun _ => False) w w') : (C.V w obs ρ).le (C.V w' obs ρ) := by
  refine ⟨fun b x hx => ?_, fun _ h => h, rfl⟩
  simp only [Ctx.V, mask] at hx ⊢
  split at hx
  · cases hx
  · rename_i hn
    rw [if_neg hn, h.block b (Array.getElem?_eq_some_iff.1 hx).1 (fun k => k)]
    exact hx

/-- An owned row of integers, once let go, is read as it stood, under its block's number. -/
theorem letgo_rel (rr : WRel C obs w ρ) {id g : Nat} {xs : List Int} {nn : Bool} (ho : obs[id]? = some (.arr .int xs g nn)) :
    Step C w w obs (obs.set id .dead) ρ (fun i => if i = id then ρ id else ρ i) ∧ RowRel (C.V w (obs.set id .dead) (fun i => if i = id then ρ id else ρ i)) true xs (ρ id) ∧
      (nn = true → ∃ l, (ρ id).ownBlock = some l ∧ LRowRel (C.V w (obs.set id .dead) (fun i => if i = id then ρ id else ρ i)) l xs (ρ id)) := by
  have T := Turn.letgo rr ho
  have hst := T.step rr
  obtain ⟨cs, hown, henc, hnn, hml⟩ := rr.os id _ ho
  have hcs : cs = xs.map (Value.int .i64) := by
    apply List.ext_getElem?
    intro i
    have hl := henc.1
    simp only [E.size, Nat.mul_one] at hl
    by_cases hi : i < xs.length
    · obtain ⟨u, hu, hc⟩ := henc.2 i hi
      have h0 := hc 0 (by simp [E.size])
      cases hu
      simp [E.size, Value.cells] at h0
      rw [h0]
      simp [hi]
    · rw [List.getElem?_eq_none (by omega), List.getElem?_eq_none (by simp; omega)]
  subst hcs
  rcases hown.2 with ⟨hv, hz⟩ | ⟨b, cap, cur, hv, _, hg, h1, h2, h3, h4⟩
  · have hx : xs = [] := List.eq_nil_of_length_eq_zero hz
    subst hx
    exact ⟨hst, ⟨none, 0, by rw [hv]; rfl, by simp, by simp, fun i hi => by simp at hi⟩, fun k => absurd hv (hnn k)⟩
  · have hfp : fpo (ρ id) (.arr .int xs g nn) b := by simp [fpo, hv, Value.ownBlock]
    have hnot : ¬ Own (obs.set id .dead) (fun i => if i = id then ρ id else ρ i) b := by
      rintro ⟨j, oj, hj, hf⟩
      by_cases hji : id = j
      · subst hji
        rw [List.getElem?_set_self (List.getElem?_eq_some_iff.1 ho).1] at hj
        cases hj
        simp [fpo] at hf
      · rw [List.getElem?_set_ne hji] at hj
        simp only [if_neg (Ne.symm hji)] at hf
        exact hji (rr.dis id j _ oj b ho hj hfp hf)
    have hH : (C.V w (obs.set id .dead) (fun i => if i = id then ρ id else ρ i)).H b = some (.cells cur (C.tid .int) (0, 0)) := by
      simp only [Ctx.V, mask, if_neg hnot]
      exact hg
    have hL : LRowRel (C.V w (obs.set id .dead) (fun i => if i = id then ρ id else ρ i)) b xs (ρ id) := by
      refine ⟨cap, cur, hv, .inl (rr.own b ⟨id, _, ho, hfp⟩), hH, h1, h2, by simpa [E.size] using h3, by simpa [E.size] using h4⟩
    exact ⟨hst, LRowRel.toRow hL, fun _ => ⟨b, by rw [hv]; rfl, hL⟩⟩

theorem rowsOf_sound : ∀ {l : List AV} {obs obs' : List O} {ρ : Nat → Value} {rs : List (List Int)} {vs : List Value}, WRel C obs w ρ → rowsOf l obs = some (rs, obs') → vs.length = l.length →
    (∀ (i : Nat) (x : AV) (v : Value), l[i]? = some x → vs[i]? = some v → AVRel (C.V w obs ρ) obs ρ x v) →
    ∃ ρ', Step C w w obs obs' ρ ρ' ∧ obs'.length = obs.length ∧ rs.length = vs.length ∧ ∀ (i : Nat) (d : List Int) (v : Value), rs[i]? = some d → vs[i]? = some v → RowRel (C.V w obs' ρ') false d v
  | [], obs, obs', ρ, rs, vs, rr, h, hl, _ => by
    simp [rowsOf] at h
    obtain ⟨rfl, rfl⟩ := h
    simp at hl
    subst hl
    exact ⟨ρ, Step.refl rr, rfl, rfl, by simp⟩
  | x :: l, obs, obs', ρ, rs, vs, rr, h, hl, hr => by
    cases vs with
    | nil => simp at hl
    | cons v vs =>
    have h0 := hr 0 x v rfl rfl
    have fin : ∀ (obs1 : List O) (ρ1 : Nat → Value) (xs : List Int), Step C w w obs obs1 ρ ρ1 → obs1.length = obs.length → RowRel (C.V w obs1 ρ1) false xs v → (rowsOf l obs1).map (fun p => (xs :: p.1, p.2)) = some (rs, obs') →
        ∃ ρ', Step C w w obs obs' ρ ρ' ∧ obs'.length = obs.length ∧ rs.length = (v :: vs).length ∧ ∀ (i : Nat) (d : List Int) (u : Value), rs[i]? = some d → (v :: vs)[i]? = some u → RowRel (C.V w obs' ρ') false d u := by
      intro obs1 ρ1 xs hst hlen hrow hm
      cases hro : rowsOf l obs1 with
      | none => rw [hro] at hm; simp at hm
      | some p =>
        rw [hro] at hm
        obtain ⟨rs1, obs2⟩ := p
        simp at hm
        obtain ⟨rfl, rfl⟩ := hm
        obtain ⟨ρ', k1, k2, k3, k4⟩ := rowsOf_sound hst.wr hro (by simpa using hl) (fun i x v hx hv => hst.av (hr (i + 1) x v (by simpa using hx) (by simpa using hv)))
        refine ⟨ρ', hst.trans k1, by omega, by simp [k3], fun i d u hd hu => ?_⟩
        cases i with
        | zero => simp at hd hu; subst hd hu; exact hrow.mono k1.le
        | succ i => exact k4 i d u (by simpa using hd) (by simpa using hu)
    unfold rowsOf at h
    split at h
    · cases ‹_ = []›
    · rename_i f xs r heq
      cases heq
      exact fin _ _ xs (Step.refl rr) rfl ((SlRel.toRow h0).weaken) h
    · rename_i b xs r heq
      cases heq
      exact fin _ _ xs (Step.refl rr) rfl ((LRowRel.toRow h0).weaken) h
    · rename_i id g r heq
      cases heq
      split at h
      · rename_i xs g' nn ho
        split at h
        · rename_i hg
          subst hg
          obtain ⟨hv, _⟩ := own_arr rr ho h0
          subst hv
          obtain ⟨k1, k2, _⟩ := letgo_rel rr ho
          exact fin _ _ xs k1 (by simp) k2.weaken h
        · cases h
      · cases h
    · cases h

/-- What a new value comes to: as 'ok', or for every fresh label. -/
def NewOk (C : Ctx) (obs : List O) (w : World) (ρ : Nat → Value) (r : AV) (o : List O) (z : Value) (w' : World) : Prop :=
  ∃ ρ', Step C w w' obs o ρ ρ' ∧ AVRel (C.V w' o ρ') o ρ' r z

theorem parts_get {parts : List (Nat × AV)} {vs : List Value}
    (h : ∀ (i : Nat) (x : Nat × AV) (v : Value), parts[i]? = some x → vs[i]? = some v → AVRel (C.V w obs ρ) obs ρ x.2 v) :
    ∀ (i : Nat) (x : AV) (v : Value), (parts.map (·.2))[i]? = some x → vs[i]? = some v → AVRel (C.V w obs ρ) obs ρ x v := by
  intro i x v hx hv
  rw [List.getElem?_map, Option.map_eq_some_iff] at hx
  obtain ⟨p, hp, rfl⟩ := hx
  exact h i p v hp hv

theorem buildV_sound (hC : C.Ok) {t : TypeId} {n : Nat} {parts : List (Nat × AV)} (rr : WRel C obs w ρ) {pv : Array (Nat × Value)} (hpl : pv.toList.length = parts.length)
    (hpv : ∀ (i : Nat) (x : Nat × AV) (v : Nat × Value), parts[i]? = some x → pv.toList[i]? = some v → v.1 = x.1 ∧ AVRel (C.V w obs ρ) obs ρ x.2 v.2) :
    (∀ (vc : Prop) (r : AV) (o : List O), buildV (C.Γ t) n parts obs = .ok vc r o → vc → ∃ z w', (Instr.buildSlice t n pv).run C.P w = .ok z w' ∧ NewOk C obs w ρ r o z w') ∧
    (∀ (p : Nat → Prop) (r : AV) (o : Nat → List O), buildV (C.Γ t) n parts obs = .all p r o → ∃ z w' l, p l ∧ (Instr.buildSlice t n pv).run C.P w = .ok z w' ∧ NewOk C obs w ρ r (o l) z w') := by
  have hvs : ∃ vs : List Value, vs = pv.toList.map (·.2) := ⟨_, rfl⟩
  obtain ⟨vs, hvs⟩ := hvs
  have hvl : vs.length = parts.length := by rw [hvs]; simpa using hpl
  have hrel : ∀ (i : Nat) (x : Nat × AV) (v : Value), parts[i]? = some x → vs[i]? = some v → AVRel (C.V w obs ρ) obs ρ x.2 v := by
    intro i x v hx hv
    rw [hvs, List.getElem?_map, Option.map_eq_some_iff] at hv
    obtain ⟨p, hp, rfl⟩ := hv
    exact (hpv i x p hx hp).2
  have hparts : parts.map (·.1) = List.range n → n = vs.length ∧ pv.toList = (vs.zipIdx 0).map fun x => (x.2, x.1) := by
    intro h
    have hn : n = vs.length := by have := congrArg List.length h; simp at this; omega
    refine ⟨hn, ?_⟩
    apply List.ext_getElem?
    intro i
    by_cases hi : i < vs.length
    · have hp : i < parts.length := by omega
      have hq : i < pv.toList.length := by omega
      have hh := hpv i parts[i] pv.toList[i] (by simp [hp]) (by simp)
      have h1 : parts[i].1 = i := by
        have := congrArg (fun l => l[i]?) h
        simp [hp, show i < n by omega] at this
        exact this
      have h2 : vs[i] = pv.toList[i].2 := by simp [hvs]
      simp only [List.getElem?_map, List.getElem?_zipIdx]
      simp only [List.getElem?_eq_getElem (show i < pv.toList.length by omega), List.getElem?_eq_getElem hi, Option.map_some, Nat.zero_add]
      congr 1
      exact Prod.ext (by rw [hh.1, h1]) h2.symm
    · rw [List.getElem?_eq_none (by omega), List.getElem?_eq_none (by simp; omega)]
  have hav := parts_get hrel
  unfold buildV
  split
  case h_2 => exact ⟨fun _ _ _ h => (by cases h), fun _ _ _ h => (by cases h)⟩
  rename_i _ e he
  split
  case isFalse => exact ⟨fun _ _ _ h => (by cases h), fun _ _ _ h => (by cases h)⟩
  rename_i hc
  obtain ⟨hr, hn, h1⟩ := hc
  obtain ⟨rfl, hpp⟩ := hparts hr
  split
  · rename_i hel
    subst hel
    split
    · -- no part
      refine ⟨fun _ _ _ h _ => ?_, fun _ _ _ h => by cases h⟩
      cases h
      have hv0 : vs = [] := List.eq_nil_of_length_eq_zero (by simpa using hvl)
      obtain ⟨z, w', ρ', k1, k2, k3⟩ := buildNew (e2 := .lrow) (ds := []) hC he h1 rfl rr hn (by rw [hv0]; rfl) (fun _ _ i d v hd => by simp at hd) pv hpp
      exact ⟨z, w', k1, ρ', k2, k3⟩
    · rename_i a l xs
      refine ⟨fun _ _ _ h _ => ?_, fun _ _ _ h => by cases h⟩
      cases h
      obtain ⟨v0, hv0⟩ : ∃ v0, vs = [v0] := by
        match vs, hvl with
        | [v0], _ => exact ⟨v0, rfl⟩
      have hh := hav 0 _ v0 rfl (by rw [hv0]; rfl)
      obtain ⟨z, w', ρ', k1, k2, k3⟩ := buildNew (e2 := .lrow) (ds := [(l, xs)]) hC he h1 rfl rr hn (by rw [hv0]; rfl) (fun V' hV i d v hd hv => by
        rw [hv0] at hv
        cases i with
        | zero => simp at hd hv; subst hd hv; exact LRowRel.mono hV hh
        | succ i => simp at hd) pv hpp
      exact ⟨z, w', k1, ρ', k2, k3⟩
    · rename_i a xs
      refine ⟨fun _ _ _ h _ => ?_, fun _ _ _ h => by cases h⟩
      cases h
      obtain ⟨v0, hv0⟩ : ∃ v0, vs = [v0] := by
        match vs, hvl with
        | [v0], _ => exact ⟨v0, rfl⟩
      have hh := hav 0 _ v0 rfl (by rw [hv0]; rfl)
      obtain ⟨z, w', ρ', k1, k2, k3⟩ := buildNew (e2 := .row true) (ds := [xs]) hC he h1 rfl rr hn (by rw [hv0]; rfl) (fun V' hV i d v hd hv => by
        rw [hv0] at hv
        cases i with
        | zero => simp at hd hv; subst hd hv; exact RowRel.mono hV (SlRel.toRow hh)
        | succ i => simp at hd) pv hpp
      exact ⟨z, w', k1, ρ', k2, k3⟩
    · rename_i a id g
      refine ⟨fun vc r o h _ => ?_, fun p r o h => ?_⟩
      · split at h
        · split at h <;> cases h
        · cases h
      · split at h
        case h_2 => cases h
        rename_i xs g' ho
        split at h
        case isFalse => cases h
        rename_i hg
        subst hg
        cases h
        obtain ⟨v0, hv0⟩ : ∃ v0, vs = [v0] := by
          match vs, hvl with
          | [v0], _ => exact ⟨v0, rfl⟩
        have hh := hav 0 _ v0 rfl (by rw [hv0]; rfl)
        obtain ⟨hv, _⟩ := own_arr rr ho hh
        obtain ⟨m1, _, m3⟩ := letgo_rel rr ho
        obtain ⟨l, hl, hL⟩ := m3 rfl
        have hfresh : FreshL obs l := by
          intro o ho' ys gg nn heq p hp hpl
          obtain ⟨j, hj⟩ := List.getElem?_of_mem ho'
          obtain ⟨cs, henc⟩ := lab_enc (rr.os j _ hj) heq
          obtain ⟨i, hi⟩ := List.getElem?_of_mem hp
          have hlt : i < ys.length := (List.getElem?_eq_some_iff.1 hi).1
          obtain ⟨u, hu, _⟩ := henc.2 i hlt
          have hpi : ys[i] = p := (List.getElem?_eq_some_iff.1 hi).2
          rw [hpi] at hu
          obtain ⟨cap, cur, _, _, hH, _⟩ := hu
          rw [hpl] at hH
          have hown : Own obs ρ l := ⟨id, _, ho, by simpa [fpo] using hl⟩
          simp [Ctx.V, mask, hown] at hH
        obtain ⟨z, w', ρ', k1, k2, k3⟩ := buildNew (obs := obs.set id .dead) (ρ := fun i => if i = id then ρ id else ρ i) (e2 := .lrow) (ds := [(l, xs)]) hC he h1 rfl m1.wr hn (by rw [hv0]; rfl) (fun V' hV i d v hd hv' => by
          rw [hv0] at hv'
          cases i with
          | zero => simp at hd hv'; subst hd hv'; rw [hv]; exact LRowRel.mono hV hL
          | succ i => simp at hd) pv hpp
        rw [List.length_set] at k3
        exact ⟨z, w', l, hfresh, k1, ρ', m1.trans k2, k3⟩
    · refine ⟨fun vc r o h _ => ?_, fun p r o h => ?_⟩
      · split at h
        case h_2 => cases h
        rename_i l obs' hro
        cases h
        obtain ⟨ρ1, m1, m2, m3, m4⟩ := rowsOf_sound rr hro (by simpa using hvl) hav
        obtain ⟨z, w', ρ', k1, k2, k3⟩ := buildNew (obs := obs') (ρ := ρ1) (e2 := .row false) (ds := l) hC he h1 rfl m1.wr hn m3 (fun V' hV i d v hd hv => RowRel.mono hV (m4 i d v hd hv)) pv hpp
        rw [m2] at k3
        exact ⟨z, w', k1, ρ', m1.trans k2, k3⟩
      · split at h <;> cases h
  · refine ⟨fun vc r o h hvc => ?_, fun p r o h => ?_⟩
    · split at h
      case h_2 => cases h
      rename_i l hal
      cases h
      obtain ⟨m1, m2⟩ := allE_rel hal (by simpa using hvl) hvc hav
      obtain ⟨z, w', ρ', k1, k2, k3⟩ := buildNew (e2 := e) (ds := l) hC he h1 rfl rr hn m1 (fun V' hV i d v hd hv => (m2 i d v hd hv).mono hV) pv hpp
      exact ⟨z, w', k1, ρ', k2, k3⟩
    · split at h <;> cases h

end sound
end Go.Aw

/- Operations, the last of them; the walk through a region. -/
namespace Go.Aw
open Go

/-- copy(dst, src), whole numbers. -/
def copyV (e? : Option E) (d s : AV) (obs : List O) : Res :=
  match e?, d with
  | some .int, .own id g => match obs[id]? with
    | some (.arr .int xs g' nn) => if g = g' then
        match srcL .int s obs (some id) with
        | some zs => .ok True (.int .i64 (min zs.length xs.length : Nat)) (obs.set id (.arr .int (zs.take xs.length ++ xs.drop zs.length) g nn))
        | none => .bad
      else .bad
    | _ => .bad
  | _, _ => .bad

section sound
variable {C : Ctx} {obs : List O} {w : World} {ρ : Nat → Value}

theorem run_bounds {len cap : Nat} {isS : Bool} {lo hi : Option AV} {l h : Int} {lv hv : Option Value} (hlv : lv.isSome = lo.isSome) (hhv : hv.isSome = hi.isSome)
    (hlo : ∀ x v, lo = some x → lv = some v → AVRel (C.V w obs ρ) obs ρ x v) (hhi : ∀ x v, hi = some x → hv = some v → AVRel (C.V w obs ρ) obs ρ x v)
    (h1 : bnd 0 lo = some l) (h2 : bnd len hi = some h) (h0 : 0 ≤ l) (hlh : l ≤ h) (hc : h ≤ cap) (w' : World) :
    (Instr.sliceBounds isS len cap lv hv none).run C.P w' = .ok (l.toNat, h.toNat, cap) w' := by
  have hh0 : 0 ≤ h := by omega
  have el : (match lv with | some v => Instr.sliceBound v h.toNat .sliceB | none => pure 0 : Sem Nat).run C.P w' = .ok l.toNat w' := by
    cases lo with
    | none =>
      simp [bnd] at h1
      subst h1
      cases lv with
      | none => rfl
      | some v => simp at hlv
    | some x =>
      cases lv with
      | none => simp at hlv
      | some v =>
        have := hlo x v rfl rfl
        unfold bnd at h1
        split at h1
        · cases ‹some x = none›
        · rename_i k n heq
          cases heq
          cases h1
          cases this
          have hle : l ≤ (h.toNat : Int) := by omega
          exact run_sliceBound _ _ _ _ _ h0 hle
        · cases h1
  have eh : (match hv with | some v => Instr.sliceBound v cap (if isS then .sliceAcap else .sliceAlen) | none => pure len : Sem Nat).run C.P w' = .ok h.toNat w' := by
    cases hi with
    | none =>
      simp [bnd] at h2
      subst h2
      cases hv with
      | none => simp
      | some v => simp at hhv
    | some x =>
      cases hv with
      | none => simp at hhv
      | some v =>
        have := hhi x v rfl rfl
        unfold bnd at h2
        split at h2
        · cases ‹some x = none›
        · rename_i k n heq
          cases heq
          cases h2
          cases this
          exact run_sliceBound _ _ _ _ _ hh0 hc
        · cases h2
  unfold Instr.sliceBounds
  cases hv with
  | none =>
    simp only [Option.isSome_none] at hhv
    simp only [Sem.run_bind, Sem.run_pure, Result.andThen_ok] at eh ⊢
    cases eh
    cases lv with
    | none => simp at el ⊢; exact el
    | some v => simp only [Option.isSome_none] at el ⊢; simp [el]
  | some v =>
    simp only [Sem.run_bind, Sem.run_pure, Result.andThen_ok] at eh ⊢
    rw [eh]
    cases lv with
    | none => simp at el ⊢; exact el
    | some v => simp [el]

theorem sliceV_sound (hC : C.Ok) {t : TypeId} {x : AV} {lo hi : Option AV} {vc : Prop} {r : AV} {o : List O} (ht : (∃ s, x = .str s ∧ C.bt t = some .str) ∨ ∃ e, C.Γ t = some e ∧ ((∃ f e' xs, x = .sl f e' xs ∧ e'.size = e.size) ∨ (∃ l xs, x = .lr l xs ∧ e.size = 1)))
    {u : Value} {lv hv : Option Value} (hlv : lv.isSome = lo.isSome) (hhv : hv.isSome = hi.isSome)
    (hx : AVRel (C.V w obs ρ) obs ρ x u) (hlo : ∀ x v, lo = some x → lv = some v → AVRel (C.V w obs ρ) obs ρ x v) (hhi : ∀ x v, hi = some x → hv = some v → AVRel (C.V w obs ρ) obs ρ x v)
    (h : sliceV x lo hi obs = .ok vc r o) (hvc : vc) :
    o = obs ∧ ∃ z, AVRel (C.V w obs ρ) obs ρ r z ∧ ∀ w', (Instr.sliceAt t u lv hv none).run C.P w' = .ok z w' := by
  have core : ∀ (f : Bool) (e e' : E) (xs : List e'.D) (l h : Int), C.Γ t = some e → e'.size = e.size → SlRel (C.V w obs ρ) f e' xs u → bnd 0 lo = some l → bnd xs.length hi = some h → 0 ≤ l → l ≤ h → h ≤ xs.length →
      ∃ z, SlRel (C.V w obs ρ) f e' ((xs.drop l.toNat).take (h.toNat - l.toNat)) z ∧ ∀ w', (Instr.sliceAt t u lv hv none).run C.P w' = .ok z w' := by
    intro f e e' xs l h he hse hs h1 h2 h0 hlh hle
    obtain ⟨hu, i, hinf, _, hsz, _⟩ := hC.sl t e he
    have hs' := hs
    obtain ⟨base, cap, rfl, hc1, hc2, _⟩ := hs'
    have hb := run_bounds (C := C) (isS := true) (cap := cap) hlv hhv hlo hhi h1 h2 h0 hlh (by omega)
    refine ⟨.slice (if cap = l.toNat then base else base.map (·.add (l.toNat * e.size))) (h.toNat - l.toNat) (cap - l.toNat), ?_, fun w' => ?_⟩
    · refine SlRel.piece hs (by omega) (by omega) (by omega) hc2 ?_
      intro hlt
      rw [if_neg (by omega), hse]
    · simp [Instr.sliceAt, run_underlying hu, Instr.slice, hb w', sizeOf, typeInfo, hinf, hsz]
  unfold sliceV at h
  split at h
  · rename_i f e' xs
    split at h
    case h_2 => cases h
    rename_i l hh h1 h2
    cases h
    obtain ⟨h0, hlh, hle⟩ := hvc
    rcases ht with ⟨s, hs, _⟩ | ⟨e, he, ⟨f2, e2, xs2, heq, hse⟩ | ⟨l2, xs2, heq, _⟩⟩
    · cases hs
    · cases heq
      obtain ⟨z, k1, k2⟩ := core f e e' xs l hh he hse hx h1 h2 h0 hlh hle
      exact ⟨rfl, z, k1, k2⟩
    · cases heq
  · rename_i l0 xs
    split at h
    case h_2 => cases h
    rename_i l hh h1 h2
    cases h
    obtain ⟨h0, hlh, hle⟩ := hvc
    rcases ht with ⟨s, hs, _⟩ | ⟨e, he, ⟨f2, e2, xs2, heq, hse⟩ | ⟨l2, xs2, heq, hse⟩⟩
    · cases hs
    · cases heq
    · cases heq
      obtain ⟨z, k1, k2⟩ := core true e .int xs l hh he (by rw [hse]; rfl) (LRowRel.toRow hx).toSl h1 h2 h0 hlh hle
      exact ⟨rfl, z, k1, k2⟩
  · rename_i s
    split at h
    case h_2 => cases h
    rename_i l hh h1 h2
    cases h
    obtain ⟨h0, hlh, hle⟩ := hvc
    rcases ht with ⟨s', hs, hb⟩ | ⟨e, he, ⟨f2, e2, xs2, heq, hse⟩ | ⟨l2, xs2, heq, hse⟩⟩
    · cases hs
      obtain ⟨hu, _⟩ := hC.bt t _ hb
      simp only [BT.desc] at hu
      simp only [AVRel] at hx
      subst hx
      have esz : (⟨s.toArray⟩ : ByteArray).size = s.length := by simp [ByteArray.size]
      have hbd := run_bounds (C := C) (isS := false) (cap := s.length) hlv hhv hlo hhi h1 h2 h0 hlh (by omega)
      refine ⟨rfl, .string (ByteArray.extract ⟨s.toArray⟩ l.toNat hh.toNat), ?_, fun w' => ?_⟩
      · simp only [AVRel]
        congr 1
        apply bytes_ext
        simp [ByteArray.data_extract]
      · simp only [Instr.sliceAt, Instr.slice, Sem.run_bind, run_underlying hu, Result.andThen_ok]
        simp only [Option.isSome_none, Bool.false_eq_true, if_false, esz, Sem.run_bind, hbd w', Result.andThen_ok]
        simp
    · cases heq
    · cases heq
  · cases h
where
  bytes_ext {a b : ByteArray} (h : a.data.toList = b.data.toList) : a = b := by
    cases a; cases b; congr 1; exact Array.ext' h

/-- The whole of an array that one only appends to, as an older view of it. -/
def slice3V (e? : Option E) (x : AV) (lo hi : Option AV) (mx : AV) (obs : List O) : Res :=
  match e?, lo, hi, x, mx with
  | some _, none, some (.int _ n), .own id g, .int _ m => match obs[id]? with
    | some (.ap q ys true g' _) => if g = g' then .ok (n = ys.length ∧ m = ys.length) (.hdr (some q) ys.length) obs else .bad
    | _ => .bad
  | _, _, _, _, _ => .bad

theorem run_bound_eq (P : Program) (k : IntKind) (n m : Nat) (r : BoundsCode) (w : World) (h : n ≤ m) : (Instr.sliceBound (.int k n) m r).run P w = .ok n w := by
  have hn : 0 ≤ (n : Int) ∧ (n : Int) ≤ (m : Int) := by omega
  simp [Instr.sliceBound, asIntOf, hn]

theorem slice3V_sound (hC : C.Ok) {t : TypeId} {x mx : AV} {lo hi : Option AV} {vc : Prop} {r : AV} {o : List O} (rr : WRel C obs w ρ)
    {u mv : Value} {lv hv : Option Value} (hlv : lv.isSome = lo.isSome) (hhv : hv.isSome = hi.isSome)
    (hx : AVRel (C.V w obs ρ) obs ρ x u) (hm : AVRel (C.V w obs ρ) obs ρ mx mv) (hhi : ∀ x v, hi = some x → hv = some v → AVRel (C.V w obs ρ) obs ρ x v)
    (h : slice3V (C.Γ t) x lo hi mx obs = .ok vc r o) (hvc : vc) :
    o = obs ∧ ∃ z, AVRel (C.V w obs ρ) obs ρ r z ∧ ∀ w', (Instr.sliceAt t u lv hv (some mv)).run C.P w' = .ok z w' := by
  unfold slice3V at h
  split at h
  case h_2 => cases h
  rename_i _ e k n id g k' m he
  split at h
  case h_2 => cases h
  rename_i q ys g' nn ho
  split at h
  case isFalse => cases h
  rename_i hg
  subst hg
  cases h
  obtain ⟨rfl, rfl⟩ := hvc
  obtain ⟨hu, i, hinf, _, hsz, _⟩ := hC.sl t e he
  obtain ⟨_, cs, hown, henc, _, _, _, _, hfr⟩ := own_ap rr ho hx
  obtain ⟨hb, hc⟩ := hfr rfl
  rcases hown.2 with ⟨hn, _⟩ | ⟨b, cap, cur, hv2, _, _, hcap, _⟩
  · rw [hn] at hb; simp [Value.ownBlock] at hb
  rw [hv2] at hb
  have hbq : b = hdB q := by simpa [Value.ownBlock] using hb
  subst hbq
  simp only [AVRel] at hm
  subst hm
  have hvs : hv = some (.int k ys.length) := by
    cases hv with
    | none => simp at hhv
    | some v => have := hhi _ v rfl rfl; simp only [AVRel] at this; rw [this]
  have hls : lv = none := by
    cases lv with
    | none => rfl
    | some v => simp at hlv
  subst hvs hls hv2
  refine ⟨rfl, .slice (some ⟨hdB q, 0, none⟩) ys.length (hdC q), rfl, fun w' => ?_⟩
  have e1 := run_bound_eq C.P k' ys.length cap .slice3Acap w' hcap
  have e2 := run_bound_eq C.P k ys.length ys.length .slice3B w' (Nat.le_refl _)
  simp [Instr.sliceAt, run_underlying hu, Instr.slice, Instr.sliceBounds, e1, e2, sizeOf, typeInfo, hinf, hsz, hc, Addr.add]

theorem enc_ints {V : Vw} {xs : List Int} {cs : List Value} (h : Enc V .int xs cs) : cs = xs.map (Value.int .i64) := by
  apply List.ext_getElem?
  intro i
  have hl := h.1
  simp only [E.size, Nat.mul_one] at hl
  by_cases hi : i < xs.length
  · obtain ⟨u, hu, hc⟩ := h.2 i hi
    have h0 := hc 0 (by simp [E.size])
    cases hu
    simp [E.size, Value.cells] at h0
    rw [h0]
    simp [hi]
  · rw [List.getElem?_eq_none (by omega), List.getElem?_eq_none (by simp; omega)]

theorem ints_enc {V : Vw} (xs : List Int) : Enc V .int xs (xs.map (Value.int .i64)) :=
  ⟨by simp [E.size], fun i hi => ⟨_, rfl, fun j hj => by
    have : j = 0 := by simp [E.size] at hj; omega
    subst this
    simp [E.size, Value.cells, hi]⟩⟩

theorem copyV_sound (hC : C.Ok) {t t2 ty : TypeId} {x y : AV} {vc : Prop} {r : AV} {o : List O} (rr : WRel C obs w ρ) {u v : Value}
    (hx : AVRel (C.V w obs ρ) obs ρ x u) (hy : AVRel (C.V w obs ρ) obs ρ y v) (h : copyV (C.Γ t) x y obs = .ok vc r o) :
    ∃ z w', (Builtin.copy_ #[t, t2] ty #[u, v]).run C.P w = .ok z w' ∧ Step C w w' obs o ρ ρ ∧ AVRel (C.V w' o ρ) o ρ r z := by
  unfold copyV at h
  split at h
  case h_2 => cases h
  rename_i _ id g he
  split at h
  case h_2 => cases h
  rename_i xs g' nn ho
  split at h
  case isFalse => cases h
  rename_i hg
  subst hg
  split at h
  case h_2 => cases h
  rename_i zs hz
  cases h
  obtain ⟨ht, i, hi, _, hsize, _⟩ := hC.sl t .int he
  have hsz : (C.P.info? (C.tid .int)).map (·.size) = some 1 := by rw [hi]; simp [hsize, E.size]
  obtain ⟨hρ, cs, hown, henc, hnn, hml⟩ := own_arr rr ho hx
  have hcs := enc_ints henc
  subst hcs
  have same : (zs = [] ∨ xs = []) → obs.set id (.arr .int (zs.take xs.length ++ xs.drop zs.length) g nn) = obs := by
    intro h
    have e : zs.take xs.length ++ xs.drop zs.length = xs := by rcases h with rfl | rfl <;> simp
    rw [e]
    apply List.ext_getElem?
    intro j
    by_cases hj : id = j
    · subst hj; rw [List.getElem?_set_self (List.getElem?_eq_some_iff.1 ho).1, ho]
    · rw [List.getElem?_set_ne hj]
  have none_ : (zs = [] ∨ xs = []) → ∀ d a dLen dCap sLen sCap, u = .slice d dLen dCap → v = .slice a sLen sCap → Nat.min sLen dLen = 0 →
      ∃ z w', (Builtin.copy_ #[t, t2] ty #[u, v]).run C.P w = .ok z w' ∧ Step C w w' obs (obs.set id (.arr .int (zs.take xs.length ++ xs.drop zs.length) g nn)) ρ ρ ∧
        AVRel (C.V w' (obs.set id (.arr .int (zs.take xs.length ++ xs.drop zs.length) g nn)) ρ) (obs.set id (.arr .int (zs.take xs.length ++ xs.drop zs.length) g nn)) ρ (.int .i64 (min zs.length xs.length : Nat)) z := by
    intro h0 d a dLen dCap sLen sCap hu hv hn
    rw [same h0, hu, hv]
    refine ⟨_, w, run_copy_none (P := C.P) w t t2 ty (C.tid .int) d a dLen dCap sLen sCap ht hsz hn, Step.refl rr, ?_⟩
    have : min zs.length xs.length = 0 := by rcases h0 with rfl | rfl <;> simp
    rw [this]
    rfl
  rcases srcL_sound rr hy hz with ⟨hz0, b, c, hv⟩ | ⟨a, c, news, hv, hcell, hone, henc2⟩
  · obtain ⟨a, cap, hu⟩ := ownsRow_len hown
    exact none_ (.inl hz0) _ _ _ _ _ _ hu hv (by simp)
  · have hn := enc_ints henc2
    subst hn
    rcases hown.2 with ⟨hu, hx0⟩ | ⟨b, cap, cur, hu, _, hgc, m1, m2, m3, m4⟩
    · exact none_ (.inr (List.eq_nil_of_length_eq_zero hx0)) _ _ _ _ _ _ hu hv (by simp)
    · have hfp : fpo (ρ id) (.arr .int xs g nn) b := by rw [← hρ]; simp [fpo, hu, Value.ownBlock]
      have m4' : cur.toList.take xs.length = xs.map (Value.int .i64) := by simpa [E.size] using m4
      have m3' : cur.size = cap := by simpa [E.size] using m3
      have hlen : ((zs.map (Value.int .i64)).take xs.length).length = Nat.min zs.length xs.length := by rw [List.length_take, List.length_map, Nat.min_comm]
      have hmin : Nat.min zs.length xs.length ≤ cap := Nat.le_trans (Nat.min_le_right ..) m1
      have hrun := run_copy_row (P := C.P) w t t2 ty (C.tid .int) b 0 xs.length cap a zs.length c cur (C.tid .int) ((zs.map (Value.int .i64)).take xs.length) ht hsz hgc hlen
        (fun j q hq => by
          rw [List.getElem?_take] at hq
          split at hq
          · exact hcell j q hq
          · cases hq) (by rw [hlen]; omega) (fun q hq => hone q (List.mem_of_mem_take hq))
      rw [hlen] at hrun
      rw [hu, hv]
      refine ⟨_, _, hrun, ?_, rfl⟩
      have hρe : (fun i => if i = id then ρ id else ρ i) = ρ := by funext i; split <;> simp_all
      have hfpe : ∀ b', fpo (ρ id) (.arr .int xs g nn) b' → b' = b := fun b' hb' => by rw [← hρ] at hb'; simp [fpo, hu, Value.ownBlock] at hb'; exact hb'.symm
      have hext : Ext (fun b' => fpo (ρ id) (.arr .int xs g nn) b') w (w.setRow b (cur.toList.take 0 ++ (zs.map (Value.int .i64)).take xs.length ++ cur.toList.drop (0 + Nat.min zs.length xs.length)).toArray) :=
        ⟨rfl, rfl, rfl, by simp, Nat.le_refl _, fun b' _ hS => setRow_other w b b' _ fun e => hS (e ▸ hfp)⟩
      have hb : ∀ b', fpo (ρ id) (.arr .int (zs.take xs.length ++ xs.drop zs.length) g nn) b' → fpo (ρ id) (.arr .int xs g nn) b' ∨ w.heap.size ≤ b' := fun b' hb' => .inl hb'
      have T := Turn.one rr id (.arr .int xs g nn) (.arr .int (zs.take xs.length ++ xs.drop zs.length) g nn) (ρ id) ho hext (w' := w.setRow b (cur.toList.take 0 ++ (zs.map (Value.int .i64)).take xs.length ++ cur.toList.drop (0 + Nat.min zs.length xs.length)).toArray)
        (by
          have e1 : (zs.take xs.length ++ xs.drop zs.length).length = xs.length := by simp; omega
          refine ⟨(zs.take xs.length ++ xs.drop zs.length).map (Value.int .i64), ⟨by simp [E.size], .inr ⟨b, cap, _, by rw [← hρ, e1]; exact hu, Nat.zero_le _, setRow_heap w b cur _ _ _ hgc, by rw [e1]; exact m1, m2, ?_, ?_⟩⟩, ints_enc _, by rw [← hρ]; exact hnn, by rw [e1]; exact hml⟩
          · have := Nat.min_le_left zs.length xs.length
            have hcl : cur.toList.length = cap := by simpa using m3'
            simp [E.size, -Array.length_toList]
            rw [hcl]
            have e5 : min xs.length zs.length = Nat.min zs.length xs.length := Nat.min_comm _ _
            have e6 : zs.length.min xs.length = min zs.length xs.length := rfl
            omega
          · have hcl : cur.toList.length = cap := by simpa using m3'
            rw [e1]
            have e7 : cur.toList = xs.map (Value.int .i64) ++ cur.toList.drop xs.length := by rw [← m4', List.take_append_drop]
            apply List.ext_getElem?
            intro j
            simp only [E.size, Nat.mul_one, List.take_zero, List.nil_append, Nat.zero_add, List.getElem?_take, List.getElem?_append, List.length_take, List.length_map, List.getElem?_drop, List.map_append, List.map_take, List.map_drop]
            have e6 : zs.length.min xs.length = min zs.length xs.length := rfl
            rw [e6]
            by_cases hj : j < xs.length
            · rw [if_pos hj]
              by_cases hj2 : j < min xs.length zs.length
              · rw [if_pos hj2, if_pos hj2]
              · rw [if_neg hj2, if_neg hj2]
                have h3 : zs.length ≤ j := by omega
                have h4 : min zs.length xs.length + (j - min xs.length zs.length) = j := by omega
                have h5 : zs.length + (j - min xs.length zs.length) = j := by omega
                rw [h4, h5, e7, List.getElem?_append_left (by simpa using hj)]
            · rw [if_neg hj, if_neg (by omega)]
              rw [List.getElem?_eq_none]
              simp; omega) hb
        (by
          intro c' hc'
          simp [O.gen] at hc'
          exact ⟨g, by simp [O.gen], .inl ⟨hc'.symm, rfl⟩⟩)
      rw [hρe] at T
      exact T.step rr

end sound

/-! ### Maps -/

def mfindI : List (MK × MV) → MK → Nat → Option (Nat × MV)
  | [], _, _ => none
  | p :: l, k, i => if k = p.1 then some (i, p.2) else mfindI l k (i + 1)
def mfind (l : List (MK × MV)) (k : MK) : Option MV := (mfindI l k 0).map (·.2)
def mput (l : List (MK × MV)) (k : MK) (v : MV) : List (MK × MV) := match mfindI l k 0 with
  | some (i, _) => l.set i (k, v)
  | none => l ++ [(k, v)]
def mgetB (l : List (MK × MV)) (k : MK) : Bool := match mfind l k with
  | some (.bool b) => b
  | _ => false
def mgetI (l : List (MK × MV)) (k : MK) : Int := match mfind l k with
  | some (.int n) => n
  | _ => 0
def keyV (m : MT) : AV → Option MK
  | .str s => if m.kv = false then some (.str s) else none
  | _ => none
def valV (m : MT) : AV → Option MV
  | .bool b => if m.vi = false then some (.bool b) else none
  | .int .i64 n => if m.vi = true then some (.int n) else none
  | _ => none
def mgetV (m : MT) (l : List (MK × MV)) (k : MK) : AV := if m.vi then .int .i64 (mgetI l k) else .bool (mgetB l k)
def mlookV (mt : Option MT) (x i : AV) (obs : List O) : Res :=
  match mt, x with
  | some m, .own id g => match obs[id]?, keyV m i with
    | some (.mp m' l g'), some k => if g = g' ∧ m.kv = m'.kv ∧ m.vi = m'.vi then .ok True (mgetV m l k) obs else .bad
    | _, _ => .bad
  | _, _ => .bad
def mupdV (mt : Option MT) (x i y : AV) (obs : List O) : Res :=
  match mt, x with
  | some m, .own id g => match obs[id]?, keyV m i, valV m y with
    | some (.mp m' l g'), some k, some v => if g = g' ∧ m.kv = m'.kv ∧ m.vi = m'.vi then .skip True (obs.set id (.mp m' (mput l k v) g)) else .bad
    | _, _, _ => .bad
  | _, _ => .bad
def mmakeV (mt : Option MT) (obs : List O) : Res :=
  match mt with
  | some m => .ok True (.own obs.length 0) (obs ++ [.mp m [] 0])
  | none => .bad

theorem strVal_inj {a b : List UInt8} : (MK.str a).val = (MK.str b).val ↔ a = b := by
  constructor
  · intro h
    simp only [MK.val, Value.string.injEq, ByteArray.mk.injEq] at h
    exact congrArg Array.toList h
  · rintro rfl; rfl
theorem ba_beq (x y : Array UInt8) : ((⟨x⟩ : ByteArray) == ⟨y⟩) = (x == y) := rfl
theorem findNow_str {s : List UInt8} : ∀ {es : List MapEntry} {l : List (MK × MV)} {i0 : Nat}, es.map (fun e => (e.key, e.val)) = l.map (fun p => (p.1.val, p.2.val)) → (∀ p ∈ l, p.1.ok false) →
    Instr.findNow .string (.string ⟨s.toArray⟩) es i0 = some ((mfindI l (.str s) i0).map fun q => (q.1, q.2.val))
  | [], [], i0, _, _ => rfl
  | [], _ :: _, _, h, _ => by simp at h
  | _ :: _, [], _, h, _ => by simp at h
  | e :: es, p :: l, i0, h, hk => by
    simp only [List.map_cons, List.cons.injEq, Prod.mk.injEq] at h
    obtain ⟨⟨h1, h2⟩, h3⟩ := h
    have h4 := hk p (List.mem_cons_self ..)
    obtain ⟨k, v⟩ := p
    cases k with
    | vec xs => exact h4.elim
    | str t =>
      have ih := findNow_str (s := s) (i0 := i0 + 1) h3 (fun q hq => hk q (List.mem_cons_of_mem _ hq))
      have e1 : e.key = .string ⟨t.toArray⟩ := h1
      simp only [Instr.findNow, e1, Instr.sameNow, mfindI]
      by_cases hst : s = t
      · subst hst
        rw [if_pos rfl]
        simp only [ba_beq, beq_self_eq_true]
        rw [h2]; rfl
      · have hne : ((⟨s.toArray⟩ : ByteArray) == ⟨t.toArray⟩) = false := by
          rw [ba_beq, beq_eq_false_iff_ne]
          intro hh
          exact hst (by have := congrArg Array.toList hh; simpa using this)
        rw [hne, if_neg (fun hh => hst (by cases hh; rfl))]
        exact ih
theorem mfindI_spec {k : MK} : ∀ {l : List (MK × MV)} {i0 i : Nat} {v : MV}, mfindI l k i0 = some (i, v) → i0 ≤ i ∧ l[i - i0]? = some (k, v)
  | [], _, _, _, h => by simp [mfindI] at h
  | p :: l, i0, i, v, h => by
    simp only [mfindI] at h
    split at h
    · rename_i hk
      simp only [Option.some.injEq, Prod.mk.injEq] at h
      obtain ⟨rfl, rfl⟩ := h
      exact ⟨Nat.le_refl _, by rw [Nat.sub_self, hk]; rfl⟩
    · obtain ⟨h1, h2⟩ := mfindI_spec h
      exact ⟨by omega, by rw [show i - i0 = (i - (i0 + 1)) + 1 by omega]; simpa using h2⟩

section maps
variable {C : Ctx} {obs : List O} {w : World} {ρ : Nat → Value}

theorem own_mp {id g : Nat} {m : MT} {l : List (MK × MV)} {v : Value} (r : WRel C obs w ρ) (ho : obs[id]? = some (.mp m l g)) (h : AVRel (C.V w obs ρ) obs ρ (.own id g) v) :
    v = ρ id ∧ ORel C.tid w (C.V w obs ρ) v (.mp m l g) := by
  obtain ⟨_, h2⟩ := h
  have hv : v = ρ id := (h2 g (by unfold genOf; rw [ho]; rfl)).2 rfl
  exact ⟨hv, by rw [hv]; exact r.os id _ ho⟩

theorem mlookV_sound (hC : C.Ok) {t : TypeId} {x i : AV} {vc : Prop} {r : AV} {o : List O} (rr : WRel C obs w ρ) {u j : Value} (hx : AVRel (C.V w obs ρ) obs ρ x u) (hi : AVRel (C.V w obs ρ) obs ρ i j)
    (h : mlookV (C.mt t) x i obs = .ok vc r o) : o = obs ∧ ∃ z, AVRel (C.V w obs ρ) obs ρ r z ∧ (Instr.lookup t u j false).run C.P w = .ok z w := by
  unfold mlookV at h
  split at h
  · rename_i m id g hmt
    split at h
    · rename_i m' l g' k ho hk
      split at h
      · rename_i hc
        obtain ⟨rfl, hkv, hvi⟩ := hc
        cases h
        refine ⟨rfl, ?_⟩
        obtain ⟨_, b, es, clock, hv, hh, hes, hok⟩ := own_mp rr ho hx
        obtain ⟨kt, et, hu, hks, _, hz⟩ := hC.mt t m hmt
        cases i <;> simp only [keyV] at hk <;> try (cases hk; done)
        rename_i s
        split at hk
        · rename_i hkf
          cases hk
          have hkt := hks hkf
          have hj : j = .string ⟨s.toArray⟩ := hi
          subst hj hv
          have hf := findNow_str (s := s) (i0 := 0) hes (fun p hp => by have := (hok p hp).1; rw [← hkv, hkf] at this; exact this)
          have h1 := Go.MapKept.run_checkKey (w := w) hkt (k := .string ⟨s.toArray⟩) (show Go.MapKept.IsKey .string (.string ⟨s.toArray⟩) from trivial) es.isEmpty 9999
          have h2 := Go.MapKept.run_findKey (w := w) hkt hf
          have h3 := Go.MapKept.run_getObj_map (P := C.P) hh
          cases hfi : mfindI l (.str s) 0 with
          | none =>
            rw [hfi] at h2
            simp only [Option.map_none] at h2
            refine ⟨if m.vi then .int .i64 0 else .bool false, ?_, ?_⟩
            · simp only [mgetV, mgetI, mgetB, mfind, hfi, Option.map_none]
              cases m.vi <;> rfl
            · simp [Instr.lookup, run_underlying hu, h3, h1, h2, hz, Sem.run_bind, Result.andThen]
          | some q =>
            obtain ⟨i, v⟩ := q
            rw [hfi] at h2
            simp only [Option.map_some] at h2
            obtain ⟨_, hq⟩ := mfindI_spec hfi
            have hvok := (hok _ (List.mem_of_getElem? hq)).2
            refine ⟨v.val, ?_, ?_⟩
            · simp only [mgetV, mgetI, mgetB, mfind, hfi, Option.map_some]
              rw [← hvi] at hvok
              cases hm : m.vi <;> rw [hm] at hvok <;> cases v <;> first | rfl | exact hvok.elim
            · simp [Instr.lookup, run_underlying hu, h3, h1, h2, Sem.run_bind, Result.andThen]
        · cases hk
      · cases h
    · cases h
  · cases h

theorem mmakeV_sound {t : TypeId} {vc : Prop} {r : AV} {o : List O} (rr : WRel C obs w ρ) (h : mmakeV (C.mt t) obs = .ok vc r o) :
    ∃ z w', (Instr.makeMap t none).run C.P w = .ok z w' ∧ NewOk C obs w ρ r o z w' := by
  unfold mmakeV at h
  split at h
  · rename_i m hmt
    cases h
    have hrun : (Instr.makeMap t none).run C.P w = .ok (.map (some w.heap.size)) (w.alloc (.map #[] 0)) := by
      simp [Instr.makeMap, newObj, Sem.run, Result.andThen]
    refine ⟨_, _, hrun, ?_⟩
    have T := Turn.new (C := C) rr (Ext.alloc (fun _ => False) w (.map #[] 0)) (.mp m [] 0) (.map (some w.heap.size))
      ⟨w.heap.size, #[], 0, rfl, (Go.MapKept.heap_alloc w (.map #[] 0)).1, rfl, by simp⟩ (fun b hb => by have hb : Value.map (some w.heap.size) = Value.map (some b) := hb; cases hb; exact Nat.le_refl _)
    refine ⟨_, T.step rr, ?_⟩
    refine ⟨by simp, fun c hc => ?_⟩
    have : c = 0 := by simpa [genOf, O.gen] using hc.symm
    subst this
    exact ⟨Nat.le_refl _, fun _ => by simp⟩
  · cases h

theorem mupdV_sound (hC : C.Ok) {t : TypeId} {x i y : AV} {vc : Prop} {o : List O} (rr : WRel C obs w ρ) {u j z : Value} (hx : AVRel (C.V w obs ρ) obs ρ x u) (hi : AVRel (C.V w obs ρ) obs ρ i j) (hy : AVRel (C.V w obs ρ) obs ρ y z)
    (h : mupdV (C.mt t) x i y obs = .skip vc o) : ∃ w', (Instr.mapUpdate t u j z).run C.P w = .ok () w' ∧ Step C w w' obs o ρ ρ := by
  unfold mupdV at h
  split at h
  · rename_i m id g hmt
    split at h
    · rename_i m' l g' k v ho hk hvv
      split at h
      · rename_i hc
        obtain ⟨rfl, hkv, hvi⟩ := hc
        cases h
        obtain ⟨hρ, b, es, clock, hv, hh, hes, hok⟩ := own_mp rr ho hx
        obtain ⟨kt, et, hu, hks, _, _⟩ := hC.mt t m hmt
        cases i <;> simp only [keyV] at hk <;> try (cases hk; done)
        rename_i s
        split at hk
        · rename_i hkf
          cases hk
          have hkt := hks hkf
          have hj : j = .string ⟨s.toArray⟩ := hi
          have hzv : z = v.val ∧ v.ok m.vi := by
            unfold valV at hvv
            split at hvv
            · split at hvv
              · rename_i hb; cases hvv; exact ⟨hy, by rw [hb]; trivial⟩
              · cases hvv
            · split at hvv
              · rename_i hb; cases hvv; exact ⟨hy, by rw [hb]; trivial⟩
              · cases hvv
            · cases hvv
          obtain ⟨rfl, hvok⟩ := hzv
          subst hj
          have hf := findNow_str (s := s) (i0 := 0) hes (fun p hp => by have := (hok p hp).1; rw [← hkv, hkf] at this; exact this)
          have h1 := Go.MapKept.run_checkKey (w := w) hkt (k := .string ⟨s.toArray⟩) (show Go.MapKept.IsKey .string (.string ⟨s.toArray⟩) from trivial) false 9999
          have h2 := Go.MapKept.run_findKey (w := w) hkt hf
          have h3 := Go.MapKept.run_getObj_map (P := C.P) hh
          have hblk : b < w.heap.size := (Array.getElem?_eq_some_iff.1 hh).1
          -- what the block holds behind it
          have key : ∃ es' clock', (Instr.mapUpdate t u (.string ⟨s.toArray⟩) v.val).run C.P w = .ok () { w with heap := w.heap.setIfInBounds b (.map es' clock') } ∧
              es'.toList.map (fun e => (e.key, e.val)) = (mput l (.str s) v).map (fun p => (p.1.val, p.2.val)) ∧ ∀ p ∈ mput l (.str s) v, p.1.ok m'.kv ∧ p.2.ok m'.vi := by
            have hel : es.toList.length = l.length := by have := congrArg List.length hes; simpa using this
            have hnew : (MK.str s).ok m'.kv ∧ v.ok m'.vi := ⟨by rw [← hkv, hkf]; trivial, by rw [← hvi]; exact hvok⟩
            cases hfi : mfindI l (.str s) 0 with
            | none =>
              rw [hfi] at h2
              simp only [Option.map_none] at h2
              refine ⟨es.push { key := .string ⟨s.toArray⟩, val := v.val, born := clock }, clock + 1, ?_, ?_, ?_⟩
              · have h4 := Go.MapKept.run_setObj_map (P := C.P) (.map (es.push { key := .string ⟨s.toArray⟩, val := v.val, born := clock }) (clock + 1)) hh
                simp [Instr.mapUpdate, run_underlying hu, hv, h3, h1, h2, h4, Sem.run_bind, Result.andThen]
              · simp only [mput, hfi, Array.toList_push, List.map_append, hes, List.map_cons, List.map_nil]; rfl
              · simp only [mput, hfi]
                intro p hp
                rcases List.mem_append.1 hp with hp | hp
                · exact hok p hp
                · simp at hp; subst hp; exact hnew
            | some q =>
              obtain ⟨i, v0⟩ := q
              rw [hfi] at h2
              simp only [Option.map_some] at h2
              obtain ⟨_, hq⟩ := mfindI_spec hfi
              rw [Nat.sub_zero] at hq
              have hil : i < l.length := (List.getElem?_eq_some_iff.1 hq).1
              have hkey : (es[i]?).map (·.key) = some (.string ⟨s.toArray⟩) := by
                have e1 : (es.toList.map (fun e => (e.key, e.val)))[i]? = some ((MK.str s).val, v0.val) := by rw [hes, List.getElem?_map, hq]; rfl
                rw [List.getElem?_map, Array.getElem?_toList] at e1
                cases he : es[i]? with
                | none => rw [he] at e1; cases e1
                | some e => rw [he] at e1; simp at e1; simp [e1.1, MK.val]
              refine ⟨es.modify i fun e => { e with key := .string ⟨s.toArray⟩, val := v.val }, clock, ?_, ?_, ?_⟩
              · have h4 := Go.MapKept.run_setObj_map (P := C.P) (.map (es.modify i fun e => { e with key := .string ⟨s.toArray⟩, val := v.val }) clock) hh
                have h5 : (Instr.keyThatStays (.string ⟨s.toArray⟩) (.string ⟨s.toArray⟩)).run C.P w = .ok (.string ⟨s.toArray⟩) w := by
                  simp [Instr.keyThatStays, Instr.sameBits, ba_beq]
                simp [Instr.mapUpdate, run_underlying hu, hv, h3, h1, h2, h4, h5, hkey, Sem.run_bind, Result.andThen]
              · simp only [mput, hfi]
                apply List.ext_getElem?
                intro n
                have e0 : (es.toList.map (fun e => (e.key, e.val)))[n]? = (l.map (fun p => (p.1.val, p.2.val)))[n]? := by rw [hes]
                simp only [List.getElem?_map, Array.getElem?_toList, Array.getElem?_modify, List.getElem?_set] at e0 ⊢
                by_cases hn : i = n
                · subst hn
                  rw [if_pos rfl, if_pos rfl, if_pos hil]
                  have : i < es.size := by simpa using (by omega : i < es.toList.length)
                  simp [this, MK.val]
                · rw [if_neg hn, if_neg hn]; exact e0
              · simp only [mput, hfi]
                intro p hp
                rcases List.mem_or_eq_of_mem_set hp with hp | rfl
                · exact hok p hp
                · exact hnew
          obtain ⟨es', clock', hrun, hes', hok'⟩ := key
          have hset := Go.MapKept.heap_set (o' := Obj.map es' clock') hh
          have hfp : fpo (ρ id) (.mp m' l g) b := by show ρ id = _; rw [← hρ]; exact hv
          have hext : Ext (fun b' => fpo (ρ id) (.mp m' l g) b') w { w with heap := w.heap.setIfInBounds b (.map es' clock') } :=
            ⟨rfl, rfl, rfl, by simp, Nat.le_refl _, fun b' _ hS => hset.2 b' (fun e => hS (e ▸ hfp))⟩
          have T := Turn.one rr id (.mp m' l g) (.mp m' (mput l (.str s) v) g) (ρ id) ho hext
            ⟨b, es', clock', by rw [← hρ]; exact hv, hset.1, hes', hok'⟩ (fun b' hb' => .inl hb') (fun c' hc => ⟨g, rfl, .inl ⟨(by cases hc; rfl), rfl⟩⟩)
          have hst := T.step rr
          have hρρ : (fun i => if i = id then ρ id else ρ i) = ρ := by funext i; by_cases e : i = id <;> simp [e]
          rw [hρρ] at hst
          exact ⟨_, hrun, hst⟩
        · cases hk
      · cases h
    · cases h
  · cases h
end maps
end Go.Aw

/- The walk through a region, operation by operation. -/
namespace Go.Aw
open Go

/-- pick: the outcome of '&&' and '||'. -/
def pickV (σ : St) (c a b : Operand) : Res :=
  match σ.ev c, σ.ev a, σ.ev b with
  | .bool t, .bool x, .bool y => .ok ((t = true → σ.has a) ∧ (t = false → σ.has b)) (.bool (bif t then x else y)) σ.obs
  | _, _, _ => .bad

def unV (op : UnOp) (x : AV) (obs : List O) : Res :=
  match op, x with
  | .neg, .int k n => .ok True (.int k (k.wrap (0 - n))) obs
  | .not, .bool b => .ok True (.bool !b) obs
  | _, _ => .bad

def maxV (big : Bool) (x y : AV) (obs : List O) : Res :=
  match x, y with
  | .int k a, .int _ b => .ok True (.int k (if big then (if b > a then b else a) else (if b < a then b else a))) obs
  | _, _ => .bad

def exV (σ : St) (x : Operand) (i : Nat) : Res :=
  match x with
  | .tmp t => match look t σ.fr with
    | some (true, .t l) => match l[i]? with
      | some v => .ok True v σ.obs
      | none => .bad
    | _ => .bad
  | _ => .bad

def binS (C : Ctx) (σ : St) (op : BinOp) (t : TypeId) (x y : Operand) : Res :=
  match σ.ev x, C.bt t, C.Γ t with
  | .bool _, some .bool, _ => binV op (σ.ev x) (σ.ev y) σ.obs
  | .bool _, _, _ => .bad
  | .int _ _, _, _ => binV op (σ.ev x) (σ.ev y) σ.obs
  | .str _, _, _ => binV op (σ.ev x) (σ.ev y) σ.obs
  | _, _, some _ => binV op (σ.ev x) (σ.ev y) σ.obs
  | _, _, none => .bad

def lenS (C : Ctx) (σ : St) (t : TypeId) (x : Operand) : Res :=
  match σ.ev x, C.bt t, C.Γ t with
  | .str _, some .str, _ => lenV (σ.ev x) σ.obs
  | .str _, _, _ => .bad
  | _, _, some _ => lenV (σ.ev x) σ.obs
  | _, _, none => .bad

def sliceS (C : Ctx) (σ : St) (t : TypeId) (x : Operand) (lo hi : Option Operand) : Res :=
  match σ.ev x, C.bt t, C.Γ t with
  | .str _, some .str, _ => sliceV (σ.ev x) (lo.map σ.ev) (hi.map σ.ev) σ.obs
  | .sl _ e' _, _, some e => if e'.size = e.size then sliceV (σ.ev x) (lo.map σ.ev) (hi.map σ.ev) σ.obs else .bad
  | .lr _ _, _, some e => if e.size = 1 then sliceV (σ.ev x) (lo.map σ.ev) (hi.map σ.ev) σ.obs else .bad
  | _, _, _ => .bad

def bytesOf (xs : List Int) : List UInt8 := xs.map fun n => UInt8.ofNat n.toNat
/-- Conversions: of integers, of bytes to a string. -/
def cnvV (bs bd : Option BT) (gs : Option E) (x : AV) (obs : List O) : Res :=
  match bd, x with
  | some (.int k'), .int _ n => if bs.isSome then .ok True (.int k' (k'.wrap n)) obs else .bad
  | some .str, .sl _ .byte xs => if gs = some .byte then .ok True (.str (bytesOf xs)) obs else .bad
  | some .str, .own id g => match obs[id]? with
    | some (.arr .byte xs g' _) => if g = g' ∧ gs = some .byte then .ok True (.str (bytesOf xs)) obs else .bad
    | _ => .bad
  | _, _ => .bad
/-- A byte of a string. -/
def sixV (b : Option BT) (x i : AV) (obs : List O) : Res :=
  match b, x, i with
  | some .str, .str s, .int _ n => .ok (0 ≤ n ∧ n < s.length) (.int .u8 (s.getD n.toNat 0).toNat) obs
  | _, _, _ => .bad

/-- One operation, a call of a function apart. -/
def astep (C : Ctx) (σ : St) : Op → Res
  | .move x => .ok (σ.has x) (σ.ev x) σ.obs
  | .assign x => .ok (σ.has x) (σ.ev x) σ.obs
  | .pick c a b => pickV σ c a b
  | .binOp op t x y _ => binS C σ op t x y
  | .unOp op _ x => unV op (σ.ev x) σ.obs
  | .load t x => loadV (C.sc t) (σ.ev x) σ.obs
  | .store t x y => match σ.ev y with
    | .str _ => .bad
    | _ => storeV (C.sc t) (σ.ev x) (σ.ev y) σ.obs
  | .indexAddr t x i => idxV (C.Γ t) (σ.ev x) (σ.ev i) σ.obs
  | .makeSlice t l c => makeV (C.Γ t) (σ.ev l) (σ.ev c) σ.obs
  | .buildSlice t n parts => buildV (C.Γ t) n (parts.toList.map fun p => (p.1, σ.ev p.2)) σ.obs
  | .slice t x lo hi none => sliceS C σ t x lo hi
  | .slice t x lo hi (some m) => slice3V (C.Γ t) (σ.ev x) (lo.map σ.ev) (hi.map σ.ev) (σ.ev m) σ.obs
  | .extract x i => exV σ x i
  | .convert s d x => cnvV (C.bt s) (C.bt d) (C.Γ s) (σ.ev x) σ.obs
  | .index t x i => sixV (C.bt t) (σ.ev x) (σ.ev i) σ.obs
  | .lookup t x i false => mlookV (C.mt t) (σ.ev x) (σ.ev i) σ.obs
  | .mapUpdate t x i y => mupdV (C.mt t) (σ.ev x) (σ.ev i) (σ.ev y) σ.obs
  | .insert t x i y => mupdV (C.mt t) (σ.ev x) (σ.ev i) (σ.ev y) σ.obs
  | .makeMap t none => mmakeV (C.mt t) σ.obs
  | .call c => match c with
    | { callee := .builtin b, args, argTypes } => match b, args.toList, argTypes.toList with
      | .len, [x], [t] => lenS C σ t x
      | .max, [x, y], _ => maxV true (σ.ev x) (σ.ev y) σ.obs
      | .min, [x, y], _ => maxV false (σ.ev x) (σ.ev y) σ.obs
      | .append, [x, y], [t, t'] => if t = t' then appendV (C.Γ t) (σ.ev x) (σ.ev y) σ.obs else .bad
      | .copy, [x, y], [t, _] => copyV (C.Γ t) (σ.ev x) (σ.ev y) σ.obs
      | _, _, _ => .bad
    | _ => .bad
  | _ => .bad

/-- The slots that an operation reads have been written (but for 'pick', 'extract', which say so themselves). -/
def hasAll (σ : St) : Op → Prop
  | .pick c _ _ => σ.has c
  | .extract _ _ => True
  | .binOp _ _ x y _ => σ.has x ∧ σ.has y
  | .unOp _ _ x => σ.has x
  | .load _ x => σ.has x
  | .store _ x y => σ.has x ∧ σ.has y
  | .indexAddr _ x y => σ.has x ∧ σ.has y
  | .convert _ _ x => σ.has x
  | .index _ x y => σ.has x ∧ σ.has y
  | .lookup _ x y _ => σ.has x ∧ σ.has y
  | .mapUpdate _ x y z => σ.has x ∧ σ.has y ∧ σ.has z
  | .insert _ x y z => σ.has x ∧ σ.has y ∧ σ.has z
  | .makeSlice _ x y => σ.has x ∧ σ.has y
  | .buildSlice _ _ parts => ∀ p ∈ parts.toList, σ.has p.2
  | .slice _ x lo hi none => σ.has x ∧ (∀ y, lo = some y → σ.has y) ∧ (∀ y, hi = some y → σ.has y)
  | .slice _ x lo hi (some m) => σ.has x ∧ (∀ y, lo = some y → σ.has y) ∧ (∀ y, hi = some y → σ.has y) ∧ σ.has m
  | .call c => ∀ x ∈ c.args.toList, σ.has x
  | _ => True

section sound
variable {C : Ctx}

/-- What is shown of one operation that is carried out. -/
def OpOk (C : Ctx) (σ : St) (o : Op) (ty : TypeId) (a : Act) (w : World) (ρ : Nat → Value) : Prop :=
  (∀ vc r obs', astep C σ o = .ok vc r obs' → hasAll σ o → vc → ∃ z w', (∀ d p af g, (execOp a.eval ⟨d, o, ty, p, af, g⟩).run C.P w = .ok (.value z) w') ∧ NewOk C σ.obs w ρ r obs' z w') ∧
  (∀ vc obs', astep C σ o = .skip vc obs' → hasAll σ o → vc → ∃ w', (∀ d p af g, (execOp a.eval ⟨d, o, ty, p, af, g⟩).run C.P w = .ok .skip w') ∧ Step C w w' σ.obs obs' ρ ρ) ∧
  (∀ p r obs', astep C σ o = .all p r obs' → hasAll σ o → ∃ z w' l, p l ∧ (((∀ d p af g, (execOp a.eval ⟨d, o, ty, p, af, g⟩).run C.P w = .ok (.value z) w') ∧ NewOk C σ.obs w ρ r (obs' l) z w') ∨
    ((∀ d p af g, (execOp a.eval ⟨d, o, ty, p, af, g⟩).run C.P w = .ok .skip w') ∧ r = .junk ∧ Step C w w' σ.obs (obs' l) ρ ρ)))

theorem NewOk.same {obs : List O} {w : World} {ρ : Nat → Value} {r : AV} {z : Value} (rr : WRel C obs w ρ) (h : AVRel (C.V w obs ρ) obs ρ r z) : NewOk C obs w ρ r obs z w :=
  ⟨ρ, Step.refl rr, h⟩

theorem OpOk.of_ok {σ : St} {o : Op} {ty : TypeId} {a : Act} {w : World} {ρ : Nat → Value}
    (h : ∀ vc r obs', astep C σ o = .ok vc r obs' → hasAll σ o → vc → ∃ z w', (∀ d p af g, (execOp a.eval ⟨d, o, ty, p, af, g⟩).run C.P w = .ok (.value z) w') ∧ NewOk C σ.obs w ρ r obs' z w')
    (h2 : ∀ vc obs', astep C σ o ≠ .skip vc obs') (h3 : ∀ p r obs', astep C σ o ≠ .all p r obs') : OpOk C σ o ty a w ρ :=
  ⟨h, fun vc obs' k => absurd k (h2 vc obs'), fun p r obs' k => absurd k (h3 p r obs')⟩

theorem binV_shape (op : BinOp) (x y : AV) (obs : List O) : (∀ vc o, binV op x y obs ≠ .skip vc o) ∧ ∀ p r o, binV op x y obs ≠ .all p r o := by
  unfold binV
  constructor <;> intros <;> (split <;> first | (unfold binI sameK; (repeat' split) <;> simp; done) | ((repeat' split) <;> simp; done))
theorem lenV_shape (x : AV) (obs : List O) : (∀ vc o, lenV x obs ≠ .skip vc o) ∧ ∀ p r o, lenV x obs ≠ .all p r o := by
  unfold lenV
  constructor <;> intros <;> (repeat' split) <;> simp
theorem idxV_shape (e : Option E) (x i : AV) (obs : List O) : (∀ vc o, idxV e x i obs ≠ .skip vc o) ∧ ∀ p r o, idxV e x i obs ≠ .all p r o := by
  unfold idxV
  constructor <;> intros <;> (repeat' split) <;> simp
theorem loadV_shape (b : Bool) (x : AV) (obs : List O) : (∀ vc o, loadV b x obs ≠ .skip vc o) ∧ ∀ p r o, loadV b x obs ≠ .all p r o := by
  unfold loadV
  constructor <;> intros <;> (repeat' split) <;> simp
theorem storeV_shape (b : Bool) (x y : AV) (obs : List O) : ∀ vc r o, storeV b x y obs ≠ .ok vc r o := by
  unfold storeV
  intros; (repeat' split) <;> simp
theorem copyV_shape (e : Option E) (x i : AV) (obs : List O) : (∀ vc o, copyV e x i obs ≠ .skip vc o) ∧ ∀ p r o, copyV e x i obs ≠ .all p r o := by
  unfold copyV
  constructor <;> intros <;> (repeat' split) <;> simp
theorem makeV_shape (e : Option E) (x i : AV) (obs : List O) : (∀ vc o, makeV e x i obs ≠ .skip vc o) ∧ ∀ p r o, makeV e x i obs ≠ .all p r o := by
  unfold makeV
  constructor <;> intros <;> (repeat' split) <;> simp
theorem buildV_shape (e : Option E) (n : Nat) (l : List (Nat × AV)) (obs : List O) : ∀ vc o, buildV e n l obs ≠ .skip vc o := by
  unfold buildV
  intros; (repeat' split) <;> simp
theorem appendV_shape (e : Option E) (x i : AV) (obs : List O) : (∀ vc o, appendV e x i obs ≠ .skip vc o) ∧ ∀ p r o, appendV e x i obs ≠ .all p r o := by
  unfold appendV
  constructor <;> intros <;> (repeat' split) <;> simp
theorem sliceV_shape (x : AV) (lo hi : Option AV) (obs : List O) : (∀ vc o, sliceV x lo hi obs ≠ .skip vc o) ∧ ∀ p r o, sliceV x lo hi obs ≠ .all p r o := by
  unfold sliceV
  constructor <;> intros <;> (repeat' split) <;> simp

section
variable {σ : St} {a : Act} {w : World} {ρ : Nat → Value} {ty : TypeId}

theorem ok_move (r : Rel C σ a w ρ) (x : Operand) : OpOk C σ (.move x) ty a w ρ :=
  .of_ok (fun vc q o h _ hv => by
    simp only [astep] at h
    cases h
    exact ⟨a.eval x, w, fun _ _ _ _ => rfl, NewOk.same r.w (r.ev hv)⟩) (by simp [astep]) (by simp [astep])

theorem ok_assign (r : Rel C σ a w ρ) (x : Operand) : OpOk C σ (.assign x) ty a w ρ :=
  .of_ok (fun vc q o h _ hv => by
    simp only [astep] at h
    cases h
    exact ⟨a.eval x, w, fun _ _ _ _ => rfl, NewOk.same r.w (r.ev hv)⟩) (by simp [astep]) (by simp [astep])

theorem ok_pick (r : Rel C σ a w ρ) (c x y : Operand) : OpOk C σ (.pick c x y) ty a w ρ := by
  refine .of_ok (fun vc q o h hh hv => ?_) (by intro vc o; simp only [astep, pickV]; split <;> simp) (by intro p q o; simp only [astep, pickV]; split <;> simp)
  simp only [astep, pickV] at h
  split at h
  case h_2 => cases h
  rename_i t bx by' hc hx hy
  cases h
  have h1 := r.ev (x := c) hh
  rw [hc] at h1
  simp only [AVRel] at h1
  cases t with
  | true =>
    have h2 := r.ev (hv.1 rfl)
    rw [hx] at h2
    exact ⟨a.eval x, w, fun _ _ _ _ => by simp [execOp, h1, asBool], NewOk.same r.w (by simpa using h2)⟩
  | false =>
    have h2 := r.ev (hv.2 rfl)
    rw [hy] at h2
    exact ⟨a.eval y, w, fun _ _ _ _ => by simp [execOp, h1, asBool], NewOk.same r.w (by simpa using h2)⟩

theorem binS_bin {op : BinOp} {t : TypeId} {x y : Operand} : binS C σ op t x y = .bad ∨ binS C σ op t x y = binV op (σ.ev x) (σ.ev y) σ.obs := by
  unfold binS
  split <;> first | exact .inr rfl | exact .inl rfl

theorem ok_bin (hC : C.Ok) (r : Rel C σ a w ρ) (op : BinOp) (t t' : TypeId) (x y : Operand) : OpOk C σ (.binOp op t x y t') ty a w ρ := by
  refine .of_ok (fun vc q o h hh hv => ?_) (fun vc o k => ?_) (fun p q o k => ?_)
  · simp only [astep] at h
    have hb : (∃ b, σ.ev x = .bool b) → C.P.underlying t = some .bool := by
      rintro ⟨b, hb⟩
      unfold binS at h
      rw [hb] at h
      cases ht : C.bt t with
      | none => rw [ht] at h; simp at h
      | some q => cases q <;> rw [ht] at h <;> first | exact (hC.bt t _ ht).1 | simp at h
    have hsl : (∀ s, σ.ev x ≠ .str s) → (∀ b, σ.ev x ≠ .bool b) → (∀ k n, σ.ev x ≠ .int k n) → ∃ e, C.P.underlying t = some (.slice e) := by
      intro h1 h2 h3
      unfold binS at h
      cases hg : C.Γ t with
      | some e => exact ⟨_, (hC.sl t e hg).1⟩
      | none =>
        rw [hg] at h
        cases hx : σ.ev x <;> rw [hx] at h <;> first | exact absurd hx (h1 _) | exact absurd hx (h2 _) | exact absurd hx (h3 _ _) | (simp at h; done)
    rcases binS_bin (C := C) (σ := σ) (op := op) (t := t) (x := x) (y := y) with k | k
    · rw [k] at h; cases h
    · rw [k] at h
      obtain ⟨rfl, z, h1, h2⟩ := binV_sound (w := w) (t := t) hsl hb (r.ev hh.1) (r.ev hh.2) h hv x y
      refine ⟨z, w, fun _ _ _ _ => ?_, NewOk.same r.w h1⟩
      have h3 := h2 w
      simp only [execOp]
      rw [Sem.run_bind, h3]
      rfl
  · simp only [astep] at k
    rcases binS_bin (C := C) (σ := σ) (op := op) (t := t) (x := x) (y := y) with j | j <;> rw [j] at k
    · cases k
    · exact (binV_shape _ _ _ _).1 _ _ k
  · simp only [astep] at k
    rcases binS_bin (C := C) (σ := σ) (op := op) (t := t) (x := x) (y := y) with j | j <;> rw [j] at k
    · cases k
    · exact (binV_shape _ _ _ _).2 _ _ _ k

theorem ok_un (r : Rel C σ a w ρ) (op : UnOp) (t : TypeId) (x : Operand) : OpOk C σ (.unOp op t x) ty a w ρ := by
  refine .of_ok (fun vc q o h hh hv => ?_) (by intro vc o; simp only [astep, unV]; split <;> simp) (by intro p q o; simp only [astep, unV]; split <;> simp)
  simp only [astep, unV] at h
  have hx := r.ev (x := x) hh
  split at h
  · rename_i k n hk
    cases h
    rw [hk] at hx
    simp only [AVRel] at hx
    exact ⟨.int k (k.wrap (0 - n)), w, fun _ _ _ _ => by simp [execOp, hx, Op.unary, Op.intArith], NewOk.same r.w rfl⟩
  · rename_i b hk
    cases h
    rw [hk] at hx
    simp only [AVRel] at hx
    exact ⟨.bool !b, w, fun _ _ _ _ => by simp [execOp, hx, Op.unary], NewOk.same r.w rfl⟩
  · cases h

theorem ok_load (hC : C.Ok) (r : Rel C σ a w ρ) (t : TypeId) (x : Operand) : OpOk C σ (.load t x) ty a w ρ := by
  refine .of_ok (fun vc q o h hh hv => ?_) (fun vc o => (loadV_shape _ _ _).1 vc o) (fun p q o => (loadV_shape _ _ _).2 p q o)
  obtain ⟨rfl, z, h1, h2⟩ := loadV_sound hC r.w (r.ev hh) h hv
  exact ⟨z, w, fun _ _ _ _ => by simp [execOp, h2], NewOk.same r.w h1⟩

theorem ok_store (hC : C.Ok) (r : Rel C σ a w ρ) (t : TypeId) (x y : Operand) : OpOk C σ (.store t x y) ty a w ρ := by
  refine ⟨fun vc q o h => ?_, fun vc o h hh hv => ?_, fun p q o h hh => ?_⟩
  · simp only [astep] at h
    split at h
    · cases h
    · exact absurd h (storeV_shape _ _ _ _ _ _ _)
  · simp only [astep] at h
    split at h
    · cases h
    · rename_i hns
      obtain ⟨w', h1, h2⟩ := storeV_sound hC r.w (r.ev hh.1) (r.ev hh.2) (fun s hs => absurd hs (hns s)) h hv
      exact ⟨w', fun _ _ _ _ => by simp [execOp, h1], h2⟩
  · simp only [astep] at h
    split at h
    · cases h
    · obtain ⟨w', l, h0, h1, h2, h3⟩ := storeM_sound hC r.w (r.ev hh.1) (r.ev hh.2) h
      exact ⟨undef, w', l, h0, .inr ⟨fun _ _ _ _ => by simp [execOp, h1], h2, h3⟩⟩

theorem ok_idx (hC : C.Ok) (r : Rel C σ a w ρ) (t : TypeId) (x i : Operand) : OpOk C σ (.indexAddr t x i) ty a w ρ := by
  refine .of_ok (fun vc q o h hh hv => ?_) (fun vc o => (idxV_shape _ _ _ _).1 vc o) (fun p q o => (idxV_shape _ _ _ _).2 p q o)
  obtain ⟨rfl, z, h1, h2⟩ := idxV_sound hC rfl r.w (r.ev hh.1) (r.ev hh.2) h hv
  exact ⟨z, w, fun _ _ _ _ => by simp [execOp, h2 w], NewOk.same r.w h1⟩

theorem ok_make (hC : C.Ok) (r : Rel C σ a w ρ) (t : TypeId) (x i : Operand) : OpOk C σ (.makeSlice t x i) ty a w ρ := by
  refine .of_ok (fun vc q o h hh hv => ?_) (fun vc o => (makeV_shape _ _ _ _).1 vc o) (fun p q o => (makeV_shape _ _ _ _).2 p q o)
  obtain ⟨z, w', ρ', h1, h2, h3⟩ := makeV_sound hC r.w (r.ev hh.1) (r.ev hh.2) h hv
  exact ⟨z, w', fun _ _ _ _ => by simp [execOp, h1], ρ', h2, h3⟩

theorem ok_build (hC : C.Ok) (r : Rel C σ a w ρ) (t : TypeId) (n : Nat) (parts : Array (Nat × Operand)) : OpOk C σ (.buildSlice t n parts) ty a w ρ := by
  have key : ∀ hh : hasAll σ (.buildSlice t n parts), _ := fun hh => buildV_sound (t := t) (n := n) (parts := parts.toList.map fun p => (p.1, σ.ev p.2)) (pv := parts.map fun p => (p.1, a.eval p.2)) hC r.w (by simp) (by
    intro i x v hx hv
    simp only [Array.toList_map, List.getElem?_map, Option.map_eq_some_iff] at hx hv
    obtain ⟨p, hp, rfl⟩ := hx
    obtain ⟨p', hp', rfl⟩ := hv
    rw [hp] at hp'
    cases hp'
    exact ⟨rfl, r.ev (hh p (List.mem_of_getElem? hp))⟩)
  refine ⟨fun vc q o h hh hv => ?_, fun vc o h => absurd h (buildV_shape _ _ _ _ vc o), fun p q o h hh => ?_⟩
  · obtain ⟨z, w', h1, h2⟩ := (key hh).1 vc q o h hv
    exact ⟨z, w', fun _ _ _ _ => by simp [execOp, h1], h2⟩
  · obtain ⟨z, w', l, hl, h1, h2⟩ := (key hh).2 p q o h
    exact ⟨z, w', l, hl, .inl ⟨fun _ _ _ _ => by simp [execOp, h1], h2⟩⟩

theorem sliceS_v {t : TypeId} {x : Operand} {lo hi : Option Operand} : sliceS C σ t x lo hi = .bad ∨ (sliceS C σ t x lo hi = sliceV (σ.ev x) (lo.map σ.ev) (hi.map σ.ev) σ.obs ∧
    ((∃ s, σ.ev x = .str s ∧ C.bt t = some .str) ∨ ∃ e, C.Γ t = some e ∧ ((∃ f e' xs, σ.ev x = .sl f e' xs ∧ e'.size = e.size) ∨ (∃ l xs, σ.ev x = .lr l xs ∧ e.size = 1)))) := by
  unfold sliceS
  split
  · rename_i s h1 h2; exact .inr ⟨by rw [h1], .inl ⟨s, h1, h2⟩⟩
  · rename_i f e' xs e h1 h2
    split
    · rename_i hs; exact .inr ⟨by rw [h1], .inr ⟨e, h2, .inl ⟨f, e', xs, h1, hs⟩⟩⟩
    · exact .inl rfl
  · rename_i l xs e h1 h2
    split
    · rename_i hs; exact .inr ⟨by rw [h1], .inr ⟨e, h2, .inr ⟨l, xs, h1, hs⟩⟩⟩
    · exact .inl rfl
  · exact .inl rfl

theorem ok_slice (hC : C.Ok) (r : Rel C σ a w ρ) (t : TypeId) (x : Operand) (lo hi mx : Option Operand) : OpOk C σ (.slice t x lo hi mx) ty a w ρ := by
  cases mx with
  | some m =>
    have hsh : (∀ vc o, slice3V (C.Γ t) (σ.ev x) (lo.map σ.ev) (hi.map σ.ev) (σ.ev m) σ.obs ≠ .skip vc o) ∧ ∀ p r o, slice3V (C.Γ t) (σ.ev x) (lo.map σ.ev) (hi.map σ.ev) (σ.ev m) σ.obs ≠ .all p r o := by
      unfold slice3V
      constructor <;> intros <;> (repeat' split) <;> simp
    refine .of_ok (fun vc q o h hh hv => ?_) (fun vc o => hsh.1 vc o) (fun p q o => hsh.2 p q o)
    simp only [astep] at h
    obtain ⟨rfl, z, h1, h2⟩ := slice3V_sound (w := w) (ρ := ρ) (lv := lo.map a.eval) (hv := hi.map a.eval) (mv := a.eval m) hC r.w (by simp) (by simp) (r.ev hh.1) (r.ev hh.2.2.2)
      (fun y v hy hv' => by
        cases hi with
        | none => simp at hy
        | some q => simp at hy hv'; subst hy hv'; exact r.ev (hh.2.2.1 q rfl)) h hv
    exact ⟨z, w, fun _ _ _ _ => by simp [execOp, h2 w], NewOk.same r.w h1⟩
  | none =>
    rcases sliceS_v (C := C) (σ := σ) (t := t) (x := x) (lo := lo) (hi := hi) with k | ⟨k, ht⟩
    · exact .of_ok (fun vc q o h => by simp [astep, k] at h) (by simp [astep, k]) (by simp [astep, k])
    · refine .of_ok (fun vc q o h hh hv => ?_) (fun vc o => by simp only [astep, k]; exact (sliceV_shape _ _ _ _).1 vc o) (fun p q o => by simp only [astep, k]; exact (sliceV_shape _ _ _ _).2 p q o)
      simp only [astep, k] at h
      obtain ⟨rfl, z, h1, h2⟩ := sliceV_sound (w := w) (ρ := ρ) (lv := lo.map a.eval) (hv := hi.map a.eval) hC ht (by simp) (by simp) (r.ev hh.1)
        (fun y v hy hv' => by
          cases lo with
          | none => simp at hy
          | some q => simp at hy hv'; subst hy hv'; exact r.ev (hh.2.1 q rfl))
        (fun y v hy hv' => by
          cases hi with
          | none => simp at hy
          | some q => simp at hy hv'; subst hy hv'; exact r.ev (hh.2.2 q rfl)) h hv
      exact ⟨z, w, fun _ _ _ _ => by simp [execOp, h2 w], NewOk.same r.w h1⟩

theorem ok_extract (r : Rel C σ a w ρ) (x : Operand) (i : Nat) : OpOk C σ (.extract x i) ty a w ρ := by
  refine .of_ok (fun vc q o h hh hv => ?_) (by intro vc o; simp only [astep, exV]; (repeat' split) <;> simp) (by intro p q o; simp only [astep, exV]; (repeat' split) <;> simp)
  simp only [astep, exV] at h
  split at h
  case h_2 => cases h
  rename_i t
  split at h
  case h_2 => cases h
  rename_i l hl
  split at h
  case h_2 => cases h
  rename_i hv'
  cases h
  obtain ⟨vs, h1, h2, h3⟩ := (r.fr t true _ hl).1 rfl
  have hlt : i < vs.length := by rw [h2]; exact (List.getElem?_eq_some_iff.1 hv').1
  refine ⟨vs[i], w, fun _ _ _ _ => ?_, NewOk.same r.w (h3 i _ vs[i] hv' (by simp))⟩
  have e1 : a.eval (.tmp t) = .tuple vs.toArray := h1
  simp [execOp, e1, Instr.extract, hlt]

theorem lenS_v {t : TypeId} {x : Operand} : lenS C σ t x = .bad ∨ (lenS C σ t x = lenV (σ.ev x) σ.obs ∧ (∀ s, σ.ev x = .str s → C.bt t = some .str) ∧ ((∀ s, σ.ev x ≠ .str s) → ∃ e, C.Γ t = some e)) := by
  unfold lenS
  split
  · rename_i s h1 h2; exact .inr ⟨by rw [h1], fun _ _ => h2, fun k => absurd h1 (k s)⟩
  · exact .inl rfl
  · rename_i e h1 h2 h3
    refine .inr ⟨rfl, fun s hs => ?_, fun _ => ⟨e, by assumption⟩⟩
    exact (h2 s hs).elim
  · exact .inl rfl

theorem ok_builtin (hC : C.Ok) (r : Rel C σ a w ρ) (b : Builtin) (args : Array Operand) (ts : Array TypeId) : OpOk C σ (.call ⟨.builtin b, args, ts⟩) ty a w ρ := by
  have hargs : args = args.toList.toArray := rfl
  have hts : ts = ts.toList.toArray := rfl
  have bad : astep C σ (.call ⟨.builtin b, args, ts⟩) = .bad → OpOk C σ (.call ⟨.builtin b, args, ts⟩) ty a w ρ := fun k =>
    .of_ok (fun vc q o h => by rw [k] at h; cases h) (by simp [k]) (by simp [k])
  by_cases hb : ∃ x t, b = .len ∧ args.toList = [x] ∧ ts.toList = [t]
  · obtain ⟨x, t, rfl, h1, h2⟩ := hb
    have ha : astep C σ (.call ⟨.builtin .len, args, ts⟩) = lenS C σ t x := by simp [astep, h1, h2]
    rcases lenS_v (C := C) (σ := σ) (t := t) (x := x) with k | ⟨k, k1, k2⟩
    · exact bad (ha.trans k)
    · refine .of_ok (fun vc q o h hh hv => ?_) (fun vc o => by rw [ha, k]; exact (lenV_shape _ _).1 vc o) (fun p q o => by rw [ha, k]; exact (lenV_shape _ _).2 p q o)
      rw [ha, k] at h
      have hx : σ.has x := hh x (by simp [h1])
      obtain ⟨rfl, z, h3, h4⟩ := lenV_sound (w := w) (t := t) (ty := ty) (fun s hs => (hC.bt t _ (k1 s hs)).1) (fun hn => let ⟨e, he⟩ := k2 hn; ⟨_, (hC.sl t e he).1⟩) r.w (r.ev hx) h
      refine ⟨z, w, fun _ _ _ _ => ?_, NewOk.same r.w h3⟩
      have e1 : args = #[x] := by rw [hargs, h1]
      have e2 : ts = #[t] := by rw [hts, h2]
      subst e1 e2
      simp [execOp, resolve, invoke, builtin, h4 w]
  by_cases hb2 : ∃ x y, (b = .max ∨ b = .min) ∧ args.toList = [x, y]
  · obtain ⟨x, y, hbb, h1⟩ := hb2
    obtain ⟨big, hbig⟩ : ∃ big, astep C σ (.call ⟨.builtin b, args, ts⟩) = maxV big (σ.ev x) (σ.ev y) σ.obs ∧ b = (if big then .max else .min) := by
      rcases hbb with rfl | rfl
      · exact ⟨true, by simp [astep, h1], rfl⟩
      · exact ⟨false, by simp [astep, h1], rfl⟩
    refine .of_ok (fun vc q o h hh hv => ?_) (fun vc o => by rw [hbig.1]; unfold maxV; split <;> simp) (fun p q o => by rw [hbig.1]; unfold maxV; split <;> simp)
    rw [hbig.1] at h
    have hx := r.ev (x := x) (hh x (by simp [h1]))
    have hy := r.ev (x := y) (hh y (by simp [h1]))
    unfold maxV at h
    split at h
    case h_2 => cases h
    rename_i k n k' m e1 e2
    cases h
    rw [e1] at hx
    rw [e2] at hy
    simp only [AVRel] at hx hy
    have e3 : args = #[x, y] := by rw [hargs, h1]
    subst e3
    refine ⟨_, w, fun _ _ _ _ => ?_, NewOk.same r.w rfl⟩
    cases big with
    | true => simp only [if_true] at hbig; obtain ⟨_, rfl⟩ := hbig; simp [execOp, resolve, invoke, builtin, hx, hy, Builtin.max_, Builtin.max2]
    | false => simp at hbig; obtain ⟨_, rfl⟩ := hbig; simp [execOp, resolve, invoke, builtin, hx, hy, Builtin.min_, Builtin.min2]
  by_cases hb3 : ∃ x y t, b = .append ∧ args.toList = [x, y] ∧ ts.toList = [t, t]
  · obtain ⟨x, y, t, rfl, h1, h2⟩ := hb3
    have ha : astep C σ (.call ⟨.builtin .append, args, ts⟩) = appendV (C.Γ t) (σ.ev x) (σ.ev y) σ.obs := by simp [astep, h1, h2]
    refine .of_ok (fun vc q o h hh hv => ?_) (fun vc o => by rw [ha]; exact (appendV_shape _ _ _ _).1 vc o) (fun p q o => by rw [ha]; exact (appendV_shape _ _ _ _).2 p q o)
    rw [ha] at h
    have hx := r.ev (x := x) (hh x (by simp [h1]))
    have hy := r.ev (x := y) (hh y (by simp [h1]))
    obtain ⟨z, w', ρ', k1, k2, k3⟩ := appendV_sound (ty := ty) hC r.w hx hy h hv
    refine ⟨z, w', fun _ _ _ _ => ?_, ρ', k2, k3⟩
    have e1 : args = #[x, y] := by rw [hargs, h1]
    have e2 : ts = #[t, t] := by rw [hts, h2]
    subst e1 e2
    simp [execOp, resolve, invoke, builtin, k1]
  by_cases hb4 : ∃ x y t t2, b = .copy ∧ args.toList = [x, y] ∧ ts.toList = [t, t2]
  · obtain ⟨x, y, t, t2, rfl, h1, h2⟩ := hb4
    have ha : astep C σ (.call ⟨.builtin .copy, args, ts⟩) = copyV (C.Γ t) (σ.ev x) (σ.ev y) σ.obs := by simp [astep, h1, h2]
    refine .of_ok (fun vc q o h hh hv => ?_) (fun vc o => by rw [ha]; exact (copyV_shape _ _ _ _).1 vc o) (fun p q o => by rw [ha]; exact (copyV_shape _ _ _ _).2 p q o)
    rw [ha] at h
    have hx := r.ev (x := x) (hh x (by simp [h1]))
    have hy := r.ev (x := y) (hh y (by simp [h1]))
    obtain ⟨z, w', k1, k2, k3⟩ := copyV_sound (t2 := t2) (ty := ty) hC r.w hx hy h
    refine ⟨z, w', fun _ _ _ _ => ?_, ρ, k2, k3⟩
    have e1 : args = #[x, y] := by rw [hargs, h1]
    have e2 : ts = #[t, t2] := by rw [hts, h2]
    subst e1 e2
    simp [execOp, resolve, invoke, builtin, k1]
  · apply bad
    simp only [astep]
    split
    · exact absurd ⟨_, _, rfl, ‹_›, ‹_›⟩ hb
    · exact absurd ⟨_, _, .inl rfl, ‹_›⟩ hb2
    · exact absurd ⟨_, _, .inr rfl, ‹_›⟩ hb2
    · split
      · rename_i h; subst h; exact absurd ⟨_, _, _, rfl, ‹_›, ‹_›⟩ hb3
      · rfl
    · exact absurd ⟨_, _, _, _, rfl, ‹_›, ‹_›⟩ hb4
    · rfl

theorem cnvV_shape (bs bd : Option BT) (gs : Option E) (x : AV) (obs : List O) : (∀ vc o, cnvV bs bd gs x obs ≠ .skip vc o) ∧ ∀ p r o, cnvV bs bd gs x obs ≠ .all p r o := by
  unfold cnvV
  constructor <;> intros <;> (repeat' split) <;> simp
theorem sixV_shape (b : Option BT) (x i : AV) (obs : List O) : (∀ vc o, sixV b x i obs ≠ .skip vc o) ∧ ∀ p r o, sixV b x i obs ≠ .all p r o := by
  unfold sixV
  constructor <;> intros <;> (repeat' split) <;> simp

theorem conv_bytes {P : Program} {w : World} {src e dst : TypeId} (hs : P.underlying src = some (.slice e)) (he : P.underlying e = some (.int .u8)) (hd : P.underlying dst = some .string) {xs : List Int} {base : Option Addr} {cap : Nat}
    (hx : ∀ i (_ : i < xs.length), ∃ a, base = some a ∧ w.cell? (a.add i) = some (.int .u8 xs[i])) : (convert src dst (.slice base xs.length cap)).run P w = .ok (.string ⟨(bytesOf xs).toArray⟩) w := by
  cases base with
  | none =>
    have h0 : xs = [] := by
      cases xs with
      | nil => rfl
      | cons y ys => obtain ⟨a, ha, _⟩ := hx 0 (by simp); cases ha
    subst h0
    rw [run_convert_bytes_nil w src e hs he _ _ dst hd]
    rfl
  | some a =>
    have hl : (loadCells a xs.length).run P w = .ok (xs.map (Value.int .u8)).toArray w := by
      have := run_loadCells_list (P := P) w a (xs.map (Value.int .u8)) (fun j v hj => by
        have hjl : j < xs.length := by
          rcases Nat.lt_or_ge j xs.length with h | h
          · exact h
          · simp [List.getElem?_eq_none (show (xs.map (Value.int .u8)).length ≤ j by simpa using h)] at hj
        obtain ⟨a', ha', hc⟩ := hx j hjl
        cases ha'
        simp [List.getElem?_eq_getElem hjl] at hj
        subst hj
        exact hc)
      simpa using this
    rw [run_convert_bytes_string w src dst e _ _ cap hs he hd, run_bytesToString w _ _ cap xs hl, foldl_push_bytes]
    simp [ByteArray.empty, ByteArray.emptyWithCapacity, bytesOf]
    rfl

theorem intKind_of {P : Program} {t : TypeId} {k : IntKind} (h : P.underlying t = some (.int k)) : P.intKind t = k := by
  simp [Program.intKind, h]

theorem ok_conv (hC : C.Ok) (r : Rel C σ a w ρ) (s d : TypeId) (x : Operand) : OpOk C σ (.convert s d x) ty a w ρ := by
  refine .of_ok (fun vc q o h hh hv => ?_) (fun vc o => (cnvV_shape _ _ _ _ _).1 vc o) (fun p q o => (cnvV_shape _ _ _ _ _).2 p q o)
  have hx := r.ev (x := x) hh
  simp only [astep] at h
  unfold cnvV at h
  split at h
  · rename_i k' k n hd hk
    split at h
    · rename_i hs
      cases h
      rw [hk] at hx
      simp only [AVRel] at hx
      obtain ⟨bs, hbs⟩ := Option.isSome_iff_exists.mp hs
      have h1 := (hC.bt _ _ hbs).1
      have h2 : C.P.underlying d = some (.int k') := (hC.bt _ _ hd).1
      refine ⟨.int k' (k'.wrap n), w, fun _ _ _ _ => ?_, NewOk.same r.w rfl⟩
      have h3 := run_convert_int (P := C.P) w s d k n (by rw [h1]; rfl) (by rw [intKind_of h2]; exact h2)
      rw [intKind_of h2] at h3
      simp [execOp, hx, h3]
    · cases h
  · rename_i f xs hd hk
    split at h
    · rename_i hs
      cases h
      rw [hk] at hx
      obtain ⟨base, cap, hv', _, _, hel⟩ := hx
      have h2 : C.P.underlying d = some .string := (hC.bt _ _ hd).1
      refine ⟨.string ⟨(bytesOf xs).toArray⟩, w, fun _ _ _ _ => ?_, NewOk.same r.w rfl⟩
      have := conv_bytes (w := w) (hC.sl s .byte hs).1 (hC.u8 s hs) h2 (xs := xs) (base := base) (cap := cap) (fun i hi => by
        obtain ⟨a, u, ha, _, hu, hc⟩ := hel i hi
        cases hu
        have := hc 0 (by simp [E.size])
        exact ⟨a, ha, V_cell (by simpa [E.size, Value.cells] using this)⟩)
      simp [execOp, hv', this]
    · cases h
  · rename_i id g hd hk
    split at h
    · rename_i xs g' nn ho
      split at h
      · rename_i hs
        obtain ⟨rfl, hs⟩ := hs
        cases h
        rw [hk] at hx
        obtain ⟨_, cs, hown, henc, _, _⟩ := own_arr r.w ho hx
        have h2 : C.P.underlying d = some .string := (hC.bt _ _ hd).1
        refine ⟨.string ⟨(bytesOf xs).toArray⟩, w, fun _ _ _ _ => ?_, NewOk.same r.w rfl⟩
        have key : ∃ base cap, a.eval x = .slice base xs.length cap ∧ ∀ i (_ : i < xs.length), ∃ a, base = some a ∧ w.cell? (a.add i) = some (.int .u8 xs[i]) := by
          rcases hown.2 with ⟨hv', hz⟩ | ⟨b, cap, cur, hv', _⟩
          · exact ⟨none, 0, by rw [hz]; exact hv', fun i hi => by omega⟩
          · refine ⟨some ⟨b, 0, none⟩, cap, hv', fun i hi => ⟨_, rfl, ?_⟩⟩
            obtain ⟨u, hu, hcell⟩ := henc.2 i hi
            cases hu
            have h5 := hcell 0 (by simp [E.size])
            have h6 := hown.cells (g := b) (by rw [hv']; rfl) i (.int .u8 xs[i]) (by simpa [E.size, Value.cells] using h5)
            exact h6
        obtain ⟨base, cap, hv', hel⟩ := key
        have := conv_bytes (w := w) (hC.sl s .byte hs).1 (hC.u8 s hs) h2 (xs := xs) (base := base) (cap := cap) hel
        simp [execOp, hv', this]
      · cases h
    · cases h
  · cases h

theorem ok_index (hC : C.Ok) (r : Rel C σ a w ρ) (t : TypeId) (x i : Operand) : OpOk C σ (.index t x i) ty a w ρ := by
  refine .of_ok (fun vc q o h hh hv => ?_) (fun vc o => (sixV_shape _ _ _ _).1 vc o) (fun p q o => (sixV_shape _ _ _ _).2 p q o)
  have hx := r.ev (x := x) hh.1
  have hi := r.ev (x := i) hh.2
  simp only [astep] at h
  unfold sixV at h
  split at h
  · rename_i s k n hb hs hn
    cases h
    rw [hs] at hx
    rw [hn] at hi
    simp only [AVRel] at hx hi
    have h2 : C.P.underlying t = some .string := (hC.bt _ _ hb).1
    have h3 : 0 ≤ n ∧ n < ((⟨s.toArray⟩ : ByteArray).size : Nat) := by simpa [ByteArray.size] using hv
    refine ⟨_, w, fun _ _ _ _ => ?_, NewOk.same r.w rfl⟩
    have h4 := run_index_string (P := C.P) w t ⟨s.toArray⟩ k n h2
    rw [dif_pos h3] at h4
    have h5 : ((⟨s.toArray⟩ : ByteArray)[n.toNat]'(by omega)) = s.getD n.toNat 0 := by
      have : n.toNat < s.length := by omega
      simp [ByteArray.getElem_eq_getElem_data, List.getD_eq_getElem?_getD, this]
    rw [h5] at h4
    simp [execOp, hx, hi, h4]
  · cases h

theorem mlookV_shape (mt : Option MT) (x i : AV) (obs : List O) : (∀ vc o, mlookV mt x i obs ≠ .skip vc o) ∧ ∀ p r o, mlookV mt x i obs ≠ .all p r o := by
  unfold mlookV
  constructor <;> intros <;> (repeat' split) <;> simp
theorem mmakeV_shape (mt : Option MT) (obs : List O) : (∀ vc o, mmakeV mt obs ≠ .skip vc o) ∧ ∀ p r o, mmakeV mt obs ≠ .all p r o := by
  unfold mmakeV
  constructor <;> intros <;> (repeat' split) <;> simp
theorem mupdV_shape (mt : Option MT) (x i y : AV) (obs : List O) : (∀ vc r o, mupdV mt x i y obs ≠ .ok vc r o) ∧ ∀ p r o, mupdV mt x i y obs ≠ .all p r o := by
  unfold mupdV
  constructor <;> intros <;> (repeat' split) <;> simp
theorem ok_lookup (hC : C.Ok) (r : Rel C σ a w ρ) (t : TypeId) (x i : Operand) (b : Bool) : OpOk C σ (.lookup t x i b) ty a w ρ := by
  cases b with
  | true => exact .of_ok (fun vc q o h => by simp [astep] at h) (by simp [astep]) (by simp [astep])
  | false =>
    refine .of_ok (fun vc q o h hh hv => ?_) (fun vc o => (mlookV_shape _ _ _ _).1 vc o) (fun p q o => (mlookV_shape _ _ _ _).2 p q o)
    obtain ⟨rfl, z, h1, h2⟩ := mlookV_sound hC r.w (r.ev hh.1) (r.ev hh.2) h
    exact ⟨z, w, fun _ _ _ _ => by simp [execOp, h2], NewOk.same r.w h1⟩
theorem ok_mupd (hC : C.Ok) (r : Rel C σ a w ρ) (t : TypeId) (x i y : Operand) : OpOk C σ (.mapUpdate t x i y) ty a w ρ := by
  refine ⟨fun vc q o h => absurd h ((mupdV_shape _ _ _ _ _).1 vc q o), fun vc o h hh hv => ?_, fun p q o h => absurd h ((mupdV_shape _ _ _ _ _).2 p q o)⟩
  obtain ⟨w', h1, h2⟩ := mupdV_sound hC r.w (r.ev hh.1) (r.ev hh.2.1) (r.ev hh.2.2) h
  exact ⟨w', fun _ _ _ _ => by simp [execOp, h1], h2⟩
theorem ok_insert (hC : C.Ok) (r : Rel C σ a w ρ) (t : TypeId) (x i y : Operand) : OpOk C σ (.insert t x i y) ty a w ρ := by
  refine ⟨fun vc q o h => absurd h ((mupdV_shape _ _ _ _ _).1 vc q o), fun vc o h hh hv => ?_, fun p q o h => absurd h ((mupdV_shape _ _ _ _ _).2 p q o)⟩
  obtain ⟨w', h1, h2⟩ := mupdV_sound hC r.w (r.ev hh.1) (r.ev hh.2.1) (r.ev hh.2.2) h
  exact ⟨w', fun _ _ _ _ => by simp [execOp, h1], h2⟩
theorem ok_mmake (r : Rel C σ a w ρ) (t : TypeId) (x : Option Operand) : OpOk C σ (.makeMap t x) ty a w ρ := by
  cases x with
  | some x => exact .of_ok (fun vc q o h => by simp [astep] at h) (by simp [astep]) (by simp [astep])
  | none =>
    refine .of_ok (fun vc q o h hh hv => ?_) (fun vc o => (mmakeV_shape _ _).1 vc o) (fun p q o => (mmakeV_shape _ _).2 p q o)
    obtain ⟨z, w', h1, h2⟩ := mmakeV_sound r.w h
    exact ⟨z, w', fun _ _ _ _ => by simp [execOp, h1], h2⟩

theorem astep_ok (hC : C.Ok) (r : Rel C σ a w ρ) (o : Op) : OpOk C σ o ty a w ρ := by
  cases o with
  | move x => exact ok_move r x
  | assign x => exact ok_assign r x
  | pick c x y => exact ok_pick r c x y
  | binOp op t x y t' => exact ok_bin hC r op t t' x y
  | unOp op t x => exact ok_un r op t x
  | load t x => exact ok_load hC r t x
  | store t x y => exact ok_store hC r t x y
  | indexAddr t x i => exact ok_idx hC r t x i
  | makeSlice t l c => exact ok_make hC r t l c
  | buildSlice t n parts => exact ok_build hC r t n parts
  | slice t x lo hi mx => exact ok_slice hC r t x lo hi mx
  | extract x i => exact ok_extract r x i
  | convert s d x => exact ok_conv hC r s d x
  | index t x i => exact ok_index hC r t x i
  | lookup t x i b => exact ok_lookup hC r t x i b
  | mapUpdate t x i y => exact ok_mupd hC r t x i y
  | insert t x i y => exact ok_insert hC r t x i y
  | makeMap t x => exact ok_mmake r t x
  | call c =>
    obtain ⟨callee, args, ts⟩ := c
    cases callee with
    | builtin b => exact ok_builtin hC r b args ts
    | value f => exact .of_ok (fun vc q o h => by simp [astep] at h) (by simp [astep]) (by simp [astep])
    | invoke f m => exact .of_ok (fun vc q o h => by simp [astep] at h) (by simp [astep]) (by simp [astep])
  | _ => exact .of_ok (fun vc q o h => by simp [astep] at h) (by simp [astep]) (by simp [astep])

end

end sound
end Go.Aw

/- A region, walked in the order of its text; calls. -/
namespace Go.Aw
open Go

/-- What stands behind a call: the walk does not look into it before its time. -/
def Later (p : Prop) : Prop := p
@[congr] theorem Later.congr (p : Prop) : Later p = Later p := rfl

/-- A call of a function, on abstract values: whatever it may come to, K holds of it. -/
def ACall (C : Ctx) (obs : List O) (f : FuncId) (args : List AV) (K : Sl → List O → Prop) : Prop :=
  (∀ (vs : Array Value) (w : World), (callFunc f vs).run C.P w = .ok (.enter f vs) w) ∧
  ∀ w ρ (vs : List Value), WRel C obs w ρ → vs.length = args.length → (∀ (i : Nat) (x : AV) (v : Value), args[i]? = some x → vs[i]? = some v → AVRel (C.V w obs ρ) obs ρ x v) →
    Calls C.P f vs.toArray w fun e w' => ∃ v, e = .returned v ∧ ∃ x obs' ρ', Step C w w' obs obs' ρ ρ' ∧ SlotRel (C.V w' obs' ρ') obs' ρ' x v ∧ K x obs'

theorem ACall.mono {C : Ctx} {obs : List O} {f : FuncId} {args : List AV} {K K' : Sl → List O → Prop} (h : ACall C obs f args K) (hk : ∀ x o, K x o → K' x o) : ACall C obs f args K' :=
  ⟨h.1, fun w ρ vs r hl ha => (h.2 w ρ vs r hl ha).mono fun _ _ ⟨v, he, x, o, ρ', h1, h2, h3⟩ => ⟨v, he, x, o, ρ', h1, h2, hk _ _ h3⟩⟩

/-- A call under '&&' or '||': carried out where ex is true. -/
def CallG (C : Ctx) (obs : List O) (f : FuncId) (args : List AV) (ex : Bool) (K : AV → Prop) : Prop :=
  ∃ x, (ex = true → ACall C obs f args fun y o => y = .v x ∧ o = obs) ∧ K x

/-- The same, or a call whose guard is known to hold. -/
def CallH (C : Ctx) (obs : List O) (f : FuncId) (args : List AV) (ex : Bool) (K : AV → Prop) (K2 : Sl → List O → Prop) : Prop :=
  CallG C obs f args ex K ∨ (ex = true ∧ ACall C obs f args K2)
theorem CallH.mono {C : Ctx} {obs : List O} {f : FuncId} {args : List AV} {ex : Bool} {K K' : AV → Prop} {K2 K2' : Sl → List O → Prop} (h : CallH C obs f args ex K K2) (hk : ∀ x, K x → K' x) (hk2 : ∀ x o, K2 x o → K2' x o) : CallH C obs f args ex K' K2' := by
  rcases h with ⟨x, h1, h2⟩ | ⟨h1, h2⟩
  · exact .inl ⟨x, h1, hk x h2⟩
  · exact .inr ⟨h1, h2.mono hk2⟩

/-- The slot that operation number j writes. -/
def slotOf : List (Option Nat) → Nat → Option Nat
  | [], _ => none
  | d :: r, j => bif j == 0 then d else slotOf r (j - 1)

theorem slotOf_eq : ∀ (ops : List Oper) (j : Nat), slotOf (ops.map (·.dst)) j = (ops[j]?).bind (·.dst)
  | [], j => by simp [slotOf]
  | o :: l, j => by
    cases j with
    | zero => simp [slotOf]
    | succ j => simp [slotOf, slotOf_eq l j]

def gex (ds : List (Option Nat)) (σ : St) : Option (Nat × Bool) → Option Bool
  | none => some true
  | some (j, want) => match slotOf ds j with
    | none => none
    | some d => match look d σ.fr with
      | some (ex, .v (.bool b)) => some (ex && (b == want))
      | _ => none

/-- Operations that turn nothing: they may stand under a guard. -/
def roOp : Op → Bool
  | .move _ | .assign _ | .pick .. | .binOp .. | .unOp .. | .load .. | .indexAddr .. | .slice .. | .extract .. | .convert .. | .index .. | .lookup .. => true
  | .call ⟨.builtin .len, _, _⟩ => true
  | .call ⟨.builtin .max, _, _⟩ => true
  | .call ⟨.builtin .min, _, _⟩ => true
  | _ => false

def St.put (σ : St) (d : Option Nat) (ex : Bool) (x : Sl) (obs : List O) : St :=
  match d with
  | some d => ⟨σ.n, (d, ex, x) :: σ.fr, obs⟩
  | none => ⟨σ.n, σ.fr, obs⟩

def inN (n : Nat) : Option Nat → Prop
  | none => True
  | some d => d < n

/-- The function that a slot holds. -/
def fnOf : Option (Bool × Sl) → Option FuncId
  | some (true, .v (.fn f)) => some f
  | _ => none
def calleeOf (σ : St) : Op → Option (FuncId × List Operand)
  | .call ⟨.value (.func f), args, _⟩ => some (f, args.toList)
  | .call ⟨.value (.tmp t), args, _⟩ => (fnOf (look t σ.fr)).map fun f => (f, args.toList)
  | _ => none

/-- A region: the slots that its operations write; whether its calls must leave the objects that there are as they are. -/
structure Rg where
  ds : List (Option Nat)
  kp : Bool

def Keeps (obs obs' : List O) : Prop := ∀ (id : Nat) (o : O), obs[id]? = some o → obs'[id]? = some o

/-- What a move hands on: the several results of a call, too. -/
def mvS (σ : St) (op : Op) (x : AV) : Sl :=
  match op with
  | .move (.tmp t) => match look t σ.fr with
    | some (_, .t l) => .t l
    | _ => .v x
  | _ => .v x

/-- One operation, and what is asked behind it. -/
def aone (C : Ctx) (rg : Rg) (o : Oper) (σ : St) (K : St → Prop) : Prop :=
  inN σ.n o.dst ∧
  match o.guard with
  | none => match calleeOf σ o.op with
    | some (f, args) => (∀ x ∈ args, σ.has x) ∧ ACall C σ.obs f (args.map σ.ev) fun x obs' => (rg.kp = true → Keeps σ.obs obs') ∧ Later (K (σ.put o.dst true x obs'))
    | none => match astep C σ o.op with
      | .bad => False
      | .ok vc x obs' => hasAll σ o.op ∧ vc ∧ K (σ.put o.dst true (mvS σ o.op x) obs')
      | .skip vc obs' => hasAll σ o.op ∧ vc ∧ o.dst = none ∧ K (σ.put none true (.v .junk) obs')
      | .all p x obs' => hasAll σ o.op ∧ ∀ l, p l → K (σ.put o.dst true (.v x) (obs' l))
  | some g => match gex rg.ds σ (some g) with
    | none => False
    | some ex => match calleeOf σ o.op with
      | some (f, args) => (ex = true → ∀ x ∈ args, σ.has x) ∧ CallH C σ.obs f (args.map σ.ev) ex (fun x => Later (K (σ.put o.dst ex (.v x) σ.obs))) fun x obs' => (rg.kp = true → Keeps σ.obs obs') ∧ Later (K (σ.put o.dst true x obs'))
      | none => if roOp o.op = true then match astep C σ o.op with
          | .ok vc x _ => (ex = true → hasAll σ o.op ∧ vc) ∧ K (σ.put o.dst ex (.v x) σ.obs)
          | _ => False
        else False

def aexec (C : Ctx) (rg : Rg) : List Oper → St → (St → Prop) → Prop
  | [], σ, K => K σ
  | o :: rest, σ, K => aone C rg o σ fun σ' => aexec C rg rest σ' K

section sound
variable {C : Ctx}

theorem put_rel {σ : St} {a : Act} {w : World} {ρ : Nat → Value} (r : Rel C σ a w ρ) {d : Option Nat} (hd : inN σ.n d) {ex : Bool} {x : Sl} {v : Value} (h1 : ex = true → SlotRel (C.V w σ.obs ρ) σ.obs ρ x v) (h2 : ex = false → v = undef) :
    Rel C (σ.put d ex x σ.obs) (a.put d v) w ρ := by
  cases d with
  | none => exact ⟨r.defers, r.size, r.fr, r.w, r.pin⟩
  | some d => exact r.put hd h1 h2

theorem put_obs {σ : St} {d : Option Nat} {ex : Bool} {x : Sl} {obs' : List O} : σ.put d ex x obs' = ({ σ with obs := obs' } : St).put d ex x obs' := by
  cases d <;> rfl

theorem step_put {σ : St} {a : Act} {w w' : World} {ρ ρ' : Nat → Value} {obs' : List O} (r : Rel C σ a w ρ) (h : Step C w w' σ.obs obs' ρ ρ') {d : Option Nat} (hd : inN σ.n d) {x : Sl} {v : Value} (h1 : SlotRel (C.V w' obs' ρ') obs' ρ' x v) :
    Rel C (σ.put d true x obs') (a.put d v) w' ρ' := by
  rw [put_obs]
  exact put_rel (σ := { σ with obs := obs' }) (h.rel r) hd (fun _ => h1) (by simp)

theorem wanted_gex {ops : List Oper} {σ : St} {a : Act} {w : World} {ρ : Nat → Value} (r : Rel C σ a w ρ) {o : Oper} {ex : Bool} (h : gex (ops.map (·.dst)) σ o.guard = some ex) : Region.wanted o (yielded ops.toArray a.tmps) = ex := by
  unfold gex at h
  unfold Region.wanted
  cases hg : o.guard with
  | none => rw [hg] at h; simp at h; simp [h]
  | some g =>
    obtain ⟨j, want⟩ := g
    rw [hg] at h
    simp only at h ⊢
    rw [slotOf_eq] at h
    cases hj : (ops[j]?).bind (·.dst) with
    | none => rw [hj] at h; simp at h
    | some d =>
      rw [hj] at h
      simp only at h
      split at h
      · rename_i ex' b hl
        cases h
        have hf := r.fr d ex' _ hl
        have hy : yielded ops.toArray a.tmps j = (match a.tmps[d]? with | some (.bool b) => some b | _ => none) := by
          unfold yielded
          simp only [List.getElem?_toArray]
          rw [hj]
          rfl
        rw [hy]
        cases ex' with
        | true =>
          have hv := hf.1 rfl
          simp only [SlotRel, AVRel] at hv
          have : a.tmps[d]? = some (.bool b) := by
            rw [Array.getD_eq_getD_getElem?] at hv
            cases hx : a.tmps[d]? with
            | none => rw [hx] at hv; simp [undef] at hv
            | some u => rw [hx] at hv; simpa using hv
          rw [this]
          cases b <;> cases want <;> rfl
        | false =>
          have hv := hf.2 rfl
          rw [Array.getD_eq_getD_getElem?] at hv
          cases hx : a.tmps[d]? with
          | none => simp
          | some u => rw [hx] at hv; simp [undef] at hv; subst hv; simp
      · cases h

theorem roOp_obs {σ : St} {op : Op} (h : roOp op = true) {vc : Prop} {x : AV} {obs' : List O} (hs : astep C σ op = .ok vc x obs') : obs' = σ.obs := by
  have binv : ∀ b u v, binV b u v σ.obs = .ok vc x obs' → obs' = σ.obs := by
    intro b u v hb
    unfold binV at hb
    split at hb
    · unfold binI sameK at hb
      (repeat' split at hb) <;> cases hb <;> rfl
    all_goals ((repeat' split at hb) <;> cases hb <;> rfl)
  have lenv : ∀ u, lenV u σ.obs = .ok vc x obs' → obs' = σ.obs := by
    intro u hb
    unfold lenV at hb
    (repeat' split at hb) <;> cases hb <;> rfl
  have slv : ∀ u lo hi, sliceV u lo hi σ.obs = .ok vc x obs' → obs' = σ.obs := by
    intro u lo hi hb
    unfold sliceV at hb
    (repeat' split at hb) <;> cases hb <;> rfl
  unfold roOp at h
  split at h <;> first | (simp at h; done) | skip
  · simp only [astep] at hs; cases hs; rfl
  · simp only [astep] at hs; cases hs; rfl
  · simp only [astep, pickV] at hs; split at hs <;> cases hs; rfl
  · simp only [astep] at hs
    rename_i op t x' y t'
    rcases binS_bin (C := C) (σ := σ) (op := op) (t := t) (x := x') (y := y) with k | k <;> rw [k] at hs
    · cases hs
    · exact binv _ _ _ hs
  · simp only [astep, unV] at hs; (repeat' split at hs) <;> cases hs <;> rfl
  · simp only [astep, loadV] at hs; (repeat' split at hs) <;> cases hs <;> rfl
  · simp only [astep, idxV] at hs; (repeat' split at hs) <;> cases hs <;> rfl
  · rename_i t x' lo hi mx
    cases mx with
    | some m =>
      simp only [astep] at hs
      unfold slice3V at hs
      (repeat' split at hs) <;> cases hs <;> rfl
    | none =>
      simp only [astep] at hs
      rcases sliceS_v (C := C) (σ := σ) (t := t) (x := x') (lo := lo) (hi := hi) with k | ⟨k, _⟩ <;> rw [k] at hs
      · cases hs
      · exact slv _ _ _ hs
  · simp only [astep, exV] at hs; (repeat' split at hs) <;> cases hs <;> rfl
  · simp only [astep, cnvV] at hs; (repeat' split at hs) <;> cases hs <;> rfl
  · simp only [astep, sixV] at hs; (repeat' split at hs) <;> cases hs <;> rfl
  · rename_i t x' y' b
    cases b with
    | true => simp [astep] at hs
    | false => simp only [astep, mlookV] at hs; (repeat' split at hs) <;> cases hs <;> rfl
  · simp only [astep] at hs
    split at hs
    · rename_i x' t _ _ _
      rcases lenS_v (C := C) (σ := σ) (t := t) (x := x') with k | ⟨k, _⟩ <;> rw [k] at hs
      · cases hs
      · exact lenv _ hs
    all_goals first | (cases hs; done) | (simp at *; done)
  · simp only [astep] at hs
    split at hs
    all_goals first | (unfold maxV at hs; split at hs <;> cases hs <;> rfl) | (cases hs; done) | (simp at *; done)
  · simp only [astep] at hs
    split at hs
    all_goals first | (unfold maxV at hs; split at hs <;> cases hs <;> rfl) | (cases hs; done) | (simp at *; done)

theorem fnOf_some {x : Option (Bool × Sl)} {f : FuncId} (h : fnOf x = some f) : x = some (true, .v (.fn f)) := by
  unfold fnOf at h
  split at h
  · cases h; rfl
  · cases h
theorem calleeOf_op {σ : St} {op : Op} {f : FuncId} {args : List Operand} (h : calleeOf σ op = some (f, args)) : ∃ x ts, op = .call ⟨.value x, args.toArray, ts⟩ ∧ (x = .func f ∨ ∃ t, x = .tmp t ∧ look t σ.fr = some (true, .v (.fn f))) := by
  unfold calleeOf at h
  split at h
  · cases h; exact ⟨_, _, rfl, .inl rfl⟩
  · rw [Option.map_eq_some_iff] at h
    obtain ⟨f', h1, h2⟩ := h
    cases h2
    exact ⟨_, _, rfl, .inr ⟨_, rfl, fnOf_some h1⟩⟩
  · cases h

theorem callee_eval {σ : St} {a : Act} {w : World} {ρ : Nat → Value} (r : Rel C σ a w ρ) {x : Operand} {f : FuncId} (h : x = .func f ∨ ∃ t, x = .tmp t ∧ look t σ.fr = some (true, .v (.fn f))) : a.eval x = .func (.func f) #[] #[] := by
  rcases h with rfl | ⟨t, rfl, hl⟩
  · rfl
  · exact (r.fr t true _ hl).1 rfl

theorem run_call {a : Act} {o : Oper} {f : FuncId} {x : Operand} {args : List Operand} {ts : Array TypeId} (ho : o.op = .call ⟨.value x, args.toArray, ts⟩) (hx : a.eval x = .func (.func f) #[] #[])
    (hf : ∀ (vs : Array Value) (w : World), (callFunc f vs).run C.P w = .ok (.enter f vs) w) (w : World) : (execOp a.eval o).run C.P w = .ok (.enter f (args.map a.eval).toArray) w := by
  unfold execOp
  simp only [ho, resolve, hx, Deferred.ofValue, Sem.run_bind, Sem.run_pure, Result.andThen_ok, invoke]
  have e : (#[] ++ Array.map a.eval args.toArray ++ #[] : Array Value) = (args.map a.eval).toArray := by simp
  rw [e]
  exact hf _ _

theorem mvS_rel {σ : St} {a : Act} {w w' : World} {ρ ρ' : Nat → Value} {o : Oper} {x : AV} {z : Value} {obs' : List O} (r : Rel C σ a w ρ) (hst : Step C w w' σ.obs obs' ρ ρ') (hm : ∀ t, o.op = .move (.tmp t) → σ.has (.tmp t)) (hrun : (execOp a.eval o).run C.P w = .ok (.value z) w')
    (hx : AVRel (C.V w' obs' ρ') obs' ρ' x z) : SlotRel (C.V w' obs' ρ') obs' ρ' (mvS σ o.op x) z := by
  obtain ⟨d, op, ty, p, af, g⟩ := o
  unfold mvS
  split
  · rename_i t hop
    simp only at hop
    subst hop
    split
    · rename_i ex l hl
      have he : ex = true := by
        have : St.has σ (.tmp t) := hm t rfl
        simp only [St.has, hl] at this
        exact this
      have h1 := hst.slot ((r.fr t ex _ hl).1 he)
      have h2 : (execOp a.eval ⟨d, .move (.tmp t), ty, p, af, g⟩).run C.P w = .ok (.value (a.tmps.getD t undef)) w := rfl
      rw [h2] at hrun
      injection hrun with h3 h4
      injection h3 with h5
      rw [← h5]
      exact h1
    · exact hx
  · exact hx

/-- One operation of a region. -/
theorem aone_wp (hC : C.Ok) {ops : List Oper} {kp : Bool} {K : St → Prop} {Q : Exit → Act → World → Prop} {K2 : Act → World → Prop} (ih : ∀ σ' a' w' ρ', K σ' → Rel C σ' a' w' ρ' → K2 a' w')
    {i : Nat} {o : Oper} {σ : St} {a : Act} {w : World} {ρ : Nat → Value} (he : ops[i]? = some o) (h : aone C ⟨ops.map (·.dst), kp⟩ o σ K) (r : Rel C σ a w ρ) : wpOp C.P ops.toArray Q i K2 a w := by
    have he2 : ops.toArray[i]? = some o := by rw [List.getElem?_toArray]; exact he
    simp only [aone] at h
    obtain ⟨hd, h⟩ := h
    simp only [wpOp, he2]
    split at h
    · -- no guard
      rename_i hg
      have hw : Region.wanted o (yielded ops.toArray a.tmps) = true := by unfold Region.wanted; rw [hg]
      simp only [hw, if_true]
      refine .inl ?_
      split at h
      · rename_i f args hc
        obtain ⟨cx, ts, hop, hcx⟩ := calleeOf_op hc
        obtain ⟨hh, hf, hcall⟩ := h
        unfold Oper.wp
        rw [run_call hop (callee_eval r hcx) hf w]
        simp only [Oper.upon]
        have hcl := hcall w ρ (args.map a.eval) r.w (by simp) (by
          intro i x v hx hv
          simp only [List.getElem?_map, Option.map_eq_some_iff] at hx hv
          obtain ⟨y, hy, rfl⟩ := hx
          obtain ⟨y', hy', rfl⟩ := hv
          rw [hy] at hy'
          cases hy'
          exact r.ev (hh y (List.mem_of_getElem? hy)))
        refine hcl.mono fun e w' ⟨v, hev, x, obs', ρ', hst, hx, hk⟩ => ?_
        subst hev
        exact ih _ _ _ _ hk.2 (step_put r hst hd hx)
      · have hok := astep_ok (ty := o.type) hC r o.op
        split at h
        · exact h.elim
        · rename_i vc x obs' hs
          obtain ⟨hh, hv, hk⟩ := h
          obtain ⟨z, w', hrun, ρ', hst, hx⟩ := hok.1 vc x obs' hs hh hv
          have hrun' : (execOp a.eval o).run C.P w = .ok (.value z) w' := hrun o.dst o.pos o.after o.guard
          unfold Oper.wp
          rw [hrun']
          simp only [Oper.upon]
          exact ih _ _ _ _ hk (step_put (x := mvS σ o.op x) r hst hd (mvS_rel r hst (fun t ht => by rw [ht] at hs; simp only [astep] at hs; injection hs with e1 _ _; rw [e1]; exact hv) hrun' hx))
        · rename_i vc obs' hs
          obtain ⟨hh, hv, hdn, hk⟩ := h
          obtain ⟨w', hrun, hst⟩ := hok.2.1 vc obs' hs hh hv
          have hrun' : (execOp a.eval o).run C.P w = .ok .skip w' := hrun o.dst o.pos o.after o.guard
          unfold Oper.wp
          rw [hrun']
          simp only [Oper.upon]
          rw [hdn]
          exact ih _ _ _ _ hk (step_put (d := none) (x := .v .junk) (v := undef) r hst trivial trivial)
        · rename_i p x obs' hs
          obtain ⟨hh, hk⟩ := h
          obtain ⟨z, w', l, hl, ⟨hrun, ρ', hst, hx⟩ | ⟨hrun, rfl, hst⟩⟩ := hok.2.2 p x obs' hs hh
          · have hrun' : (execOp a.eval o).run C.P w = .ok (.value z) w' := hrun o.dst o.pos o.after o.guard
            unfold Oper.wp
            rw [hrun']
            simp only [Oper.upon]
            exact ih _ _ _ _ (hk l hl) (step_put (x := .v x) r hst hd hx)
          · have hrun' : (execOp a.eval o).run C.P w = .ok .skip w' := hrun o.dst o.pos o.after o.guard
            unfold Oper.wp
            rw [hrun']
            simp only [Oper.upon]
            exact ih _ _ _ _ (hk l hl) (step_put (x := .v .junk) (v := undef) r hst hd trivial)
    · -- a guard
      rename_i g hg
      split at h
      · exact h.elim
      · rename_i ex hgx
        have hw : Region.wanted o (yielded ops.toArray a.tmps) = ex := wanted_gex r (by rw [hg]; exact hgx)
        rw [hw]
        split at h
        · rename_i f args hc
          obtain ⟨cx, ts, hop, hcx⟩ := calleeOf_op hc
          obtain ⟨hh, ⟨x, hcall, hk⟩ | ⟨hex, hcall⟩⟩ := h
          case inr =>
            subst hex
            simp only [if_true]
            refine .inl ?_
            have hh := hh rfl
            obtain ⟨hf, hcall⟩ := hcall
            unfold Oper.wp
            rw [run_call hop (callee_eval r hcx) hf w]
            simp only [Oper.upon]
            have hcl := hcall w ρ (args.map a.eval) r.w (by simp) (by
              intro i x v hx hv
              simp only [List.getElem?_map, Option.map_eq_some_iff] at hx hv
              obtain ⟨y, hy, rfl⟩ := hx
              obtain ⟨y', hy', rfl⟩ := hv
              rw [hy] at hy'
              cases hy'
              exact r.ev (hh y (List.mem_of_getElem? hy)))
            refine hcl.mono fun e w' ⟨v, hev, x, obs', ρ', hst, hx, hk⟩ => ?_
            subst hev
            exact ih _ _ _ _ hk.2 (step_put r hst hd hx)
          cases ex with
          | true =>
            simp only [if_true]
            refine .inl ?_
            have hh := hh rfl
            obtain ⟨hf, hcall⟩ := hcall rfl
            unfold Oper.wp
            rw [run_call hop (callee_eval r hcx) hf w]
            simp only [Oper.upon]
            have hcl := hcall w ρ (args.map a.eval) r.w (by simp) (by
              intro i x v hx hv
              simp only [List.getElem?_map, Option.map_eq_some_iff] at hx hv
              obtain ⟨y, hy, rfl⟩ := hx
              obtain ⟨y', hy', rfl⟩ := hv
              rw [hy] at hy'
              cases hy'
              exact r.ev (hh y (List.mem_of_getElem? hy)))
            refine hcl.mono fun e w' ⟨v, hev, y, obs', ρ', hst, hx, hy, ho⟩ => ?_
            subst hev hy ho
            exact ih _ _ _ _ hk (step_put r hst hd hx)
          | false =>
            simp only [Bool.false_eq_true, if_false]
            exact ih _ _ _ _ hk (put_rel r hd (by simp) (fun _ => rfl))
        · split at h
          case isFalse => exact h.elim
          rename_i hro
          split at h
          case h_2 => exact h.elim
          rename_i vc x obs' hs
          obtain ⟨hh, hk⟩ := h
          cases ex with
          | true =>
            simp only [if_true]
            refine .inl ?_
            obtain ⟨h1, h2⟩ := hh rfl
            obtain ⟨z, w', hrun, ρ', hst, hx⟩ := (astep_ok (ty := o.type) hC r o.op).1 vc x obs' hs h1 h2
            have hob := roOp_obs hro hs
            subst hob
            have hrun' : (execOp a.eval o).run C.P w = .ok (.value z) w' := hrun o.dst o.pos o.after o.guard
            unfold Oper.wp
            rw [hrun']
            simp only [Oper.upon]
            exact ih _ _ _ _ hk (step_put (x := .v x) r hst hd hx)
          | false =>
            simp only [Bool.false_eq_true, if_false]
            exact ih _ _ _ _ hk (put_rel r hd (by simp) (fun _ => rfl))

/-- The region's operations in this order. -/
theorem aexec_wp (hC : C.Ok) {ops : List Oper} {kp : Bool} {K : St → Prop} {Q : Exit → Act → World → Prop} (hQ : ∀ σ' a' w' ρ', K σ' → Rel C σ' a' w' ρ' → Q .normal a' w') :
    ∀ (idxs : List Nat) (σ : St) (a : Act) (w : World) (ρ : Nat → Value), (∀ i ∈ idxs, i < ops.length) → aexec C ⟨ops.map (·.dst), kp⟩ (idxs.filterMap (ops[·]?)) σ K → Rel C σ a w ρ → wpOps C.P ops.toArray Q idxs a w
  | [], σ, a, w, ρ, _, h, r => hQ σ a w ρ h r
  | i :: rest, σ, a, w, ρ, hi, h, r => by
    have hlt : i < ops.length := hi i List.mem_cons_self
    have he : ops[i]? = some ops[i] := List.getElem?_eq_getElem hlt
    rw [List.filterMap_cons, he] at h
    rw [wpOps_cons]
    exact aone_wp hC (fun σ' a' w' ρ' h' r' => aexec_wp hC hQ rest σ' a' w' ρ' (fun j hj => hi j (List.mem_cons_of_mem _ hj)) h' r') he h r

theorem filterMap_from (ops : List Oper) : ∀ (l pre : List Oper), ops = pre ++ l → (List.range' pre.length l.length).filterMap (ops[·]?) = l
  | [], _, _ => rfl
  | o :: l, pre, h => by
    have h1 : ops[pre.length]? = some o := by rw [h]; simp
    have ih := filterMap_from ops l (pre ++ [o]) (by rw [h]; simp)
    simp only [List.length_append, List.length_cons, List.length_nil, Nat.zero_add] at ih
    simp only [List.length_cons, List.range'_succ, List.filterMap_cons, h1, ih]

theorem filterMap_range (ops : List Oper) : (List.range ops.length).filterMap (ops[·]?) = ops := by
  rw [List.range_eq_range']
  exact filterMap_from ops ops [] rfl

/-- A region in the order of its text. -/
theorem Run.region (hC : C.Ok) {σ : St} {k : List Item} {id : Nat} {l : List Oper} (h : ∀ K : St → Prop, (∀ σ', Run C k σ' → K σ') → aexec C ⟨l.map (·.dst), false⟩ l σ K) : Run C (.code (.region id l.toArray false) :: k) σ := by
  intro a w ρ r b cs
  have h1 := h (fun σ' => Run C k σ') (fun _ hr => hr)
  have hw : (Code.region id l.toArray false).wp C.P (fun e a' w' => e = .normal ∧ ∃ σ' ρ', Run C k σ' ∧ Rel C σ' a' w' ρ') a w := by
    refine wp_region ?_
    refine aexec_wp hC (kp := false) (K := fun σ' => Run C k σ') (fun σ' a' w' ρ' hk hr => ⟨rfl, σ', ρ', hk, hr⟩) _ σ a w ρ (by simp) ?_ r
    simp only [List.size_toArray]
    rw [filterMap_range]
    exact h1
  obtain ⟨e, a', w', ⟨rfl, σ', ρ', hk, hr⟩, harr⟩ := hw b k cs
  obtain ⟨e2, a2, w2, hp, harr2⟩ := hk a' w' ρ' hr b cs
  exact ⟨e2, a2, w2, hp, .of_steps harr harr2⟩

end sound
end Go.Aw

/- Contracts: what a call of a function comes to, on abstract values; how a walk proves one and how a walk uses one. -/
namespace Go.Aw
open Go

/-- The same tables, another call. -/
def Ctx.enterL (B : Ctx) (fn : Func) (R : Ending → World → Prop) (w0 : World) (M L : Nat → Prop) : Ctx := { B with fn := fn, R := R, w0 := w0, M := M, pin := [], L := L }

theorem Ctx.Ok.enterL {B : Ctx} (h : B.Ok) (fn : Func) (R : Ending → World → Prop) (w0 : World) (M L : Nat → Prop) : (B.enterL fn R w0 M L).Ok := ⟨h.sl, h.slc, h.bt, h.same, h.mixed, h.u8, h.mt⟩

def pack (us : List Value) : Value := if h : us.length = 1 then us[0] else .tuple us.toArray

/-- Kinds whose contents lie in memory of the call's own making. -/
def freshE : E → Bool
  | .row f => f
  | _ => true

def freshAV : AV → Bool
  | .sl f e _ => f && freshE e
  | .relt .. => false
  | .elt .. => false
  | .hdr .. => false
  | .emp .. => false
  | .hp .. => false
  | .lenv .. => false
  | _ => true

def freshO : O → Bool
  | .dead => true
  | .arr e _ _ _ => freshE e
  | .mat .. => true
  | .gm .. => false
  | .mp .. => true
  | .ap .. => false

/-- The ground of a call that owns nothing at its start. -/
def Ctx.bareL (B : Ctx) (w : World) (L : Nat → Prop) : Ctx := B.enterL default (fun _ _ => True) w (fun _ => False) L
abbrev Ctx.bare (B : Ctx) (w : World) : Ctx := B.bareL w (fun _ => False)

/-- A call that only reads what it is handed. -/
def FunA (B : Ctx) (f : FuncId) (args : List AV) (post : List AV → List O → Prop) : Prop :=
  (∀ (vs : Array Value) (w : World), (callFunc f vs).run B.P w = .ok (.enter f vs) w) ∧
  ∀ w (L : Nat → Prop) (vs : List Value), vs.length = args.length → (∀ (i : Nat) (x : AV) (v : Value), args[i]? = some x → vs[i]? = some v → AVRel ((B.bareL w L).V w [] (fun _ => undef)) [] (fun _ => undef) x v) →
    Calls B.P f vs.toArray w fun e w' => ∃ us : List Value, e = .returned (pack us) ∧ ∃ xs obs' ρ', post xs obs' ∧ us.length = xs.length ∧
      (∀ (i : Nat) (x : AV) (v : Value), xs[i]? = some x → us[i]? = some v → AVRel ((B.bareL w L).V w' obs' ρ') obs' ρ' x v) ∧ WRel (B.bareL w L) obs' w' ρ' ∧ xs.all freshAV = true ∧ obs'.all freshO = true

theorem FunA.mono {B : Ctx} {f : FuncId} {args : List AV} {post post' : List AV → List O → Prop} (h : FunA B f args post) (hp : ∀ x o, post x o → post' x o) : FunA B f args post' :=
  ⟨h.1, fun w L vs hl ha => (h.2 w L vs hl ha).mono fun _ _ ⟨us, he, xs, o, ρ', k, r⟩ => ⟨us, he, xs, o, ρ', hp _ _ k, r⟩⟩

/-- The frame as a call begins. -/
def entry (args : List AV) (n : Nat) : St := ⟨n, (args.zipIdx).map (fun p => (p.2, true, .v p.1)), []⟩

/-- The walk's own R. -/
def RA (B : Ctx) (w : World) (L : Nat → Prop) (post : List AV → List O → Prop) : Ending → World → Prop := fun e w' => ∃ us : List Value, e = .returned (pack us) ∧ ∃ xs obs' ρ', post xs obs' ∧ us.length = xs.length ∧
      (∀ (i : Nat) (x : AV) (v : Value), xs[i]? = some x → us[i]? = some v → AVRel ((B.bareL w L).V w' obs' ρ') obs' ρ' x v) ∧ WRel (B.bareL w L) obs' w' ρ' ∧ xs.all freshAV = true ∧ obs'.all freshO = true

theorem look_zip (args : List AV) : ∀ (s i : Nat) (ex : Bool) (x : Sl), look s ((args.zipIdx i).map (fun p => (p.2, true, Sl.v p.1))) = some (ex, x) → ∃ k y, s = i + k ∧ args[k]? = some y ∧ ex = true ∧ x = .v y := by
  induction args with
  | nil => intro s i ex x h; simp [look] at h
  | cons a l ih =>
    intro s i ex x h
    simp only [List.zipIdx_cons, List.map_cons, look] at h
    split at h
    · rename_i hs
      have hs : s = i := by simpa using hs
      cases h
      exact ⟨0, a, by omega, rfl, rfl, rfl⟩
    · obtain ⟨k, y, h1, h2, h3⟩ := ih s (i + 1) ex x h
      exact ⟨k + 1, y, by omega, by simpa using h2, h3⟩

theorem WRel_bare {B : Ctx} {fn : Func} {R : Ending → World → Prop} {w0 w : World} {L : Nat → Prop} {obs : List O} {ρ : Nat → Value} (h : WRel (B.enterL fn R w0 (fun _ => False) L) obs w ρ) : WRel (B.bareL w0 L) obs w ρ :=
  ⟨h.os, h.dis, h.own, h.os0, h.tape, h.output, h.grow, h.drawn, h.kept⟩

/-- A call whose walk goes through from its first frame. -/
theorem calls_of_run {C : Ctx} {f : FuncId} {c : Code} {σ : St} {args : Array Value} {w : World} {ρ : Nat → Value} (hf : C.P.funcs[f]? = some C.fn) (hb : C.fn.body = some c)
    (h : Run C [.code c] σ) (hr : Rel C σ { tmps := args ++ Array.replicate (C.fn.ntmps - args.size) undef, defers := [] } w ρ) : Calls C.P f args w C.R := by
  intro cs
  let b : Frame := { (default : Frame) with fn := f, kind := .normal }
  have henter : Frame.enter C.P f args .normal = b.at { tmps := args ++ Array.replicate (C.fn.ntmps - args.size) undef, defers := [] } [.code c] := by
    simp [Frame.enter, Frame.at, hf, hb, b]
  obtain ⟨e, a', w', hq, harr⟩ := h _ w ρ hr b cs
  rw [← henter] at harr
  cases e with
  | normal =>
    obtain ⟨hd, v, hv, hR⟩ := hq
    exact ⟨.returned v, w', _, hR, Steps.trans harr (.one step_end), rfl, rfl, hd, rfl, C.fn, hf, hv⟩
  | ret =>
    obtain ⟨hd, v, hv, hR⟩ := hq
    obtain ⟨todo, hs⟩ := harr
    exact ⟨.returned v, w', _, hR, hs, rfl, rfl, hd, rfl, C.fn, hf, hv⟩
  | panic chain =>
    obtain ⟨hd, hR⟩ := hq
    obtain ⟨todo, hs⟩ := harr
    exact ⟨.panicked chain, w', _, hR, hs, rfl, rfl, hd, C.fn, hf⟩
  | exit id => exact hq.elim
  | goto l => exact hq.elim
  | outgrown => exact ⟨.outgrown, w', b, hq, harr.resolve_left (by simp [b]), rfl, trivial⟩

theorem AVRel.nil_obs {V : Vw} {ρ ρ' : Nat → Value} {x : AV} {v : Value} (h : AVRel V [] ρ x v) : AVRel V [] ρ' x v := by
  cases x <;> first | exact h | (exact absurd h.1 (by simp))

theorem wrel_start (B : Ctx) (w : World) (L : Nat → Prop) (ρ : Nat → Value) : WRel (B.bareL w L) [] w ρ where
  os := fun id o h => by simp at h
  dis := fun i j o o' b h => by simp at h
  own := fun b ⟨id, o, h, _⟩ => by simp at h
  os0 := rfl
  tape := rfl
  output := rfl
  grow := Nat.le_refl _
  drawn := Nat.le_refl _
  kept := fun _ _ _ => rfl

theorem FunA.enter {B : Ctx} {f : FuncId} {fn : Func} {c : Code} {args : List AV} {post : List AV → List O → Prop} (hcall : ∀ (vs : Array Value) (w : World), (callFunc f vs).run B.P w = .ok (.enter f vs) w)
    (hf : B.P.funcs[f]? = some fn) (hb : fn.body = some c) (hn : args.length ≤ fn.ntmps)
    (h : ∀ w L, Run (B.enterL fn (RA B w L post) w (fun _ => False) L) [.code c] (entry args fn.ntmps)) : FunA B f args post := by
  refine ⟨hcall, fun w L vs hl ha => ?_⟩
  have hw := wrel_start B w L (fun _ => undef)
  refine calls_of_run (C := B.enterL fn (RA B w L post) w (fun _ => False) L) (ρ := fun _ => undef) hf hb (h w L) ⟨rfl, ?_, ?_, ⟨hw.os, hw.dis, hw.own, hw.os0, hw.tape, hw.output, hw.grow, hw.drawn, hw.kept⟩, fun j v hj => by simp [Ctx.enterL] at hj⟩
  · simp [entry, Ctx.enterL]
    omega
  · intro s ex x hx
    obtain ⟨k, y, h1, h2, rfl, rfl⟩ := look_zip args s 0 ex x hx
    refine ⟨fun _ => ?_, by simp⟩
    have hk : k < args.length := (List.getElem?_eq_some_iff.1 h2).1
    have hkv : k < vs.length := by omega
    have hs : s = k := by omega
    subst hs
    have hg : ((vs.toArray ++ Array.replicate ((B.enterL fn (RA B w L post) w (fun _ => False) L).fn.ntmps - vs.toArray.size) undef).getD s undef) = vs[s] := by
      simp [Array.getD_eq_getD_getElem?, Array.getElem?_append, hkv]
    rw [hg]
    exact ha s y vs[s] h2 (by simp)

/-! ### The end of a walk -/

theorem FunA.fin {B : Ctx} {fn : Func} {w : World} {L : Nat → Prop} {post : List AV → List O → Prop} {xs : List AV} {obs : List O} (hp : post xs obs) (h1 : xs.all freshAV = true) (h2 : obs.all freshO = true) :
    Fin (B.enterL fn (RA B w L post) w (fun _ => False) L) xs obs := by
  intro w' ρ vs hr _ hl ha
  exact ⟨vs, rfl, xs, obs, ρ, hp, hl, ha, WRel_bare hr, h1, h2⟩

/-! ### A call, used -/

/-- An argument as the callee reads it. -/
def convV : (e' e : E) → List e.D → List e'.D → Prop
  | .row false, .row _, ys, zs => zs = ys
  | .row false, .lrow, ys, zs => zs = ys.map (·.2)
  | .row true, .row true, ys, zs => zs = ys
  | .row true, .lrow, ys, zs => zs = ys.map (·.2)
  | .lrow, .lrow, ys, zs => zs = ys
  | .pr, .pr, ys, zs => zs = ys
  | .int, .int, ys, zs => zs = ys
  | .byte, .byte, ys, zs => zs = ys
  | .bool, .bool, ys, zs => zs = ys
  | .str, .str, ys, zs => zs = ys
  | .vec, .vec, ys, zs => zs = ys
  | _, _, _, _ => False

def argOk (obs : List O) : (actual formal : AV) → Prop
  | x, .int k n => x = .int k n
  | x, .bool b => x = .bool b
  | x, .str s => x = .str s
  | x, .fn f => x = .fn f
  | x, .vec l => x = .vec l
  | x, .nils => x = .nils
  | x, .sl false e xs => match x with
    | .sl _ e' ys => convV e e' ys xs
    | .lr _ ys => convV e .int ys xs
    | .nils => xs = []
    | .emp _ => xs = []
    | .own id g => match obs[id]? with
      | some (.arr e' ys g' _) => g = g' ∧ convV e e' ys xs
      | some (.mat _ rows g' _) => g = g' ∧ e = .row false ∧ convV e (.row false) rows xs
      | _ => False
    | _ => False
  | x, .sl true e xs => match x with
    | .sl true e' ys => convV e e' ys xs
    | .lr _ ys => convV e .int ys xs
    | .nils => xs = []
    | _ => False
  | x, .lr l xs => x = .lr l xs
  | _, _ => False

def argsOk (obs : List O) : List AV → List AV → Prop
  | [], [] => True
  | x :: l, y :: r => argOk obs x y ∧ argsOk obs l r
  | _, _ => False

/-- The callee's new objects in the caller's numbering. -/
def shiftAV (n : Nat) : AV → AV
  | .own id g => .own (n + id) g
  | x => x

def resSl (n : Nat) : List AV → Sl
  | [x] => .v (shiftAV n x)
  | l => .t (l.map (shiftAV n))

/-- Every cell of the world is seen at a call's start. -/
theorem H_bare {B : Ctx} {w : World} {L : Nat → Prop} {b : Nat} : ((B.bareL w L).V w [] (fun _ => undef)).H b = w.heap[b]? := by
  have hn : ¬ Own [] (fun _ => undef) b := by rintro ⟨id, o, ho, _⟩; simp at ho
  simp only [Ctx.V, mask, if_neg hn]

theorem cell_bare {B : Ctx} {w : World} {L : Nat → Prop} {a : Addr} {v : Value} (h : w.cell? a = some v) : ((B.bareL w L).V w [] (fun _ => undef)).cell a = some v := by
  simp only [Vw.cell, H_bare]
  unfold World.cell? at h
  cases hb : w.heap[a.block]? with
  | none => rw [hb] at h; simp at h
  | some o => rw [hb] at h; cases o <;> simp at h ⊢; exact h

/-- What a call may hand on: fresh blocks of its caller's that nobody owns. -/
def Ctx.seen (C : Ctx) (obs : List O) (ρ : Nat → Value) (b : Nat) : Prop := C.Fr b ∧ ¬ Own obs ρ b

theorem H_vis {C : Ctx} {obs : List O} {w : World} {ρ : Nat → Value} {b : Nat} {o : Obj} (h : (C.V w obs ρ).H b = some o) : ¬ Own obs ρ b ∧ w.heap[b]? = some o := by
  simp only [Ctx.V, mask] at h
  split at h
  · cases h
  · rename_i hn; exact ⟨hn, h⟩

theorem sub_bare {B C : Ctx} (hT : B.tid = C.tid) {obs : List O} {w : World} {ρ : Nat → Value} : (C.V w obs ρ).sub ((B.bareL w (C.seen obs ρ)).V w [] (fun _ => undef)) where
  H := fun b o h => by rw [H_bare]; exact (H_vis h).2
  Fr := fun b o h hf => .inr ⟨hf, (H_vis h).1⟩
  ti := by show B.tid .int = C.tid .int; rw [hT]

theorem conv_len {e' e : E} {ys : List e.D} {zs : List e'.D} (h : convV e' e ys zs) : zs.length = ys.length ∧ e'.size = e.size := by
  unfold convV at h
  split at h <;> first | (subst h; exact ⟨by simp, rfl⟩) | exact h.elim

theorem conv_el {V : Vw} {e' e : E} {ys : List e.D} {zs : List e'.D} (h : convV e' e ys zs) {i : Nat} (hi : i < ys.length) (hi' : i < zs.length) {u : Value} (hu : ElRel V e ys[i] u) : ElRel V e' zs[i] u := by
  unfold convV at h
  split at h <;> first | exact h.elim | subst h
  · exact RowRel.weaken hu
  · have k := RowRel.weaken (LRowRel.toRow hu)
    simpa [ElRel] using k
  · exact hu
  · have k := LRowRel.toRow hu
    simpa [ElRel] using k
  · exact hu
  · exact hu
  · exact hu
  · exact hu
  · exact hu
  · exact hu
  · exact hu

theorem SlRel.conv {V : Vw} {f : Bool} {e' e : E} {ys : List e.D} {zs : List e'.D} {v : Value} (hc : convV e' e ys zs) (h : SlRel V f e ys v) : SlRel V f e' zs v := by
  obtain ⟨base, cap, hv, h1, h2, hx⟩ := h
  obtain ⟨hl, hs⟩ := conv_len hc
  refine ⟨base, cap, by rw [hl]; exact hv, by omega, h2, fun i hi => ?_⟩
  obtain ⟨a, u, ha, hf, hu, hcell⟩ := hx i (by omega)
  exact ⟨a, u, ha, hf, conv_el hc (by omega) hi hu, fun j hj => by rw [hs] at *; exact hcell j hj⟩

theorem own_sl {V : Vw} {w : World} {e' e : E} {ys : List e.D} {zs : List e'.D} {v : Value} {cs : List Value} {ti : TypeId} (hb : ∀ b, v.ownBlock = some b → ∀ a x, a.block = b → w.cell? a = some x → V.cell a = some x)
    (hc : convV e' e ys zs) (hown : w.ownsRow 0 ti e.size v ys.length cs) (henc : Enc V e ys cs) : SlRel V false e' zs v := by
  obtain ⟨hl, hs⟩ := conv_len hc
  rcases hown.2 with ⟨hv, hz⟩ | ⟨b, cap, cur, hv, _, hg, h1, h2, h3, h4⟩
  · exact ⟨none, 0, by rw [hl, hz]; exact hv, by omega, by omega, fun i hi => by omega⟩
  · refine ⟨some ⟨b, 0, none⟩, cap, by rw [hl]; exact hv, by omega, h2, fun i hi => ?_⟩
    obtain ⟨u, hu, hcell⟩ := henc.2 i (by omega)
    refine ⟨⟨b, 0, none⟩, u, rfl, by simp, conv_el hc (by omega) hi hu, fun j hj => ?_⟩
    have hsz := hu.cells.1
    have h5 := hcell j (by omega)
    rw [Array.getElem?_eq_getElem (by omega)] at h5 ⊢
    rw [hs]
    exact hb b (by rw [hv]; rfl) _ _ (add_block _ _) (hown.cells (g := b) (by rw [hv]; rfl) _ _ h5)

/-- An owned matrix, read. -/
theorem mat_rows {tid : E → TypeId} {w : World} {V V' : Vw} (hV : ∀ a x, w.cell? a = some x → V'.cell a = some x) {v : Value} {hs : List (Option Nat)} {rows : List (List Int)} {g : Nat} {nn : Bool} (k : ORel tid w V v (.mat hs rows g nn)) :
    SlRel V' false (.row false) rows v := by
  obtain ⟨cs, k1, k2, k3, _⟩ := k
  have hcl : cs.length = rows.length := by have := k1.1; omega
  have key : ∀ i (hi : i < rows.length), RowRel V' false rows[i] cs[i] := by
    intro i hi
    have := k3 i hs[i] rows[i] cs[i] (by simp) (by simp) (by simp)
    cases hh : hs[i] with
    | none =>
      rw [hh] at this
      obtain ⟨h1, h2⟩ := this
      rw [h1, h2]
      exact ⟨none, 0, rfl, by simp, by simp, fun i hi => by simp at hi⟩
    | some h =>
      rw [hh] at this
      obtain ⟨h1, cur, hg, h2, h3, h4, h5⟩ := this
      refine ⟨some ⟨hdB h, 0, none⟩, hdC h, h1, h2, h3, fun j hj => ⟨⟨hdB h, 0, none⟩, rfl, by simp, hV _ _ ?_⟩⟩
      rw [add_plain]
      have : (cur.toList.take rows[i].length)[j]? = (rows[i].map (Value.int .i64))[j]? := by rw [h5]
      rw [List.getElem?_take, if_pos hj] at this
      simp [World.cell?, hg]
      simpa [hj] using this
  rcases k1.2 with ⟨hv, hz⟩ | ⟨b, cap, cur, hv, _, hg, h1, h2, h3, h4⟩
  · exact ⟨none, 0, by rw [hz]; exact hv, by omega, by omega, fun i hi => by omega⟩
  · refine ⟨some ⟨b, 0, none⟩, cap, hv, h1, h2, fun i hi => ?_⟩
    refine ⟨⟨b, 0, none⟩, cs[i], rfl, by simp, key i hi, fun j hj => ?_⟩
    have : j = 0 := by simp [E.size] at hj; omega
    subst this
    rw [cells_oneCell (RowRel.oneCell (key i hi))]
    simp only [E.size, Nat.mul_one, Nat.add_zero]
    exact hV _ _ (k1.cells (g := b) (by rw [hv]; rfl) i cs[i] (by simp))

theorem mat_bare {C : Ctx} {obs : List O} {w : World} {ρ : Nat → Value} {e' : E} {rows : List (List Int)} {zs : List e'.D} {v : Value} {hs : List (Option Nat)} {g : Nat} {nn : Bool} {V' : Vw} (he : e' = .row false) (hc : convV e' (.row false) rows zs)
    (hV : ∀ a x, w.cell? a = some x → V'.cell a = some x) (k : ORel C.tid w (C.V w obs ρ) v (.mat hs rows g nn)) : SlRel V' false e' zs v := by
  subst he
  have hc : zs = rows := hc
  subst hc; exact mat_rows hV k

theorem emp_rel {V : Vw} {e : E} {a : Option Addr} {c : Nat} {v : Value} (hv : v = .slice a 0 c) (hc : c ≤ maxLen := by assumption) : SlRel V false e [] v :=
  ⟨a, c, hv, by simp, hc, fun i hi => by simp at hi⟩

theorem argOk_sound {B C : Ctx} (hT : B.tid = C.tid) {obs : List O} {w : World} {ρ : Nat → Value} (rr : WRel C obs w ρ) {x y : AV} {v : Value} (h : argOk obs x y) (hx : AVRel (C.V w obs ρ) obs ρ x v) :
    AVRel ((B.bareL w (C.seen obs ρ)).V w [] (fun _ => undef)) [] (fun _ => undef) y v := by
  have hs := sub_bare (B := B) (C := C) hT (obs := obs) (w := w) (ρ := ρ)
  unfold argOk at h
  split at h
  · subst h; exact hx
  · subst h; exact hx
  · subst h; exact hx
  · subst h; exact hx
  · subst h; exact hx
  · subst h; exact hx
  · split at h
    · exact (SlRel.conv h (SlRel.sub hs hx)).weaken
    · exact (SlRel.conv h (LRowRel.toRow (LRowRel.sub hs hx)).toSl).weaken
    · subst h
      exact ⟨none, 0, hx, by simp, by simp, fun i hi => by simp at hi⟩
    · subst h
      obtain ⟨a, c, hv, hc, _⟩ := hx
      exact emp_rel hv hc
    · split at h
      · rename_i ho
        obtain ⟨hg, hc⟩ := h
        subst hg
        obtain ⟨_, cs, hown, henc, _, _⟩ := own_arr rr ho hx
        exact own_sl (fun _ _ _ _ _ h => cell_bare h) hc hown (henc.sub hs)
      · rename_i ho
        obtain ⟨hg, he, hc⟩ := h
        subst hg
        have h1 : v = ρ _ := (hx.2 _ (by simp [genOf, ho, O.gen])).2 rfl
        subst h1
        exact mat_bare he hc (fun a x h => cell_bare h) (rr.os _ _ ho)
      · exact h.elim
    · exact h.elim
  · split at h
    · exact SlRel.conv h (SlRel.sub hs hx)
    · exact SlRel.conv h (LRowRel.toRow (LRowRel.sub hs hx)).toSl
    · subst h
      exact ⟨none, 0, hx, by simp, by simp, fun i hi => by simp at hi⟩
    · exact h.elim
  · subst h; exact LRowRel.sub hs hx
  · exact h.elim

theorem argsOk_sound {B C : Ctx} (hT : B.tid = C.tid) {obs : List O} {w : World} {ρ : Nat → Value} (rr : WRel C obs w ρ) : ∀ {l r : List AV} {vs : List Value}, argsOk obs l r → vs.length = l.length →
    (∀ (i : Nat) (x : AV) (v : Value), l[i]? = some x → vs[i]? = some v → AVRel (C.V w obs ρ) obs ρ x v) →
    vs.length = r.length ∧ ∀ (i : Nat) (x : AV) (v : Value), r[i]? = some x → vs[i]? = some v → AVRel ((B.bareL w (C.seen obs ρ)).V w [] (fun _ => undef)) [] (fun _ => undef) x v
  | [], [], vs, _, hl, _ => ⟨hl, fun i x v h => by simp at h⟩
  | x :: l, y :: r, vs, h, hl, ha => by
    cases vs with
    | nil => simp at hl
    | cons v vs =>
      obtain ⟨h1, h2⟩ := argsOk_sound hT rr h.2 (by simpa using hl) (fun i x v hx hv => ha (i + 1) x v (by simpa using hx) (by simpa using hv))
      refine ⟨by simp [h1], fun i x' v' hx' hv' => ?_⟩
      cases i with
      | zero => simp at hx' hv'; subst hx' hv'; exact argOk_sound hT rr h.1 (ha 0 x v rfl rfl)
      | succ i => exact h2 i x' v' (by simpa using hx') (by simpa using hv')
  | [], _ :: _, _, h, _, _ => h.elim
  | _ :: _, [], _, h, _, _ => h.elim

/-- What is fresh is seen by whoever sees the new blocks. -/
theorem RowRel.fresh {V V' : Vw} (hH : ∀ b o, V.Fr b → V.H b = some o → V'.H b = some o) (hF : ∀ b, V.Fr b → V'.Fr b) {xs : List Int} {v : Value} (h : RowRel V true xs v) : RowRel V' true xs v := by
  obtain ⟨base, cap, hv, h1, h2, hx⟩ := h
  refine ⟨base, cap, hv, h1, h2, fun i hi => ?_⟩
  obtain ⟨a, ha, hf, hc⟩ := hx i hi
  refine ⟨a, ha, fun k => hF _ (hf k), ?_⟩
  unfold Vw.cell at hc ⊢
  rw [add_block] at hc ⊢
  cases hb : V.H a.block with
  | none => rw [hb] at hc; simp at hc
  | some o => rw [hb] at hc; rw [hH _ _ (hf rfl) hb]; exact hc

theorem LRowRel.fresh {V V' : Vw} (hH : ∀ b o, V.Fr b → V.H b = some o → V'.H b = some o) (hF : ∀ b, V.Fr b → V'.Fr b) (ht : V'.ti = V.ti) {l : Nat} {xs : List Int} {v : Value} (h : LRowRel V l xs v) : LRowRel V' l xs v := by
  obtain ⟨cap, cur, hv, hf, hb, rest⟩ := h
  exact ⟨cap, cur, hv, hF _ hf, by rw [ht]; exact hH _ _ hf hb, rest⟩

theorem ElRel.fresh {V V' : Vw} (hH : ∀ b o, V.Fr b → V.H b = some o → V'.H b = some o) (hF : ∀ b, V.Fr b → V'.Fr b) (ht : V'.ti = V.ti) : {e : E} → freshE e = true → {d : e.D} → {v : Value} → ElRel V e d v → ElRel V' e d v
  | .int, _, _, _, k => k
  | .byte, _, _, _, k => k
  | .bool, _, _, _, k => k
  | .str, _, _, _, k => k
  | .row true, _, _, _, k => RowRel.fresh hH hF k
  | .row false, h, _, _, _ => by simp [freshE] at h
  | .lrow, _, (_, _), _, k => LRowRel.fresh hH hF ht k
  | .vec, _, _, _, k => k
  | .pr, _, ((_, _), (_, _)), _, ⟨u1, u2, hv, h1, h2⟩ => ⟨u1, u2, hv, LRowRel.fresh hH hF ht h1, LRowRel.fresh hH hF ht h2⟩

theorem SlRel.fresh {V V' : Vw} (hH : ∀ b o, V.Fr b → V.H b = some o → V'.H b = some o) (hF : ∀ b, V.Fr b → V'.Fr b) (ht : V'.ti = V.ti) {e : E} (he : freshE e = true) {xs : List e.D} {v : Value} (h : SlRel V true e xs v) : SlRel V' true e xs v := by
  obtain ⟨base, cap, hv, h1, h2, hx⟩ := h
  refine ⟨base, cap, hv, h1, h2, fun i hi => ?_⟩
  obtain ⟨a, u, ha, hf, hu, hc⟩ := hx i hi
  refine ⟨a, u, ha, fun k => hF _ (hf k), hu.fresh hH hF ht he, fun j hj => ?_⟩
  have hsz := hu.cells.1
  have h3 := hc j hj
  rw [Array.getElem?_eq_getElem (by omega)] at h3 ⊢
  unfold Vw.cell at h3 ⊢
  rw [add_block] at h3 ⊢
  cases hb : V.H a.block with
  | none => rw [hb] at h3; simp at h3
  | some o => rw [hb] at h3; rw [hH _ _ (hf rfl) hb]; exact h3

theorem Enc.fresh {V V' : Vw} (hH : ∀ b o, V.Fr b → V.H b = some o → V'.H b = some o) (hF : ∀ b, V.Fr b → V'.Fr b) (ht : V'.ti = V.ti) {e : E} (he : freshE e = true) {xs : List e.D} {cs : List Value} (h : Enc V e xs cs) : Enc V' e xs cs :=
  ⟨h.1, fun i hi => let ⟨u, h1, h2⟩ := h.2 i hi; ⟨u, h1.fresh hH hF ht he, h2⟩⟩

theorem ORel.mat_tid {tid tid' : E → TypeId} {w : World} {V V' : Vw} {v : Value} {hs : List (Option Nat)} {rows : List (List Int)} {g g' : Nat} {nn : Bool} (h1 : tid .lrow = tid' .lrow) (h2 : tid .int = tid' .int)
    (k : ORel tid w V v (.mat hs rows g nn)) : ORel tid' w V' v (.mat hs rows g' nn) := by
  obtain ⟨cs, k1, k2, k3, k4⟩ := k
  exact ⟨cs, by rw [← h1]; exact k1, k2, fun i h xs u a b c => by rw [← h2]; exact k3 i h xs u a b c, k4⟩

/-- The callee's new objects join the caller's. -/
theorem ORel.gm_tid {tid tid' : E → TypeId} {w : World} {V V' : Vw} {v : Value} {D : List Nat} {F : Nat → List Int} {hs : List Nat} {g g' : Nat} {nn : Bool} (h1 : tid .lrow = tid' .lrow) (h2 : tid .int = tid' .int)
    (k : ORel tid w V v (.gm D F hs g nn)) : ORel tid' w V' v (.gm D F hs g' nn) := by
  obtain ⟨cs, k1, k2, k3, k4⟩ := k
  exact ⟨cs, by rw [← h1]; exact k1, k2, fun h hm => by rw [← h2]; exact k3 h hm, k4⟩

theorem join {B C : Ctx} (hP : B.tid = C.tid) {obs obs' : List O} {w w' : World} {ρ ρ' : Nat → Value} {L : Nat → Prop} (hL : ∀ b, L b → C.seen obs ρ b) (rr : WRel C obs w ρ) (r' : WRel (B.bareL w L) obs' w' ρ') (hf : obs'.all freshO = true) :
    ∃ ρ2, Step C w w' obs (obs ++ obs') ρ ρ2 ∧ ∀ (x : AV) (v : Value), freshAV x = true → AVRel ((B.bareL w L).V w' obs' ρ') obs' ρ' x v → AVRel (C.V w' (obs ++ obs') ρ2) (obs ++ obs') ρ2 (shiftAV obs.length x) v := by
  let ρ2 : Nat → Value := fun i => if i < obs.length then ρ i else ρ' (i - obs.length)
  have hext : Ext (fun _ => False) w w' := ⟨r'.os0, r'.tape, r'.output, r'.grow, r'.drawn, fun b hb _ => r'.kept b hb (fun k => k)⟩
  have ho' : ∀ b, Own obs' ρ' b → w.heap.size ≤ b := fun b hb => (r'.own b hb).resolve_right (fun k => k)
  have split : ∀ b, Own (obs ++ obs') ρ2 b → Own obs ρ b ∨ Own obs' ρ' b := by
    rintro b ⟨id, o, ho, hfp⟩
    rw [List.getElem?_append] at ho
    split at ho
    · rename_i hlt
      exact .inl ⟨id, o, ho, by simpa [ρ2, hlt] using hfp⟩
    · rename_i hlt
      exact .inr ⟨id - obs.length, o, ho, by simpa [ρ2, hlt] using hfp⟩
  have hV : (C.V w obs ρ).le (C.V w' (obs ++ obs') ρ2) := by
    refine ⟨fun b x hx => ?_, fun _ h => h, rfl⟩
    simp only [Ctx.V, mask] at hx ⊢
    split at hx
    · cases hx
    · rename_i hn
      have hlt := (Array.getElem?_eq_some_iff.1 hx).1
      have hn' : ¬ Own (obs ++ obs') ρ2 b := fun k => by
        rcases split b k with k | k
        · exact hn k
        · have := ho' b k; omega
      rw [if_neg hn', hext.block b hlt (fun k => k)]
      exact hx
  have hH : ∀ b o, ((B.bareL w L).V w' obs' ρ').Fr b → ((B.bareL w L).V w' obs' ρ').H b = some o → (C.V w' (obs ++ obs') ρ2).H b = some o := by
    intro b o hfr hx
    simp only [Ctx.V, mask] at hx ⊢
    split at hx
    · cases hx
    · rename_i hn
      have hn' : ¬ Own (obs ++ obs') ρ2 b := fun k => by
        rcases split b k with ⟨id, o', k1, k2⟩ | k
        · rcases hfr with hge | hl
          · have hge : w.heap.size ≤ b := hge.resolve_right (fun k => k)
            have := (rr.os id o' k1).lt k2; omega
          · exact (hL b hl).2 ⟨id, o', k1, k2⟩
        · exact hn k
      rw [if_neg hn']
      exact hx
  have hF : ∀ b, ((B.bareL w L).V w' obs' ρ').Fr b → (C.V w' (obs ++ obs') ρ2).Fr b := fun b hfr => hfr.elim (fun hfr => .inl (.inl (Nat.le_trans rr.grow (hfr.resolve_right (fun k => k))))) fun hl => (hL b hl).1
  have ht : (C.V w' (obs ++ obs') ρ2).ti = ((B.bareL w L).V w' obs' ρ').ti := by show C.tid .int = B.tid .int; rw [hP]
  have hwr : WRel C (obs ++ obs') w' ρ2 := by
    refine ⟨fun id o ho => ?_, fun i j o o2 b hi hj bi bj => ?_, fun b hb => ?_, hext.os.trans rr.os0, hext.tape.trans rr.tape, hext.output.trans rr.output, Nat.le_trans rr.grow hext.size, Nat.le_trans rr.drawn hext.drawn, fun b hb hM => ?_⟩
    · rw [List.getElem?_append] at ho
      split at ho
      · rename_i hlt
        have : ρ2 id = ρ id := by simp [ρ2, hlt]
        rw [this]
        exact (rr.os id o ho).kept hV hext (fun _ _ k => k)
      · rename_i hlt
        have : ρ2 id = ρ' (id - obs.length) := by simp [ρ2, hlt]
        rw [this]
        have k := r'.os _ o ho
        cases o with
        | dead => trivial
        | arr e xs g nn =>
          obtain ⟨cs, h1, h2, h3⟩ := k
          have hfo : freshE e = true := by
            have := List.all_eq_true.1 hf _ (List.mem_of_getElem? ho)
            simpa [freshO] using this
          exact ⟨cs, by have : (B.bareL w L).tid e = C.tid e := congrFun hP e; rw [← this]; exact h1, h2.fresh hH hF ht hfo, h3⟩
        | mat hs rows g nn => exact ORel.mat_tid (tid := (B.bareL w L).tid) (congrFun hP .lrow) (congrFun hP .int) k
        | gm D F hs g nn => have := List.all_eq_true.1 hf _ (List.mem_of_getElem? ho); simp [freshO] at this
        | mp _ l2 g2 => exact k
        | ap _ _ _ _ _ => have := List.all_eq_true.1 hf _ (List.mem_of_getElem? ho); simp [freshO] at this
    · rw [List.getElem?_append] at hi hj
      split at hi <;> split at hj
      · rename_i h1 h2
        exact rr.dis i j o o2 b hi hj (by simpa [ρ2, h1] using bi) (by simpa [ρ2, h2] using bj)
      · rename_i h1 h2
        have k1 := (rr.os i o hi).lt (b := b) (by simpa [ρ2, h1] using bi)
        have k2 := ho' b ⟨_, o2, hj, by simpa [ρ2, h2] using bj⟩
        omega
      · rename_i h1 h2
        have k1 := (rr.os j o2 hj).lt (b := b) (by simpa [ρ2, h2] using bj)
        have k2 := ho' b ⟨_, o, hi, by simpa [ρ2, h1] using bi⟩
        omega
      · rename_i h1 h2
        have := r'.dis _ _ o o2 b hi hj (by simpa [ρ2, h1] using bi) (by simpa [ρ2, h2] using bj)
        omega
    · rcases split b hb with k | k
      · exact rr.own b k
      · exact .inl (Nat.le_trans rr.grow (ho' b k))
    · rw [hext.block b (Nat.lt_of_lt_of_le hb rr.grow) (fun k => k)]
      exact rr.kept b hb hM
  refine ⟨ρ2, ⟨hwr, hV, by simp, fun id c' hid hc => ⟨c', ?_, .inl ⟨rfl, by simp [ρ2, hid]⟩⟩⟩, fun x v hfx hx => ?_⟩
  · unfold genOf at hc ⊢
    rw [List.getElem?_append_left hid] at hc
    exact hc
  · cases x with
    | junk => trivial
    | int k n => exact hx
    | bool b => exact hx
    | str s => exact hx
    | sl f e xs =>
      simp [freshAV] at hfx
      obtain ⟨rfl, hfe⟩ := hfx
      exact SlRel.fresh hH hF ht hfe hx
    | lr l xs => exact LRowRel.fresh hH hF ht hx
    | vec xs => exact hx
    | nils => exact hx
    | own id g =>
      refine ⟨by have := hx.1; simp; omega, fun c hc => ?_⟩
      have e1 : genOf (obs ++ obs') (obs.length + id) = genOf obs' id := by unfold genOf; rw [List.getElem?_append_right (by omega)]; simp
      rw [e1] at hc
      have h3 := hx.2 c hc
      have e2 : ρ2 (obs.length + id) = ρ' id := by
        show (if obs.length + id < obs.length then ρ (obs.length + id) else ρ' (obs.length + id - obs.length)) = ρ' id
        rw [if_neg (by omega), Nat.add_sub_cancel_left]
      rw [e2]
      exact h3
    | elt id g s k => simp [freshAV] at hfx
    | relt f e d => simp [freshAV] at hfx
    | hdr h n => simp [freshAV] at hfx
    | emp b => simp [freshAV] at hfx
    | fn f => exact hx
    | hp q k => simp [freshAV] at hfx
    | lenv n => simp [freshAV] at hfx

/-- A contract, used at a call. -/
theorem FunA.call {B C : Ctx} (hP : B.P = C.P) (hT : B.tid = C.tid) {f : FuncId} {args0 : List AV} {post : List AV → List O → Prop} (h : FunA B f args0 post) {obs : List O} {args : List AV} (ha : argsOk obs args args0)
    {K : Sl → List O → Prop} (hk : ∀ xs obs', post xs obs' → K (resSl obs.length xs) (obs ++ obs')) : ACall C obs f args K := by
  refine ⟨fun vs w => by rw [← hP]; exact h.1 vs w, fun w ρ vs rr hl hx => ?_⟩
  obtain ⟨h1, h2⟩ := argsOk_sound (B := B) hT rr ha hl hx
  rw [← hP]
  refine (h.2 w (C.seen obs ρ) vs h1 h2).mono fun e w' ⟨us, he, xs, obs', ρ', hp, hul, hu, hw', hf1, hf2⟩ => ?_
  obtain ⟨ρ2, hst, hav⟩ := join hT (fun _ h => h) rr hw' hf2
  refine ⟨pack us, he, resSl obs.length xs, obs ++ obs', ρ2, hst, ?_, hk xs obs' hp⟩
  have each : ∀ (i : Nat) (x : AV) (v : Value), xs[i]? = some x → us[i]? = some v → AVRel (C.V w' (obs ++ obs') ρ2) (obs ++ obs') ρ2 (shiftAV obs.length x) v := fun i x v hx hv =>
    hav x v (List.all_eq_true.1 hf1 _ (List.mem_of_getElem? hx)) (hu i x v hx hv)
  match xs, us, hul with
  | [], [], _ => exact ⟨[], rfl, rfl, by simp⟩
  | [x], [u], _ => exact each 0 x u rfl rfl
  | x :: y :: l, u :: u2 :: us, hul =>
    refine ⟨u :: u2 :: us, by simp [pack], by simpa using hul, fun i a b ha hb => ?_⟩
    rw [List.getElem?_map, Option.map_eq_some_iff] at ha
    obtain ⟨z, hz, rfl⟩ := ha
    exact each i z b hz hb

end Go.Aw

/- The walk's equations, gathered under one name, AX: 'simp only [AX]' carries an abstract state through a region. -/
namespace Go.Aw
open Go

def slV : Option (Bool × Sl) → AV
  | some (_, .v x) => x
  | _ => .junk
def slH : Option (Bool × Sl) → Prop
  | some (ex, _) => ex = true
  | none => True

theorem ev_tmp (n : Nat) (fr : List (Nat × Bool × Sl)) (obs : List O) (t : Nat) : St.ev ⟨n, fr, obs⟩ (.tmp t) = slV (look t fr) := by
  simp only [St.ev, slV]
  split <;> simp_all
theorem ev_int (σ : St) (k : IntKind) (n : Int) : σ.ev (.const (.int k n)) = .int k n := rfl
theorem ev_bool (σ : St) (b : Bool) : σ.ev (.const (.bool b)) = .bool b := rfl
theorem ev_str (σ : St) (s : ByteArray) : σ.ev (.const (.string s)) = .str s.data.toList := rfl
theorem ev_nil (σ : St) : σ.ev (.const (.slice none 0 0)) = .nils := rfl
theorem ev_func (σ : St) (f : Nat) : σ.ev (.func f) = .fn f := rfl
theorem has_tmp (n : Nat) (fr : List (Nat × Bool × Sl)) (obs : List O) (t : Nat) : St.has ⟨n, fr, obs⟩ (.tmp t) = slH (look t fr) := by
  simp only [St.has, slH]
  split <;> simp_all
theorem has_const (σ : St) (v : Value) : σ.has (.const v) = True := rfl
theorem has_func (σ : St) (f : Nat) : σ.has (.func f) = True := rfl
theorem slV_v (ex : Bool) (x : AV) : slV (some (ex, .v x)) = x := rfl
theorem slV_t (ex : Bool) (l : List AV) : slV (some (ex, .t l)) = .junk := rfl
theorem slV_none : slV none = .junk := rfl
theorem slH_some (ex : Bool) (x : Sl) : slH (some (ex, x)) = (ex = true) := rfl
theorem slH_none : slH none = True := rfl
theorem look_nil (s : Nat) : look s [] = none := rfl
theorem look_cons (s k : Nat) (x : Bool × Sl) (r : List (Nat × Bool × Sl)) : look s ((k, x) :: r) = bif s == k then some x else look s r := by
  simp only [look]; cases s == k <;> rfl
theorem slotOf_cons (d : Option Nat) (r : List (Option Nat)) (j : Nat) : slotOf (d :: r) j = bif j == 0 then d else slotOf r (j - 1) := rfl

/-- The rest of a region behind one operation's outcome. -/
def aR (C : Ctx) (ds : Rg) (rest : List Oper) (n : Nat) (fr : List (Nat × Bool × Sl)) (d : Option Nat) (K : St → Prop) : Res → Prop
  | .bad => False
  | .ok vc x obs => vc ∧ aexec C ds rest (St.put ⟨n, fr, obs⟩ d true (.v x) obs) K
  | .skip vc obs => vc ∧ d = none ∧ aexec C ds rest ⟨n, fr, obs⟩ K
  | .all p x obs => ∀ l, p l → aexec C ds rest (St.put ⟨n, fr, obs l⟩ d true (.v x) (obs l)) K

theorem aexec_nil (C : Ctx) (ds : Rg) (σ : St) (K : St → Prop) : aexec C ds [] σ K = K σ := rfl

section
variable (C : Ctx) (ds : Rg) (rest : List Oper) (n : Nat) (fr : List (Nat × Bool × Sl)) (obs : List O) (K : St → Prop) (d : Nat) (ty : TypeId) (p : String) (af : Array Edge)

theorem mvS_v {op : Op} (hm : ∀ t, op ≠ .move (.tmp t)) (σ : St) (x : AV) : mvS σ op x = .v x := by
  unfold mvS
  split
  · rename_i t; exact absurd rfl (hm t)
  · rfl
theorem aexec_plain {op : Op} (h : calleeOf ⟨n, fr, obs⟩ op = none) (hm : ∀ t, op ≠ .move (.tmp t)) (d : Option Nat) : aexec C ds (⟨d, op, ty, p, af, none⟩ :: rest) ⟨n, fr, obs⟩ K = (inN n d ∧ hasAll ⟨n, fr, obs⟩ op ∧ aR C ds rest n fr d K (astep C ⟨n, fr, obs⟩ op)) := by
  simp only [aexec, aone, h, mvS_v hm]
  congr 1
  cases astep C ⟨n, fr, obs⟩ op with
  | bad => simp [aR]
  | ok vc x o => cases d <;> rfl
  | skip vc o => cases d <;> rfl
  | all q x o => cases d <;> rfl

theorem aR_bad (d : Option Nat) : aR C ds rest n fr d K .bad = False := rfl
theorem aR_ok (vc : Prop) (x : AV) : aR C ds rest n fr (some d) K (.ok vc x obs) = (vc ∧ aexec C ds rest ⟨n, (d, true, .v x) :: fr, obs⟩ K) := rfl
theorem aR_ok0 (vc : Prop) (x : AV) : aR C ds rest n fr none K (.ok vc x obs) = (vc ∧ aexec C ds rest ⟨n, fr, obs⟩ K) := rfl
theorem aR_skip (vc : Prop) : aR C ds rest n fr none K (.skip vc obs) = (vc ∧ aexec C ds rest ⟨n, fr, obs⟩ K) := by simp [aR]
theorem aR_all (q : Nat → Prop) (x : AV) (o : Nat → List O) : aR C ds rest n fr (some d) K (.all q x o) = ∀ l, q l → aexec C ds rest ⟨n, (d, true, .v x) :: fr, o l⟩ K := rfl
theorem inN_some (d : Nat) : inN n (some d) = (d < n) := rfl
theorem inN_none : inN n none = True := rfl

def gexV (b : Bool) : Option (Bool × Sl) → Option Bool
  | some (ex, .v (.bool c)) => some (ex && (c == b))
  | _ => none
def lookO (fr : List (Nat × Bool × Sl)) : Option Nat → Option (Bool × Sl)
  | some d => look d fr
  | none => none
theorem lookO_some (d : Nat) : lookO fr (some d) = look d fr := rfl
theorem gexV_b (b ex c : Bool) : gexV b (some (ex, .v (.bool c))) = some (ex && (c == b)) := rfl

theorem gex_eq (j : Nat) (b : Bool) : gex ds.ds ⟨n, fr, obs⟩ (some (j, b)) = gexV b (lookO fr (slotOf ds.ds j)) := by
  simp only [gex, gexV, lookO]
  cases slotOf ds.ds j with
  | none => rfl
  | some d => cases look d fr with
    | none => rfl
    | some q => obtain ⟨ex, x⟩ := q; cases x with
      | v x => cases x <;> rfl
      | t l => rfl

/-- The slots that an operation reads have been written, under a guard. -/
def hG (σ : St) (ex : Bool) : Op → Prop
  | .pick c _ _ => ex = true → σ.has c
  | .extract _ _ => True
  | .binOp _ _ x y _ => (ex = true → σ.has x) ∧ (ex = true → σ.has y)
  | .unOp _ _ x => ex = true → σ.has x
  | .load _ x => ex = true → σ.has x
  | .indexAddr _ x y => (ex = true → σ.has x) ∧ (ex = true → σ.has y)
  | .slice _ x lo hi none => (ex = true → σ.has x) ∧ (∀ y, lo = some y → ex = true → σ.has y) ∧ (∀ y, hi = some y → ex = true → σ.has y)
  | .call c => ∀ x ∈ c.args.toList, ex = true → σ.has x
  | .move _ => True
  | .assign _ => True
  | _ => False

theorem hG_ok {σ : St} {ex : Bool} {op : Op} (h : hG σ ex op) (he : ex = true) : hasAll σ op := by
  subst he
  cases op with
  | slice t x lo hi mx => cases mx <;> simp_all [hG, hasAll]
  | _ => simp_all [hG, hasAll]

def aG (C : Ctx) (ds : Rg) (rest : List Oper) (n : Nat) (fr : List (Nat × Bool × Sl)) (obs : List O) (d : Option Nat) (K : St → Prop) (ex : Bool) : Res → Prop
  | .ok vc x _ => (ex = true → vc) ∧ aexec C ds rest (St.put ⟨n, fr, obs⟩ d ex (.v x) obs) K
  | _ => False

def aG1 (C : Ctx) (ds : Rg) (rest : List Oper) (n : Nat) (fr : List (Nat × Bool × Sl)) (obs : List O) (d : Option Nat) (K : St → Prop) (op : Op) : Option Bool → Prop
  | none => False
  | some ex => hG ⟨n, fr, obs⟩ ex op ∧ aG C ds rest n fr obs d K ex (astep C ⟨n, fr, obs⟩ op)

theorem aexec_guard {op : Op} (h : calleeOf ⟨n, fr, obs⟩ op = none) (hr : roOp op = true) (j : Nat) (b : Bool) (d : Option Nat) : (inN n d ∧ aG1 C ds rest n fr obs d K op (gexV b (lookO fr (slotOf ds.ds j)))) → aexec C ds (⟨d, op, ty, p, af, some (j, b)⟩ :: rest) ⟨n, fr, obs⟩ K := by
  simp only [aexec, aone, h, hr, if_true]
  rw [gex_eq]
  rintro ⟨hd, hk⟩
  refine ⟨hd, ?_⟩
  cases hg : gexV b (lookO fr (slotOf ds.ds j)) with
  | none => rw [hg] at hk; exact hk
  | some ex =>
    rw [hg] at hk
    obtain ⟨h1, h2⟩ := hk
    simp only
    cases hs : astep C ⟨n, fr, obs⟩ op with
    | bad => rw [hs] at h2; exact h2
    | ok vc x o => rw [hs] at h2; exact ⟨fun he => ⟨hG_ok h1 he, h2.1 he⟩, h2.2⟩
    | skip vc o => rw [hs] at h2; exact h2
    | all q x o => rw [hs] at h2; exact h2

end
end Go.Aw

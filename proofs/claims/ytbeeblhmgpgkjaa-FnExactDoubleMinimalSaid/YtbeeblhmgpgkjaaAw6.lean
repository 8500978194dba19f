/- Operations, the rest: a literal slice, a piece, a result taken out of several. -/
import Derived.Test.YtbeeblhmgpgkjaaAw5
import Derived.Great.BuildSlice
set_option linter.unusedVariables false
set_option linter.unusedSimpArgs false
namespace Go.Aw
open Go

section sound
variable {C : Ctx} {obs : List O} {w : World} {ρ : Nat → Value}

theorem run_build {t : TypeId} {e : E} (hC : C.Ok) (he : C.Γ t = some e) (h1 : e.size = 1) {vs : List Value} (hv : ∀ v ∈ vs, v.cells = #[v]) (hl : vs.length ≤ 1000) (parts : Array (Nat × Value)) (hp : parts.toList = (vs.zipIdx 0).map fun x => (x.2, x.1)) :
    (Instr.buildSlice t vs.length parts).run C.P w = .ok (.slice (some ⟨w.heap.size, 0, none⟩) vs.length vs.length) (w.alloc (.cells vs.toArray (C.tid e))) := by
  obtain ⟨ht, i, hi, hz, hs, _⟩ := hC.sl t e he
  by_cases h0 : vs.length = 0
  · have hn : vs = [] := List.eq_nil_of_length_eq_zero h0
    subst hn
    have hpp : parts = #[] := by apply Array.ext'; simpa using hp
    subst hpp
    simp [Instr.buildSlice, run_underlying ht, sizeOf, typeInfo, hi, newRow, Instr.fill, Array.range_zero']
  · refine run_buildSlice w t (C.tid e) vs.length parts vs.toArray i e.zero ht hi hz (by rw [hs, h1]; omega) (by rw [hs, h1]; omega) ?_
    rw [hp, hs, h1]
    exact Great.fill_flat _ _ hv (by simp)

theorem allE_rel {V : Vw} {e : E} : ∀ {l : List AV} {ds : List e.D} {vs : List Value}, allE e l = some ds → vs.length = l.length → (∀ s, AV.str s ∈ l → s.length ≤ maxLen) →
    (∀ (i : Nat) (x : AV) (v : Value), l[i]? = some x → vs[i]? = some v → AVRel V obs ρ x v) → ds.length = vs.length ∧ ∀ (i : Nat) (d : e.D) (v : Value), ds[i]? = some d → vs[i]? = some v → ElRel V e d v
  | [], ds, vs, h, hl, _, _ => by
    simp [allE] at h
    subst h
    simp at hl
    subst hl
    simp
  | x :: l, ds, vs, h, hl, hs, hr => by
    simp only [allE] at h
    split at h
    · rename_i d ds' hd hds
      cases h
      cases vs with
      | nil => simp at hl
      | cons v vs =>
        have h0 := toE_rel hd (fun s k => hs s (by rw [← k]; simp)) (hr 0 x v rfl rfl)
        obtain ⟨i1, i2⟩ := allE_rel hds (by simpa using hl) (fun s k => hs s (List.mem_cons_of_mem _ k)) (fun i x v hx hv => hr (i + 1) x v (by simpa using hx) (by simpa using hv))
        refine ⟨by simp [i1], fun i d' v' hd' hv' => ?_⟩
        cases i with
        | zero => simp at hd' hv'; subst hd' hv'; exact h0
        | succ i => exact i2 i d' v' (by simpa using hd') (by simpa using hv')
    · cases h

theorem enc_flat {V : Vw} {e : E} (h1 : e.size = 1) {ds : List e.D} {vs : List Value} (hl : ds.length = vs.length) (h : ∀ (i : Nat) (d : e.D) (v : Value), ds[i]? = some d → vs[i]? = some v → ElRel V e d v) : Enc V e ds vs := by
  refine ⟨by rw [h1]; omega, fun i hi => ⟨vs[i], h i _ _ (by simp [hi]) (by simp), fun j hj => ?_⟩⟩
  have : j = 0 := by omega
  subst this
  have hr := h i ds[i] (vs[i]'(by omega)) (by simp [hi]) (by simp)
  rw [(one_cells h1 hr).1]
  simp [h1]

theorem zipIdx_from (f : AV → Value) : ∀ (parts : List (Nat × AV)) (s : Nat), parts.map (·.1) = List.range' s parts.length → (parts.map fun p => (p.1, f p.2)) = ((parts.map fun p => f p.2).zipIdx s).map fun x => (x.2, x.1)
  | [], _, _ => rfl
  | p :: parts, s, h => by
    simp only [List.map_cons, List.length_cons, List.range'_succ, List.cons.injEq] at h
    simp only [List.map_cons, List.zipIdx_cons, h.1]
    rw [zipIdx_from f parts (s + 1) h.2]

theorem zipIdx_parts {parts : List (Nat × AV)} {n : Nat} (h : parts.map (·.1) = List.range n) (f : AV → Value) : (parts.map fun p => (p.1, f p.2)) = ((parts.map fun p => f p.2).zipIdx 0).map fun x => (x.2, x.1) := by
  have hl : parts.length = n := by have := congrArg List.length h; simpa using this
  exact zipIdx_from f parts 0 (by rw [h, hl, List.range_eq_range'])

theorem buildNew {t : TypeId} {e e2 : E} (hC : C.Ok) (he : C.Γ t = some e) (h1 : e.size = 1) (h2 : e2.fam = e.fam) (rr : WRel C obs w ρ) {vs : List Value} {ds : List e2.D} (hl : vs.length ≤ 1000) (hds : ds.length = vs.length)
    (hr : ∀ V', (C.V w obs ρ).le V' → ∀ (i : Nat) (d : e2.D) (v : Value), ds[i]? = some d → vs[i]? = some v → ElRel V' e2 d v)
    (parts : Array (Nat × Value)) (hp : parts.toList = (vs.zipIdx 0).map fun x => (x.2, x.1)) :
    ∃ z w' ρ', (Instr.buildSlice t vs.length parts).run C.P w = .ok z w' ∧ Step C w w' obs (obs ++ [.arr e2 ds 0 true]) ρ ρ' ∧ AVRel (C.V w' (obs ++ [.arr e2 ds 0 true]) ρ') (obs ++ [.arr e2 ds 0 true]) ρ' (.own obs.length 0) z := by
  have htid : C.tid e2 = C.tid e := by
    cases e2 <;> cases e <;> simp [E.fam] at h2 <;> first | rfl | (rename_i f; exact hC.same f) | (rename_i f; exact (hC.same f).symm) | (rename_i f g; exact (hC.same f).trans (hC.same g).symm)
  have hs2 : e2.size = 1 := by rw [← h1]; cases e2 <;> cases e <;> simp [E.fam] at h2 <;> rfl
  have hv : ∀ v ∈ vs, v.cells = #[v] := by
    intro v hv
    obtain ⟨i, hi⟩ := List.getElem?_of_mem hv
    have hlt : i < vs.length := (List.getElem?_eq_some_iff.1 hi).1
    exact (one_cells hs2 (hr _ (Vw.le.refl _) i (ds[i]'(by omega)) v (by simp) hi)).1
  have hrun := run_build (w := w) hC he h1 hv hl parts hp
  have hext : Ext (fun _ => False) w (w.alloc (.cells vs.toArray (C.tid e))) := Ext.alloc _ _ _
  have hb : ∀ b, fpo (.slice (some ⟨w.heap.size, 0, none⟩) vs.length vs.length) (.arr e2 ds 0 true) b → w.heap.size ≤ b := by
    intro b hb
    simp [fpo, Value.ownBlock] at hb
    omega
  have hV := le_new (C := C) (obs := obs) (ρ := ρ) hext hb
  refine ⟨_, _, _, hrun, (Turn.new rr hext _ _ ?_ hb).step rr, ?_⟩
  · refine ⟨vs, ⟨by rw [hs2]; omega, .inr ⟨w.heap.size, vs.length, vs.toArray, by rw [hds], Nat.zero_le _, ?_, by omega, by rw [maxLen_num]; omega, by simp [hs2], ?_⟩⟩, enc_flat hs2 hds (hr _ hV), by simp, by rw [hds, maxLen_num]; omega⟩
    · rw [htid]; exact heap_alloc_new w _
    · rw [hds, hs2]; simp
  · refine ⟨by simp, fun c hc => ?_⟩
    have : c = 0 := by simpa [genOf, O.gen] using hc.symm
    subst this
    simp

theorem le_of_ext {w' : World} (h : Ext (fun _ => False) w w') : (C.V w obs ρ).le (C.V w' obs ρ) := by
  refine ⟨fun b x hx => ?_, fun _ h => h, rfl⟩
  simp only [Ctx.V, mask] at hx ⊢
  split at hx
  · cases hx
  · rename_i hn
    rw [if_neg hn, h.block b (Array.getElem?_eq_some_iff.1 hx).1 (fun k => k)]
    exact hx

/-- An owned row of integers, once let go, is read as it stood, under its block's number. -/
theorem letgo_rel (rr : WRel C obs w ρ) {id g : Nat} {xs : List Int} {nn : Bool} (ho : obs[id]? = some (.arr .int xs g nn)) :
    Step C w w obs (obs.set id .dead) ρ (fun i => if i = id then ρ id else ρ i) ∧ RowRel (C.V w (obs.set id .dead) (fun i => if i = id then ρ id else ρ i)) true xs (ρ id) ∧
      (nn = true → ∃ l, (ρ id).ownBlock = some l ∧ LRowRel (C.V w (obs.set id .dead) (fun i => if i = id then ρ id else ρ i)) l xs (ρ id)) := by
  have T := Turn.letgo rr ho
  have hst := T.step rr
  obtain ⟨cs, hown, henc, hnn, hml⟩ := rr.os id _ ho
  have hcs : cs = xs.map (Value.int .i64) := by
    apply List.ext_getElem?
    intro i
    have hl := henc.1
    simp only [E.size, Nat.mul_one] at hl
    by_cases hi : i < xs.length
    · obtain ⟨u, hu, hc⟩ := henc.2 i hi
      have h0 := hc 0 (by simp [E.size])
      cases hu
      simp [E.size, Value.cells] at h0
      rw [h0]
      simp [hi]
    · rw [List.getElem?_eq_none (by omega), List.getElem?_eq_none (by simp; omega)]
  subst hcs
  rcases hown.2 with ⟨hv, hz⟩ | ⟨b, cap, cur, hv, _, hg, h1, h2, h3, h4⟩
  · have hx : xs = [] := List.eq_nil_of_length_eq_zero hz
    subst hx
    exact ⟨hst, ⟨none, 0, by rw [hv]; rfl, by simp, by simp, fun i hi => by simp at hi⟩, fun k => absurd hv (hnn k)⟩
  · have hfp : fpo (ρ id) (.arr .int xs g nn) b := by simp [fpo, hv, Value.ownBlock]
    have hnot : ¬ Own (obs.set id .dead) (fun i => if i = id then ρ id else ρ i) b := by
      rintro ⟨j, oj, hj, hf⟩
      by_cases hji : id = j
      · subst hji
        rw [List.getElem?_set_self (List.getElem?_eq_some_iff.1 ho).1] at hj
        cases hj
        simp [fpo] at hf
      · rw [List.getElem?_set_ne hji] at hj
        simp only [if_neg (Ne.symm hji)] at hf
        exact hji (rr.dis id j _ oj b ho hj hfp hf)
    have hH : (C.V w (obs.set id .dead) (fun i => if i = id then ρ id else ρ i)).H b = some (.cells cur (C.tid .int) (0, 0)) := by
      simp only [Ctx.V, mask, if_neg hnot]
      exact hg
    have hL : LRowRel (C.V w (obs.set id .dead) (fun i => if i = id then ρ id else ρ i)) b xs (ρ id) := by
      refine ⟨cap, cur, hv, rr.own b ⟨id, _, ho, hfp⟩, hH, h1, h2, by simpa [E.size] using h3, by simpa [E.size] using h4⟩
    exact ⟨hst, LRowRel.toRow hL, fun _ => ⟨b, by rw [hv]; rfl, hL⟩⟩

theorem rowsOf_sound : ∀ {l : List AV} {obs obs' : List O} {ρ : Nat → Value} {rs : List (List Int)} {vs : List Value}, WRel C obs w ρ → rowsOf l obs = some (rs, obs') → vs.length = l.length →
    (∀ (i : Nat) (x : AV) (v : Value), l[i]? = some x → vs[i]? = some v → AVRel (C.V w obs ρ) obs ρ x v) →
    ∃ ρ', Step C w w obs obs' ρ ρ' ∧ obs'.length = obs.length ∧ rs.length = vs.length ∧ ∀ (i : Nat) (d : List Int) (v : Value), rs[i]? = some d → vs[i]? = some v → RowRel (C.V w obs' ρ') false d v
  | [], obs, obs', ρ, rs, vs, rr, h, hl, _ => by
    simp [rowsOf] at h
    obtain ⟨rfl, rfl⟩ := h
    simp at hl
    subst hl
    exact ⟨ρ, Step.refl rr, rfl, rfl, by simp⟩
  | x :: l, obs, obs', ρ, rs, vs, rr, h, hl, hr => by
    cases vs with
    | nil => simp at hl
    | cons v vs =>
    have h0 := hr 0 x v rfl rfl
    have fin : ∀ (obs1 : List O) (ρ1 : Nat → Value) (xs : List Int), Step C w w obs obs1 ρ ρ1 → obs1.length = obs.length → RowRel (C.V w obs1 ρ1) false xs v → (rowsOf l obs1).map (fun p => (xs :: p.1, p.2)) = some (rs, obs') →
        ∃ ρ', Step C w w obs obs' ρ ρ' ∧ obs'.length = obs.length ∧ rs.length = (v :: vs).length ∧ ∀ (i : Nat) (d : List Int) (u : Value), rs[i]? = some d → (v :: vs)[i]? = some u → RowRel (C.V w obs' ρ') false d u := by
      intro obs1 ρ1 xs hst hlen hrow hm
      cases hro : rowsOf l obs1 with
      | none => rw [hro] at hm; simp at hm
      | some p =>
        rw [hro] at hm
        obtain ⟨rs1, obs2⟩ := p
        simp at hm
        obtain ⟨rfl, rfl⟩ := hm
        obtain ⟨ρ', k1, k2, k3, k4⟩ := rowsOf_sound hst.wr hro (by simpa using hl) (fun i x v hx hv => hst.av (hr (i + 1) x v (by simpa using hx) (by simpa using hv)))
        refine ⟨ρ', hst.trans k1, by omega, by simp [k3], fun i d u hd hu => ?_⟩
        cases i with
        | zero => simp at hd hu; subst hd hu; exact hrow.mono k1.le
        | succ i => exact k4 i d u (by simpa using hd) (by simpa using hu)
    unfold rowsOf at h
    split at h
    · cases ‹_ = []›
    · rename_i f xs r heq
      cases heq
      exact fin _ _ xs (Step.refl rr) rfl ((SlRel.toRow h0).weaken) h
    · rename_i b xs r heq
      cases heq
      exact fin _ _ xs (Step.refl rr) rfl ((LRowRel.toRow h0).weaken) h
    · rename_i id g r heq
      cases heq
      split at h
      · rename_i xs g' nn ho
        split at h
        · rename_i hg
          subst hg
          obtain ⟨hv, _⟩ := own_arr rr ho h0
          subst hv
          obtain ⟨k1, k2, _⟩ := letgo_rel rr ho
          exact fin _ _ xs k1 (by simp) k2.weaken h
        · cases h
      · cases h
    · cases h

/-- What a new value comes to: as 'ok', or for every fresh label. -/
def NewOk (C : Ctx) (obs : List O) (w : World) (ρ : Nat → Value) (r : AV) (o : List O) (z : Value) (w' : World) : Prop :=
  ∃ ρ', Step C w w' obs o ρ ρ' ∧ AVRel (C.V w' o ρ') o ρ' r z

theorem parts_get {parts : List (Nat × AV)} {vs : List Value}
    (h : ∀ (i : Nat) (x : Nat × AV) (v : Value), parts[i]? = some x → vs[i]? = some v → AVRel (C.V w obs ρ) obs ρ x.2 v) :
    ∀ (i : Nat) (x : AV) (v : Value), (parts.map (·.2))[i]? = some x → vs[i]? = some v → AVRel (C.V w obs ρ) obs ρ x v := by
  intro i x v hx hv
  rw [List.getElem?_map, Option.map_eq_some_iff] at hx
  obtain ⟨p, hp, rfl⟩ := hx
  exact h i p v hp hv

theorem buildV_sound (hC : C.Ok) {t : TypeId} {n : Nat} {parts : List (Nat × AV)} (rr : WRel C obs w ρ) {pv : Array (Nat × Value)} (hpl : pv.toList.length = parts.length)
    (hpv : ∀ (i : Nat) (x : Nat × AV) (v : Nat × Value), parts[i]? = some x → pv.toList[i]? = some v → v.1 = x.1 ∧ AVRel (C.V w obs ρ) obs ρ x.2 v.2) :
    (∀ (vc : Prop) (r : AV) (o : List O), buildV (C.Γ t) n parts obs = .ok vc r o → vc → ∃ z w', (Instr.buildSlice t n pv).run C.P w = .ok z w' ∧ NewOk C obs w ρ r o z w') ∧
    (∀ (p : Nat → Prop) (r : AV) (o : Nat → List O), buildV (C.Γ t) n parts obs = .all p r o → ∃ z w' l, p l ∧ (Instr.buildSlice t n pv).run C.P w = .ok z w' ∧ NewOk C obs w ρ r (o l) z w') := by
  have hvs : ∃ vs : List Value, vs = pv.toList.map (·.2) := ⟨_, rfl⟩
  obtain ⟨vs, hvs⟩ := hvs
  have hvl : vs.length = parts.length := by rw [hvs]; simpa using hpl
  have hrel : ∀ (i : Nat) (x : Nat × AV) (v : Value), parts[i]? = some x → vs[i]? = some v → AVRel (C.V w obs ρ) obs ρ x.2 v := by
    intro i x v hx hv
    rw [hvs, List.getElem?_map, Option.map_eq_some_iff] at hv
    obtain ⟨p, hp, rfl⟩ := hv
    exact (hpv i x p hx hp).2
  have hparts : parts.map (·.1) = List.range n → n = vs.length ∧ pv.toList = (vs.zipIdx 0).map fun x => (x.2, x.1) := by
    intro h
    have hn : n = vs.length := by have := congrArg List.length h; simp at this; omega
    refine ⟨hn, ?_⟩
    apply List.ext_getElem?
    intro i
    by_cases hi : i < vs.length
    · have hp : i < parts.length := by omega
      have hq : i < pv.toList.length := by omega
      have hh := hpv i parts[i] pv.toList[i] (by simp [hp]) (by simp)
      have h1 : parts[i].1 = i := by
        have := congrArg (fun l => l[i]?) h
        simp [hp, show i < n by omega] at this
        exact this
      have h2 : vs[i] = pv.toList[i].2 := by simp [hvs]
      simp only [List.getElem?_map, List.getElem?_zipIdx]
      simp only [List.getElem?_eq_getElem (show i < pv.toList.length by omega), List.getElem?_eq_getElem hi, Option.map_some, Nat.zero_add]
      congr 1
      exact Prod.ext (by rw [hh.1, h1]) h2.symm
    · rw [List.getElem?_eq_none (by omega), List.getElem?_eq_none (by simp; omega)]
  have hav := parts_get hrel
  unfold buildV
  split
  case h_2 => exact ⟨fun _ _ _ h => (by cases h), fun _ _ _ h => (by cases h)⟩
  rename_i _ e he
  split
  case isFalse => exact ⟨fun _ _ _ h => (by cases h), fun _ _ _ h => (by cases h)⟩
  rename_i hc
  obtain ⟨hr, hn, h1⟩ := hc
  obtain ⟨rfl, hpp⟩ := hparts hr
  split
  · rename_i hel
    subst hel
    split
    · -- no part
      refine ⟨fun _ _ _ h _ => ?_, fun _ _ _ h => by cases h⟩
      cases h
      have hv0 : vs = [] := List.eq_nil_of_length_eq_zero (by simpa using hvl)
      obtain ⟨z, w', ρ', k1, k2, k3⟩ := buildNew (e2 := .lrow) (ds := []) hC he h1 rfl rr hn (by rw [hv0]; rfl) (fun _ _ i d v hd => by simp at hd) pv hpp
      exact ⟨z, w', k1, ρ', k2, k3⟩
    · rename_i a l xs
      refine ⟨fun _ _ _ h _ => ?_, fun _ _ _ h => by cases h⟩
      cases h
      obtain ⟨v0, hv0⟩ : ∃ v0, vs = [v0] := by
        match vs, hvl with
        | [v0], _ => exact ⟨v0, rfl⟩
      have hh := hav 0 _ v0 rfl (by rw [hv0]; rfl)
      obtain ⟨z, w', ρ', k1, k2, k3⟩ := buildNew (e2 := .lrow) (ds := [(l, xs)]) hC he h1 rfl rr hn (by rw [hv0]; rfl) (fun V' hV i d v hd hv => by
        rw [hv0] at hv
        cases i with
        | zero => simp at hd hv; subst hd hv; exact LRowRel.mono hV hh
        | succ i => simp at hd) pv hpp
      exact ⟨z, w', k1, ρ', k2, k3⟩
    · rename_i a xs
      refine ⟨fun _ _ _ h _ => ?_, fun _ _ _ h => by cases h⟩
      cases h
      obtain ⟨v0, hv0⟩ : ∃ v0, vs = [v0] := by
        match vs, hvl with
        | [v0], _ => exact ⟨v0, rfl⟩
      have hh := hav 0 _ v0 rfl (by rw [hv0]; rfl)
      obtain ⟨z, w', ρ', k1, k2, k3⟩ := buildNew (e2 := .row true) (ds := [xs]) hC he h1 rfl rr hn (by rw [hv0]; rfl) (fun V' hV i d v hd hv => by
        rw [hv0] at hv
        cases i with
        | zero => simp at hd hv; subst hd hv; exact RowRel.mono hV (SlRel.toRow hh)
        | succ i => simp at hd) pv hpp
      exact ⟨z, w', k1, ρ', k2, k3⟩
    · rename_i a id g
      refine ⟨fun vc r o h _ => ?_, fun p r o h => ?_⟩
      · split at h
        · split at h <;> cases h
        · cases h
      · split at h
        case h_2 => cases h
        rename_i xs g' ho
        split at h
        case isFalse => cases h
        rename_i hg
        subst hg
        cases h
        obtain ⟨v0, hv0⟩ : ∃ v0, vs = [v0] := by
          match vs, hvl with
          | [v0], _ => exact ⟨v0, rfl⟩
        have hh := hav 0 _ v0 rfl (by rw [hv0]; rfl)
        obtain ⟨hv, _⟩ := own_arr rr ho hh
        obtain ⟨m1, _, m3⟩ := letgo_rel rr ho
        obtain ⟨l, hl, hL⟩ := m3 rfl
        have hfresh : FreshL obs l := by
          intro o ho' ys gg nn heq p hp hpl
          subst heq
          obtain ⟨j, hj⟩ := List.getElem?_of_mem ho'
          obtain ⟨cs, _, henc, _⟩ := rr.os j _ hj
          obtain ⟨i, hi⟩ := List.getElem?_of_mem hp
          have hlt : i < ys.length := (List.getElem?_eq_some_iff.1 hi).1
          obtain ⟨u, hu, _⟩ := henc.2 i hlt
          have hpi : ys[i] = p := (List.getElem?_eq_some_iff.1 hi).2
          rw [hpi] at hu
          obtain ⟨cap, cur, _, _, hH, _⟩ := hu
          rw [hpl] at hH
          have hown : Own obs ρ l := ⟨id, _, ho, by simpa [fpo] using hl⟩
          simp [Ctx.V, mask, hown] at hH
        obtain ⟨z, w', ρ', k1, k2, k3⟩ := buildNew (obs := obs.set id .dead) (ρ := fun i => if i = id then ρ id else ρ i) (e2 := .lrow) (ds := [(l, xs)]) hC he h1 rfl m1.wr hn (by rw [hv0]; rfl) (fun V' hV i d v hd hv' => by
          rw [hv0] at hv'
          cases i with
          | zero => simp at hd hv'; subst hd hv'; rw [hv]; exact LRowRel.mono hV hL
          | succ i => simp at hd) pv hpp
        rw [List.length_set] at k3
        exact ⟨z, w', l, hfresh, k1, ρ', m1.trans k2, k3⟩
    · refine ⟨fun vc r o h _ => ?_, fun p r o h => ?_⟩
      · split at h
        case h_2 => cases h
        rename_i l obs' hro
        cases h
        obtain ⟨ρ1, m1, m2, m3, m4⟩ := rowsOf_sound rr hro (by simpa using hvl) hav
        obtain ⟨z, w', ρ', k1, k2, k3⟩ := buildNew (obs := obs') (ρ := ρ1) (e2 := .row false) (ds := l) hC he h1 rfl m1.wr hn m3 (fun V' hV i d v hd hv => RowRel.mono hV (m4 i d v hd hv)) pv hpp
        rw [m2] at k3
        exact ⟨z, w', k1, ρ', m1.trans k2, k3⟩
      · split at h <;> cases h
  · refine ⟨fun vc r o h hvc => ?_, fun p r o h => ?_⟩
    · split at h
      case h_2 => cases h
      rename_i l hal
      cases h
      obtain ⟨m1, m2⟩ := allE_rel hal (by simpa using hvl) hvc hav
      obtain ⟨z, w', ρ', k1, k2, k3⟩ := buildNew (e2 := e) (ds := l) hC he h1 rfl rr hn m1 (fun V' hV i d v hd hv => (m2 i d v hd hv).mono hV) pv hpp
      exact ⟨z, w', k1, ρ', k2, k3⟩
    · split at h <;> cases h

end sound
end Go.Aw

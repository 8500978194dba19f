/- Operations, the last of them; the walk through a region. -/
import Derived.Test.YtbeeblhmgpgkjaaAw6
import Derived.Laws.CopyRow
import Derived.Laws.IdiomCopy
set_option linter.unusedVariables false
set_option linter.unusedSimpArgs false
namespace Go.Aw
open Go

/-- copy(dst, src), whole numbers. -/
def copyV (e? : Option E) (d s : AV) (obs : List O) : Res :=
  match e?, d with
  | some .int, .own id g => match obs[id]? with
    | some (.arr .int xs g' nn) => if g = g' then
        match srcL .int s obs (some id) with
        | some zs => .ok True (.int .i64 (min zs.length xs.length : Nat)) (obs.set id (.arr .int (zs.take xs.length ++ xs.drop zs.length) g nn))
        | none => .bad
      else .bad
    | _ => .bad
  | _, _ => .bad

section sound
variable {C : Ctx} {obs : List O} {w : World} {ρ : Nat → Value}

theorem run_bounds {len cap : Nat} {isS : Bool} {lo hi : Option AV} {l h : Int} {lv hv : Option Value} (hlv : lv.isSome = lo.isSome) (hhv : hv.isSome = hi.isSome)
    (hlo : ∀ x v, lo = some x → lv = some v → AVRel (C.V w obs ρ) obs ρ x v) (hhi : ∀ x v, hi = some x → hv = some v → AVRel (C.V w obs ρ) obs ρ x v)
    (h1 : bnd 0 lo = some l) (h2 : bnd len hi = some h) (h0 : 0 ≤ l) (hlh : l ≤ h) (hc : h ≤ cap) (w' : World) :
    (Instr.sliceBounds isS len cap lv hv none).run C.P w' = .ok (l.toNat, h.toNat, cap) w' := by
  have hh0 : 0 ≤ h := by omega
  have el : (match lv with | some v => Instr.sliceBound v h.toNat .sliceB | none => pure 0 : Sem Nat).run C.P w' = .ok l.toNat w' := by
    cases lo with
    | none =>
      simp [bnd] at h1
      subst h1
      cases lv with
      | none => rfl
      | some v => simp at hlv
    | some x =>
      cases lv with
      | none => simp at hlv
      | some v =>
        have := hlo x v rfl rfl
        unfold bnd at h1
        split at h1
        · cases ‹some x = none›
        · rename_i k n heq
          cases heq
          cases h1
          cases this
          have hle : l ≤ (h.toNat : Int) := by omega
          exact run_sliceBound _ _ _ _ _ h0 hle
        · cases h1
  have eh : (match hv with | some v => Instr.sliceBound v cap (if isS then .sliceAcap else .sliceAlen) | none => pure len : Sem Nat).run C.P w' = .ok h.toNat w' := by
    cases hi with
    | none =>
      simp [bnd] at h2
      subst h2
      cases hv with
      | none => simp
      | some v => simp at hhv
    | some x =>
      cases hv with
      | none => simp at hhv
      | some v =>
        have := hhi x v rfl rfl
        unfold bnd at h2
        split at h2
        · cases ‹some x = none›
        · rename_i k n heq
          cases heq
          cases h2
          cases this
          exact run_sliceBound _ _ _ _ _ hh0 hc
        · cases h2
  unfold Instr.sliceBounds
  cases hv with
  | none =>
    simp only [Option.isSome_none] at hhv
    simp only [Sem.run_bind, Sem.run_pure, Result.andThen_ok] at eh ⊢
    cases eh
    cases lv with
    | none => simp at el ⊢; exact el
    | some v => simp only [Option.isSome_none] at el ⊢; simp [el]
  | some v =>
    simp only [Sem.run_bind, Sem.run_pure, Result.andThen_ok] at eh ⊢
    rw [eh]
    cases lv with
    | none => simp at el ⊢; exact el
    | some v => simp [el]

theorem sliceV_sound (hC : C.Ok) {t : TypeId} {x : AV} {lo hi : Option AV} {vc : Prop} {r : AV} {o : List O} (ht : (∃ s, x = .str s ∧ C.bt t = some .str) ∨ ∃ e, C.Γ t = some e ∧ ((∃ f e' xs, x = .sl f e' xs ∧ e'.size = e.size) ∨ (∃ l xs, x = .lr l xs ∧ e.size = 1)))
    {u : Value} {lv hv : Option Value} (hlv : lv.isSome = lo.isSome) (hhv : hv.isSome = hi.isSome)
    (hx : AVRel (C.V w obs ρ) obs ρ x u) (hlo : ∀ x v, lo = some x → lv = some v → AVRel (C.V w obs ρ) obs ρ x v) (hhi : ∀ x v, hi = some x → hv = some v → AVRel (C.V w obs ρ) obs ρ x v)
    (h : sliceV x lo hi obs = .ok vc r o) (hvc : vc) :
    o = obs ∧ ∃ z, AVRel (C.V w obs ρ) obs ρ r z ∧ ∀ w', (Instr.sliceAt t u lv hv none).run C.P w' = .ok z w' := by
  have core : ∀ (f : Bool) (e e' : E) (xs : List e'.D) (l h : Int), C.Γ t = some e → e'.size = e.size → SlRel (C.V w obs ρ) f e' xs u → bnd 0 lo = some l → bnd xs.length hi = some h → 0 ≤ l → l ≤ h → h ≤ xs.length →
      ∃ z, SlRel (C.V w obs ρ) f e' ((xs.drop l.toNat).take (h.toNat - l.toNat)) z ∧ ∀ w', (Instr.sliceAt t u lv hv none).run C.P w' = .ok z w' := by
    intro f e e' xs l h he hse hs h1 h2 h0 hlh hle
    obtain ⟨hu, i, hinf, _, hsz, _⟩ := hC.sl t e he
    have hs' := hs
    obtain ⟨base, cap, rfl, hc1, hc2, _⟩ := hs'
    have hb := run_bounds (C := C) (isS := true) (cap := cap) hlv hhv hlo hhi h1 h2 h0 hlh (by omega)
    refine ⟨.slice (if cap = l.toNat then base else base.map (·.add (l.toNat * e.size))) (h.toNat - l.toNat) (cap - l.toNat), ?_, fun w' => ?_⟩
    · refine SlRel.piece hs (by omega) (by omega) (by omega) hc2 ?_
      intro hlt
      rw [if_neg (by omega), hse]
    · simp [Instr.sliceAt, run_underlying hu, Instr.slice, hb w', sizeOf, typeInfo, hinf, hsz]
  unfold sliceV at h
  split at h
  · rename_i f e' xs
    split at h
    case h_2 => cases h
    rename_i l hh h1 h2
    cases h
    obtain ⟨h0, hlh, hle⟩ := hvc
    rcases ht with ⟨s, hs, _⟩ | ⟨e, he, ⟨f2, e2, xs2, heq, hse⟩ | ⟨l2, xs2, heq, _⟩⟩
    · cases hs
    · cases heq
      obtain ⟨z, k1, k2⟩ := core f e e' xs l hh he hse hx h1 h2 h0 hlh hle
      exact ⟨rfl, z, k1, k2⟩
    · cases heq
  · rename_i l0 xs
    split at h
    case h_2 => cases h
    rename_i l hh h1 h2
    cases h
    obtain ⟨h0, hlh, hle⟩ := hvc
    rcases ht with ⟨s, hs, _⟩ | ⟨e, he, ⟨f2, e2, xs2, heq, hse⟩ | ⟨l2, xs2, heq, hse⟩⟩
    · cases hs
    · cases heq
    · cases heq
      obtain ⟨z, k1, k2⟩ := core true e .int xs l hh he (by rw [hse]; rfl) (LRowRel.toRow hx).toSl h1 h2 h0 hlh hle
      exact ⟨rfl, z, k1, k2⟩
  · rename_i s
    split at h
    case h_2 => cases h
    rename_i l hh h1 h2
    cases h
    obtain ⟨h0, hlh, hle⟩ := hvc
    rcases ht with ⟨s', hs, hb⟩ | ⟨e, he, ⟨f2, e2, xs2, heq, hse⟩ | ⟨l2, xs2, heq, hse⟩⟩
    · cases hs
      obtain ⟨hu, _⟩ := hC.bt t _ hb
      simp only [BT.desc] at hu
      simp only [AVRel] at hx
      subst hx
      have esz : (⟨s.toArray⟩ : ByteArray).size = s.length := by simp [ByteArray.size]
      have hbd := run_bounds (C := C) (isS := false) (cap := s.length) hlv hhv hlo hhi h1 h2 h0 hlh (by omega)
      refine ⟨rfl, .string (ByteArray.extract ⟨s.toArray⟩ l.toNat hh.toNat), ?_, fun w' => ?_⟩
      · simp only [AVRel]
        congr 1
        apply bytes_ext
        simp [ByteArray.data_extract]
      · simp only [Instr.sliceAt, Instr.slice, Sem.run_bind, run_underlying hu, Result.andThen_ok]
        simp only [Option.isSome_none, Bool.false_eq_true, if_false, esz, Sem.run_bind, hbd w', Result.andThen_ok]
        simp
    · cases heq
    · cases heq
  · cases h
where
  bytes_ext {a b : ByteArray} (h : a.data.toList = b.data.toList) : a = b := by
    cases a; cases b; congr 1; exact Array.ext' h

theorem enc_ints {V : Vw} {xs : List Int} {cs : List Value} (h : Enc V .int xs cs) : cs = xs.map (Value.int .i64) := by
  apply List.ext_getElem?
  intro i
  have hl := h.1
  simp only [E.size, Nat.mul_one] at hl
  by_cases hi : i < xs.length
  · obtain ⟨u, hu, hc⟩ := h.2 i hi
    have h0 := hc 0 (by simp [E.size])
    cases hu
    simp [E.size, Value.cells] at h0
    rw [h0]
    simp [hi]
  · rw [List.getElem?_eq_none (by omega), List.getElem?_eq_none (by simp; omega)]

theorem ints_enc {V : Vw} (xs : List Int) : Enc V .int xs (xs.map (Value.int .i64)) :=
  ⟨by simp [E.size], fun i hi => ⟨_, rfl, fun j hj => by
    have : j = 0 := by simp [E.size] at hj; omega
    subst this
    simp [E.size, Value.cells, hi]⟩⟩

theorem copyV_sound (hC : C.Ok) {t t2 ty : TypeId} {x y : AV} {vc : Prop} {r : AV} {o : List O} (rr : WRel C obs w ρ) {u v : Value}
    (hx : AVRel (C.V w obs ρ) obs ρ x u) (hy : AVRel (C.V w obs ρ) obs ρ y v) (h : copyV (C.Γ t) x y obs = .ok vc r o) :
    ∃ z w', (Builtin.copy_ #[t, t2] ty #[u, v]).run C.P w = .ok z w' ∧ Step C w w' obs o ρ ρ ∧ AVRel (C.V w' o ρ) o ρ r z := by
  unfold copyV at h
  split at h
  case h_2 => cases h
  rename_i _ id g he
  split at h
  case h_2 => cases h
  rename_i xs g' nn ho
  split at h
  case isFalse => cases h
  rename_i hg
  subst hg
  split at h
  case h_2 => cases h
  rename_i zs hz
  cases h
  obtain ⟨ht, i, hi, _, hsize, _⟩ := hC.sl t .int he
  have hsz : (C.P.info? (C.tid .int)).map (·.size) = some 1 := by rw [hi]; simp [hsize, E.size]
  obtain ⟨hρ, cs, hown, henc, hnn, hml⟩ := own_arr rr ho hx
  have hcs := enc_ints henc
  subst hcs
  have same : (zs = [] ∨ xs = []) → obs.set id (.arr .int (zs.take xs.length ++ xs.drop zs.length) g nn) = obs := by
    intro h
    have e : zs.take xs.length ++ xs.drop zs.length = xs := by rcases h with rfl | rfl <;> simp
    rw [e]
    apply List.ext_getElem?
    intro j
    by_cases hj : id = j
    · subst hj; rw [List.getElem?_set_self (List.getElem?_eq_some_iff.1 ho).1, ho]
    · rw [List.getElem?_set_ne hj]
  have none_ : (zs = [] ∨ xs = []) → ∀ d a dLen dCap sLen sCap, u = .slice d dLen dCap → v = .slice a sLen sCap → Nat.min sLen dLen = 0 →
      ∃ z w', (Builtin.copy_ #[t, t2] ty #[u, v]).run C.P w = .ok z w' ∧ Step C w w' obs (obs.set id (.arr .int (zs.take xs.length ++ xs.drop zs.length) g nn)) ρ ρ ∧
        AVRel (C.V w' (obs.set id (.arr .int (zs.take xs.length ++ xs.drop zs.length) g nn)) ρ) (obs.set id (.arr .int (zs.take xs.length ++ xs.drop zs.length) g nn)) ρ (.int .i64 (min zs.length xs.length : Nat)) z := by
    intro h0 d a dLen dCap sLen sCap hu hv hn
    rw [same h0, hu, hv]
    refine ⟨_, w, run_copy_none (P := C.P) w t t2 ty (C.tid .int) d a dLen dCap sLen sCap ht hsz hn, Step.refl rr, ?_⟩
    have : min zs.length xs.length = 0 := by rcases h0 with rfl | rfl <;> simp
    rw [this]
    rfl
  rcases srcL_sound rr hy hz with ⟨hz0, b, c, hv⟩ | ⟨a, c, news, hv, hcell, hone, henc2⟩
  · obtain ⟨a, cap, hu⟩ := ownsRow_len hown
    exact none_ (.inl hz0) _ _ _ _ _ _ hu hv (by simp)
  · have hn := enc_ints henc2
    subst hn
    rcases hown.2 with ⟨hu, hx0⟩ | ⟨b, cap, cur, hu, _, hgc, m1, m2, m3, m4⟩
    · exact none_ (.inr (List.eq_nil_of_length_eq_zero hx0)) _ _ _ _ _ _ hu hv (by simp)
    · have hfp : fpo (ρ id) (.arr .int xs g nn) b := by rw [← hρ]; simp [fpo, hu, Value.ownBlock]
      have m4' : cur.toList.take xs.length = xs.map (Value.int .i64) := by simpa [E.size] using m4
      have m3' : cur.size = cap := by simpa [E.size] using m3
      have hlen : ((zs.map (Value.int .i64)).take xs.length).length = Nat.min zs.length xs.length := by rw [List.length_take, List.length_map, Nat.min_comm]
      have hmin : Nat.min zs.length xs.length ≤ cap := Nat.le_trans (Nat.min_le_right ..) m1
      have hrun := run_copy_row (P := C.P) w t t2 ty (C.tid .int) b 0 xs.length cap a zs.length c cur (C.tid .int) ((zs.map (Value.int .i64)).take xs.length) ht hsz hgc hlen
        (fun j q hq => by
          rw [List.getElem?_take] at hq
          split at hq
          · exact hcell j q hq
          · cases hq) (by rw [hlen]; omega) (fun q hq => hone q (List.mem_of_mem_take hq))
      rw [hlen] at hrun
      rw [hu, hv]
      refine ⟨_, _, hrun, ?_, rfl⟩
      have hρe : (fun i => if i = id then ρ id else ρ i) = ρ := by funext i; split <;> simp_all
      have hfpe : ∀ b', fpo (ρ id) (.arr .int xs g nn) b' → b' = b := fun b' hb' => by rw [← hρ] at hb'; simp [fpo, hu, Value.ownBlock] at hb'; exact hb'.symm
      have hext : Ext (fun b' => fpo (ρ id) (.arr .int xs g nn) b') w (w.setRow b (cur.toList.take 0 ++ (zs.map (Value.int .i64)).take xs.length ++ cur.toList.drop (0 + Nat.min zs.length xs.length)).toArray) :=
        ⟨rfl, rfl, rfl, by simp, fun b' _ hS => setRow_other w b b' _ fun e => hS (e ▸ hfp)⟩
      have hb : ∀ b', fpo (ρ id) (.arr .int (zs.take xs.length ++ xs.drop zs.length) g nn) b' → fpo (ρ id) (.arr .int xs g nn) b' ∨ w.heap.size ≤ b' := fun b' hb' => .inl hb'
      have T := Turn.one rr id (.arr .int xs g nn) (.arr .int (zs.take xs.length ++ xs.drop zs.length) g nn) (ρ id) ho hext (w' := w.setRow b (cur.toList.take 0 ++ (zs.map (Value.int .i64)).take xs.length ++ cur.toList.drop (0 + Nat.min zs.length xs.length)).toArray)
        (by
          have e1 : (zs.take xs.length ++ xs.drop zs.length).length = xs.length := by simp; omega
          refine ⟨(zs.take xs.length ++ xs.drop zs.length).map (Value.int .i64), ⟨by simp [E.size], .inr ⟨b, cap, _, by rw [← hρ, e1]; exact hu, Nat.zero_le _, setRow_heap w b cur _ _ _ hgc, by rw [e1]; exact m1, m2, ?_, ?_⟩⟩, ints_enc _, by rw [← hρ]; exact hnn, by rw [e1]; exact hml⟩
          · have := Nat.min_le_left zs.length xs.length
            have hcl : cur.toList.length = cap := by simpa using m3'
            simp [E.size, -Array.length_toList]
            rw [hcl]
            have e5 : min xs.length zs.length = Nat.min zs.length xs.length := Nat.min_comm _ _
            have e6 : zs.length.min xs.length = min zs.length xs.length := rfl
            omega
          · have hcl : cur.toList.length = cap := by simpa using m3'
            rw [e1]
            have e7 : cur.toList = xs.map (Value.int .i64) ++ cur.toList.drop xs.length := by rw [← m4', List.take_append_drop]
            apply List.ext_getElem?
            intro j
            simp only [E.size, Nat.mul_one, List.take_zero, List.nil_append, Nat.zero_add, List.getElem?_take, List.getElem?_append, List.length_take, List.length_map, List.getElem?_drop, List.map_append, List.map_take, List.map_drop]
            have e6 : zs.length.min xs.length = min zs.length xs.length := rfl
            rw [e6]
            by_cases hj : j < xs.length
            · rw [if_pos hj]
              by_cases hj2 : j < min xs.length zs.length
              · rw [if_pos hj2, if_pos hj2]
              · rw [if_neg hj2, if_neg hj2]
                have h3 : zs.length ≤ j := by omega
                have h4 : min zs.length xs.length + (j - min xs.length zs.length) = j := by omega
                have h5 : zs.length + (j - min xs.length zs.length) = j := by omega
                rw [h4, h5, e7, List.getElem?_append_left (by simpa using hj)]
            · rw [if_neg hj, if_neg (by omega)]
              rw [List.getElem?_eq_none]
              simp; omega) hb
        (by
          intro c' hc'
          simp [O.gen] at hc'
          exact ⟨g, by simp [O.gen], .inl ⟨hc'.symm, rfl⟩⟩)
      rw [hρe] at T
      exact T.step rr

end sound
end Go.Aw

/- Operations, the last of them; the walk through a region. -/
import Derived.Test.YtjmhkklhcllgcaaAw6
set_option linter.unusedVariables false
set_option linter.unusedSimpArgs false
namespace Go.Aw
open Go

section sound
variable {C : Ctx} {obs : List O} {w : World} {ρ : Nat → Value}

theorem run_bounds {len cap : Nat} {isS : Bool} {lo hi : Option AV} {l h : Int} {lv hv : Option Value} (hlv : lv.isSome = lo.isSome) (hhv : hv.isSome = hi.isSome)
    (hlo : ∀ x v, lo = some x → lv = some v → AVRel (C.V w obs ρ) obs ρ x v) (hhi : ∀ x v, hi = some x → hv = some v → AVRel (C.V w obs ρ) obs ρ x v)
    (h1 : bnd 0 lo = some l) (h2 : bnd len hi = some h) (h0 : 0 ≤ l) (hlh : l ≤ h) (hc : h ≤ cap) (w' : World) :
    (Instr.sliceBounds isS len cap lv hv none).run C.P w' = .ok (l.toNat, h.toNat, cap) w' := by
  have hh0 : 0 ≤ h := by omega
  have el : (match lv with | some v => Instr.sliceBound v h.toNat .sliceB | none => pure 0 : Sem Nat).run C.P w' = .ok l.toNat w' := by
    cases lo with
    | none =>
      simp [bnd] at h1
      subst h1
      cases lv with
      | none => rfl
      | some v => simp at hlv
    | some x =>
      cases lv with
      | none => simp at hlv
      | some v =>
        have := hlo x v rfl rfl
        unfold bnd at h1
        split at h1
        · cases ‹some x = none›
        · rename_i k n heq
          cases heq
          cases h1
          cases this
          have hle : l ≤ (h.toNat : Int) := by omega
          exact run_sliceBound _ _ _ _ _ h0 hle
        · cases h1
  have eh : (match hv with | some v => Instr.sliceBound v cap (if isS then .sliceAcap else .sliceAlen) | none => pure len : Sem Nat).run C.P w' = .ok h.toNat w' := by
    cases hi with
    | none =>
      simp [bnd] at h2
      subst h2
      cases hv with
      | none => simp
      | some v => simp at hhv
    | some x =>
      cases hv with
      | none => simp at hhv
      | some v =>
        have := hhi x v rfl rfl
        unfold bnd at h2
        split at h2
        · cases ‹some x = none›
        · rename_i k n heq
          cases heq
          cases h2
          cases this
          exact run_sliceBound _ _ _ _ _ hh0 hc
        · cases h2
  unfold Instr.sliceBounds
  cases hv with
  | none =>
    simp only [Option.isSome_none] at hhv
    simp only [Sem.run_bind, Sem.run_pure, Result.andThen_ok] at eh ⊢
    cases eh
    cases lv with
    | none => simp at el ⊢; exact el
    | some v => simp only [Option.isSome_none] at el ⊢; simp [el]
  | some v =>
    simp only [Sem.run_bind, Sem.run_pure, Result.andThen_ok] at eh ⊢
    rw [eh]
    cases lv with
    | none => simp at el ⊢; exact el
    | some v => simp [el]

theorem sliceV_sound (hC : C.Ok) {t : TypeId} {x : AV} {lo hi : Option AV} {vc : Prop} {r : AV} {o : List O} (ht : (∃ s, x = .str s ∧ C.bt t = some .str) ∨ ∃ e, C.Γ t = some e ∧ ((∃ f e' xs, x = .sl f e' xs ∧ e'.size = e.size) ∨ (∃ l xs, x = .lr l xs ∧ e.size = 1)))
    {u : Value} {lv hv : Option Value} (hlv : lv.isSome = lo.isSome) (hhv : hv.isSome = hi.isSome)
    (hx : AVRel (C.V w obs ρ) obs ρ x u) (hlo : ∀ x v, lo = some x → lv = some v → AVRel (C.V w obs ρ) obs ρ x v) (hhi : ∀ x v, hi = some x → hv = some v → AVRel (C.V w obs ρ) obs ρ x v)
    (h : sliceV x lo hi obs = .ok vc r o) (hvc : vc) :
    o = obs ∧ ∃ z, AVRel (C.V w obs ρ) obs ρ r z ∧ ∀ w', (Instr.sliceAt t u lv hv none).run C.P w' = .ok z w' := by
  have core : ∀ (f : Bool) (e e' : E) (xs : List e'.D) (l h : Int), C.Γ t = some e → e'.size = e.size → SlRel (C.V w obs ρ) f e' xs u → bnd 0 lo = some l → bnd xs.length hi = some h → 0 ≤ l → l ≤ h → h ≤ xs.length →
      ∃ z, SlRel (C.V w obs ρ) f e' ((xs.drop l.toNat).take (h.toNat - l.toNat)) z ∧ ∀ w', (Instr.sliceAt t u lv hv none).run C.P w' = .ok z w' := by
    intro f e e' xs l h he hse hs h1 h2 h0 hlh hle
    obtain ⟨hu, i, hinf, _, hsz, _⟩ := hC.sl t e he
    have hs' := hs
    obtain ⟨base, cap, rfl, hc1, hc2, _⟩ := hs'
    have hb := run_bounds (C := C) (isS := true) (cap := cap) hlv hhv hlo hhi h1 h2 h0 hlh (by omega)
    refine ⟨.slice (if cap = l.toNat then base else base.map (·.add (l.toNat * e.size))) (h.toNat - l.toNat) (cap - l.toNat), ?_, fun w' => ?_⟩
    · refine SlRel.piece hs (by omega) (by omega) (by omega) hc2 ?_
      intro hlt
      rw [if_neg (by omega), hse]
    · simp [Instr.sliceAt, run_underlying hu, Instr.slice, hb w', sizeOf, typeInfo, hinf, hsz]
  unfold sliceV at h
  split at h
  · rename_i f e' xs
    split at h
    case h_2 => cases h
    rename_i l hh h1 h2
    cases h
    obtain ⟨h0, hlh, hle⟩ := hvc
    rcases ht with ⟨s, hs, _⟩ | ⟨e, he, ⟨f2, e2, xs2, heq, hse⟩ | ⟨l2, xs2, heq, _⟩⟩
    · cases hs
    · cases heq
      obtain ⟨z, k1, k2⟩ := core f e e' xs l hh he hse hx h1 h2 h0 hlh hle
      exact ⟨rfl, z, k1, k2⟩
    · cases heq
  · rename_i l0 xs
    split at h
    case h_2 => cases h
    rename_i l hh h1 h2
    cases h
    obtain ⟨h0, hlh, hle⟩ := hvc
    rcases ht with ⟨s, hs, _⟩ | ⟨e, he, ⟨f2, e2, xs2, heq, hse⟩ | ⟨l2, xs2, heq, hse⟩⟩
    · cases hs
    · cases heq
    · cases heq
      obtain ⟨z, k1, k2⟩ := core true e .int xs l hh he (by rw [hse]; rfl) (LRowRel.toRow hx).toSl h1 h2 h0 hlh hle
      exact ⟨rfl, z, k1, k2⟩
  · rename_i s
    split at h
    case h_2 => cases h
    rename_i l hh h1 h2
    cases h
    obtain ⟨h0, hlh, hle⟩ := hvc
    rcases ht with ⟨s', hs, hb⟩ | ⟨e, he, ⟨f2, e2, xs2, heq, hse⟩ | ⟨l2, xs2, heq, hse⟩⟩
    · cases hs
      obtain ⟨hu, _⟩ := hC.bt t _ hb
      simp only [BT.desc] at hu
      simp only [AVRel] at hx
      subst hx
      have esz : (⟨s.toArray⟩ : ByteArray).size = s.length := by simp [ByteArray.size]
      have hbd := run_bounds (C := C) (isS := false) (cap := s.length) hlv hhv hlo hhi h1 h2 h0 hlh (by omega)
      refine ⟨rfl, .string (ByteArray.extract ⟨s.toArray⟩ l.toNat hh.toNat), ?_, fun w' => ?_⟩
      · simp only [AVRel]
        congr 1
        apply bytes_ext
        simp [ByteArray.data_extract]
      · simp only [Instr.sliceAt, Instr.slice, Sem.run_bind, run_underlying hu, Result.andThen_ok]
        simp only [Option.isSome_none, Bool.false_eq_true, if_false, esz, Sem.run_bind, hbd w', Result.andThen_ok]
        simp
    · cases heq
    · cases heq
  · cases h
where
  bytes_ext {a b : ByteArray} (h : a.data.toList = b.data.toList) : a = b := by
    cases a; cases b; congr 1; exact Array.ext' h

end sound
end Go.Aw

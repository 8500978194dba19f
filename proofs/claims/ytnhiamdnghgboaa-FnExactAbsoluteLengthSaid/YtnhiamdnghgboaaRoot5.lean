/- The reflection with a positive root: what the reference does. -/
import Derived.Test.YtnhiamdnghgboaaRoot4
set_option linter.unusedVariables false
set_option linter.unusedSimpArgs false
namespace Go.Proofs.Ytnhiamdnghgboaa
open Go Go.Aw Go.Cox

theorem Run.joinP {C : Ctx} {i j : Item} {k : List Item} {σ : St} (σ' : St) (p : Prop) (h1 : p → Run C k σ') (h2 : (p → Run C k σ') → Run C (i :: j :: k) σ) : Run C (i :: j :: k) σ := h2 h1

theorem c_spec_ReflectionOf (c : List (List Int)) (r : List Int) :
    FunA B 31 [.sl false (.row false) c, .sl false .int r] (fun rs o => rs = [.own 0 0, .bool (rflB c r)] ∧ o = [.arr .int (rflX c r) 0 true]) := by
  refine FunA.walk B_ok (fn := Try.f31) (fun vs w => Try.call31 vs w) Try.func31 rfl (by rw [Try.ntmps31]; simp) (fun C hC hP hT hΓ hbt hfn hpin hfin => ?_); have hX := BX; rw [← hΓ, ← hbt] at hX; rw [Try.ntmps31]; simp only [AW5, simprocAttr, hX]
  refine Run.nq ?_; refine Run.regionW hC (fun K hK => ?_); simp only [AW5, simprocAttr, hX]; (repeat (with_reducible refine And.intro ?_ ?_); exact vc0); refine hK _ ?_; clear hK K; refine Run.nq ?_
  refine Run.nq ?_; refine Run.regionW hC (fun K hK => ?_); simp only [AW5, simprocAttr, hX]; (repeat (with_reducible refine And.intro ?_ ?_); exact vc0)
  refine FunA.callW hP hT (c_spec_IsRootVector c r) (by simp only [AW5, simprocAttr]) ?_
  rintro rs o ⟨rfl, rfl⟩
  (try simp only [AW5, simprocAttr, hX]); (repeat (with_reducible refine And.intro ?_ ?_); exact vc0)
  refine .inl (FunA.callG hP hT (c_spec_RootSign r) (fun _ => rfl) (fun _ => by simp only [AW5, simprocAttr]) ?_)
  (try simp only [AW5, simprocAttr, hX]); (repeat (with_reducible refine And.intro ?_ ?_); exact vc0)
  (repeat (with_reducible refine And.intro ?_ ?_); exact vc0); refine hK _ ?_; clear hK K; refine Run.nq ?_
  refine Run.nq ?_; refine Run.condW (by simp only [AW5, simprocAttr, hX]; rfl) (by simp only [AW5, simprocAttr, hX]) ?_ ?_
  · intro h
    have h : (wgtB c r && (sgnR r == 1)) = false := by
      revert h
      cases wgtB c r with
      | false => simp
      | true =>
        intro h
        have h : sgnR r ≤ 0 := by simpa using h
        have := sgnR_pos.1 h
        simpa using this
    obtain ⟨e1, e2⟩ := rfl_none (rfl_off h)
    refine Run.nq ?_; refine Run.regionW hC (fun K hK => ?_); simp only [AW5, simprocAttr, hX]; (repeat (with_reducible refine And.intro ?_ ?_); exact vc0); refine hK _ ?_; clear hK K; refine Run.nq ?_
    refine Run.reK hpin [4, 5] [0] (by decide) (by simp) ?_; simp only [AR, AW5, simprocAttr]
    refine Run.retW [4, 5] (by decide) (by rw [hfn]; rfl) (by simp only [AW5, simprocAttr, hX]; rfl) (by simp only [AW5, simprocAttr, hX]) (hfin _ _ rfl rfl ?_)
    rw [e1, e2]; exact ⟨rfl, rfl⟩
  intro h
  have hwb : wgtB c r = true := by revert h; cases wgtB c r <;> simp
  have hsg : sgnR r = 1 := by
    revert h; rw [hwb]; intro h
    have h : ¬ sgnR r ≤ 0 := by simpa using h
    cases Int.decEq (sgnR r) 1 with
    | isTrue h1 => exact h1
    | isFalse h1 => exact absurd (sgnR_pos.2 h1) h
  obtain ⟨hc, hw⟩ := wgtB_iff.1 hwb
  have hn := hc.2.1
  have hO := rfl_on hwb hsg
  have hrl := hw.1
  refine Run.nq ?_; refine Run.regionW hC (fun K hK => ?_); simp only [AW5, simprocAttr, hX]; (repeat (with_reducible refine And.intro ?_ ?_); exact vc0); refine hK _ ?_; clear hK K; refine Run.nq ?_
  refine Run.nq ?_; refine Run.regionW hC (fun K hK => ?_); simp only [AW5, simprocAttr, hX]; (repeat (with_reducible refine And.intro ?_ ?_); exact vc0); refine hK _ ?_; clear hK K; refine Run.nq ?_
  refine Run.nq ?_; refine Run.regionW hC (fun K hK => ?_); simp only [AW5, simprocAttr, hX]; (repeat (with_reducible refine And.intro ?_ ?_); exact vc0); refine hK _ ?_; clear hK K; refine Run.nq ?_
  refine Run.reK hpin [0, 1, 6, 7, 8] [0, 1] (by decide) (by simp) ?_; simp only [AR, AW5, simprocAttr]
  refine Run.loopI (X := List Int × List Int) (fun x => ⟨92, [(0, true, .v (.sl false (.row false) (c))), (1, true, .v (.sl false .int (r))), (6, true, .v (.own 0 0)), (7, true, .v (.own 1 0)), (8, true, .v (.int .i64 (x.2.length)))], [.arr .int (x.1) 0 true, .arr .int (x.2) 0 true]⟩) (fun x => Dn c x.1 ∧ x.2.length ≤ 8 ∧ letters c.length x.2 ∧ (x.2.length ≤ 7 → rflO c r = rflP c (7 - x.2.length) x.1 x.2) ∧ (x.2.length = 8 → rflO c r = none)) (fun x => 8 - x.2.length) ((r, [])) (⟨Dn.start hc hw hsg, by simp, letters_nil _, fun _ => hO, fun h => by simp at h⟩) ?_ ?_
  · exact Le.sub (by first | rfl | simp) (by simp only [AW5, simprocAttr, hX]; try simp <;> try (first | rfl | exact ⟨rfl, rfl⟩ | exact ⟨rfl, rfl, rfl⟩))
  rintro ⟨s, p⟩ ⟨hD, hp8, hpl, hE, hZ⟩ ihO
  try simp only []
  simp only [] at hD hp8 hpl hE hZ
  have hb := hD.bnd
  have hl := hD.len
  refine Run.nq ?_; refine Run.regionW hC (fun K hK => ?_); simp only [AW5, simprocAttr, hX]; (repeat (with_reducible refine And.intro ?_ ?_); exact vc0); refine hK _ ?_; clear hK K; refine Run.nq ?_
  refine Run.nq ?_; refine Run.condW (by simp only [AW5, simprocAttr, hX]; rfl) (by simp only [AW5, simprocAttr, hX]) ?_ ?_
  rotate_left
  · intro h1
    have h1 : p.length = 8 := by simp at h1; omega
    obtain ⟨e1, e2⟩ := rfl_none (hZ h1)
    refine Run.exit rfl ?_; refine Run.nq ?_
    refine Run.nq ?_; refine Run.regionW hC (fun K hK => ?_); simp only [AW5, simprocAttr, hX]; (repeat (with_reducible refine And.intro ?_ ?_); exact vc0); refine hK _ ?_; clear hK K; refine Run.nq ?_
    refine Run.reK hpin [4, 5] [2] (by decide) (by simp) ?_; simp only [AR, AW5, simprocAttr]
    refine Run.retW [4, 5] (by decide) (by rw [hfn]; rfl) (by simp only [AW5, simprocAttr, hX]; rfl) (by simp only [AW5, simprocAttr, hX]) (hfin _ _ rfl rfl ?_)
    rw [e1, e2]; exact ⟨rfl, rfl⟩
  intro h1
  have h1 : p.length ≤ 7 := by simp at h1; omega
  have hE := hE h1
  clear hZ
  refine Run.nq ?_; refine Run.regionW hC (fun K hK => ?_); simp only [AW5, simprocAttr, hX]; (repeat (with_reducible refine And.intro ?_ ?_); exact vc0); refine hK _ ?_; clear hK K; refine Run.nq ?_
  refine Run.reK hpin [0, 1, 6, 7, 8, 9] [0, 1] (by decide) (by simp) ?_; simp only [AR, AW5, simprocAttr]
  refine Run.joinP ⟨92, [(0, true, .v (.sl false (.row false) c)), (1, true, .v (.sl false .int r)), (6, true, .v (.own 0 0)), (7, true, .v (.own 1 0)), (8, true, .v (.int .i64 p.length))], [.arr .int s 0 true, .arr .int p 0 true]⟩ (simI c s = none) ?_ (fun cont => ?_)
  rotate_left
  · refine Run.loopI (X := Nat) (fun k => ⟨92, [(0, true, .v (.sl false (.row false) (c))), (1, true, .v (.sl false .int (r))), (6, true, .v (.own 0 0)), (7, true, .v (.own 1 0)), (8, true, .v (.int .i64 (p.length))), (9, true, .v (.int .i64 (k)))], [.arr .int (s) 0 true, .arr .int (p) 0 true]⟩) (fun k => k ≤ c.length ∧ ∀ j, j < k → (s == simL c.length j) = false) (fun k => c.length - k) (0) (⟨Nat.zero_le _, by omega⟩) ?_ ?_
    · exact Le.sub (by first | rfl | simp) (by simp only [AW5, simprocAttr, hX]; try simp <;> try (first | rfl | exact ⟨rfl, rfl⟩ | exact ⟨rfl, rfl, rfl⟩))
    rintro k ⟨hk, hpre⟩ ih
    try simp only []
    refine Run.nq ?_; refine Run.regionW hC (fun K hK => ?_); simp only [AW5, simprocAttr, hX]; (repeat (with_reducible refine And.intro ?_ ?_); exact vc0); refine hK _ ?_; clear hK K; refine Run.nq ?_
    refine Run.nq ?_; refine Run.condW (by simp only [AW5, simprocAttr, hX]; rfl) (by simp only [AW5, simprocAttr, hX]) ?_ ?_
    · intro h2
      have h2 : k < c.length := by simpa using h2
      have hsl := simL_len c.length k
      refine Run.nq ?_; refine Run.regionW hC (fun K hK => ?_); simp only [AW5, simprocAttr, hX]; (repeat (with_reducible refine And.intro ?_ ?_); exact vc0)
      refine FunA.callW hP hT (c_spec_SimpleRoot c (k : Int) hc (by omega)) (by simp only [AW5, simprocAttr]) ?_
      rintro rs o ⟨rfl, rfl⟩
      (try simp only [AW5, simprocAttr, hX]); (repeat (with_reducible refine And.intro ?_ ?_); exact vc0)
      refine FunA.callW hP hT (c_spec_EqualWords s (simL c.length k) (by omega)) (by simp only [AW5, simprocAttr]) ?_
      rintro rs o ⟨rfl, rfl⟩
      (try simp only [AW5, simprocAttr, hX]); (repeat (with_reducible refine And.intro ?_ ?_); exact vc0)
      (repeat (with_reducible refine And.intro ?_ ?_); exact vc0); refine hK _ ?_; clear hK K; refine Run.nq ?_
      refine Run.nq ?_; refine Run.condW (by simp only [AW5, simprocAttr, hX]; rfl) (by simp only [AW5, simprocAttr, hX]) ?_ ?_
      · intro h3
        have hsi : simI c s = some k := find_some h2 h3 hpre
        have hz := hE.trans (rflP_sim hsi _ _)
        have hlw : letters c.length (p ++ [(k : Int)] ++ p.reverse) := letters_append.2 ⟨letters_append.2 ⟨hpl, letters_cons.2 ⟨by omega, letters_nil _⟩⟩, letters_reverse hpl⟩
        have hll : (p ++ [(k : Int)] ++ p.reverse).length ≤ 31 := by simp; omega
        refine Run.nq ?_; refine Run.regionW hC (fun K hK => ?_); simp only [AW5, simprocAttr, hX]; (repeat (with_reducible refine And.intro ?_ ?_); exact vc0)
        refine FunA.callW hP hT (c_spec_ConcatWords p [(k : Int)] (by omega) (by simp)) (by simp only [AW5, simprocAttr]) ?_
        rintro rs o ⟨rfl, rfl⟩
        (try simp only [AW5, simprocAttr, hX]); (repeat (with_reducible refine And.intro ?_ ?_); exact vc0)
        refine FunA.callW hP hT (c_spec_ReverseWord p (by omega)) (by simp only [AW5, simprocAttr]) ?_
        rintro rs o ⟨rfl, rfl⟩
        (try simp only [AW5, simprocAttr, hX]); (repeat (with_reducible refine And.intro ?_ ?_); exact vc0)
        refine FunA.callW hP hT (c_spec_ConcatWords (p ++ [(k : Int)]) p.reverse (by simp; omega) (by simp; omega)) (by simp only [AW5, simprocAttr]) ?_
        rintro rs o ⟨rfl, rfl⟩
        (try simp only [AW5, simprocAttr, hX]); (repeat (with_reducible refine And.intro ?_ ?_); exact vc0)
        (repeat (with_reducible refine And.intro ?_ ?_); exact vc0); refine hK _ ?_; clear hK K; refine Run.nq ?_
        refine Run.nq ?_; refine Run.regionW hC (fun K hK => ?_); simp only [AW5, simprocAttr, hX]; (repeat (with_reducible refine And.intro ?_ ?_); exact vc0)
        refine FunA.callW hP hT (c_spec_l9Fit c (p ++ [(k : Int)] ++ p.reverse) hc hlw hll) (by simp only [AW5, simprocAttr]) ?_
        rintro rs o ⟨rfl, rfl⟩
        (try simp only [AW5, simprocAttr, hX]); (repeat (with_reducible refine And.intro ?_ ?_); exact vc0)
        (repeat (with_reducible refine And.intro ?_ ?_); exact vc0); refine hK _ ?_; clear hK K; refine Run.nq ?_
        refine Run.nq ?_; refine Run.regionW hC (fun K hK => ?_); simp only [AW5, simprocAttr, hX]; (repeat (with_reducible refine And.intro ?_ ?_); exact vc0); refine hK _ ?_; clear hK K; refine Run.nq ?_
        have e1 : rflB c r = decide ((redL c (p ++ [(k : Int)] ++ p.reverse)).length ≤ 15) := by unfold rflB; rw [hz]; rfl
        have e2 : rflX c r = if (redL c (p ++ [(k : Int)] ++ p.reverse)).length ≤ 15 then redL c (p ++ [(k : Int)] ++ p.reverse) else [] := by
          unfold rflX; rw [e1, hz]; simp only [decide_eq_true_eq]; rfl
        refine Run.reK hpin [4, 5] [7] (by decide) (by simp) ?_; simp only [AR, AW5, simprocAttr]
        refine Run.retW [4, 5] (by decide) (by rw [hfn]; rfl) (by simp only [AW5, simprocAttr, hX]; rfl) (by simp only [AW5, simprocAttr, hX]) (hfin _ _ rfl rfl ?_)
        rw [e1, e2]; exact ⟨rfl, rfl⟩
      · intro h3
        have hp2 : ∀ j, j < k + 1 → (s == simL c.length j) = false := fun j hj => by
          by_cases hjk : j = k
          · subst hjk; exact h3
          · exact hpre j (by omega)
        refine Run.reK hpin [0, 1, 6, 7, 8, 9] [0, 1] (by decide) (by simp) ?_; simp only [AR, AW5, simprocAttr]
        refine Run.nq ?_; refine Run.regionW hC (fun K hK => ?_); simp (disch := omega) only [wrap_id, AW5, simprocAttr, hX]; (repeat (with_reducible refine And.intro ?_ ?_); exact vc0); refine hK _ ?_; clear hK K; refine Run.nq ?_
        refine Run.le ?_ (ih (k + 1) (⟨by omega, hp2⟩) (by (try simp only [List.length_append, List.length_cons, List.length_nil]); omega))
        exact Le.sub (by rfl) (by simp only [AW5, simprocAttr]; try simp)
    · intro h2
      have h2 : k = c.length := by simp at h2; omega
      subst h2
      refine Run.exit rfl ?_
      refine Run.le ?_ (cont (find_none hpre))
      exact Le.sub (by rfl) (by simp only [AW5, simprocAttr]; try simp)
  intro hsi
  refine Run.nq ?_; refine Run.regionW hC (fun K hK => ?_); simp only [AW5, simprocAttr, hX]; (repeat (with_reducible refine And.intro ?_ ?_); exact vc0); refine hK _ ?_; clear hK K; refine Run.nq ?_
  refine Run.joinP ⟨92, [(0, true, .v (.sl false (.row false) c)), (1, true, .v (.sl false .int r)), (6, true, .v (.own 0 0)), (7, true, .v (.own 1 0)), (8, true, .v (.int .i64 p.length)), (13, true, .v (.int .i64 ((lowI c s).getD c.length : Nat)))], [.arr .int s 0 true, .arr .int p 0 true]⟩ True ?_ (fun cont => ?_)
  rotate_left
  · refine Run.loopI (X := Nat) (fun k => ⟨92, [(0, true, .v (.sl false (.row false) (c))), (1, true, .v (.sl false .int (r))), (6, true, .v (.own 0 0)), (7, true, .v (.own 1 0)), (8, true, .v (.int .i64 (p.length))), (13, true, .v (.int .i64 (k)))], [.arr .int (s) 0 true, .arr .int (p) 0 true]⟩) (fun k => k ≤ c.length ∧ ∀ j, j < k → decide (hgt (mirL c j s) < hgt s) = false) (fun k => c.length - k) (0) (⟨Nat.zero_le _, by omega⟩) ?_ ?_
    · exact Le.sub (by first | rfl | simp) (by simp only [AW5, simprocAttr, hX]; try simp <;> try (first | rfl | exact ⟨rfl, rfl⟩ | exact ⟨rfl, rfl, rfl⟩))
    rintro k ⟨hk, hpre⟩ ih
    try simp only []
    by_cases h2 : k < c.length
    · have h2' : decide ((k : Int) < c.length) = true := by rw [decide_eq_true_eq]; omega
      have hmb := mir_bnd hc (i := (k : Int)) (by omega) hl (M := 4000) (by omega) hb
      have hml := mir_len c k s
      refine Run.nq ?_; refine Run.regionW hC (fun K hK => ?_); simp only [AW5, simprocAttr, hX]; (repeat (with_reducible refine And.intro ?_ ?_); exact vc0)
      simp only [h2']
      refine .inr ⟨rfl, ?_⟩
      refine FunA.callW hP hT (c_spec_l7Reflect c (k : Int) s hc (by omega) hl (fun x hx => by have := hb x hx; omega)) (by simp only [AW5, simprocAttr]) ?_
      rintro rs o ⟨rfl, rfl⟩
      (try simp only [AW5, simprocAttr, hX]); (repeat (with_reducible refine And.intro ?_ ?_); exact vc0)
      refine .inr ⟨rfl, ?_⟩
      refine FunA.callW hP hT (c_spec_HeightOf (mirL c k s) (fun x hx => by have := hmb x hx; omega) (by omega)) (by simp only [AW5, simprocAttr]) ?_
      rintro rs o ⟨rfl, rfl⟩
      (try simp only [AW5, simprocAttr, hX]); (repeat (with_reducible refine And.intro ?_ ?_); exact vc0)
      refine .inr ⟨rfl, ?_⟩
      refine FunA.callW hP hT (c_spec_HeightOf s (fun x hx => by have := hb x hx; omega) (by omega)) (by simp only [AW5, simprocAttr]) ?_
      rintro rs o ⟨rfl, rfl⟩
      (try simp only [AW5, simprocAttr, hX]); (repeat (with_reducible refine And.intro ?_ ?_); exact vc0)
      (repeat (with_reducible refine And.intro ?_ ?_); exact vc0); refine hK _ ?_; clear hK K; refine Run.nq ?_
      refine Run.nq ?_; refine Run.condW (by simp only [AW5, simprocAttr, hX]; rfl) (by simp only [AW5, simprocAttr, hX]) ?_ ?_
      · intro h3
        have h3 : decide (hgt (mirL c k s) < hgt s) = false := by simp at h3; simp; omega
        have hp2 : ∀ j, j < k + 1 → decide (hgt (mirL c j s) < hgt s) = false := fun j hj => by
          by_cases hjk : j = k
          · subst hjk; exact h3
          · exact hpre j (by omega)
        refine Run.reK hpin [0, 1, 6, 7, 8, 13] [0, 1] (by decide) (by simp) ?_; simp only [AR, AW5, simprocAttr]
        refine Run.nq ?_; refine Run.regionW hC (fun K hK => ?_); simp (disch := omega) only [wrap_id, AW5, simprocAttr, hX]; (repeat (with_reducible refine And.intro ?_ ?_); exact vc0); refine hK _ ?_; clear hK K; refine Run.nq ?_
        refine Run.le ?_ (ih (k + 1) (⟨by omega, hp2⟩) (by (try simp only [List.length_append, List.length_cons, List.length_nil]); omega))
        exact Le.sub (by rfl) (by simp only [AW5, simprocAttr]; try simp)
      · intro h3
        have h3 : decide (hgt (mirL c k s) < hgt s) = true := by simp at h3; simp; omega
        have hlo : lowI c s = some k := find_some h2 h3 hpre
        refine Run.reK hpin [0, 1, 6, 7, 8, 13] [0, 1] (by decide) (by simp) ?_; simp only [AR, AW5, simprocAttr]
        refine Run.exit rfl ?_
        refine Run.le ?_ (cont trivial)
        rw [hlo]
        exact Le.sub (by rfl) (by simp only [AW5, simprocAttr]; try simp)
    · have h2' : decide ((k : Int) < c.length) = false := by rw [decide_eq_false_iff_not]; omega
      have hkk : k = c.length := by omega
      subst hkk
      have hlo : lowI c s = none := find_none hpre
      refine Run.nq ?_; refine Run.regionW hC (fun K hK => ?_); simp only [AW5, simprocAttr, hX]; (repeat (with_reducible refine And.intro ?_ ?_); exact vc0)
      simp only [h2']
      refine .inl (CallG.off (.sl false .int []) ?_)
      (try simp only [AW5, simprocAttr, hX]); (repeat (with_reducible refine And.intro ?_ ?_); exact vc0)
      refine .inl (CallG.off (.int .i64 0) ?_)
      (try simp only [AW5, simprocAttr, hX]); (repeat (with_reducible refine And.intro ?_ ?_); exact vc0)
      refine .inl (CallG.off (.int .i64 0) ?_)
      (try simp only [AW5, simprocAttr, hX]); (repeat (with_reducible refine And.intro ?_ ?_); exact vc0)
      (repeat (with_reducible refine And.intro ?_ ?_); exact vc0); refine hK _ ?_; clear hK K; refine Run.nq ?_
      refine Run.nq ?_; refine Run.condW (by simp only [AW5, simprocAttr, hX]; rfl) (by simp only [AW5, simprocAttr, hX]) ?_ ?_
      · intro h; cases h
      intro _
      refine Run.exit rfl ?_
      refine Run.le ?_ (cont trivial)
      rw [hlo]
      exact Le.sub (by rfl) (by simp only [AW5, simprocAttr]; try simp)
  intro _
  refine Run.nq ?_; refine Run.regionW hC (fun K hK => ?_); simp only [AW5, simprocAttr, hX]; (repeat (with_reducible refine And.intro ?_ ?_); exact vc0); refine hK _ ?_; clear hK K; refine Run.nq ?_
  refine Run.nq ?_; refine Run.condW (by simp only [AW5, simprocAttr, hX]; rfl) (by simp only [AW5, simprocAttr, hX]) ?_ ?_
  · intro h2
    have h2 : (lowI c s).getD c.length = c.length := by simp at h2; omega
    have hlo : lowI c s = none := by
      cases hlo : lowI c s with
      | none => rfl
      | some i => have := (find_some' hlo).1; rw [hlo] at h2; simp at h2; omega
    obtain ⟨e1, e2⟩ := rfl_none (hE.trans (rflP_stop hsi hlo _ _))
    refine Run.nq ?_; refine Run.regionW hC (fun K hK => ?_); simp only [AW5, simprocAttr, hX]; (repeat (with_reducible refine And.intro ?_ ?_); exact vc0); refine hK _ ?_; clear hK K; refine Run.nq ?_
    refine Run.reK hpin [4, 5] [2] (by decide) (by simp) ?_; simp only [AR, AW5, simprocAttr]
    refine Run.retW [4, 5] (by decide) (by rw [hfn]; rfl) (by simp only [AW5, simprocAttr, hX]; rfl) (by simp only [AW5, simprocAttr, hX]) (hfin _ _ rfl rfl ?_)
    rw [e1, e2]; exact ⟨rfl, rfl⟩
  intro h2
  have h2 : ¬ (lowI c s).getD c.length = c.length := by simp at h2; omega
  obtain ⟨i, hlo⟩ : ∃ i, lowI c s = some i := by
    cases hlo : lowI c s with
    | some i => exact ⟨i, rfl⟩
    | none => rw [hlo] at h2; exact absurd rfl h2
  obtain ⟨hi, hlt, _⟩ := find_some' hlo
  have hml := mir_len c i s
  rw [hlo]
  simp only [Option.getD_some]
  refine Run.nq ?_; refine Run.regionW hC (fun K hK => ?_); simp only [AW5, simprocAttr, hX]; (repeat (with_reducible refine And.intro ?_ ?_); exact vc0)
  refine FunA.callW hP hT (c_spec_l7Reflect c (i : Int) s hc (by omega) hl (fun x hx => by have := hb x hx; omega)) (by simp only [AW5, simprocAttr]) ?_
  rintro rs o ⟨rfl, rfl⟩
  (try simp only [AW5, simprocAttr, hX]); (repeat (with_reducible refine And.intro ?_ ?_); exact vc0)
  (repeat (with_reducible refine And.intro ?_ ?_); exact vc0); refine hK _ ?_; clear hK K; refine Run.nq ?_
  refine Run.nq ?_; refine Run.regionW hC (fun K hK => ?_); simp only [AW5, simprocAttr, hX]; (repeat (with_reducible refine And.intro ?_ ?_); exact vc0); refine hK _ ?_; clear hK K; refine Run.nq ?_
  refine Run.nq ?_; refine Run.regionW hC (fun K hK => ?_); simp only [AW5, simprocAttr, hX]; (repeat (with_reducible refine And.intro ?_ ?_); exact vc0)
  refine FunA.callW hP hT (c_spec_RootSign (mirL c i s)) (by simp only [AW5, simprocAttr]) ?_
  rintro rs o ⟨rfl, rfl⟩
  (try simp only [AW5, simprocAttr, hX]); (repeat (with_reducible refine And.intro ?_ ?_); exact vc0)
  (repeat (with_reducible refine And.intro ?_ ?_); exact vc0); refine hK _ ?_; clear hK K; refine Run.nq ?_
  refine Run.nq ?_; refine Run.condW (by simp only [AW5, simprocAttr, hX]; rfl) (by simp only [AW5, simprocAttr, hX]) ?_ ?_
  · intro h3
    have h3 : ¬ sgnR (mirL c i s) = 1 := sgnR_pos.1 (by simpa using h3)
    have hz : rflO c r = none := by
      rw [hE]
      rcases Nat.lt_or_ge p.length 7 with hp | hp
      · rw [show 7 - p.length = (7 - (p.length + 1)) + 1 by omega, rflP_step hsi hlo, if_neg h3]
      · rw [show 7 - p.length = 0 by omega, rflP_zero hsi]
    obtain ⟨e1, e2⟩ := rfl_none hz
    refine Run.nq ?_; refine Run.regionW hC (fun K hK => ?_); simp only [AW5, simprocAttr, hX]; (repeat (with_reducible refine And.intro ?_ ?_); exact vc0); refine hK _ ?_; clear hK K; refine Run.nq ?_
    refine Run.reK hpin [4, 5] [4] (by decide) (by simp) ?_; simp only [AR, AW5, simprocAttr]
    refine Run.retW [4, 5] (by decide) (by rw [hfn]; rfl) (by simp only [AW5, simprocAttr, hX]; rfl) (by simp only [AW5, simprocAttr, hX]) (hfin _ _ rfl rfl ?_)
    rw [e1, e2]; exact ⟨rfl, rfl⟩
  intro h3
  have h3 : sgnR (mirL c i s) = 1 := by
    cases Int.decEq (sgnR (mirL c i s)) 1 with
    | isTrue h1 => exact h1
    | isFalse h1 => have := sgnR_pos.2 h1; simp at h3; omega
  refine Run.reK hpin [0, 1, 6, 7, 8] [2, 1] (by decide) (by simp) ?_; simp only [AR, AW5, simprocAttr]
  refine Run.nq ?_; refine Run.regionW hC (fun K hK => ?_); simp (disch := omega) only [wrap_id, AW5, simprocAttr, hX]; (repeat (with_reducible refine And.intro ?_ ?_); exact vc0); refine hK _ ?_; clear hK K; refine Run.nq ?_
  have hl1 : (p ++ [(i : Int)]).length = p.length + 1 := by simp
  refine Run.le ?_ (ihO ((mirL c i s, p ++ [(i : Int)])) (⟨hD.next hlo h3, by simp only []; omega, letters_append.2 ⟨hpl, letters_cons.2 ⟨by omega, letters_nil _⟩⟩, fun h7 => by rw [hE, show 7 - p.length = (7 - (p ++ [(i : Int)]).length) + 1 by simp only [] at h7; omega, rflP_step hsi hlo, if_pos h3], fun h8 => by rw [hE, show 7 - p.length = 0 by simp only [] at h8; omega, rflP_zero hsi]⟩) (by (try simp only [List.length_append, List.length_cons, List.length_nil]); omega))
  exact Le.sub (by first | rfl | (simp only [hl1]; done) | (rw [hl1]; rfl)) (by simp only [AW5, simprocAttr]; try simp)
end Go.Proofs.Ytnhiamdnghgboaa

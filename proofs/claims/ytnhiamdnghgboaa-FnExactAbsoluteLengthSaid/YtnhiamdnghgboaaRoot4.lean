/- The reflection with a positive root: what the functions of both sides do. -/
import Derived.Test.YtnhiamdnghgboaaRoot3
set_option linter.unusedVariables false
set_option linter.unusedSimpArgs false
namespace Go.Proofs.Ytnhiamdnghgboaa
open Go Go.Aw Go.Cox

theorem rfl_none {c : List (List Int)} {r : List Int} (h : rflO c r = none) : rflB c r = false ∧ rflX c r = [] := by
  have : rflB c r = false := by simp [rflB, h]
  exact ⟨this, by simp [rflX, this]⟩
theorem rfl_off {c : List (List Int)} {r : List Int} (h : (wgtB c r && (sgnR r == 1)) = false) : rflO c r = none := by
  unfold rflO; rw [h]; rfl
theorem rfl_on {c : List (List Int)} {r : List Int} (h1 : wgtB c r = true) (h2 : sgnR r = 1) : rflO c r = rflP c 7 r [] := by
  unfold rflO; rw [h1, h2]; rfl

theorem c_impl_ReflectionOf (c : List (List Int)) (r : List Int) :
    FunA B 32 [.sl false (.row false) c, .sl false .int r] (fun rs o => rs = [.own 0 0, .bool (rflB c r)] ∧ o = [.arr .int (rflX c r) 0 true]) := by
  refine FunA.walk B_ok (fn := Try.f32) (fun vs w => Try.call32 vs w) Try.func32 rfl (by rw [Try.ntmps32]; simp) (fun C hC hP hT hΓ hbt hfn hpin hfin => ?_); have hX := BX; rw [← hΓ, ← hbt] at hX; rw [Try.ntmps32]; simp only [AW5, simprocAttr, hX]
  refine Run.nq ?_; refine Run.regionW hC (fun K hK => ?_); simp only [AW5, simprocAttr, hX]; (repeat (with_reducible refine And.intro ?_ ?_); exact vc0); refine hK _ ?_; clear hK K; refine Run.nq ?_
  refine Run.nq ?_; refine Run.regionW hC (fun K hK => ?_); simp only [AW5, simprocAttr, hX]; (repeat (with_reducible refine And.intro ?_ ?_); exact vc0)
  refine FunA.callW hP hT (c_impl_IsRootVector c r) (by simp only [AW5, simprocAttr]) ?_
  rintro rs o ⟨rfl, rfl⟩
  (try simp only [AW5, simprocAttr, hX]); (repeat (with_reducible refine And.intro ?_ ?_); exact vc0)
  refine .inl (FunA.callG hP hT (c_impl_RootSign r) (fun _ => rfl) (fun _ => by simp only [AW5, simprocAttr]) ?_)
  (try simp only [AW5, simprocAttr, hX]); (repeat (with_reducible refine And.intro ?_ ?_); exact vc0)
  (repeat (with_reducible refine And.intro ?_ ?_); exact vc0); refine hK _ ?_; clear hK K; refine Run.nq ?_
  refine Run.nq ?_; refine Run.condW (by simp only [AW5, simprocAttr, hX]; rfl) (by simp only [AW5, simprocAttr, hX]) ?_ ?_
  · intro h
    have h : (wgtB c r && (sgnR r == 1)) = false := by
      revert h
      cases wgtB c r with
      | false => simp
      | true => intro h; simpa using h
    obtain ⟨e1, e2⟩ := rfl_none (rfl_off h)
    refine Run.nq ?_; refine Run.regionW hC (fun K hK => ?_); simp only [AW5, simprocAttr, hX]; (repeat (with_reducible refine And.intro ?_ ?_); exact vc0); refine hK _ ?_; clear hK K; refine Run.nq ?_
    refine Run.reK hpin [4, 5] [0] (by decide) (by simp) ?_; simp only [AR, AW5, simprocAttr]
    refine Run.retW [4, 5] (by decide) (by rw [hfn]; rfl) (by simp only [AW5, simprocAttr, hX]; rfl) (by simp only [AW5, simprocAttr, hX]) (hfin _ _ rfl rfl ?_)
    rw [e1, e2]; exact ⟨rfl, rfl⟩
  intro h
  have hwb : wgtB c r = true := by revert h; cases wgtB c r <;> simp
  have hsg : sgnR r = 1 := by revert h; rw [hwb]; simp
  obtain ⟨hc, hw⟩ := wgtB_iff.1 hwb
  have hn := hc.2.1
  have hO := rfl_on hwb hsg
  refine Run.nq ?_; refine Run.regionW hC (fun K hK => ?_); simp only [AW5, simprocAttr, hX]; (repeat (with_reducible refine And.intro ?_ ?_); exact vc0); refine hK _ ?_; clear hK K; refine Run.nq ?_
  refine Run.reK hpin [0, 1, 6] [0] (by decide) (by simp) ?_; simp only [AR, AW5, simprocAttr]
  refine Run.loopI (X := List Int × List Int × Bool) (fun x => ⟨78, [(0, true, .v (.sl false (.row false) (c))), (1, true, .v (.sl x.2.2 .int x.1)), (6, true, .v (.own 0 0))], [.arr .int (x.2.1) 0 true]⟩) (fun x => Dn c x.1 ∧ x.2.1.length ≤ 7 ∧ letters c.length x.2.1 ∧ rflO c r = rflP c (7 - x.2.1.length) x.1 x.2.1) (fun x => 7 - x.2.1.length) ((r, [], false)) (⟨Dn.start hc hw hsg, by simp, letters_nil _, hO⟩) ?_ ?_
  · exact Le.sub (by first | rfl | simp) (by simp only [AW5, simprocAttr, hX]; try simp <;> try (first | rfl | exact ⟨rfl, rfl⟩ | exact ⟨rfl, rfl, rfl⟩))
  rintro ⟨s, p, f⟩ ⟨hD, hp7, hpl, hE⟩ ihO
  try simp only []
  simp only [] at hD hp7 hpl hE
  have hb := hD.bnd
  have hl := hD.len
  refine Run.nq ?_; refine Run.regionW hC (fun K hK => ?_); simp only [AW5, simprocAttr, hX]; (repeat (with_reducible refine And.intro ?_ ?_); exact vc0)
  refine FunA.callW hP hT (c_impl_HeightOf s (fun x hx => by have := hb x hx; omega) (by omega)) (by simp only [AW5, simprocAttr]) ?_
  rintro rs o ⟨rfl, rfl⟩
  (try simp only [AW5, simprocAttr, hX]); (repeat (with_reducible refine And.intro ?_ ?_); exact vc0)
  (repeat (with_reducible refine And.intro ?_ ?_); exact vc0); refine hK _ ?_; clear hK K; refine Run.nq ?_
  refine Run.nq ?_; refine Run.condW (by simp only [AW5, simprocAttr, hX]; rfl) (by simp only [AW5, simprocAttr, hX]) ?_ ?_
  · intro h1
    have h1 : ¬ hgt s = 1 := by simpa using h1
    have hsi := Dn.notone (c := c) h1
    refine Run.nq ?_; refine Run.regionW hC (fun K hK => ?_); simp only [AW5, simprocAttr, hX]; (repeat (with_reducible refine And.intro ?_ ?_); exact vc0); refine hK _ ?_; clear hK K; refine Run.nq ?_
    refine Run.nq ?_; refine Run.regionW hC (fun K hK => ?_); simp only [AW5, simprocAttr, hX]; (repeat (with_reducible refine And.intro ?_ ?_); exact vc0); refine hK _ ?_; clear hK K; refine Run.nq ?_
    refine Run.reK hpin [0, 1, 6, 7, 28, 29] [0, 1] (by decide) (by simp) ?_; simp only [AR, AW5, simprocAttr]
    refine Run.join ⟨78, [(0, true, .v (.sl false (.row false) c)), (1, true, .v (.sl f .int s)), (6, true, .v (.own 0 0)), (7, true, .v (.own 1 0))], [.arr .int (lowP c s p) 0 true, .arr .int (lowR c s) 0 true]⟩ ?_ (fun cont => ?_)
    · cases hlo : lowI c s with
      | none =>
        simp only [lowP, lowR, hlo]
        refine Run.nq ?_; refine Run.regionW hC (fun K hK => ?_); simp only [AW5, simprocAttr, hX]; (repeat (with_reducible refine And.intro ?_ ?_); exact vc0)
        simp only [List.length_nil]
        refine .inl (CallG.off (.int .i64 0) ?_)
        (try simp only [AW5, simprocAttr, hX]); (repeat (with_reducible refine And.intro ?_ ?_); exact vc0)
        (repeat (with_reducible refine And.intro ?_ ?_); exact vc0); refine hK _ ?_; clear hK K; refine Run.nq ?_
        refine Run.nq ?_; refine Run.condW (by simp only [AW5, simprocAttr, hX]; rfl) (by simp only [AW5, simprocAttr, hX]) ?_ ?_
        rotate_left
        · intro h; simp at h
        intro _
        obtain ⟨e1, e2⟩ := rfl_none (hE.trans (rflP_stop hsi hlo _ _))
        refine Run.nq ?_; refine Run.regionW hC (fun K hK => ?_); simp only [AW5, simprocAttr, hX]; (repeat (with_reducible refine And.intro ?_ ?_); exact vc0); refine hK _ ?_; clear hK K; refine Run.nq ?_
        refine Run.reK hpin [4, 5] [2] (by decide) (by simp) ?_; simp only [AR, AW5, simprocAttr]
        refine Run.retW [4, 5] (by decide) (by rw [hfn]; rfl) (by simp only [AW5, simprocAttr, hX]; rfl) (by simp only [AW5, simprocAttr, hX]) (hfin _ _ rfl rfl ?_)
        rw [e1, e2]; exact ⟨rfl, rfl⟩
      | some i =>
        obtain ⟨hi, hlt, _⟩ := find_some' hlo
        have hml := mir_len c i s
        simp only [lowP, lowR, hlo]
        refine Run.nq ?_; refine Run.regionW hC (fun K hK => ?_); simp only [AW5, simprocAttr, hX]; (repeat (with_reducible refine And.intro ?_ ?_); exact vc0)
        refine .inl (FunA.callG hP hT (c_impl_RootSign (mirL c i s)) (fun _ => rfl) (fun _ => by simp only [AW5, simprocAttr]) ?_)
        (try simp only [AW5, simprocAttr, hX]); (repeat (with_reducible refine And.intro ?_ ?_); exact vc0)
        (repeat (with_reducible refine And.intro ?_ ?_); exact vc0); refine hK _ ?_; clear hK K; refine Run.nq ?_
        refine Run.nq ?_; refine Run.condW (by simp only [AW5, simprocAttr, hX]; rfl) (by simp only [AW5, simprocAttr, hX]) ?_ ?_
        · intro h2
          have hz : rflO c r = none := by
            rw [hE]
            rcases Nat.lt_or_ge p.length 7 with hp | hp
            · rw [show 7 - p.length = (7 - (p.length + 1)) + 1 by omega, rflP_step hsi hlo, if_neg]
              intro h3
              rw [h3] at h2
              have e1 : (((mirL c i s).length : Int) == 0) = false := by simp only [beq_eq_false_iff_ne]; omega
              rw [e1] at h2
              simp at h2
              omega
            · rw [show 7 - p.length = 0 by omega, rflP_zero hsi]
          obtain ⟨e1, e2⟩ := rfl_none hz
          refine Run.nq ?_; refine Run.regionW hC (fun K hK => ?_); simp only [AW5, simprocAttr, hX]; (repeat (with_reducible refine And.intro ?_ ?_); exact vc0); refine hK _ ?_; clear hK K; refine Run.nq ?_
          refine Run.reK hpin [4, 5] [2] (by decide) (by simp) ?_; simp only [AR, AW5, simprocAttr]
          refine Run.retW [4, 5] (by decide) (by rw [hfn]; rfl) (by simp only [AW5, simprocAttr, hX]; rfl) (by simp only [AW5, simprocAttr, hX]) (hfin _ _ rfl rfl ?_)
          rw [e1, e2]; exact ⟨rfl, rfl⟩
        · intro h2
          have h3 : sgnR (mirL c i s) = 1 ∧ p.length < 7 := by
            by_cases hs : sgnR (mirL c i s) = 1
            · refine ⟨hs, ?_⟩
              have e1 : (((mirL c i s).length : Int) == 0) = false := by simp only [beq_eq_false_iff_ne]; omega
              rw [hs, e1] at h2
              simp at h2
              omega
            · simp [hs] at h2
          refine Run.nq ?_; refine Run.regionW hC (fun K hK => ?_); simp only [AW5, simprocAttr, hX]; (repeat (with_reducible refine And.intro ?_ ?_); exact vc0); refine hK _ ?_; clear hK K; refine Run.nq ?_
          refine Run.letgoK 1 [0, 1, 6] rfl ?_; simp only [AL, frV_cons, frV_nil, AW5, simprocAttr]
          refine Run.reK hpin [0, 1, 6] [0] (by decide) (by simp) ?_; simp only [AR, AW5, simprocAttr]
          refine Run.le ?_ (ihO ((mirL c i s, p ++ [(i : Int)], true)) (⟨hD.next hlo h3.1, by simp; omega, letters_append.2 ⟨hpl, letters_cons.2 ⟨by omega, letters_nil _⟩⟩, by rw [hE, show 7 - p.length = (7 - (p ++ [(i : Int)]).length) + 1 by simp only [List.length_append, List.length_cons, List.length_nil]; omega, rflP_step hsi hlo, if_pos h3.1]⟩) (by (try simp only [List.length_append, List.length_cons, List.length_nil]); omega))
          exact Le.sub (by rfl) (by simp only [AW5, simprocAttr]; try simp)
    · refine Run.loopI (X := Nat) (fun k => ⟨78, [(0, true, .v (.sl false (.row false) (c))), (1, true, .v (.sl f .int s)), (6, true, .v (.own 0 0)), (7, true, .v (.own 1 0)), (28, true, .v (.int .i64 (c.length))), (29, true, .v (.int .i64 (k)))], [.arr .int (p) 0 true, .arr .int ([]) 0 true]⟩) (fun k => k ≤ c.length ∧ ∀ j, j < k → decide (hgt (mirL c j s) < hgt s) = false) (fun k => c.length - k) (0) (⟨Nat.zero_le _, by omega⟩) ?_ ?_
      · exact Le.sub (by first | rfl | simp) (by simp only [AW5, simprocAttr, hX]; try simp <;> try (first | rfl | exact ⟨rfl, rfl⟩ | exact ⟨rfl, rfl, rfl⟩))
      rintro k ⟨hk, hpre⟩ ih
      try simp only []
      refine Run.nq ?_; refine Run.regionW hC (fun K hK => ?_); simp only [AW5, simprocAttr, hX]; (repeat (with_reducible refine And.intro ?_ ?_); exact vc0); refine hK _ ?_; clear hK K; refine Run.nq ?_
      refine Run.nq ?_; refine Run.condW (by simp only [AW5, simprocAttr, hX]; rfl) (by simp only [AW5, simprocAttr, hX]) ?_ ?_
      · intro h2
        have h2 : k < c.length := by simpa using h2
        have hmb := mir_bnd hc (i := (k : Int)) (by omega) hl (M := 4000) (by omega) hb
        have hml := mir_len c k s
        refine Run.nq ?_; refine Run.regionW hC (fun K hK => ?_); simp only [AW5, simprocAttr, hX]; (repeat (with_reducible refine And.intro ?_ ?_); exact vc0); refine hK _ ?_; clear hK K; refine Run.nq ?_
        refine Run.nq ?_; refine Run.regionW hC (fun K hK => ?_); simp only [AW5, simprocAttr, hX]; (repeat (with_reducible refine And.intro ?_ ?_); exact vc0)
        refine FunA.callW hP hT (c_impl_mirrored c (k : Int) s hc (by omega) hl (fun x hx => by have := hb x hx; omega)) (by simp only [AW5, simprocAttr]) ?_
        rintro rs o ⟨rfl, rfl⟩
        (try simp only [AW5, simprocAttr, hX]); (repeat (with_reducible refine And.intro ?_ ?_); exact vc0)
        (repeat (with_reducible refine And.intro ?_ ?_); exact vc0); refine hK _ ?_; clear hK K; refine Run.nq ?_
        refine Run.nq ?_; refine Run.regionW hC (fun K hK => ?_); simp only [AW5, simprocAttr, hX]; (repeat (with_reducible refine And.intro ?_ ?_); exact vc0)
        refine FunA.callW hP hT (c_impl_HeightOf (mirL c k s) (fun x hx => by have := hmb x hx; omega) (by omega)) (by simp only [AW5, simprocAttr]) ?_
        rintro rs o ⟨rfl, rfl⟩
        (try simp only [AW5, simprocAttr, hX]); (repeat (with_reducible refine And.intro ?_ ?_); exact vc0)
        refine FunA.callW hP hT (c_impl_HeightOf s (fun x hx => by have := hb x hx; omega) (by omega)) (by simp only [AW5, simprocAttr]) ?_
        rintro rs o ⟨rfl, rfl⟩
        (try simp only [AW5, simprocAttr, hX]); (repeat (with_reducible refine And.intro ?_ ?_); exact vc0)
        (repeat (with_reducible refine And.intro ?_ ?_); exact vc0); refine hK _ ?_; clear hK K; refine Run.nq ?_
        refine Run.nq ?_; refine Run.condW (by simp only [AW5, simprocAttr, hX]; rfl) (by simp only [AW5, simprocAttr, hX]) ?_ ?_
        · intro h3
          have hlo : lowI c s = some k := find_some h2 h3 hpre
          refine Run.nq ?_; refine Run.regionW hC (fun K hK => ?_); simp only [AW5, simprocAttr, hX]; (repeat (with_reducible refine And.intro ?_ ?_); exact vc0); refine hK _ ?_; clear hK K; refine Run.nq ?_
          refine Run.nq ?_; refine Run.regionW hC (fun K hK => ?_); simp only [AW5, simprocAttr, hX]; (repeat (with_reducible refine And.intro ?_ ?_); exact vc0); refine hK _ ?_; clear hK K; refine Run.nq ?_
          refine Run.exit rfl ?_
          refine Run.reK hpin [0, 1, 6, 7] [0, 2] (by decide) (by simp) ?_; simp only [AR, AW5, simprocAttr]
          refine Run.le ?_ cont
          simp only [lowP, lowR, hlo]
          exact Le.sub (by rfl) (by simp only [AW5, simprocAttr]; try simp)
        · intro h3
          have hp2 : ∀ j, j < k + 1 → decide (hgt (mirL c j s) < hgt s) = false := fun j hj => by
            by_cases hjk : j = k
            · subst hjk; exact h3
            · exact hpre j (by omega)
          refine Run.reK hpin [0, 1, 6, 7, 28, 29] [0, 1] (by decide) (by simp) ?_; simp only [AR, AW5, simprocAttr]
          refine Run.nq ?_; refine Run.regionW hC (fun K hK => ?_); simp (disch := omega) only [wrap_id, AW5, simprocAttr, hX]; (repeat (with_reducible refine And.intro ?_ ?_); exact vc0); refine hK _ ?_; clear hK K; refine Run.nq ?_
          refine Run.le ?_ (ih (k + 1) (⟨by omega, hp2⟩) (by (try simp only [List.length_append, List.length_cons, List.length_nil]); omega))
          exact Le.sub (by rfl) (by simp only [AW5, simprocAttr]; try simp)
      · intro h2
        have h2 : k = c.length := by simp at h2; omega
        subst h2
        have hlo : lowI c s = none := find_none hpre
        refine Run.exit rfl ?_
        refine Run.le ?_ cont
        simp only [lowP, lowR, hlo]
        exact Le.sub (by rfl) (by simp only [AW5, simprocAttr]; try simp)
  · intro h1
    have h1 : hgt s = 1 := by simpa using h1
    obtain ⟨i, hi, hr, hsi⟩ := hD.one h1
    have hz := hE.trans (rflP_sim hsi _ _)
    have hlw : letters c.length (p ++ [(i : Int)] ++ p.reverse) := letters_append.2 ⟨letters_append.2 ⟨hpl, letters_cons.2 ⟨by omega, letters_nil _⟩⟩, letters_reverse hpl⟩
    have hll : (p ++ [(i : Int)] ++ p.reverse).length ≤ 31 := by simp; omega
    obtain ⟨a1, a2, a3, a4, a5⟩ := red_spec hc hlw hll
    have hix : idxN s 1 s.length = i := by rw [hr]; exact idx_sim c.length i hi
    refine Run.exit rfl ?_; refine Run.nq ?_
    refine Run.nq ?_; refine Run.regionW hC (fun K hK => ?_); simp only [AW5, simprocAttr, hX]; (repeat (with_reducible refine And.intro ?_ ?_); exact vc0)
    refine FunA.callW hP hT (c_slices_Index s 1 (by omega)) (by simp only [AW5, simprocAttr]) ?_
    rintro rs o ⟨rfl, rfl⟩
    rw [hix]
    (try simp only [AW5, simprocAttr, hX]); (repeat (with_reducible refine And.intro ?_ ?_); exact vc0)
    refine FunA.callW hP hT (c_impl_ReverseWord p (by omega)) (by simp only [AW5, simprocAttr]) ?_
    rintro rs o ⟨rfl, rfl⟩
    (try simp only [AW5, simprocAttr, hX]); (repeat (with_reducible refine And.intro ?_ ?_); exact vc0)
    refine FunA.callW hP hT (c_slices_Concat [p, [(i : Int)], p.reverse] (by simp [sumL]; omega) (by simp)) (by simp only [AW5, simprocAttr]) ?_
    rintro rs o ⟨nn, rfl, rfl⟩
    (try simp only [AW5, simprocAttr, hX]); (repeat (with_reducible refine And.intro ?_ ?_); exact vc0)
    (repeat (with_reducible refine And.intro ?_ ?_); exact vc0); refine hK _ ?_; clear hK K; refine Run.nq ?_
    rw [show ([p, [(i : Int)], p.reverse] : List (List Int)).flatten = p ++ [(i : Int)] ++ p.reverse by simp]
    refine Run.nq ?_; refine Run.regionW hC (fun K hK => ?_); simp only [AW5, simprocAttr, hX]; (repeat (with_reducible refine And.intro ?_ ?_); exact vc0)
    refine FunA.callW hP hT (c_impl_reduced c (p ++ [(i : Int)] ++ p.reverse) hc hlw hll) (by simp only [AW5, simprocAttr]) ?_
    rintro rs o ⟨rfl, rfl⟩
    (try simp only [AW5, simprocAttr, hX]); (repeat (with_reducible refine And.intro ?_ ?_); exact vc0)
    (repeat (with_reducible refine And.intro ?_ ?_); exact vc0); refine hK _ ?_; clear hK K; refine Run.nq ?_
    refine Run.nq ?_; refine Run.regionW hC (fun K hK => ?_); simp only [AW5, simprocAttr, hX]; (repeat (with_reducible refine And.intro ?_ ?_); exact vc0); refine hK _ ?_; clear hK K; refine Run.nq ?_
    refine Run.nq ?_; refine Run.condW (by simp only [AW5, simprocAttr, hX]; rfl) (by simp only [AW5, simprocAttr, hX]) ?_ ?_
    · intro h2
      have h2 : ¬ (redL c (p ++ [(i : Int)] ++ p.reverse)).length ≤ 15 := by simp only [decide_eq_true_eq] at h2; omega
      have e1 : rflB c r = false := by unfold rflB; rw [hz]; show (true && decide ((redL c (p ++ [(i : Int)] ++ p.reverse)).length ≤ 15)) = false; rw [decide_eq_false h2]; rfl
      have e2 : rflX c r = [] := by unfold rflX; rw [e1]; rfl
      refine Run.nq ?_; refine Run.regionW hC (fun K hK => ?_); simp only [AW5, simprocAttr, hX]; (repeat (with_reducible refine And.intro ?_ ?_); exact vc0); refine hK _ ?_; clear hK K; refine Run.nq ?_
      refine Run.reK hpin [4, 5] [6] (by decide) (by simp) ?_; simp only [AR, AW5, simprocAttr]
      refine Run.retW [4, 5] (by decide) (by rw [hfn]; rfl) (by simp only [AW5, simprocAttr, hX]; rfl) (by simp only [AW5, simprocAttr, hX]) (hfin _ _ rfl rfl ?_)
      rw [e1, e2]; exact ⟨rfl, rfl⟩
    · intro h2
      have h2 : (redL c (p ++ [(i : Int)] ++ p.reverse)).length ≤ 15 := by simp only [decide_eq_false_iff_not] at h2; omega
      have e1 : rflB c r = true := by unfold rflB; rw [hz]; show (true && decide ((redL c (p ++ [(i : Int)] ++ p.reverse)).length ≤ 15)) = true; rw [decide_eq_true h2]; rfl
      have e2 : rflX c r = redL c (p ++ [(i : Int)] ++ p.reverse) := by unfold rflX; rw [e1, hz]; rfl
      refine Run.nq ?_; refine Run.regionW hC (fun K hK => ?_); simp only [AW5, simprocAttr, hX]; (repeat (with_reducible refine And.intro ?_ ?_); exact vc0); refine hK _ ?_; clear hK K; refine Run.nq ?_
      refine Run.reK hpin [4, 5] [5] (by decide) (by simp) ?_; simp only [AR, AW5, simprocAttr]
      refine Run.retW [4, 5] (by decide) (by rw [hfn]; rfl) (by simp only [AW5, simprocAttr, hX]; rfl) (by simp only [AW5, simprocAttr, hX]) (hfin _ _ rfl rfl ?_)
      rw [e1, e2]; exact ⟨rfl, rfl⟩
end Go.Proofs.Ytnhiamdnghgboaa

/- Star powers of a word: what the program does. -/
import Derived.Test.YtbeeblhmgpgkjaaStarPow
set_option linter.unusedVariables false
set_option linter.unusedSimpArgs false
namespace Go.Proofs.Ytbeeblhmgpgkjaa
open Go Go.Aw Go.Cox

theorem c_impl_StarPowers (c : List (List Int)) (w : List Int) (hcl : c.length ≤ 1048576) :
    FunA B 44 [.sl false (.row false) c, .sl false .int w] (fun rs o => rs = [.own 0 0] ∧ ∃ hs, hs.length = (staP c w).length ∧ o = [.mat hs (staP c w) 0 true]) := by
  refine (FunA.mat (by rfl) (post := fun rows nn rest => rows = staP c w ∧ nn = true ∧ rest = []) ?_).mono fun rs o ⟨hs, rows, nn, rest, ⟨h1, h2, h3⟩, h4, h5, h6⟩ => by subst h1 h2 h3; exact ⟨h5, hs, h4, h6⟩
  refine FunA.walk B_ok (fn := Try.f44) (fun vs w => Try.call44 vs w) Try.func44 rfl (by rw [Try.ntmps44]; simp) (fun C hC hP hT hΓ hbt hfn hpin hfin => ?_); have hX := BX; rw [← hΓ, ← hbt] at hX; rw [Try.ntmps44]; simp only [AW4, simprocAttr, hX]
  refine Run.nq ?_; refine Run.regionW hC (fun K hK => ?_); simp only [AW4, simprocAttr, hX]; (repeat (with_reducible refine And.intro ?_ ?_); exact vc0); refine hK _ ?_; clear hK K; refine Run.nq ?_
  refine Run.nq ?_; refine Run.regionW hC (fun K hK => ?_); simp only [AW4, simprocAttr, hX]; (repeat (with_reducible refine And.intro ?_ ?_); exact vc0); refine hK _ ?_; clear hK K; refine Run.nq ?_
  refine Run.nq ?_; refine Run.regionW hC (fun K hK => ?_); simp only [AW4, simprocAttr, hX]; (repeat (with_reducible refine And.intro ?_ ?_); exact vc0)
  refine FunA.callW hP hT (c_impl_IsWord c w) (by simp only [AW4, simprocAttr]) ?_
  rintro rs o ⟨rfl, rfl⟩
  (try simp only [AW4, simprocAttr, hX]); (repeat (with_reducible refine And.intro ?_ ?_); exact vc0)
  (repeat (with_reducible refine And.intro ?_ ?_); exact vc0); refine hK _ ?_; clear hK K; refine Run.nq ?_
  refine Run.nq ?_; refine Run.condW (by simp only [AW4, simprocAttr, hX]; rfl) (by simp only [AW4, simprocAttr, hX]) ?_ ?_
  · intro h
    have h : wordB c w = false := by simpa using h
    have hz : staP c w = [] := by unfold staP; rw [h]; rfl
    refine Run.nq ?_; refine Run.regionW hC (fun K hK => ?_); simp only [AW4, simprocAttr, hX]; (repeat (with_reducible refine And.intro ?_ ?_); exact vc0); refine hK _ ?_; clear hK K; refine Run.nq ?_
    refine Run.reK hpin [4] [0] (by decide) (by simp) ?_; simp only [AR, AW4, simprocAttr]
    refine Run.retW [4] (by decide) (by rw [hfn]; rfl) (by simp only [AW4, simprocAttr, hX]; rfl) (by simp only [AW4, simprocAttr, hX]) (hfin _ _ rfl rfl ?_)
    exact ⟨[], 0, true, [], ⟨hz.symm, rfl, rfl⟩, by simp, rfl, rfl, rfl⟩
  intro h
  have hwb : wordB c w = true := by simpa using h
  have hz : staP c w = pwS c (redL c w) 16 (redL c w) := by unfold staP; rw [hwb]; rfl
  obtain ⟨hc, h2, h3⟩ := wordB_iff.1 hwb
  obtain ⟨a1, a2, a3, a4, a5⟩ := red_spec hc h3 (by omega)
  have hR0 := red_Red hc h3 (by omega)
  have hn0 := redL_idem hc h3 (by omega)
  refine Run.nq ?_; refine Run.regionW hC (fun K hK => ?_); simp only [AW4, simprocAttr, hX]; (repeat (with_reducible refine And.intro ?_ ?_); exact vc0)
  refine FunA.callW hP hT (c_impl_reduced c w hc h3 (by omega)) (by simp only [AW4, simprocAttr]) ?_
  rintro rs o ⟨rfl, rfl⟩
  (try simp only [AW4, simprocAttr, hX]); (repeat (with_reducible refine And.intro ?_ ?_); exact vc0)
  intro l hl
  (try simp only [AW4, simprocAttr, hX]); (repeat (with_reducible refine And.intro ?_ ?_); exact vc0)
  (repeat (with_reducible refine And.intro ?_ ?_); exact vc0); refine hK _ ?_; clear hK K; refine Run.nq ?_
  refine Run.reK hpin [0, 1, 5] [0] (by decide) (by simp) ?_; simp only [AR, AW4, simprocAttr]
  generalize hy : redL c w = y at *
  refine Run.loopI (X := Nat × List (Nat × List Int) × List Int × Nat) (fun x => ⟨46, [(0, true, .v (.sl false (.row false) (c))), (1, true, .v (.sl false .int (w))), (5, true, .v (.own 0 0))], [.arr .lrow ((x.2.1 ++ [(x.2.2.2, x.2.2.1)])) 0 true]⟩) (fun x => x.1 ≤ x.2.2.1.length ∧ x.2.1.length = x.1 ∧ ((x.2.1 ++ [(x.2.2.2, x.2.2.1)]).map (·.1)).Nodup ∧ Red c x.2.2.1 ∧ redL c x.2.2.1 = x.2.2.1 ∧ x.2.2.1.length ≤ 15 ∧ staP c w = (x.2.1 ++ [(x.2.2.2, x.2.2.1)]).map (·.2) ++ (if starW c x.2.2.1 y = x.2.2.1 then [] else pwS c y (15 - x.1) (starW c x.2.2.1 y))) (fun x => 16 - x.1) ((0, [], y, l)) (⟨by simp, rfl, by simp, hR0, hn0, by simp only []; omega, by rw [hz]; simp only [pwS]; rw [if_pos (by omega)]; rfl⟩) ?_ ?_
  · exact Le.sub (by first | rfl | simp) (by simp only [AW4, simprocAttr, hX]; try simp <;> try (first | rfl | exact ⟨rfl, rfl⟩ | exact ⟨rfl, rfl, rfl⟩))
  rintro ⟨n, ys, x, q⟩ ⟨hn, hyl, hnd, hRx, hxn, hxl, hE⟩ ih
  try simp only []
  simp only [] at hn hyl hnd hRx hxn hxl hE
  have hlen : (ys ++ [(q, x)]).length = n + 1 := by simp [hyl]
  have hget : (ys ++ [(q, x)]).getD n (0, []) = (q, x) := by rw [← hyl]; simp
  obtain ⟨s1, s2, s3⟩ := starW_Red hc y a1 hRx (by omega)
  obtain ⟨g1, g2⟩ := starW_grow hc y a1 hRx (by omega)
  have hWx : WordP c x := ⟨hc, hxl, hRx.1⟩
  have eb : starPrB c x w = decide ((starW c x y).length ≤ 15) := by simp [starPrB, hwb, wordB_iff.2 hWx, hxn, hy]
  have ep : starPr c x w = if (starW c x y).length ≤ 15 then starW c x y else [] := by unfold starPr; rw [eb, hxn, hy]; simp only [decide_eq_true_eq]
  have hpl := starPr_le c x w
  refine Run.nq ?_; refine Run.regionW hC (fun K hK => ?_); simp (disch := omega) only [wrap_id, AW4, simprocAttr, hX]; (repeat (with_reducible refine And.intro ?_ ?_); exact vc0); refine hK _ ?_; clear hK K; refine Run.nq ?_
  rw [hlen, show (((n + 1 : Nat) : Int) - 1).toNat = n by omega, hget]
  refine Run.nq ?_; refine Run.regionW hC (fun K hK => ?_); simp only [AW4, simprocAttr, hX]; (repeat (with_reducible refine And.intro ?_ ?_); exact vc0)
  refine FunA.callW hP hT (c_impl_StarProduct c x w hcl) (by simp only [AW4, simprocAttr]) ?_
  rintro rs o ⟨rfl, rfl⟩
  (try simp only [AW4, simprocAttr, hX]); (repeat (with_reducible refine And.intro ?_ ?_); exact vc0)
  (repeat (with_reducible refine And.intro ?_ ?_); exact vc0); refine hK _ ?_; clear hK K; refine Run.nq ?_
  refine Run.nq ?_; refine Run.regionW hC (fun K hK => ?_); simp only [AW4, simprocAttr, hX]; (repeat (with_reducible refine And.intro ?_ ?_); exact vc0)
  refine .inl (FunA.callG hP hT (c_impl_EqualWords x (starPr c x w) (by omega)) (fun _ => rfl) (fun _ => by simp only [AW4, simprocAttr]) ?_)
  (try simp only [AW4, simprocAttr, hX]); (repeat (with_reducible refine And.intro ?_ ?_); exact vc0)
  (repeat (with_reducible refine And.intro ?_ ?_); exact vc0); refine hK _ ?_; clear hK K; refine Run.nq ?_
  refine Run.nq ?_; refine Run.condW (by simp only [AW4, simprocAttr, hX]; rfl) (by simp only [AW4, simprocAttr, hX]) ?_ ?_
  · intro h5
    have hE2 : staP c w = (ys ++ [(q, x)]).map (·.2) := by
      rw [hE]
      by_cases hst : starW c x y = x
      · rw [if_pos hst, List.append_nil]
      · rw [if_neg hst]
        by_cases h15 : (starW c x y).length ≤ 15
        · rw [eb, decide_eq_true h15, ep, if_pos h15] at h5
          have : x = starW c x y := by simpa using h5
          exact absurd this.symm hst
        · rw [pwS_long (by omega), List.append_nil]
    refine Run.nq ?_; refine Run.regionW hC (fun K hK => ?_); simp only [AW4, simprocAttr, hX]; (repeat (with_reducible refine And.intro ?_ ?_); exact vc0); refine hK _ ?_; clear hK K; refine Run.nq ?_
    refine Run.reK hpin [4] [0] (by decide) (by simp) ?_; simp only [AR, AW4, simprocAttr]
    refine Run.retW [4] (by decide) (by rw [hfn]; rfl) (by simp only [AW4, simprocAttr, hX]; rfl) (by simp only [AW4, simprocAttr, hX]) (hfin _ _ rfl rfl ?_)
    exact ⟨_, 0, true, [], ⟨hE2.symm, rfl, rfl⟩, hnd, rfl, rfl, rfl⟩
  · intro h5
    have hh : (starW c x y).length ≤ 15 ∧ ¬ starW c x y = x := by
      by_cases h15 : (starW c x y).length ≤ 15
      · refine ⟨h15, fun hst => ?_⟩
        rw [eb, decide_eq_true h15, ep, if_pos h15, hst] at h5
        simp at h5
      · rw [eb, decide_eq_false h15] at h5
        cases h5
    obtain ⟨h15, hst⟩ := hh
    rw [ep, if_pos h15]
    have hgr : x.length < (starW c x y).length := g1.resolve_left hst
    refine Run.reK hpin [0, 1, 5, 7] [0, 1] (by decide) (by simp) ?_; simp only [AR, AW4, simprocAttr]
    refine Run.nq ?_; refine Run.regionW hC (fun K hK => ?_); simp only [AW4, simprocAttr, hX]; (repeat (with_reducible refine And.intro ?_ ?_); exact vc0)
    intro l2 hl2
    (try simp only [AW4, simprocAttr, hX]); (repeat (with_reducible refine And.intro ?_ ?_); exact vc0)
    (repeat (with_reducible refine And.intro ?_ ?_); exact vc0); refine hK _ ?_; clear hK K; refine Run.nq ?_
    have hfr : ∀ p ∈ ys ++ [(q, x)], p.1 ≠ l2 := hl2 (.arr .lrow (ys ++ [(q, x)]) 0 true) (by simp) _ 0 true rfl
    obtain ⟨f, hf⟩ : ∃ f, 15 - n = f + 1 := ⟨14 - n, by omega⟩
    rw [if_neg hst, hf] at hE
    simp only [pwS] at hE
    rw [if_pos h15] at hE
    refine Run.reK hpin [0, 1, 5] [0] (by decide) (by simp) ?_; simp only [AR, AW4, simprocAttr]
    refine Run.le ?_ (ih ((n + 1, ys ++ [(q, x)], starW c x y, l2)) (⟨by simp only []; omega, hlen, nodup_snoc hnd hfr, s1, g2 hxn, h15, by simp only []; rw [hE, show 15 - (n + 1) = f by omega]; simp⟩) (by (try simp only [List.length_append, List.length_cons, List.length_nil]); omega))
    exact Le.sub (by rfl) (by simp only [AW4, simprocAttr]; try simp)
end Go.Proofs.Ytbeeblhmgpgkjaa

/- Normal forms: what the functions of both sides do. -/
import Derived.Test.YtdhfonblpbpmmaaWords2
set_option linter.unusedVariables false
set_option linter.unusedSimpArgs false
namespace Go.Proofs.Ytdhfonblpbpmmaa
open Go Go.Aw Go.Cox

theorem firstNeg_more (v : List Int) : ∀ n m, n ≤ m → 0 ≤ firstNeg v n → firstNeg v m = firstNeg v n := by
  intro n m h h0
  induction m with
  | zero => have : n = 0 := by omega
            subst this; rfl
  | succ m ih =>
    by_cases hn : n = m + 1
    · subst hn; rfl
    · have := ih (by omega)
      simp only [firstNeg]
      rw [if_neg (by omega), this]

theorem c_impl_firstDescent (v : List Int) (hl : v.length ≤ 1048576) : FunA B 87 [.sl false .int v] (fun rs o => rs = [.int .i64 (fstN v)] ∧ o = []) := by
  refine FunA.walk B_ok (fn := Try.f87) (fun vs w => Try.call87 vs w) Try.func87 rfl (by rw [Try.ntmps87]; simp) (fun C hC hP hT hΓ hbt hfn hpin hfin => ?_); have hX := BX; rw [← hΓ, ← hbt.1, ← hbt.2] at hX; rw [Try.ntmps87]; simp only [AW7, simprocAttr, hX]
  refine Run.nq ?_; refine Run.regionW hC (fun K hK => ?_); simp only [AW7, simprocAttr, hX]; (repeat (with_reducible refine And.intro ?_ ?_); exact vc0); refine hK _ ?_; clear hK K; refine Run.nq ?_
  refine Run.nq ?_; refine Run.regionW hC (fun K hK => ?_); simp only [AW7, simprocAttr, hX]; (repeat (with_reducible refine And.intro ?_ ?_); exact vc0); refine hK _ ?_; clear hK K; refine Run.nq ?_
  refine Run.loopI (X := Nat) (fun i => ⟨16, [(2, true, .v (.int .i64 0)), (5, true, .v (.sl false .int v)), (6, true, .v (.int .i64 v.length)), (7, true, .v (.int .i64 i))], []⟩) (fun i => i ≤ v.length ∧ firstNeg v i < 0) (fun i => v.length - i) 0 ⟨Nat.zero_le _, by simp [firstNeg]⟩ ?_ ?_
  · exact Le.sub (by simp only [AW7, simprocAttr]) (by simp only [AW7, simprocAttr]; try simp)
  rintro i ⟨hi, hf⟩ ih
  refine Run.nq ?_; refine Run.regionW hC (fun K hK => ?_); simp only [AW7, simprocAttr, hX]; (repeat (with_reducible refine And.intro ?_ ?_); exact vc0); refine hK _ ?_; clear hK K; refine Run.nq ?_
  refine Run.nq ?_; refine Run.condW (by simp only [AW7, simprocAttr, hX]; rfl) (by simp only [AW7, simprocAttr, hX]) ?_ ?_
  · intro h
    have h : i < v.length := by simpa using h
    refine Run.nq ?_; refine Run.regionW hC (fun K hK => ?_); simp only [AW7, simprocAttr, hX]; (repeat (with_reducible refine And.intro ?_ ?_); exact vc0); refine hK _ ?_; clear hK K; refine Run.nq ?_
    refine Run.nq ?_; refine Run.regionW hC (fun K hK => ?_); simp only [AW7, simprocAttr, hX]; (repeat (with_reducible refine And.intro ?_ ?_); exact vc0); refine hK _ ?_; clear hK K; refine Run.nq ?_
    have hs : firstNeg v (i + 1) = if v.getD i 0 < 0 then (i : Int) else -1 := by simp only [firstNeg]; rw [if_pos hf]
    refine Run.nq ?_; refine Run.condW (by simp only [AW7, simprocAttr, hX]; rfl) (by simp only [AW7, simprocAttr, hX]) ?_ ?_
    · intro hx
      have hx : v.getD i 0 < 0 := by simpa using hx
      refine Run.nq ?_; refine Run.regionW hC (fun K hK => ?_); simp only [AW7, simprocAttr, hX]; (repeat (with_reducible refine And.intro ?_ ?_); exact vc0); refine hK _ ?_; clear hK K; refine Run.nq ?_
      refine Run.retW [2] (by decide) (by rw [hfn]; rfl) (by simp only [AW7, simprocAttr, hX]; rfl) (by simp only [AW7, simprocAttr, hX]) (hfin _ _ rfl rfl ?_)
      refine ⟨?_, rfl⟩
      rw [if_pos hx] at hs
      unfold fstN
      rw [firstNeg_more v (i + 1) v.length h (by omega), hs]
    · intro hx
      have hx : ¬ v.getD i 0 < 0 := by simpa using hx
      refine Run.nq ?_; refine Run.regionW hC (fun K hK => ?_); simp (disch := omega) only [wrap_id, AW7, simprocAttr, hX]; (repeat (with_reducible refine And.intro ?_ ?_); exact vc0); refine hK _ ?_; clear hK K; refine Run.nq ?_
      refine Run.le ?_ (ih (i + 1) ⟨h, by rw [hs, if_neg hx]; decide⟩ (by omega))
      exact Le.sub (by simp only [AW7, simprocAttr]) (by simp only [AW7, simprocAttr, Option.some.injEq, Prod.mk.injEq, Sl.v.injEq, AV.int.injEq, AV.own.injEq, AV.bool.injEq]; try (repeat' apply And.intro); all_goals omega)
  · intro h
    have h : i = v.length := by simp at h; omega
    subst h
    refine Run.exit rfl ?_; refine Run.nq ?_
    refine Run.nq ?_; refine Run.regionW hC (fun K hK => ?_); simp only [AW7, simprocAttr, hX]; (repeat (with_reducible refine And.intro ?_ ?_); exact vc0); refine hK _ ?_; clear hK K; refine Run.nq ?_
    refine Run.retW [2] (by decide) (by rw [hfn]; rfl) (by simp only [AW7, simprocAttr, hX]; rfl) (by simp only [AW7, simprocAttr, hX]) (hfin _ _ rfl rfl ?_)
    refine ⟨?_, rfl⟩
    have : fstN v = -1 := by
      unfold fstN
      rcases firstNeg_spec v v.length with ⟨h1, _⟩ | ⟨i, h1, _⟩
      · exact h1
      · rw [h1] at hf; omega
    rw [this]

/-- The letters of the normal form, one by one. -/
theorem nf_letters {c : List (List Int)} (hc : CartanP c) : ∀ (f L : Nat) {v : List Int}, Far c L v → L ≤ f → ∀ j, j < L → fstN (imageL c ((nfL c f v).drop j)) = (nfL c f v).getD j 0
  | 0, L, v, h, hf, j, hj => by omega
  | f + 1, L, v, h, hf, j, hj => by
    obtain ⟨k1, k2, k3⟩ := nfL_far hc (f + 1) L h hf
    rcases fst_of_far hc h with ⟨h1, h2⟩ | ⟨h1, h2, h3, M, h4, h5⟩
    · omega
    · have e : nfL c (f + 1) v = fstN v :: nfL c f (reflL c (fstN v) v) := by simp only [nfL]; rw [if_neg (by omega)]
      cases j with
      | zero => rw [List.drop_zero, k3, e]; rfl
      | succ j =>
        rw [e, List.drop_succ_cons]
        have := nf_letters hc f M h5 (by omega) j (by omega)
        rw [this]
        simp

/-- The steps of the game at the word's letters. -/
theorem nf_steps {c : List (List Int)} (hc : CartanP c) {L : Nat} {v : List Int} (h : Far c L v) (hL : L ≤ 31) :
    (nfL c 31 v).length = L ∧ letters c.length (nfL c 31 v) ∧ imageL c (nfL c 31 v) = v ∧
    (∀ j, j < L → fstN (imageL c ((nfL c 31 v).drop j)) = (nfL c 31 v).getD j 0 ∧ reflL c ((nfL c 31 v).getD j 0) (imageL c ((nfL c 31 v).drop j)) = imageL c ((nfL c 31 v).drop (j + 1))) ∧
    fstN (imageL c ((nfL c 31 v).drop L)) < 0 ∧ ∀ j, Far c (L - j) (imageL c ((nfL c 31 v).drop j)) := by
  obtain ⟨k1, k2, k3⟩ := nfL_far hc 31 L h hL
  have hfar : ∀ j, Far c (L - j) (imageL c ((nfL c 31 v).drop j)) := by
    intro j
    induction j with
    | zero => rw [List.drop_zero, k3]; exact h
    | succ j ih =>
      by_cases hj : j < L
      · have hlet := nf_letters hc 31 L h hL j hj
        have hd := actL_drop c (nfL c 31 v) (ones c.length) j (by omega)
        have hg := letters_getD.1 k2 j (by omega)
        rcases fst_of_far hc ih with ⟨_, h2⟩ | ⟨_, _, _, M, h4, h5⟩
        · omega
        · rw [hlet] at h5
          have e : reflL c ((nfL c 31 v).getD j 0) (imageL c ((nfL c 31 v).drop j)) = imageL c ((nfL c 31 v).drop (j + 1)) := by
            show reflL c _ (actL c _ _) = actL c _ _
            rw [hd]
            exact refl2 hc hg (imageL_length c _)
          rw [e] at h5
          rw [show L - (j + 1) = M from by omega]
          exact h5
      · rw [List.drop_eq_nil_of_le (by omega), show L - (j + 1) = 0 from by omega]
        exact Far.ones c
  refine ⟨k1, k2, k3, fun j hj => ⟨nf_letters hc 31 L h hL j hj, ?_⟩, ?_, hfar⟩
  · have hd := actL_drop c (nfL c 31 v) (ones c.length) j (by omega)
    show reflL c _ (actL c _ _) = actL c _ _
    rw [hd]
    exact refl2 hc (letters_getD.1 k2 j (by omega)) (imageL_length c _)
  · have := hfar L
    rw [Nat.sub_self] at this
    exact (fst_zero hc this).2 rfl

theorem c_impl_normal (c : List (List Int)) (v : List Int) (L : Nat) (hc : CartanP c) (hF : Far c L v) (hL : L ≤ 31) :
    FunA B 70 [.sl false (.row false) c, .sl false .int v] (fun rs o => rs = [.own 0 0] ∧ o = [.arr .int (nfL c 31 v) 0 true]) := by
  have hn := hc.2.1
  have hvl : v.length = c.length := hF.1
  obtain ⟨s1, s2, s3, s4, s5, s6⟩ := nf_steps hc hF hL
  obtain ⟨r, hr⟩ : ∃ r, r = nfL c 31 v := ⟨_, rfl⟩
  rw [← hr] at s1 s2 s3 s4 s5 s6 ⊢
  have hbd : ∀ j, Bd 9223372036854775807 (imageL c (r.drop j)) := fun j => (image_bd hc (letters_drop s2 j) (by simp; omega)).mono (by decide)
  refine FunA.walk B_ok (fn := Try.f70) (fun vs w => Try.call70 vs w) Try.func70 rfl (by rw [Try.ntmps70]; simp) (fun C hC hP hT hΓ hbt hfn hpin hfin => ?_); have hX := BX; rw [← hΓ, ← hbt.1, ← hbt.2] at hX; rw [Try.ntmps70]; simp only [AW7, simprocAttr, hX]
  refine Run.nq ?_; refine Run.regionW hC (fun K hK => ?_); simp only [AW7, simprocAttr, hX]; (repeat (with_reducible refine And.intro ?_ ?_); exact vc0); refine hK _ ?_; clear hK K; refine Run.nq ?_
  refine Run.nq ?_; refine Run.regionW hC (fun K hK => ?_); simp only [AW7, simprocAttr, hX]; (repeat (with_reducible refine And.intro ?_ ?_); exact vc0); refine hK _ ?_; clear hK K; refine Run.nq ?_
  refine Run.le (Le.re (obs' := [.arr .int v 0 true]) hpin [0] [(0, true, .sl false (.row false) c), (1, true, .own 0 0), (4, true, .nils)] rfl (by simp [leOs, leO_arr, oAt]) (by refine ⟨⟨_, rfl, ?_⟩, ⟨_, rfl, ?_⟩, ⟨_, rfl, ?_⟩, trivial⟩ <;> simp [leAV, oAt, genO])) ?_
  simp only [frV_cons, frV_nil]
  refine Run.nq ?_; refine Run.regionW hC (fun K hK => ?_); simp only [AW7, simprocAttr, hX]; (repeat (with_reducible refine And.intro ?_ ?_); exact vc0); refine hK _ ?_; clear hK K; refine Run.nq ?_
  refine Run.loopI (X := Nat) (fun j => ⟨24, [(0, true, .v (.sl false (.row false) c)), (1, true, .v (.own 0 0)), (4, true, .v .nils), (5, true, .v (.own 1 j))], [.arr .int (imageL c (r.drop j)) 0 true, .arr .int (r.take j) j true]⟩) (fun j => j ≤ L) (fun j => L - j) 0 (Nat.zero_le _) ?_ ?_
  · exact Le.sub (by rw [List.drop_zero, s3]; rfl) (by simp only [AW7, simprocAttr, hX]; try simp)
  rintro j hj ih
  have hil := imageL_length c (r.drop j)
  have htl : (r.take j).length = j := by simp; omega
  refine Run.nq ?_; refine Run.regionW hC (fun K hK => ?_); simp only [AW7, simprocAttr, hX]; (repeat (with_reducible refine And.intro ?_ ?_); exact vc0)
  refine FunA.callW hP hT (c_impl_firstDescent (imageL c (r.drop j)) (by omega)) (by simp only [AW7, simprocAttr]) ?_
  rintro rs o ⟨rfl, rfl⟩
  (try simp only [AW7, simprocAttr, hX]); (repeat (with_reducible refine And.intro ?_ ?_); exact vc0)
  (repeat (with_reducible refine And.intro ?_ ?_); exact vc0); refine hK _ ?_; clear hK K; refine Run.nq ?_
  refine Run.nq ?_; refine Run.regionW hC (fun K hK => ?_); simp only [AW7, simprocAttr, hX]; (repeat (with_reducible refine And.intro ?_ ?_); exact vc0); refine hK _ ?_; clear hK K; refine Run.nq ?_
  refine Run.nq ?_; refine Run.condW (by simp only [AW7, simprocAttr, hX]; rfl) (by simp only [AW7, simprocAttr, hX]) ?_ ?_
  · intro h
    have h : fstN (imageL c (r.drop j)) < 0 := by simpa using h
    have hjL : j = L := by
      have := (fst_zero hc (s6 j)).1 h
      omega
    subst hjL
    refine Run.nq ?_; refine Run.regionW hC (fun K hK => ?_); simp only [AW7, simprocAttr, hX]; (repeat (with_reducible refine And.intro ?_ ?_); exact vc0); refine hK _ ?_; clear hK K; refine Run.nq ?_
    refine Run.le (Le.re (obs' := [.arr .int r 0 true]) hpin [1] [(4, true, .own 0 0)] rfl (by simp [leOs, leO_arr, oAt, ← s1]) (by refine ⟨⟨_, rfl, ?_⟩, trivial⟩; simp [leAV, oAt, genO])) ?_
    simp only [frV_cons, frV_nil]
    refine Run.retW [4] (by decide) (by rw [hfn]; rfl) (by simp only [AW7, simprocAttr, hX]; rfl) (by simp only [AW7, simprocAttr, hX]) (hfin _ _ rfl rfl ?_)
    exact ⟨rfl, rfl⟩
  · intro h
    have h : ¬ fstN (imageL c (r.drop j)) < 0 := by simpa using h
    have hjL : j < L := by
      refine Classical.byContradiction fun hn => h ?_
      rw [show j = L from by omega]; exact s5
    obtain ⟨q1, q2⟩ := s4 j hjL
    rw [q1]
    have hB' := hbd (j + 1)
    rw [← q2] at hB'
    refine Run.nq ?_; refine Run.regionW hC (fun K hK => ?_); simp only [AW7, simprocAttr, hX]; (repeat (with_reducible refine And.intro ?_ ?_); exact vc0); refine hK _ ?_; clear hK K; refine Run.nq ?_
    refine Run.le (Le.cut0 hpin [_] (fr' := [(0, true, .v (.sl false (.row false) c)), (1, true, .v (.own 0 0)), (4, true, .v .nils), (5, true, .v (.own 1 (j + 1))), (6, true, .v (.int .i64 (r.getD j 0)))]) (obs' := [.arr .int (imageL c (r.drop j)) 0 true, .arr .int (r.take j ++ [r.getD j 0]) (j + 1) true]) rfl (by simp only [AW7, simprocAttr]; try simp) rfl) ?_
    rw [take_snoc 0 r j (by omega)]
    refine Run.nq ?_; refine Run.regionW hC (fun K hK => ?_); simp only [AW7, simprocAttr, hX]; (repeat (with_reducible refine And.intro ?_ ?_); exact vc0)
    refine FunM.call hP hT (c_impl_reflected c (r.getD j 0) (imageL c (r.drop j)) hc hil (letters_getD.1 s2 j (by omega)) hB') 0 0 (by simp only [AW7, simprocAttr]; rfl) (by simp) rfl (by simp only [AW7, simprocAttr]; try simp) ?_
    rintro rs o' obs' ⟨rfl, h⟩
    obtain ⟨rfl, rfl⟩ := List.cons.inj h
    (try simp only [AW7, simprocAttr, hX]); (repeat (with_reducible refine And.intro ?_ ?_); exact vc0)
    (repeat (with_reducible refine And.intro ?_ ?_); exact vc0); refine hK _ ?_; clear hK K; refine Run.nq ?_
    refine Run.le ?_ (ih (j + 1) hjL (by omega))
    exact Le.sub (by rw [q2]) (by simp only [AW7, simprocAttr]; try simp)

theorem fst_pos {c : List (List Int)} (hc : CartanP c) {M : Nat} {v : List Int} (h : Far c M v) {k : Nat} (hk : k < c.length) (hpre : ∀ q, q < k → 0 < v.getD q 0) (hv : ¬ 0 < v.getD k 0) : fstN v = k := by
  have hz := h.nz hc k hk
  rcases firstNeg_spec v v.length with ⟨_, h2⟩ | ⟨i, h1, h2, h3, h4⟩
  · have := h2 k (by rw [h.1]; exact hk); omega
  · have e : fstN v = i := h1
    rw [e]
    by_cases hik : i < k
    · have := hpre i hik; omega
    · by_cases hki : k < i
      · have := h4 k hki; omega
      · omega
theorem fst_none {c : List (List Int)} (hc : CartanP c) {M : Nat} {v : List Int} (h : Far c M v) (hpre : ∀ q, q < c.length → 0 < v.getD q 0) : M = 0 := by
  rcases fst_of_far hc h with ⟨_, h2⟩ | ⟨h1, h2, h3, _⟩
  · exact h2
  · have := hpre (fstN v).toNat (by omega); omega

theorem c_spec_l8Form (c : List (List Int)) (v : List Int) (L : Nat) (hc : CartanP c) (hF : Far c L v) (hL : L ≤ 31) :
    FunA B 66 [.sl false (.row false) c, .sl false .int v] (fun rs o => rs = [.own 0 0] ∧ o = [.arr .int (nfL c 31 v) 0 true]) := by
  have hn := hc.2.1
  have hvl : v.length = c.length := hF.1
  obtain ⟨s1, s2, s3, s4, s5, s6⟩ := nf_steps hc hF hL
  obtain ⟨r, hr⟩ : ∃ r, r = nfL c 31 v := ⟨_, rfl⟩
  rw [← hr] at s1 s2 s3 s4 s5 s6 ⊢
  have hbd : ∀ j, Bd 9223372036854775807 (imageL c (r.drop j)) := fun j => (image_bd hc (letters_drop s2 j) (by simp; omega)).mono (by decide)
  refine FunA.walk B_ok (fn := Try.f66) (fun vs w => Try.call66 vs w) Try.func66 rfl (by rw [Try.ntmps66]; simp) (fun C hC hP hT hΓ hbt hfn hpin hfin => ?_); have hX := BX; rw [← hΓ, ← hbt.1, ← hbt.2] at hX; rw [Try.ntmps66]; simp only [AW7, simprocAttr, hX]
  refine Run.nq ?_; refine Run.regionW hC (fun K hK => ?_); simp only [AW7, simprocAttr, hX]; (repeat (with_reducible refine And.intro ?_ ?_); exact vc0); refine hK _ ?_; clear hK K; refine Run.nq ?_
  refine Run.nq ?_; refine Run.regionW hC (fun K hK => ?_); simp only [AW7, simprocAttr, hX]; (repeat (with_reducible refine And.intro ?_ ?_); exact vc0); refine hK _ ?_; clear hK K; refine Run.nq ?_
  refine Run.nq ?_; refine Run.regionW hC (fun K hK => ?_); simp only [AW7, simprocAttr, hX]; (repeat (with_reducible refine And.intro ?_ ?_); exact vc0); refine hK _ ?_; clear hK K; refine Run.nq ?_
  refine Run.keep [0, 1, 4, 5, 6] ?_; simp only [AK, Nat.reduceBEq]
  have fin : ∀ j, j = L → r.take j = r := fun j hj => by rw [hj, ← s1, List.take_length]
  -- the vector is an argument at first, and one of its own later on
  refine Run.loopI (X := Nat × Bool) (fun x => ⟨40, [(0, true, .v (.sl false (.row false) c)), (1, true, .v (.sl x.2 .int (imageL c (r.drop x.1)))), (4, true, .v .nils), (5, true, .v (.own 0 x.1)), (6, true, .v (.int .i64 x.1))], [.arr .int (r.take x.1) x.1 true]⟩) (fun x => x.1 ≤ L) (fun x => 32 - x.1) (0, false) (by simp) ?_ ?_
  · exact Le.sub (by rfl) (by simp only [AW7, simprocAttr, hX]; try simp [s3])
  rintro ⟨j, fl⟩ hj ih
  simp only [] at hj ⊢
  have hil := imageL_length c (r.drop j)
  have htl : (r.take j).length = j := by simp; omega
  refine Run.nq ?_; refine Run.regionW hC (fun K hK => ?_); simp only [AW7, simprocAttr, hX]; (repeat (with_reducible refine And.intro ?_ ?_); exact vc0); refine hK _ ?_; clear hK K; refine Run.nq ?_
  refine Run.keep [0, 1, 4, 5, 6, 10] ?_; simp only [AK, Nat.reduceBEq]
  refine Run.nq ?_; refine Run.condW (by simp only [AW7, simprocAttr, hX]; rfl) (by simp only [AW7, simprocAttr, hX]) ?_ ?_
  · intro h
    refine Run.nq ?_; refine Run.regionW hC (fun K hK => ?_); simp only [AW7, simprocAttr, hX]; (repeat (with_reducible refine And.intro ?_ ?_); exact vc0); refine hK _ ?_; clear hK K; refine Run.nq ?_
    refine Run.keep [0, 1, 4, 5, 6, 7] ?_; simp only [AK, Nat.reduceBEq]
    refine Run.loopI (X := Nat) (fun k => ⟨40, [(0, true, .v (.sl false (.row false) c)), (1, true, .v (.sl fl .int (imageL c (r.drop j)))), (4, true, .v .nils), (5, true, .v (.own 0 j)), (6, true, .v (.int .i64 j)), (7, true, .v (.int .i64 k))], [.arr .int (r.take j) j true]⟩) (fun k => k ≤ c.length ∧ ∀ q, q < k → 0 < (imageL c (r.drop j)).getD q 0) (fun k => c.length - k) 0 ⟨Nat.zero_le _, by omega⟩ ?_ ?_
    · exact Le.sub (by rfl) (by simp only [AW7, simprocAttr, hX]; try simp)
    rintro k ⟨hk, hpre⟩ ihk
    refine Run.nq ?_; refine Run.regionW hC (fun K hK => ?_); simp only [AW7, simprocAttr, hX]; (repeat (with_reducible refine And.intro ?_ ?_); exact vc0); refine hK _ ?_; clear hK K; refine Run.nq ?_
    refine Run.keep [0, 1, 4, 5, 6, 7, 23] ?_; simp only [AK, Nat.reduceBEq]
    refine Run.nq ?_; refine Run.condW (by simp only [AW7, simprocAttr, hX]; rfl) (by simp only [AW7, simprocAttr, hX]) ?_ ?_
    · intro h2
      have h2 : k < c.length ∧ 0 < (imageL c (r.drop j)).getD k 0 := by
        rw [hil] at h2
        by_cases hq : k < c.length
        · have hq' : (k : Int) < c.length := by omega
          simp only [hq', decide_true, cond_true, decide_eq_true_eq] at h2
          exact ⟨hq, h2⟩
        · have hq' : ¬ (k : Int) < c.length := by omega
          simp [hq'] at h2
      refine Run.nq ?_; refine Run.regionW hC (fun K hK => ?_); simp (disch := omega) only [wrap_id, AW7, simprocAttr, hX]; (repeat (with_reducible refine And.intro ?_ ?_); exact vc0); refine hK _ ?_; clear hK K; refine Run.nq ?_
      refine Run.le ?_ (ihk (k + 1) ⟨h2.1, fun q hq => ?_⟩ (by omega))
      · exact Le.sub (by simp only [AW7, simprocAttr]) (by simp only [AW7, simprocAttr, Option.some.injEq, Prod.mk.injEq, Sl.v.injEq, AV.int.injEq, AV.own.injEq, AV.bool.injEq]; try (repeat' apply And.intro); all_goals omega)
      · rcases Nat.lt_succ_iff_lt_or_eq.1 hq with h | rfl
        · exact hpre q h
        · exact h2.2
    · intro h2
      refine Run.exit rfl ?_; refine Run.nq ?_
      refine Run.nq ?_; refine Run.regionW hC (fun K hK => ?_); simp only [AW7, simprocAttr, hX]; (repeat (with_reducible refine And.intro ?_ ?_); exact vc0); refine hK _ ?_; clear hK K; refine Run.nq ?_
      refine Run.keep [0, 1, 4, 5, 6, 7, 29] ?_; simp only [AK, Nat.reduceBEq]
      refine Run.nq ?_; refine Run.condW (by simp only [AW7, simprocAttr, hX]; rfl) (by simp only [AW7, simprocAttr, hX]) ?_ ?_
      · intro h3
        have h3 : k = c.length := by rw [hil] at h3; simp at h3; omega
        subst h3
        have hz := fst_none hc (s6 j) hpre
        refine Run.nq ?_; refine Run.regionW hC (fun K hK => ?_); simp only [AW7, simprocAttr, hX]; (repeat (with_reducible refine And.intro ?_ ?_); exact vc0); refine hK _ ?_; clear hK K; refine Run.nq ?_
        refine Run.le (Le.re (obs' := [.arr .int r 0 true]) hpin [0] [(4, true, .own 0 0)] rfl (by rw [fin j (by omega)]; simp [leOs, leO_arr, oAt]) (by refine ⟨⟨_, rfl, ?_⟩, trivial⟩; simp [leAV, oAt, genO])) ?_
        simp only [frV_cons, frV_nil]
        refine Run.retW [4] (by decide) (by rw [hfn]; rfl) (by simp only [AW7, simprocAttr, hX]; rfl) (by simp only [AW7, simprocAttr, hX]) (hfin _ _ rfl rfl ?_)
        exact ⟨rfl, rfl⟩
      · intro h3
        have h3 : k < c.length := by
          have : ¬ k = c.length := by rw [hil] at h3; intro hk; subst hk; simp at h3
          omega
        have hnp : ¬ 0 < (imageL c (r.drop j)).getD k 0 := by
          intro hp
          rw [hil] at h2
          have hq' : (k : Int) < c.length := by omega
          simp only [hq', decide_true, cond_true, decide_eq_false_iff_not] at h2
          exact h2 hp
        have hfk := fst_pos hc (s6 j) h3 hpre hnp
        have hjL : j < L := by
          refine Classical.byContradiction fun hn2 => ?_
          have : j = L := by omega
          rw [this] at hfk
          omega
        obtain ⟨q1, q2⟩ := s4 j hjL
        rw [hfk] at q1
        have hB' := hbd (j + 1)
        rw [← q2] at hB'
        have hlet := letters_getD.1 s2 j (by omega)
        rw [q1]
        refine Run.nq ?_; refine Run.regionW hC (fun K hK => ?_); simp only [AW7, simprocAttr, hX]; (repeat (with_reducible refine And.intro ?_ ?_); exact vc0); refine hK _ ?_; clear hK K; refine Run.nq ?_
        refine Run.le (Le.cut0 hpin [_] (fr' := [(0, true, .v (.sl false (.row false) c)), (1, true, .v (.sl fl .int (imageL c (r.drop j)))), (4, true, .v .nils), (5, true, .v (.own 0 (j + 1))), (6, true, .v (.int .i64 j)), (7, true, .v (.int .i64 (r.getD j 0)))]) (obs' := [.arr .int (r.take j ++ [r.getD j 0]) (j + 1) true]) rfl (by simp only [AW7, simprocAttr]; try simp) rfl) ?_
        rw [take_snoc 0 r j (by omega)]
        refine Run.nq ?_; refine Run.regionW hC (fun K hK => ?_); simp only [AW7, simprocAttr, hX]; (repeat (with_reducible refine And.intro ?_ ?_); exact vc0)
        refine FunA.callW hP hT (c_spec_l6Reflect c (r.getD j 0) (imageL c (r.drop j)) hc hil hlet hB') (by simp only [AW7, simprocAttr]) ?_
        rintro rs o ⟨rfl, rfl⟩
        (try simp only [AW7, simprocAttr, hX]); (repeat (with_reducible refine And.intro ?_ ?_); exact vc0)
        (repeat (with_reducible refine And.intro ?_ ?_); exact vc0); refine hK _ ?_; clear hK K; refine Run.nq ?_
        refine Run.nq ?_; refine Run.regionW hC (fun K hK => ?_); simp (disch := omega) only [wrap_id, AW7, simprocAttr, hX]; (repeat (with_reducible refine And.intro ?_ ?_); exact vc0); refine hK _ ?_; clear hK K; refine Run.nq ?_
        refine Run.le (Le.letgo 1 [(0, true, .sl false (.row false) c), (1, true, .sl true .int (reflL c (r.getD j 0) (imageL c (r.drop j)))), (4, true, .nils), (5, true, .own 0 (j + 1)), (6, true, .int .i64 ((j : Int) + 1))] rfl ?_) ?_
        · exact ⟨.inl rfl, .inr ⟨rfl, rfl⟩, .inl rfl, .inl rfl, .inl rfl, trivial⟩
        simp only [frV_cons, frV_nil, q2]
        refine Run.le ?_ (ih (j + 1, true) hjL (by simp only []; omega))
        exact Le.cut0 hpin [.dead] (by rfl) (by simp only [AW7, simprocAttr]; try simp) rfl
  · intro h
    have h : ¬ (j : Int) ≤ 30 := by simpa using h
    refine Run.exit rfl ?_; refine Run.nq ?_
    refine Run.nq ?_; refine Run.regionW hC (fun K hK => ?_); simp only [AW7, simprocAttr, hX]; (repeat (with_reducible refine And.intro ?_ ?_); exact vc0); refine hK _ ?_; clear hK K; refine Run.nq ?_
    refine Run.le (Le.re (obs' := [.arr .int r 0 true]) hpin [0] [(4, true, .own 0 0)] rfl (by rw [fin j (by omega)]; simp [leOs, leO_arr, oAt]) (by refine ⟨⟨_, rfl, ?_⟩, trivial⟩; simp [leAV, oAt, genO])) ?_
    simp only [frV_cons, frV_nil]
    refine Run.retW [4] (by decide) (by rw [hfn]; rfl) (by simp only [AW7, simprocAttr, hX]; rfl) (by simp only [AW7, simprocAttr, hX]) (hfin _ _ rfl rfl ?_)
    exact ⟨rfl, rfl⟩
end Go.Proofs.Ytdhfonblpbpmmaa

/- Normal forms: what the functions of both sides do. -/
import Derived.Test.YtojcdgdbffmlpaaGreatB9
import Derived.Test.YtojcdgdbffmlpaaGreatB6
set_option linter.unusedVariables false
set_option linter.unusedSimpArgs false
namespace Go.Proofs.YtojcdgdbffmlpaaGreat
open Go Go.Aw Go.Cox
theorem firstNeg_more (v : List Int) : ∀ n m, n ≤ m → 0 ≤ firstNeg v n → firstNeg v m = firstNeg v n := by
  intro n m h h0
  induction m with
  | zero => have : n = 0 := by omega
            subst this; rfl
  | succ m ih =>
    by_cases hn : n = m + 1
    · subst hn; rfl
    · have := ih (by omega)
      simp only [firstNeg]
      rw [if_neg (by omega), this]
theorem c_impl_firstDescent (v : List Int) (hl : v.length ≤ 1048576) : FunA B 178 [.sl false .int v] (fun rs o => rs = [.int .i64 (fstN v)] ∧ o = []) := by
  refine FunA.walk B_ok (fn := Tryz.f178) (fun vs w => Tryz.call178 vs w) Tryz.func178 rfl (by rw [Tryz.ntmps178]; simp) (fun C hC hP hT hΓ hbt hfn hpin hfin => ?_); have hX := BX; rw [← hΓ, ← hbt.1, ← hbt.2] at hX; rw [Tryz.ntmps178]; simp only [AW7, simprocAttr, hX]
  refine Run.R ?_
  refine Run.R ?_
  refine Run.loopI (X := Nat) (fun i => ⟨16, [(2, true, .v (.int .i64 0)), (5, true, .v (.sl false .int v)), (6, true, .v (.int .i64 v.length)), (7, true, .v (.int .i64 i))], []⟩) (fun i => i ≤ v.length ∧ firstNeg v i < 0) (fun i => v.length - i) 0 ⟨Nat.zero_le _, by simp [firstNeg]⟩ ?_ ?_
  · exact Le.sub (by simp only [AW7, simprocAttr]) (by simp only [AW7, simprocAttr]; try simp)
  rintro i ⟨hi, hf⟩ ih
  refine Run.R ?_
  refine Run.nq ?_; refine Run.cW ?_ ?_
  · intro h
    have h : i < v.length := by simpa using h
    refine Run.R ?_
    refine Run.R ?_
    have hs : firstNeg v (i + 1) = if v.getD i 0 < 0 then (i : Int) else -1 := by simp only [firstNeg]; rw [if_pos hf]
    refine Run.nq ?_; refine Run.cW ?_ ?_
    · intro hx
      have hx : v.getD i 0 < 0 := by simpa using hx
      refine Run.R ?_
      refine Run.rW [2] (hfin _ _ rfl rfl ?_)
      refine ⟨?_, rfl⟩
      rw [if_pos hx] at hs
      unfold fstN
      rw [firstNeg_more v (i + 1) v.length h (by omega), hs]
    · intro hx
      have hx : ¬ v.getD i 0 < 0 := by simpa using hx
      refine Run.RW ?_
      refine Run.le ?_ (ih (i + 1) ⟨h, by rw [hs, if_neg hx]; decide⟩ (by omega))
      exact Le.sub (by simp only [AW7, simprocAttr]) (by simp only [AW7, simprocAttr, Option.some.injEq, Prod.mk.injEq, Sl.v.injEq, AV.int.injEq, AV.own.injEq, AV.bool.injEq]; try (repeat' apply And.intro); all_goals omega)
  · intro h
    have h : i = v.length := by simp at h; omega
    subst h
    refine Run.exit rfl ?_; refine Run.nq ?_
    refine Run.R ?_
    refine Run.rW [2] (hfin _ _ rfl rfl ?_)
    refine ⟨?_, rfl⟩
    have : fstN v = -1 := by
      unfold fstN
      rcases firstNeg_spec v v.length with ⟨h1, _⟩ | ⟨i, h1, _⟩
      · exact h1
      · rw [h1] at hf; omega
    rw [this]
theorem nf_letters {c : List (List Int)} (hc : CartanP c) : ∀ (f L : Nat) {v : List Int}, Far c L v → L ≤ f → ∀ j, j < L → fstN (imageL c ((nfL c f v).drop j)) = (nfL c f v).getD j 0
  | 0, L, v, h, hf, j, hj => by omega
  | f + 1, L, v, h, hf, j, hj => by
    obtain ⟨k1, k2, k3⟩ := nfL_far hc (f + 1) L h hf
    rcases fst_of_far hc h with ⟨h1, h2⟩ | ⟨h1, h2, h3, M, h4, h5⟩
    · omega
    · have e : nfL c (f + 1) v = fstN v :: nfL c f (reflL c (fstN v) v) := by simp only [nfL]; rw [if_neg (by omega)]
      cases j with
      | zero => rw [List.drop_zero, k3, e]; rfl
      | succ j =>
        rw [e, List.drop_succ_cons]
        have := nf_letters hc f M h5 (by omega) j (by omega)
        rw [this]
        simp
theorem nf_steps {c : List (List Int)} (hc : CartanP c) {L : Nat} {v : List Int} (h : Far c L v) (hL : L ≤ 31) :
    (nfL c 31 v).length = L ∧ letters c.length (nfL c 31 v) ∧ imageL c (nfL c 31 v) = v ∧
    (∀ j, j < L → fstN (imageL c ((nfL c 31 v).drop j)) = (nfL c 31 v).getD j 0 ∧ reflL c ((nfL c 31 v).getD j 0) (imageL c ((nfL c 31 v).drop j)) = imageL c ((nfL c 31 v).drop (j + 1))) ∧
    fstN (imageL c ((nfL c 31 v).drop L)) < 0 ∧ ∀ j, Far c (L - j) (imageL c ((nfL c 31 v).drop j)) := by
  obtain ⟨k1, k2, k3⟩ := nfL_far hc 31 L h hL
  have hfar : ∀ j, Far c (L - j) (imageL c ((nfL c 31 v).drop j)) := by
    intro j
    induction j with
    | zero => rw [List.drop_zero, k3]; exact h
    | succ j ih =>
      by_cases hj : j < L
      · have hlet := nf_letters hc 31 L h hL j hj
        have hd := actL_drop c (nfL c 31 v) (ones c.length) j (by omega)
        have hg := letters_getD.1 k2 j (by omega)
        rcases fst_of_far hc ih with ⟨_, h2⟩ | ⟨_, _, _, M, h4, h5⟩
        · omega
        · rw [hlet] at h5
          have e : reflL c ((nfL c 31 v).getD j 0) (imageL c ((nfL c 31 v).drop j)) = imageL c ((nfL c 31 v).drop (j + 1)) := by
            show reflL c _ (actL c _ _) = actL c _ _
            rw [hd]
            exact refl2 hc hg (imageL_length c _)
          rw [e] at h5
          rw [show L - (j + 1) = M from by omega]
          exact h5
      · rw [List.drop_eq_nil_of_le (by omega), show L - (j + 1) = 0 from by omega]
        exact Far.ones c
  refine ⟨k1, k2, k3, fun j hj => ⟨nf_letters hc 31 L h hL j hj, ?_⟩, ?_, hfar⟩
  · have hd := actL_drop c (nfL c 31 v) (ones c.length) j (by omega)
    show reflL c _ (actL c _ _) = actL c _ _
    rw [hd]
    exact refl2 hc (letters_getD.1 k2 j (by omega)) (imageL_length c _)
  · have := hfar L
    rw [Nat.sub_self] at this
    exact (fst_zero hc this).2 rfl
theorem c_impl_normal (c : List (List Int)) (v : List Int) (L : Nat) (hc : CartanP c) (hF : Far c L v) (hL : L ≤ 31) :
    FunA B 181 [.sl false (.row false) c, .sl false .int v] (fun rs o => rs = [.own 0 0] ∧ o = [.arr .int (nfL c 31 v) 0 true]) := by
  have hn := hc.2.1
  have hvl : v.length = c.length := hF.1
  obtain ⟨s1, s2, s3, s4, s5, s6⟩ := nf_steps hc hF hL
  obtain ⟨r, hr⟩ : ∃ r, r = nfL c 31 v := ⟨_, rfl⟩
  rw [← hr] at s1 s2 s3 s4 s5 s6 ⊢
  have hbd : ∀ j, Bd 9223372036854775807 (imageL c (r.drop j)) := fun j => (image_bd hc (letters_drop s2 j) (by simp; omega)).mono (by decide)
  refine FunA.walk B_ok (fn := Tryz.f181) (fun vs w => Tryz.call181 vs w) Tryz.func181 rfl (by rw [Tryz.ntmps181]; simp) (fun C hC hP hT hΓ hbt hfn hpin hfin => ?_); have hX := BX; rw [← hΓ, ← hbt.1, ← hbt.2] at hX; rw [Tryz.ntmps181]; simp only [AW7, simprocAttr, hX]
  refine Run.R ?_
  refine Run.R ?_
  refine Run.le (Le.re (obs' := [.arr .int v 0 true]) hpin [0] [(0, true, .sl false (.row false) c), (1, true, .own 0 0), (4, true, .nils)] rfl (by simp [leOs, leO_arr, oAt]) (by refine ⟨⟨_, rfl, ?_⟩, ⟨_, rfl, ?_⟩, ⟨_, rfl, ?_⟩, trivial⟩ <;> simp [leAV, oAt, genO])) ?_
  simp only [frV_cons, frV_nil]
  refine Run.R ?_
  refine Run.loopI (X := Nat) (fun j => ⟨24, [(0, true, .v (.sl false (.row false) c)), (1, true, .v (.own 0 0)), (4, true, .v .nils), (5, true, .v (.own 1 j))], [.arr .int (imageL c (r.drop j)) 0 true, .arr .int (r.take j) j true]⟩) (fun j => j ≤ L) (fun j => L - j) 0 (Nat.zero_le _) ?_ ?_
  · exact Le.sub (by rw [List.drop_zero, s3]; rfl) (by simp only [AW7, simprocAttr, hX]; try simp)
  rintro j hj ih
  have hil := imageL_length c (r.drop j)
  have htl : (r.take j).length = j := by simp; omega
  refine Run.nq ?_; refine Run.regionW hC (fun K hK => ?_); refine wW ?_
  refine FunA.cW hP hT (c_impl_firstDescent (imageL c (r.drop j)) (by omega)) ?_
  rintro rs o ⟨rfl, rfl⟩
  refine wW ?_
  refine wE ?_; clear hK K
  refine Run.R ?_
  refine Run.nq ?_; refine Run.cW ?_ ?_
  · intro h
    have h : fstN (imageL c (r.drop j)) < 0 := by simpa using h
    have hjL : j = L := by
      have := (fst_zero hc (s6 j)).1 h
      omega
    subst hjL
    refine Run.R ?_
    refine Run.le (Le.re (obs' := [.arr .int r 0 true]) hpin [1] [(4, true, .own 0 0)] rfl (by simp [leOs, leO_arr, oAt, ← s1]) (by refine ⟨⟨_, rfl, ?_⟩, trivial⟩; simp [leAV, oAt, genO])) ?_
    simp only [frV_cons, frV_nil]
    refine Run.rW [4] (hfin _ _ rfl rfl ?_)
    exact ⟨rfl, rfl⟩
  · intro h
    have h : ¬ fstN (imageL c (r.drop j)) < 0 := by simpa using h
    have hjL : j < L := by
      refine Classical.byContradiction fun hn => h ?_
      rw [show j = L from by omega]; exact s5
    obtain ⟨q1, q2⟩ := s4 j hjL
    rw [q1]
    have hB' := hbd (j + 1)
    rw [← q2] at hB'
    refine Run.R ?_
    refine Run.le (Le.cut0 hpin [_] (fr' := [(0, true, .v (.sl false (.row false) c)), (1, true, .v (.own 0 0)), (4, true, .v .nils), (5, true, .v (.own 1 (j + 1))), (6, true, .v (.int .i64 (r.getD j 0)))]) (obs' := [.arr .int (imageL c (r.drop j)) 0 true, .arr .int (r.take j ++ [r.getD j 0]) (j + 1) true]) rfl (by simp only [AW7, simprocAttr]; try simp) rfl) ?_
    rw [take_snoc 0 r j (by omega)]
    refine Run.nq ?_; refine Run.regionW hC (fun K hK => ?_); refine wW ?_
    refine FunM.call hP hT (c_impl_reflected c (r.getD j 0) (imageL c (r.drop j)) hc hil (letters_getD.1 s2 j (by omega)) hB') 0 0 (by simp only [AW7, simprocAttr]; rfl) (by simp) rfl (by simp only [AW7, simprocAttr]; try simp) ?_
    rintro rs o' obs' ⟨rfl, h⟩
    obtain ⟨rfl, rfl⟩ := List.cons.inj h
    refine wW ?_
    refine wE ?_; clear hK K
    refine Run.le ?_ (ih (j + 1) hjL (by omega))
    exact Le.sub (by rw [q2]) (by simp only [AW7, simprocAttr]; try simp)
theorem fst_pos {c : List (List Int)} (hc : CartanP c) {M : Nat} {v : List Int} (h : Far c M v) {k : Nat} (hk : k < c.length) (hpre : ∀ q, q < k → 0 < v.getD q 0) (hv : ¬ 0 < v.getD k 0) : fstN v = k := by
  have hz := h.nz hc k hk
  rcases firstNeg_spec v v.length with ⟨_, h2⟩ | ⟨i, h1, h2, h3, h4⟩
  · have := h2 k (by rw [h.1]; exact hk); omega
  · have e : fstN v = i := h1
    rw [e]
    by_cases hik : i < k
    · have := hpre i hik; omega
    · by_cases hki : k < i
      · have := h4 k hki; omega
      · omega
theorem fst_none {c : List (List Int)} (hc : CartanP c) {M : Nat} {v : List Int} (h : Far c M v) (hpre : ∀ q, q < c.length → 0 < v.getD q 0) : M = 0 := by
  rcases fst_of_far hc h with ⟨_, h2⟩ | ⟨h1, h2, h3, _⟩
  · exact h2
  · have := hpre (fstN v).toNat (by omega); omega
theorem c_spec_l8Form (c : List (List Int)) (v : List Int) (L : Nat) (hc : CartanP c) (hF : Far c L v) (hL : L ≤ 31) :
    FunA B 167 [.sl false (.row false) c, .sl false .int v] (fun rs o => rs = [.own 0 0] ∧ o = [.arr .int (nfL c 31 v) 0 true]) := by
  have hn := hc.2.1
  have hvl : v.length = c.length := hF.1
  obtain ⟨s1, s2, s3, s4, s5, s6⟩ := nf_steps hc hF hL
  obtain ⟨r, hr⟩ : ∃ r, r = nfL c 31 v := ⟨_, rfl⟩
  rw [← hr] at s1 s2 s3 s4 s5 s6 ⊢
  have hbd : ∀ j, Bd 9223372036854775807 (imageL c (r.drop j)) := fun j => (image_bd hc (letters_drop s2 j) (by simp; omega)).mono (by decide)
  refine FunA.walk B_ok (fn := Tryz.f167) (fun vs w => Tryz.call167 vs w) Tryz.func167 rfl (by rw [Tryz.ntmps167]; simp) (fun C hC hP hT hΓ hbt hfn hpin hfin => ?_); have hX := BX; rw [← hΓ, ← hbt.1, ← hbt.2] at hX; rw [Tryz.ntmps167]; simp only [AW7, simprocAttr, hX]
  refine Run.R ?_
  refine Run.R ?_
  refine Run.R ?_
  refine Run.keep [0, 1, 4, 5, 6] ?_; simp only [AK, Nat.reduceBEq]
  have fin : ∀ j, j = L → r.take j = r := fun j hj => by rw [hj, ← s1, List.take_length]
  refine Run.loopI (X := Nat × Bool) (fun x => ⟨40, [(0, true, .v (.sl false (.row false) c)), (1, true, .v (.sl x.2 .int (imageL c (r.drop x.1)))), (4, true, .v .nils), (5, true, .v (.own 0 x.1)), (6, true, .v (.int .i64 x.1))], [.arr .int (r.take x.1) x.1 true]⟩) (fun x => x.1 ≤ L) (fun x => 32 - x.1) (0, false) (by simp) ?_ ?_
  · exact Le.sub (by rfl) (by simp only [AW7, simprocAttr, hX]; try simp [s3])
  rintro ⟨j, fl⟩ hj ih
  simp only [] at hj ⊢
  have hil := imageL_length c (r.drop j)
  have htl : (r.take j).length = j := by simp; omega
  refine Run.R ?_
  refine Run.keep [0, 1, 4, 5, 6, 10] ?_; simp only [AK, Nat.reduceBEq]
  refine Run.nq ?_; refine Run.cW ?_ ?_
  · intro h
    refine Run.R ?_
    refine Run.keep [0, 1, 4, 5, 6, 7] ?_; simp only [AK, Nat.reduceBEq]
    refine Run.loopI (X := Nat) (fun k => ⟨40, [(0, true, .v (.sl false (.row false) c)), (1, true, .v (.sl fl .int (imageL c (r.drop j)))), (4, true, .v .nils), (5, true, .v (.own 0 j)), (6, true, .v (.int .i64 j)), (7, true, .v (.int .i64 k))], [.arr .int (r.take j) j true]⟩) (fun k => k ≤ c.length ∧ ∀ q, q < k → 0 < (imageL c (r.drop j)).getD q 0) (fun k => c.length - k) 0 ⟨Nat.zero_le _, by omega⟩ ?_ ?_
    · exact Le.sub (by rfl) (by simp only [AW7, simprocAttr, hX]; try simp)
    rintro k ⟨hk, hpre⟩ ihk
    refine Run.R ?_
    refine Run.keep [0, 1, 4, 5, 6, 7, 23] ?_; simp only [AK, Nat.reduceBEq]
    refine Run.nq ?_; refine Run.cW ?_ ?_
    · intro h2
      have h2 : k < c.length ∧ 0 < (imageL c (r.drop j)).getD k 0 := by
        rw [hil] at h2
        by_cases hq : k < c.length
        · have hq' : (k : Int) < c.length := by omega
          simp only [hq', decide_true, cond_true, decide_eq_true_eq] at h2
          exact ⟨hq, h2⟩
        · have hq' : ¬ (k : Int) < c.length := by omega
          simp [hq'] at h2
      refine Run.RW ?_
      refine Run.le ?_ (ihk (k + 1) ⟨h2.1, fun q hq => ?_⟩ (by omega))
      · exact Le.sub (by simp only [AW7, simprocAttr]) (by simp only [AW7, simprocAttr, Option.some.injEq, Prod.mk.injEq, Sl.v.injEq, AV.int.injEq, AV.own.injEq, AV.bool.injEq]; try (repeat' apply And.intro); all_goals omega)
      · rcases Nat.lt_succ_iff_lt_or_eq.1 hq with h | rfl
        · exact hpre q h
        · exact h2.2
    · intro h2
      refine Run.exit rfl ?_; refine Run.nq ?_
      refine Run.R ?_
      refine Run.keep [0, 1, 4, 5, 6, 7, 29] ?_; simp only [AK, Nat.reduceBEq]
      refine Run.nq ?_; refine Run.cW ?_ ?_
      · intro h3
        have h3 : k = c.length := by rw [hil] at h3; simp at h3; omega
        subst h3
        have hz := fst_none hc (s6 j) hpre
        refine Run.R ?_
        refine Run.le (Le.re (obs' := [.arr .int r 0 true]) hpin [0] [(4, true, .own 0 0)] rfl (by rw [fin j (by omega)]; simp [leOs, leO_arr, oAt]) (by refine ⟨⟨_, rfl, ?_⟩, trivial⟩; simp [leAV, oAt, genO])) ?_
        simp only [frV_cons, frV_nil]
        refine Run.rW [4] (hfin _ _ rfl rfl ?_)
        exact ⟨rfl, rfl⟩
      · intro h3
        have h3 : k < c.length := by
          have : ¬ k = c.length := by rw [hil] at h3; intro hk; subst hk; simp at h3
          omega
        have hnp : ¬ 0 < (imageL c (r.drop j)).getD k 0 := by
          intro hp
          rw [hil] at h2
          have hq' : (k : Int) < c.length := by omega
          simp only [hq', decide_true, cond_true, decide_eq_false_iff_not] at h2
          exact h2 hp
        have hfk := fst_pos hc (s6 j) h3 hpre hnp
        have hjL : j < L := by
          refine Classical.byContradiction fun hn2 => ?_
          have : j = L := by omega
          rw [this] at hfk
          omega
        obtain ⟨q1, q2⟩ := s4 j hjL
        rw [hfk] at q1
        have hB' := hbd (j + 1)
        rw [← q2] at hB'
        have hlet := letters_getD.1 s2 j (by omega)
        rw [q1]
        refine Run.R ?_
        refine Run.le (Le.cut0 hpin [_] (fr' := [(0, true, .v (.sl false (.row false) c)), (1, true, .v (.sl fl .int (imageL c (r.drop j)))), (4, true, .v .nils), (5, true, .v (.own 0 (j + 1))), (6, true, .v (.int .i64 j)), (7, true, .v (.int .i64 (r.getD j 0)))]) (obs' := [.arr .int (r.take j ++ [r.getD j 0]) (j + 1) true]) rfl (by simp only [AW7, simprocAttr]; try simp) rfl) ?_
        rw [take_snoc 0 r j (by omega)]
        refine Run.nq ?_; refine Run.regionW hC (fun K hK => ?_); refine wW ?_
        refine FunA.cW hP hT (c_spec_l6Reflect c (r.getD j 0) (imageL c (r.drop j)) hc hil hlet hB') ?_
        rintro rs o ⟨rfl, rfl⟩
        refine wW ?_
        refine wE ?_; clear hK K
        refine Run.RW ?_
        refine Run.le (Le.letgo 1 [(0, true, .sl false (.row false) c), (1, true, .sl true .int (reflL c (r.getD j 0) (imageL c (r.drop j)))), (4, true, .nils), (5, true, .own 0 (j + 1)), (6, true, .int .i64 ((j : Int) + 1))] rfl ?_) ?_
        · exact ⟨.inl rfl, .inr ⟨rfl, rfl⟩, .inl rfl, .inl rfl, .inl rfl, trivial⟩
        simp only [frV_cons, frV_nil, q2]
        refine Run.le ?_ (ih (j + 1, true) hjL (by simp only []; omega))
        exact Le.cut0 hpin [.dead] (by rfl) (by simp only [AW7, simprocAttr]; try simp) rfl
  · intro h
    have h : ¬ (j : Int) ≤ 30 := by simpa using h
    refine Run.exit rfl ?_; refine Run.nq ?_
    refine Run.R ?_
    refine Run.le (Le.re (obs' := [.arr .int r 0 true]) hpin [0] [(4, true, .own 0 0)] rfl (by rw [fin j (by omega)]; simp [leOs, leO_arr, oAt]) (by refine ⟨⟨_, rfl, ?_⟩, trivial⟩; simp [leAV, oAt, genO])) ?_
    simp only [frV_cons, frV_nil]
    refine Run.rW [4] (hfin _ _ rfl rfl ?_)
    exact ⟨rfl, rfl⟩
end Go.Proofs.YtojcdgdbffmlpaaGreat
namespace Go.Proofs.YtojcdgdbffmlpaaGreat
open Go Go.Aw Go.Cox
theorem c_impl_reduced (c : List (List Int)) (w : List Int) (hc : CartanP c) (hw : letters c.length w) (hl : w.length ≤ 31) :
    FunA B 113 [.sl false (.row false) c, .sl false .int w] (fun rs o => rs = [.own 0 0] ∧ o = [.arr .int (redL c w) 0 true]) := by
  obtain ⟨L, h1, h2, h3⟩ := Far.image hc hw
  have hn := hc.2.1
  refine FunA.walk B_ok (fn := Tryz.f113) (fun vs w => Tryz.call113 vs w) Tryz.func113 rfl (by rw [Tryz.ntmps113]; simp) (fun C hC hP hT hΓ hbt hfn hpin hfin => ?_); have hX := BX; rw [← hΓ, ← hbt.1, ← hbt.2] at hX; rw [Tryz.ntmps113]; simp only [AW7, simprocAttr, hX]
  refine Run.R ?_
  refine Run.nq ?_; refine Run.regionW hC (fun K hK => ?_); refine wW ?_
  refine FunA.cW hP hT (c_impl_image c w hc hw hl) ?_
  rintro rs o ⟨rfl, rfl⟩
  refine wW ?_
  refine FunA.cW hP hT (c_impl_normal c (imageL c w) L hc h3 (by omega)) ?_
  rintro rs o ⟨rfl, rfl⟩
  refine wW ?_
  refine wE ?_; clear hK K
  refine Run.le (Le.re (obs' := [.arr .int (redL c w) 0 true]) hpin [1] [(4, true, .own 0 0)] rfl (by simp [leOs, leO_arr, oAt, redL]) (by refine ⟨⟨_, rfl, ?_⟩, trivial⟩; simp [leAV, oAt, genO])) ?_
  simp only [frV_cons, frV_nil]
  refine Run.rW [4] (hfin _ _ rfl rfl ?_)
  exact ⟨rfl, rfl⟩
theorem c_spec_l8Normal (c : List (List Int)) (w : List Int) (hc : CartanP c) (hw : letters c.length w) (hl : w.length ≤ 31) :
    FunA B 108 [.sl false (.row false) c, .sl false .int w] (fun rs o => rs = [.own 0 0] ∧ o = [.arr .int (redL c w) 0 true]) := by
  obtain ⟨L, h1, h2, h3⟩ := Far.image hc hw
  have hn := hc.2.1
  refine FunA.walk B_ok (fn := Tryz.f108) (fun vs w => Tryz.call108 vs w) Tryz.func108 rfl (by rw [Tryz.ntmps108]; simp) (fun C hC hP hT hΓ hbt hfn hpin hfin => ?_); have hX := BX; rw [← hΓ, ← hbt.1, ← hbt.2] at hX; rw [Tryz.ntmps108]; simp only [AW7, simprocAttr, hX]
  refine Run.R ?_
  refine Run.nq ?_; refine Run.regionW hC (fun K hK => ?_); refine wW ?_
  refine FunA.cW hP hT (c_spec_l8Image c w hc hw hl) ?_
  rintro rs o ⟨rfl, rfl⟩
  refine wW ?_
  refine FunA.cW hP hT (c_spec_l8Form c (imageL c w) L hc h3 (by omega)) ?_
  rintro rs o ⟨rfl, rfl⟩
  refine wW ?_
  refine wE ?_; clear hK K
  refine Run.le (Le.re (obs' := [.arr .int (redL c w) 0 true]) hpin [1] [(4, true, .own 0 0)] rfl (by simp [leOs, leO_arr, oAt, redL]) (by refine ⟨⟨_, rfl, ?_⟩, trivial⟩; simp [leAV, oAt, genO])) ?_
  simp only [frV_cons, frV_nil]
  refine Run.rW [4] (hfin _ _ rfl rfl ?_)
  exact ⟨rfl, rfl⟩
theorem c_impl_lengthOf (c : List (List Int)) (w : List Int) (hc : CartanP c) (hw : letters c.length w) (hl : w.length ≤ 31) :
    FunA B 141 [.sl false (.row false) c, .sl false .int w] (fun rs o => rs = [.int .i64 (redL c w).length] ∧ o = []) := by
  refine FunA.walk B_ok (fn := Tryz.f141) (fun vs w => Tryz.call141 vs w) Tryz.func141 rfl (by rw [Tryz.ntmps141]; simp) (fun C hC hP hT hΓ hbt hfn hpin hfin => ?_); have hX := BX; rw [← hΓ, ← hbt.1, ← hbt.2] at hX; rw [Tryz.ntmps141]; simp only [AW7, simprocAttr, hX]
  refine Run.R ?_
  refine Run.nq ?_; refine Run.regionW hC (fun K hK => ?_); refine wW ?_
  refine FunA.cW hP hT (c_impl_reduced c w hc hw hl) ?_
  rintro rs o ⟨rfl, rfl⟩
  refine wW ?_
  refine wE ?_; clear hK K
  refine Run.le (Le.cut0 hpin [_] (fr' := [(4, true, .v (.int .i64 (redL c w).length))]) (obs' := []) rfl (by simp only [AW7, simprocAttr]; try simp) rfl) ?_
  refine Run.rW [4] (hfin _ _ rfl rfl ?_)
  exact ⟨rfl, rfl⟩
noncomputable def nfW (c : List (List Int)) (w : List Int) : List Int := if wordB c w then redL c w else []
theorem c_spec_NormalForm (c : List (List Int)) (w : List Int) (hcl : c.length ≤ 1048576) :
    FunA B 17 [.sl false (.row false) c, .sl false .int w] (fun rs o => rs = [.own 0 0, .bool (wordB c w)] ∧ o = [.arr .int (nfW c w) 0 true]) := by
  refine FunA.walk B_ok (fn := Tryz.f17) (fun vs w => Tryz.call17 vs w) Tryz.func17 rfl (by rw [Tryz.ntmps17]; simp) (fun C hC hP hT hΓ hbt hfn hpin hfin => ?_); have hX := BX; rw [← hΓ, ← hbt.1, ← hbt.2] at hX; rw [Tryz.ntmps17]; simp only [AW7, simprocAttr, hX]
  refine Run.R ?_
  refine Run.nq ?_; refine Run.regionW hC (fun K hK => ?_); refine wW ?_
  refine FunA.cW hP hT (c_spec_IsWord c w hcl) ?_
  rintro rs o ⟨rfl, rfl⟩
  refine wW ?_
  refine wE ?_; clear hK K
  refine Run.nq ?_; refine Run.cW ?_ ?_
  · intro hb
    have hb : wordB c w = false := by simpa using hb
    refine Run.R ?_
    refine Run.rW [4, 5] (hfin _ _ rfl rfl ?_)
    simp [nfW, hb]
  · intro hb
    have hb : wordB c w = true := by simpa using hb
    obtain ⟨h1, h2, h3⟩ := wordB_iff.1 hb
    refine Run.nq ?_; refine Run.regionW hC (fun K hK => ?_); refine wW ?_
    refine FunA.cW hP hT (c_spec_l8Normal c w h1 h3 (by omega)) ?_
    rintro rs o ⟨rfl, rfl⟩
    refine wW ?_
    refine wE ?_; clear hK K
    refine Run.rW [4, 5] (hfin _ _ rfl rfl ?_)
    simp [nfW, hb]
theorem c_spec_ConcatWords (a b : List Int) (ha : a.length ≤ 1048576) (hb : b.length ≤ 1048576) :
    FunA B 115 [.sl false .int a, .sl false .int b] (fun rs o => rs = [.own 0 0] ∧ o = [.arr .int (a ++ b) 0 true]) := by
  refine FunA.walk B_ok (fn := Tryz.f115) (fun vs w => Tryz.call115 vs w) Tryz.func115 rfl (by rw [Tryz.ntmps115]; simp) (fun C hC hP hT hΓ hbt hfn hpin hfin => ?_); have hX := BX; rw [← hΓ, ← hbt.1, ← hbt.2] at hX; rw [Tryz.ntmps115]; simp only [AW7, simprocAttr, hX]
  refine Run.R ?_
  refine Run.R ?_
  refine Run.le (Le.re (obs' := [.arr .int (a ++ b) 0 true]) hpin [0] [(4, true, .own 0 0)] rfl (by simp [leOs, leO_arr, oAt]) (by refine ⟨⟨_, rfl, ?_⟩, trivial⟩; simp [leAV, oAt, genO])) ?_
  simp only [frV_cons, frV_nil]
  refine Run.rW [4] (hfin _ _ rfl rfl ?_)
  exact ⟨rfl, rfl⟩
theorem rev_snoc (w : List Int) (m : Nat) (h : m < w.length) : w.reverse.take m ++ [w.getD (w.length - 1 - m) 0] = w.reverse.take (m + 1) := by
  have : w.getD (w.length - 1 - m) 0 = w.reverse.getD m 0 := by
    simp only [List.getD_eq_getElem?_getD]
    rw [List.getElem?_reverse h]
  rw [this]
  exact take_snoc 0 _ m (by simpa using h)
theorem c_spec_ReverseWord (w : List Int) (hl : w.length ≤ 1048576) :
    FunA B 15 [.sl false .int w] (fun rs o => rs = [.own 0 0] ∧ o = [.arr .int w.reverse 0 true]) := by
  refine FunA.walk B_ok (fn := Tryz.f15) (fun vs w => Tryz.call15 vs w) Tryz.func15 rfl (by rw [Tryz.ntmps15]; simp) (fun C hC hP hT hΓ hbt hfn hpin hfin => ?_); have hX := BX; rw [← hΓ, ← hbt.1, ← hbt.2] at hX; rw [Tryz.ntmps15]; simp only [AW7, simprocAttr, hX]
  refine Run.R ?_
  refine Run.R ?_
  refine Run.RW ?_
  refine Run.loopI (X := Nat) (fun m => ⟨21, [(0, true, .v (.sl false .int w)), (2, true, .v .nils), (3, true, .v (.own 0 m)), (4, true, .v (.int .i64 ((w.length : Int) - 1 - m)))], [.arr .int (w.reverse.take m) m true]⟩) (fun m => m ≤ w.length) (fun m => w.length - m) 0 (Nat.zero_le _) ?_ ?_
  · exact Le.sub (by rfl) (by simp only [AW7, simprocAttr, hX]; try simp)
  rintro m hm ih
  have hll : (w.reverse.take m).length = m := by simp; omega
  refine Run.R ?_
  refine Run.nq ?_; refine Run.cW ?_ ?_
  · intro h
    have h : m < w.length := by simp at h; omega
    have e1 : ((w.length : Int) - 1 - m).toNat = w.length - 1 - m := by omega
    refine Run.nq ?_; refine Run.regionW hC (fun K hK => ?_); refine wW ?_
    simp only [e1]
    refine wE ?_; clear hK K
    refine Run.RW ?_
    refine Run.le ?_ (ih (m + 1) (by omega) (by omega))
    refine Le.cut0 hpin [_] (by rw [← rev_snoc w m h]; rfl) ?_ rfl
    simp only [AW7, simprocAttr]; try simp; omega
  · intro h
    have h : m = w.length := by simp at h; omega
    subst h
    refine Run.exit rfl ?_; refine Run.nq ?_
    refine Run.R ?_
    refine Run.le (Le.re (obs' := [.arr .int w.reverse 0 true]) hpin [0] [(2, true, .own 0 0)] rfl (by rw [List.take_of_length_le (by simp)]; simp [leOs, leO_arr, oAt]) (by refine ⟨⟨_, rfl, ?_⟩, trivial⟩; simp [leAV, oAt, genO])) ?_
    simp only [frV_cons, frV_nil]
    refine Run.rW [2] (hfin _ _ rfl rfl ?_)
    exact ⟨rfl, rfl⟩
def revM (w : List Int) (m : Nat) : List Int := (List.range w.length).map fun k => if k < m ∨ w.length - m ≤ k then w.getD (w.length - 1 - k) 0 else w.getD k 0
theorem revM_length (w : List Int) (m : Nat) : (revM w m).length = w.length := by simp [revM]
theorem revM_get (w : List Int) (m k : Nat) (hk : k < w.length) : (revM w m).getD k 0 = if k < m ∨ w.length - m ≤ k then w.getD (w.length - 1 - k) 0 else w.getD k 0 := by
  simp [revM, List.getD_eq_getElem?_getD, hk]
theorem revM_zero (w : List Int) : revM w 0 = w := by
  apply List.ext_getElem?
  intro k
  by_cases hk : k < w.length
  · have h : ¬ w.length ≤ k := by omega
    simp [revM, hk, h]
  · rw [List.getElem?_eq_none (by rw [revM_length]; omega), List.getElem?_eq_none (by omega)]
theorem revM_end (w : List Int) (m : Nat) (h : w.length ≤ 2 * m + 1) : revM w m = w.reverse := by
  apply List.ext_getElem?
  intro k
  by_cases hk : k < w.length
  · rw [List.getElem?_reverse hk]
    simp only [revM, List.getElem?_map, List.getElem?_range hk, Option.map_some]
    have e : (if k < m ∨ w.length - m ≤ k then w.getD (w.length - 1 - k) 0 else w.getD k 0) = w.getD (w.length - 1 - k) 0 := by
      split
      · rfl
      · have : w.length - 1 - k = k := by omega
        rw [this]
    rw [e, List.getD_eq_getElem?_getD, List.getElem?_eq_getElem (show w.length - 1 - k < w.length by omega)]
    simp
  · rw [List.getElem?_eq_none (by rw [revM_length]; omega), List.getElem?_eq_none (by simpa using hk)]
theorem revM_set (w : List Int) (m : Nat) (h : 2 * m + 1 < w.length) :
    ((revM w m).set m ((revM w m).getD (w.length - 1 - m) 0)).set (w.length - 1 - m) ((revM w m).getD m 0) = revM w (m + 1) := by
  rw [revM_get w m m (by omega), revM_get w m (w.length - 1 - m) (by omega), if_neg (by omega), if_neg (by omega)]
  apply List.ext_getElem?
  intro k
  rw [List.getElem?_set, List.getElem?_set]
  simp only [List.length_set, revM_length]
  by_cases h1 : w.length - 1 - m = k
  · rw [if_pos h1, if_pos (by omega)]
    simp only [revM, List.getElem?_map, List.getElem?_range (show k < w.length by omega), Option.map_some]
    rw [if_pos (by omega), show w.length - 1 - k = m from by omega]
  · rw [if_neg h1]
    by_cases h2 : m = k
    · rw [if_pos h2, if_pos (by omega)]
      simp only [revM, List.getElem?_map, List.getElem?_range (show k < w.length by omega), Option.map_some]
      rw [if_pos (by omega), h2]
    · rw [if_neg h2]
      by_cases hk : k < w.length
      · simp only [revM, List.getElem?_map, List.getElem?_range hk, Option.map_some]
        congr 1
        by_cases h3 : k < m ∨ w.length - m ≤ k
        · rw [if_pos h3, if_pos (by omega)]
        · rw [if_neg h3, if_neg (by omega)]
      · rw [List.getElem?_eq_none (by rw [revM_length]; omega), List.getElem?_eq_none (by rw [revM_length]; omega)]
theorem c_slices_Reverse (w : List Int) (nn : Bool) (hl : w.length ≤ 1048576) : FunM B 198 [.own 0 0] .int w nn (fun rs o => rs = [] ∧ o = [.arr .int w.reverse 0 nn]) := by
  refine FunM.walk B_ok (fn := Tryz.f198) (fun vs w => Tryz.call198 vs w) Tryz.func198 rfl (by rw [Tryz.ntmps198]; simp) (fun C hC hP hT hΓ hbt hfn hpin hfin => ?_); have hX := BX; rw [← hΓ, ← hbt.1, ← hbt.2] at hX; rw [Tryz.ntmps198]; simp only [AW7, simprocAttr, hX]
  refine Run.RW ?_
  refine Run.loopI (X := Nat) (fun m => ⟨28, [(0, true, .v (.own 0 0)), (2, true, .v (.int .i64 m)), (3, true, .v (.int .i64 ((w.length : Int) - 1 - m)))], [.arr .int (revM w m) 0 nn]⟩) (fun m => 2 * m ≤ w.length + 1) (fun m => w.length + 1 - m) 0 (by omega) ?_ ?_
  · exact Le.sub (by rw [revM_zero]) (by simp only [AW7, simprocAttr, hX]; try simp)
  rintro m hm ih
  have hml := revM_length w m
  refine Run.R ?_
  refine Run.nq ?_; refine Run.cW ?_ ?_
  · intro h
    have h : 2 * m + 1 < w.length := by simp at h; omega
    have e1 : ((w.length : Int) - 1 - m).toNat = w.length - 1 - m := by omega
    refine Run.nq ?_; refine Run.regionD hC true [0,1,2,3,4,5,6,7,8,9,10,11,12,13,14,15] (by kernel_rfl) (fun K hK => ?_); simp only [AW7, simprocAttr, hX]; (repeat (with_reducible refine And.intro ?_ ?_); exact vc0)
    simp only [e1]
    refine wE ?_; clear hK K
    refine Run.RW ?_
    refine Run.le ?_ (ih (m + 1) (by omega) (by omega))
    refine Le.sub (by rw [← revM_set w m h]) ?_
    simp only [AW7, simprocAttr]; try simp; omega
  · intro h
    have h : w.length ≤ 2 * m + 1 := by simp at h; omega
    refine Run.exit rfl ?_; refine Run.nq ?_
    rw [revM_end w m h]
    refine Run.doneW (xs := []) [] (by decide) (by rw [hfn]; rfl) rfl trivial (hfin _ _ _ rfl rfl rfl ?_)
    exact ⟨rfl, rfl⟩
theorem c_impl_ReverseWord (w : List Int) (hl : w.length ≤ 1048576) :
    FunA B 148 [.sl false .int w] (fun rs o => rs = [.own 0 0] ∧ o = [.arr .int w.reverse 0 true]) := by
  refine FunA.walk B_ok (fn := Tryz.f148) (fun vs w => Tryz.call148 vs w) Tryz.func148 rfl (by rw [Tryz.ntmps148]; simp) (fun C hC hP hT hΓ hbt hfn hpin hfin => ?_); have hX := BX; rw [← hΓ, ← hbt.1, ← hbt.2] at hX; rw [Tryz.ntmps148]; simp only [AW7, simprocAttr, hX]
  refine Run.R ?_
  refine Run.R ?_
  refine Run.le (Le.re (obs' := [.arr .int w 0 true]) hpin [0] [(2, true, .nils), (3, true, .own 0 0)] rfl (by simp [leOs, leO_arr, oAt]) (by refine ⟨⟨_, rfl, ?_⟩, ⟨_, rfl, ?_⟩, trivial⟩ <;> simp [leAV, oAt, genO])) ?_
  simp only [frV_cons, frV_nil]
  refine Run.nq ?_; refine Run.regionW hC (fun K hK => ?_); refine wW ?_
  refine FunM.call hP hT (c_slices_Reverse w true hl) 0 0 (by simp only [AW7, simprocAttr]; rfl) (by simp) rfl (by simp only [AW7, simprocAttr]; try simp) ?_
  rintro rs o' obs' ⟨rfl, h⟩
  obtain ⟨rfl, rfl⟩ := List.cons.inj h
  refine wW ?_
  refine wE ?_; clear hK K
  refine Run.R ?_
  refine Run.rW [2] (hfin _ _ rfl rfl ?_)
  exact ⟨rfl, rfl⟩
end Go.Proofs.YtojcdgdbffmlpaaGreat
namespace Go.Proofs.YtojcdgdbffmlpaaGreat
open Go Go.Aw
theorem c_l5Any (code : List Int) (hl : code.length ≤ 1048576) : FunA B 127 [.sl false .byte code] (fun rs o => ∃ c w, (1 ≤ c.length ∧ c.length ≤ 5) ∧ w.length ≤ 10 ∧ rs = [.sl true (.row true) c, .sl true .int w] ∧ o = []) := by
  refine FunA.walk B_ok (fn := Tryz.f127) (fun vs w => Tryz.call127 vs w) Tryz.func127 rfl (by rw [Tryz.ntmps127]; simp) (fun C hC hP hT hΓ hbt hfn hpin hfin => ?_); have hX := BX; rw [← hΓ, ← hbt.1, ← hbt.2] at hX; rw [Tryz.ntmps127]; simp only [AW7, simprocAttr, hX]
  refine Run.R ?_
  refine Run.nq ?_; refine Run.regionW hC (fun K hK => ?_); refine wW ?_
  refine ACall.new hP (by omega) fun s => ?_
  refine wW ?_
  refine wE ?_; clear hK K
  refine Run.nq ?_; refine Run.regionW hC (fun K hK => ?_); refine wW ?_
  refine FunO.callCur hP hT (c_l2Any s) 0 0 (by first | rfl | (simp only [AW7, simprocAttr]; done) | (simp only [AW7, simprocAttr]; rfl)) (by simp only [AW7, simprocAttr]) ?_
  rintro rs o' obs' ⟨c, g, nn, ⟨c1, c2⟩, rfl, rfl, ho⟩
  injection ho with ho1 ho2; subst ho1 ho2
  refine wW ?_
  refine wE ?_; clear hK K
  refine Run.nq ?_; refine Run.regionW hC (fun K hK => ?_); refine wW ?_
  refine FunO.callCur hP hT (c_l5Word s c 9 (by omega) (by omega)) 0 0 (by first | rfl | (simp only [AW7, simprocAttr]; done) | (simp only [AW7, simprocAttr]; rfl)) (by simp only [AW7, simprocAttr]; decide) ?_
  rintro rs o' obs' ⟨w, nn, hw, hwl, rfl, rfl, ho⟩
  injection ho with ho1 ho2; subst ho1 ho2
  refine wW ?_
  refine wE ?_; clear hK K
  refine Run.nq ?_; refine Run.regionW hC (fun K hK => ?_); refine wW ?_
  refine FunO.callCur hP hT (c_l1Once s 12 (by decide) (by decide)) 0 0 (by first | rfl | (simp only [AW7, simprocAttr]; done) | (simp only [AW7, simprocAttr]; rfl)) (by simp only [AW7, simprocAttr]) ?_
  rintro rs o' obs' ⟨x, rfl, ho⟩
  injection ho with ho1 ho2; subst ho1 ho2
  refine wW ?_
  refine wE ?_; clear hK K
  refine Run.reK hpin [0, 4, 5, 6, 15] [0, 1, 2] (by decide) (by simp) ?_; simp only [AR, AW7, simprocAttr]
  refine Run.nq ?_; refine Run.cW ?_ ?_
  · intro _
    refine Run.nq ?_; refine Run.regionW hC (fun K hK => ?_); refine wW ?_
    refine FunO.callCur hP hT (c_l1PickInt s [-1, 4] (by decide) (by decide)) 0 0 (by first | rfl | (simp only [AW7, simprocAttr]; done) | (simp only [AW7, simprocAttr]; rfl)) (by simp only [AW7, simprocAttr]; first | done | decide | exact ⟨by decide, rfl⟩) ?_
    rintro rs o' obs' ⟨v, rfl, hv, ho⟩
    injection ho with ho1 ho2; subst ho1 ho2
    refine wW ?_
    refine wE ?_; clear hK K
    refine Run.R ?_
    refine Run.reK hpin [2, 3] [1, 2] (by decide) (by simp) ?_; simp only [AR, AW7, simprocAttr]
    refine Run.letgoK 0 [2, 3] rfl ?_; simp only [AL, frV_cons, frV_nil, AW7, simprocAttr]
    refine Run.letgoK 1 [2, 3] rfl ?_; simp only [AL, frV_cons, frV_nil, AW7, simprocAttr]
    refine Run.reK hpin [2, 3] [] (by decide) (by simp) ?_; simp only [AR, AW7, simprocAttr]
    refine Run.rW [2, 3] (hfin _ _ rfl rfl ?_)
    exact ⟨c, w ++ [v], ⟨c1, c2⟩, by simp; omega, rfl, rfl⟩
  intro _
  refine Run.R ?_
  refine Run.reK hpin [2, 3] [1, 2] (by decide) (by simp) ?_; simp only [AR, AW7, simprocAttr]
  refine Run.letgoK 0 [2, 3] rfl ?_; simp only [AL, frV_cons, frV_nil, AW7, simprocAttr]
  refine Run.letgoK 1 [2, 3] rfl ?_; simp only [AL, frV_cons, frV_nil, AW7, simprocAttr]
  refine Run.reK hpin [2, 3] [] (by decide) (by simp) ?_; simp only [AR, AW7, simprocAttr]
  refine Run.rW [2, 3] (hfin _ _ rfl rfl ?_)
  exact ⟨c, w, ⟨c1, c2⟩, by omega, rfl, rfl⟩
theorem c_l11Small (code : List Int) (hl : code.length ≤ 1048576) : FunA B 120 [.sl false .byte code] (fun rs o => ∃ c w, (1 ≤ c.length ∧ c.length ≤ 5) ∧ w.length ≤ 7 ∧ rs = [.sl true (.row true) c, .sl true .int w] ∧ o = []) := by
  refine FunA.walk B_ok (fn := Tryz.f120) (fun vs w => Tryz.call120 vs w) Tryz.func120 rfl (by rw [Tryz.ntmps120]; simp) (fun C hC hP hT hΓ hbt hfn hpin hfin => ?_); have hX := BX; rw [← hΓ, ← hbt.1, ← hbt.2] at hX; rw [Tryz.ntmps120]; simp only [AW7, simprocAttr, hX]
  refine Run.R ?_
  refine Run.nq ?_; refine Run.regionW hC (fun K hK => ?_); refine wW ?_
  refine ACall.new hP (by omega) fun s => ?_
  refine wW ?_
  refine wE ?_; clear hK K
  refine Run.nq ?_; refine Run.regionW hC (fun K hK => ?_); refine wW ?_
  refine FunO.callCur hP hT (c_l2Any s) 0 0 (by first | rfl | (simp only [AW7, simprocAttr]; done) | (simp only [AW7, simprocAttr]; rfl)) (by simp only [AW7, simprocAttr]) ?_
  rintro rs o' obs' ⟨c, g, nn, ⟨c1, c2⟩, rfl, rfl, ho⟩
  injection ho with ho1 ho2; subst ho1 ho2
  refine wW ?_
  refine wE ?_; clear hK K
  refine Run.nq ?_; refine Run.regionW hC (fun K hK => ?_); refine wW ?_
  refine FunO.callCur hP hT (c_l5Word s c 7 (by omega) (by omega)) 0 0 (by first | rfl | (simp only [AW7, simprocAttr]; done) | (simp only [AW7, simprocAttr]; rfl)) (by simp only [AW7, simprocAttr]; decide) ?_
  rintro rs o' obs' ⟨w, nn, hw, hwl, rfl, rfl, ho⟩
  injection ho with ho1 ho2; subst ho1 ho2
  refine wW ?_
  refine wE ?_; clear hK K
  refine Run.reK hpin [2, 3] [1, 2] (by decide) (by simp) ?_; simp only [AR, AW7, simprocAttr]
  refine Run.letgoK 0 [2, 3] rfl ?_; simp only [AL, frV_cons, frV_nil, AW7, simprocAttr]
  refine Run.letgoK 1 [2, 3] rfl ?_; simp only [AL, frV_cons, frV_nil, AW7, simprocAttr]
  refine Run.reK hpin [2, 3] [] (by decide) (by simp) ?_; simp only [AR, AW7, simprocAttr]
  refine Run.rW [2, 3] (hfin _ _ rfl rfl ?_)
  exact ⟨c, w, ⟨c1, c2⟩, by omega, rfl, rfl⟩
end Go.Proofs.YtojcdgdbffmlpaaGreat
namespace Go.Proofs.YtojcdgdbffmlpaaGreat
open Go Go.Aw
end Go.Proofs.YtojcdgdbffmlpaaGreat
namespace Go.Proofs.YtojcdgdbffmlpaaGreat
open Go Go.Aw
theorem c_l8Two (code : List Int) (hl : code.length ≤ 1048576) : FunA B 103 [.sl false .byte code] (fun rs o => ∃ c u v, (1 ≤ c.length ∧ c.length ≤ 5) ∧ u.length ≤ 31 ∧ v.length ≤ 31 ∧ rs = [.sl true (.row true) c, .sl true .int u, .sl true .int v] ∧ o = []) := by
  refine FunA.walk B_ok (fn := Tryz.f103) (fun vs w => Tryz.call103 vs w) Tryz.func103 rfl (by rw [Tryz.ntmps103]; simp) (fun C hC hP hT hΓ hbt hfn hpin hfin => ?_); have hX := BX; rw [← hΓ, ← hbt.1, ← hbt.2] at hX; rw [Tryz.ntmps103]; simp only [AW7, simprocAttr, hX]
  refine Run.R ?_
  refine Run.nq ?_; refine Run.regionW hC (fun K hK => ?_); refine wW ?_
  refine ACall.new hP (by omega) fun s => ?_
  refine wW ?_
  refine wE ?_; clear hK K
  refine Run.nq ?_; refine Run.regionW hC (fun K hK => ?_); refine wW ?_
  refine FunO.callCur hP hT (c_l2Any s) 0 0 (by first | rfl | (simp only [AW7, simprocAttr]; done) | (simp only [AW7, simprocAttr]; rfl)) (by simp only [AW7, simprocAttr]) ?_
  rintro rs o' obs' ⟨c, g, nn, ⟨c1, c2⟩, rfl, rfl, ho⟩
  injection ho with ho1 ho2; subst ho1 ho2
  refine wW ?_
  refine wE ?_; clear hK K
  refine Run.nq ?_; refine Run.regionW hC (fun K hK => ?_); refine wW ?_
  refine FunO.callCur hP hT (c_l5Word s c 7 (by omega) (by omega)) 0 0 (by first | rfl | (simp only [AW7, simprocAttr]; done) | (simp only [AW7, simprocAttr]; rfl)) (by simp only [AW7, simprocAttr]; decide) ?_
  rintro rs o' obs' ⟨u, nn, hu, hul, rfl, rfl, ho⟩
  injection ho with ho1 ho2; subst ho1 ho2
  refine wW ?_
  refine wE ?_; clear hK K
  refine Run.nq ?_; refine Run.regionW hC (fun K hK => ?_); refine wW ?_
  refine FunO.callCur hP hT (c_l5Word s c 7 (by omega) (by omega)) 0 0 (by first | rfl | (simp only [AW7, simprocAttr]; done) | (simp only [AW7, simprocAttr]; rfl)) (by simp only [AW7, simprocAttr]; decide) ?_
  rintro rs o' obs' ⟨v, nn, hv, hvl, rfl, rfl, ho⟩
  injection ho with ho1 ho2; subst ho1 ho2
  refine wW ?_
  refine wE ?_; clear hK K
  refine Run.reK hpin [0, 5, 6, 7, 8] [0, 1, 2, 3] (by decide) (by simp) ?_; simp only [AR, AW7, simprocAttr]
  refine Run.nq ?_; refine Run.regionW hC (fun K hK => ?_); refine wW ?_
  refine FunO.callCur hP hT (c_l1Once s 3 (by decide) (by decide)) 0 0 (by first | rfl | (simp only [AW7, simprocAttr]; done) | (simp only [AW7, simprocAttr]; rfl)) (by simp only [AW7, simprocAttr]) ?_
  rintro rs o' obs' ⟨x, rfl, ho⟩
  injection ho with ho1 ho2; subst ho1 ho2
  refine wW ?_
  refine .inl (FunA.callG hP hT (c_spec_IsWord c u (by omega)) (fun _ => rfl) (fun _ => by simp only [AW7, simprocAttr]) ?_)
  refine wW ?_
  refine wE ?_; clear hK K
  refine Run.reK hpin [0, 5, 6, 7, 8, 25] [0, 1, 2, 3] (by decide) (by simp) ?_; simp only [AR, AW7, simprocAttr]
  refine Run.nq ?_; refine Run.cW ?_ ?_
  · intro h
    have hw : wordB c u = true := by
      revert h
      cases x <;> simp
    obtain ⟨hc, hlt, hl31⟩ := wordB_iff.1 hw
    refine Run.nq ?_; refine Run.regionW hC (fun K hK => ?_); refine wW ?_
    refine FunA.cW hP hT (c_spec_l8Normal c u hc hl31 (by omega)) ?_
    rintro rs o ⟨rfl, rfl⟩
    refine wW ?_
    refine wE ?_; clear hK K
    have hrl := (red_spec hc hl31 (by omega)).2.1
    refine Run.R ?_
    refine Run.reK hpin [2, 3, 4] [1, 2, 4] (by decide) (by simp) ?_; simp only [AR, AW7, simprocAttr]
    refine Run.letgoK 0 [2, 3, 4] rfl ?_; simp only [AL, frV_cons, frV_nil, AW7, simprocAttr]
    refine Run.letgoK 1 [2, 3, 4] rfl ?_; simp only [AL, frV_cons, frV_nil, AW7, simprocAttr]
    refine Run.letgoK 2 [2, 3, 4] rfl ?_; simp only [AL, frV_cons, frV_nil, AW7, simprocAttr]
    refine Run.reK hpin [2, 3, 4] [] (by decide) (by simp) ?_; simp only [AR, AW7, simprocAttr]
    refine Run.rW [2, 3, 4] (hfin _ _ rfl rfl ?_)
    exact ⟨c, u, redL c u, ⟨c1, c2⟩, by omega, by omega, rfl, rfl⟩
  intro _
  refine Run.R ?_
  refine Run.reK hpin [2, 3, 4] [1, 2, 3] (by decide) (by simp) ?_; simp only [AR, AW7, simprocAttr]
  refine Run.letgoK 0 [2, 3, 4] rfl ?_; simp only [AL, frV_cons, frV_nil, AW7, simprocAttr]
  refine Run.letgoK 1 [2, 3, 4] rfl ?_; simp only [AL, frV_cons, frV_nil, AW7, simprocAttr]
  refine Run.letgoK 2 [2, 3, 4] rfl ?_; simp only [AL, frV_cons, frV_nil, AW7, simprocAttr]
  refine Run.reK hpin [2, 3, 4] [] (by decide) (by simp) ?_; simp only [AR, AW7, simprocAttr]
  refine Run.rW [2, 3, 4] (hfin _ _ rfl rfl ?_)
  exact ⟨c, u, v, ⟨c1, c2⟩, by omega, by omega, rfl, rfl⟩
end Go.Proofs.YtojcdgdbffmlpaaGreat
namespace Go.Proofs.YtojcdgdbffmlpaaGreat
open Go Go.Aw
theorem c_DrawIsWeakBelow (code : List Int) (hl : code.length ≤ 1048576) : FunA B 33 [.sl false .byte code] (fun rs o => ∃ c u v, (1 ≤ c.length ∧ c.length ≤ 5) ∧ u.length ≤ 31 ∧ v.length ≤ 31 ∧ rs = [.sl true (.row true) c, .sl true .int u, .sl true .int v] ∧ o = []) := by
  refine FunA.walk B_ok (fn := Tryz.f33) (fun vs w => Tryz.call33 vs w) Tryz.func33 rfl (by rw [Tryz.ntmps33]; simp) (fun C hC hP hT hΓ hbt hfn hpin hfin => ?_); have hX := BX; rw [← hΓ, ← hbt.1, ← hbt.2] at hX; rw [Tryz.ntmps33]; simp only [AW7, simprocAttr, hX]
  refine Run.R ?_
  refine Run.nq ?_; refine Run.regionW hC (fun K hK => ?_); refine wW ?_
  refine FunA.cW hP hT (c_l8Two code hl) ?_
  rintro rs o ⟨c, u, v, ⟨c1, c2⟩, hu, hv, rfl, rfl⟩
  refine wW ?_
  refine wE ?_; clear hK K
  refine Run.reK hpin [0, 5, 6, 7] [] (by decide) (by simp) ?_; simp only [AR, AW7, simprocAttr]
  refine Run.R ?_
  refine Run.nq ?_; refine Run.cW ?_ ?_
  · intro h
    have hd : (v.length : Int).tdiv 2 = ((v.length / 2 : Nat) : Int) := by
      rw [Int.tdiv_eq_ediv_of_nonneg (by omega)]; omega
    refine Run.nq ?_; refine Run.regionD hC true [0,1,2,3,4,5,6,7,8,9] (by kernel_rfl) (fun K hK => ?_); simp only [AW7, simprocAttr, hX]; (repeat (with_reducible refine And.intro ?_ ?_); exact vc0)
    rw [hd]
    refine wWW ?_
    refine wE ?_; clear hK K
    refine Run.rW [2, 3, 4] (hfin _ _ rfl rfl ?_)
    exact ⟨c, _, v, ⟨c1, c2⟩, by simp; omega, hv, rfl, rfl⟩
  intro _
  refine Run.R ?_
  refine Run.rW [2, 3, 4] (hfin _ _ rfl rfl ?_)
  exact ⟨c, u, v, ⟨c1, c2⟩, hu, hv, rfl, rfl⟩
theorem c_l13Finite (s : Value) : FunO B 134 [.own 0 0] (.cur s 0) (fun rs o => ∃ c g nn, (1 ≤ c.length ∧ c.length ≤ 5) ∧ nn = true ∧ rs = [.own 1 g] ∧ o = [.cur s 0, .arr (.row true) c g nn]) := by
  refine FunO.walk B_ok (fn := Tryz.f134) (fun vs w => Tryz.call134 vs w) Tryz.func134 rfl (by rw [Tryz.ntmps134]; simp) (fun C hC hP hT hΓ hbt hfn hpin hfin => ?_); have hX := BX; rw [← hΓ, ← hbt.1, ← hbt.2] at hX; rw [Tryz.ntmps134]; simp only [AW7, simprocAttr, hX]
  refine Run.R ?_
  refine Run.nq ?_; refine Run.regionW hC (fun K hK => ?_); refine wW ?_
  refine FunO.callCur hP hT (c_l1Once s 6 (by decide) (by decide)) 0 0 (by first | rfl | (simp only [AW7, simprocAttr]; done) | (simp only [AW7, simprocAttr]; rfl)) (by simp only [AW7, simprocAttr]) ?_
  rintro rs o' obs' ⟨x, rfl, ho⟩
  injection ho with ho1 ho2; subst ho1 ho2
  refine wW ?_
  refine wE ?_; clear hK K
  refine Run.nq ?_; refine Run.cW ?_ ?_
  · intro _
    refine Run.nq ?_; refine Run.regionW hC (fun K hK => ?_); refine wW ?_
    refine FunO.callCur hP hT (c_l2Any s) 0 0 (by first | rfl | (simp only [AW7, simprocAttr]; done) | (simp only [AW7, simprocAttr]; rfl)) (by simp only [AW7, simprocAttr]) ?_
    rintro rs o' obs' ⟨c, g, nn, ⟨c1, c2⟩, rfl, rfl, ho⟩
    injection ho with ho1 ho2; subst ho1 ho2
    refine wW ?_
    refine wE ?_; clear hK K
    refine Run.rW [2] (hfin _ _ _ rfl rfl ⟨rfl, rfl⟩ ?_)
    exact ⟨c, g, true, ⟨c1, c2⟩, rfl, rfl, rfl⟩
  intro _
  refine Run.nq ?_; refine Run.regionW hC (fun K hK => ?_); refine wW ?_
  refine FunO.callCur hP hT (c_l2Finite s) 0 0 (by first | rfl | (simp only [AW7, simprocAttr]; done) | (simp only [AW7, simprocAttr]; rfl)) (by simp only [AW7, simprocAttr]) ?_
  rintro rs o' obs' ⟨rfl, hs, c, hsq, ho⟩
  injection ho with ho1 ho2; subst ho1 ho2
  have hl := hsq.1
  have hl4 := hsq.2.1
  refine wW ?_
  refine wE ?_; clear hK K
  refine Run.reKP hpin [0, 2] [0, 1] rfl (by simp [oAt, gen0]) (by decide) (by simp) ?_; simp only [AR, AW7, simprocAttr]
  refine Run.unmat hC 1 rfl ?_
  simp only [AW7, simprocAttr]
  refine Run.rW [2] (hfin _ _ _ rfl rfl ⟨rfl, rfl⟩ ?_)
  exact ⟨c, 0, true, ⟨by omega, by omega⟩, rfl, rfl, rfl⟩
theorem c_DrawMeetWeak (code : List Int) (hl : code.length ≤ 1048576) : FunA B 37 [.sl false .byte code] (fun rs o => ∃ c u v, (1 ≤ c.length ∧ c.length ≤ 5) ∧ u.length ≤ 31 ∧ v.length ≤ 31 ∧ rs = [.sl true (.row true) c, .sl true .int u, .sl true .int v] ∧ o = []) := by
  refine FunA.walk B_ok (fn := Tryz.f37) (fun vs w => Tryz.call37 vs w) Tryz.func37 rfl (by rw [Tryz.ntmps37]; simp) (fun C hC hP hT hΓ hbt hfn hpin hfin => ?_); have hX := BX; rw [← hΓ, ← hbt.1, ← hbt.2] at hX; rw [Tryz.ntmps37]; simp only [AW7, simprocAttr, hX]
  refine Run.R ?_
  refine Run.nq ?_; refine Run.regionW hC (fun K hK => ?_); refine wW ?_
  refine ACall.new hP (by omega) fun s => ?_
  refine wW ?_
  refine wE ?_; clear hK K
  refine Run.nq ?_; refine Run.regionW hC (fun K hK => ?_); refine wW ?_
  refine FunO.callCur hP hT (c_l13Finite s) 0 0 (by first | rfl | (simp only [AW7, simprocAttr]; done) | (simp only [AW7, simprocAttr]; rfl)) (by simp only [AW7, simprocAttr]) ?_
  rintro rs o' obs' ⟨c, g, nn, ⟨c1, c2⟩, rfl, rfl, ho⟩
  injection ho with ho1 ho2; subst ho1 ho2
  refine wW ?_
  refine wE ?_; clear hK K
  refine Run.nq ?_; refine Run.regionW hC (fun K hK => ?_); refine wW ?_
  refine FunO.callCur hP hT (c_l5Word s c 6 (by omega) (by omega)) 0 0 (by first | rfl | (simp only [AW7, simprocAttr]; done) | (simp only [AW7, simprocAttr]; rfl)) (by simp only [AW7, simprocAttr]; decide) ?_
  rintro rs o' obs' ⟨u, nn, hu, hul, rfl, rfl, ho⟩
  injection ho with ho1 ho2; subst ho1 ho2
  refine wW ?_
  refine wE ?_; clear hK K
  refine Run.nq ?_; refine Run.regionW hC (fun K hK => ?_); refine wW ?_
  refine FunO.callCur hP hT (c_l5Word s c 6 (by omega) (by omega)) 0 0 (by first | rfl | (simp only [AW7, simprocAttr]; done) | (simp only [AW7, simprocAttr]; rfl)) (by simp only [AW7, simprocAttr]; decide) ?_
  rintro rs o' obs' ⟨v, nn, hv, hvl, rfl, rfl, ho⟩
  injection ho with ho1 ho2; subst ho1 ho2
  refine wW ?_
  refine wE ?_; clear hK K
  refine Run.reK hpin [2, 3, 4] [1, 2, 3] (by decide) (by simp) ?_; simp only [AR, AW7, simprocAttr]
  refine Run.letgoK 0 [2, 3, 4] rfl ?_; simp only [AL, frV_cons, frV_nil, AW7, simprocAttr]
  refine Run.letgoK 1 [2, 3, 4] rfl ?_; simp only [AL, frV_cons, frV_nil, AW7, simprocAttr]
  refine Run.letgoK 2 [2, 3, 4] rfl ?_; simp only [AL, frV_cons, frV_nil, AW7, simprocAttr]
  refine Run.reK hpin [2, 3, 4] [] (by decide) (by simp) ?_; simp only [AR, AW7, simprocAttr]
  refine Run.rW [2, 3, 4] (hfin _ _ rfl rfl ?_)
  exact ⟨c, u, v, ⟨c1, c2⟩, by omega, by omega, rfl, rfl⟩
theorem c_DrawWeakCovers (code : List Int) (hl : code.length ≤ 1048576) : FunA B 43 [.sl false .byte code] (fun rs o => ∃ c w, (1 ≤ c.length ∧ c.length ≤ 5) ∧ w.length ≤ 10 ∧ rs = [.sl true (.row true) c, .sl true .int w] ∧ o = []) := by
  refine FunA.walk B_ok (fn := Tryz.f43) (fun vs w => Tryz.call43 vs w) Tryz.func43 rfl (by rw [Tryz.ntmps43]; simp) (fun C hC hP hT hΓ hbt hfn hpin hfin => ?_); have hX := BX; rw [← hΓ, ← hbt.1, ← hbt.2] at hX; rw [Tryz.ntmps43]; simp only [AW7, simprocAttr, hX]
  refine Run.R ?_
  refine Run.nq ?_; refine Run.regionW hC (fun K hK => ?_); refine wW ?_
  refine FunA.cW hP hT (c_l5Any code hl) ?_
  rintro rs o ⟨c, w, ⟨c1, c2⟩, hw, rfl, rfl⟩
  refine wW ?_
  refine wE ?_; clear hK K
  refine Run.R ?_
  refine Run.rW [2, 3] (hfin _ _ rfl rfl ?_)
  exact ⟨c, w, ⟨c1, c2⟩, hw, rfl, rfl⟩
theorem c_DrawPrefixesOf (code : List Int) (hl : code.length ≤ 1048576) : FunA B 44 [.sl false .byte code] (fun rs o => ∃ c w, (1 ≤ c.length ∧ c.length ≤ 5) ∧ w.length ≤ 7 ∧ rs = [.sl true (.row true) c, .sl true .int w] ∧ o = []) := by
  refine FunA.walk B_ok (fn := Tryz.f44) (fun vs w => Tryz.call44 vs w) Tryz.func44 rfl (by rw [Tryz.ntmps44]; simp) (fun C hC hP hT hΓ hbt hfn hpin hfin => ?_); have hX := BX; rw [← hΓ, ← hbt.1, ← hbt.2] at hX; rw [Tryz.ntmps44]; simp only [AW7, simprocAttr, hX]
  refine Run.R ?_
  refine Run.nq ?_; refine Run.regionW hC (fun K hK => ?_); refine wW ?_
  refine FunA.cW hP hT (c_l11Small code hl) ?_
  rintro rs o ⟨c, w, ⟨c1, c2⟩, hw, rfl, rfl⟩
  refine wW ?_
  refine wE ?_; clear hK K
  refine Run.R ?_
  refine Run.rW [2, 3] (hfin _ _ rfl rfl ?_)
  exact ⟨c, w, ⟨c1, c2⟩, hw, rfl, rfl⟩
theorem c_DrawCountChains (code : List Int) (hl : code.length ≤ 1048576) : FunA B 47 [.sl false .byte code] (fun rs o => ∃ c w, (1 ≤ c.length ∧ c.length ≤ 5) ∧ w.length ≤ 7 ∧ rs = [.sl true (.row true) c, .sl true .int w] ∧ o = []) := by
  refine FunA.walk B_ok (fn := Tryz.f47) (fun vs w => Tryz.call47 vs w) Tryz.func47 rfl (by rw [Tryz.ntmps47]; simp) (fun C hC hP hT hΓ hbt hfn hpin hfin => ?_); have hX := BX; rw [← hΓ, ← hbt.1, ← hbt.2] at hX; rw [Tryz.ntmps47]; simp only [AW7, simprocAttr, hX]
  refine Run.R ?_
  refine Run.nq ?_; refine Run.regionW hC (fun K hK => ?_); refine wW ?_
  refine FunA.cW hP hT (c_l11Small code hl) ?_
  rintro rs o ⟨c, w, ⟨c1, c2⟩, hw, rfl, rfl⟩
  refine wW ?_
  refine wE ?_; clear hK K
  refine Run.R ?_
  refine Run.rW [2, 3] (hfin _ _ rfl rfl ?_)
  exact ⟨c, w, ⟨c1, c2⟩, hw, rfl, rfl⟩
theorem c_at (code : List Int) (i : Int) (hb : ∀ n ∈ code, (Lit.int .u8 n).wf = true) (hl : code.length ≤ 1048576) (hi : 0 ≤ i ∧ i ≤ 1048576) : FunA B 139 [.sl false .byte code, .int .i64 i] (fun rs o => ∃ x : Int, rs = [.int .i64 x] ∧ 0 ≤ x ∧ x < 256 ∧ o = []) := by
  refine FunA.walk B_ok (fn := Tryz.f139) (fun vs w => Tryz.call139 vs w) Tryz.func139 rfl (by rw [Tryz.ntmps139]; simp) (fun C hC hP hT hΓ hbt hfn hpin hfin => ?_); have hX := BX; rw [← hΓ, ← hbt.1, ← hbt.2] at hX; rw [Tryz.ntmps139]; simp only [AW7, simprocAttr, hX]
  refine Run.R ?_
  refine Run.R ?_
  refine Run.nq ?_; refine Run.cW ?_ ?_
  · intro h
    have h : i < code.length := by rw [decide_eq_true_eq] at h; exact h
    obtain ⟨i, rfl⟩ : ∃ k : Nat, i = k := ⟨i.toNat, by omega⟩
    have hw := hb (code.getD i 0) (by rw [getD_eq (by omega)]; exact List.getElem_mem _)
    have hw : 0 ≤ code.getD i 0 ∧ code.getD i 0 < 256 := by
      generalize code.getD i 0 = z at hw
      have e1 : IntKind.u8.min = 0 := by decide
      have e2 : IntKind.u8.max = 255 := by decide
      simp only [Lit.wf, Bool.and_eq_true, decide_eq_true_eq, e1, e2] at hw
      omega
    refine Run.RW ?_
    refine Run.rW [4] (hfin _ _ rfl rfl ?_)
    exact ⟨_, rfl, hw.1, hw.2, rfl⟩
  intro _
  refine Run.RW ?_
  refine Run.rW [4] (hfin _ _ rfl rfl ?_)
  have hm2 : (i * 37 + code.length * 11).tmod 256 = (i * 37 + code.length * 11) % 256 := Int.tmod_eq_emod_of_nonneg (by omega)
  exact ⟨_, rfl, by omega, by omega, rfl⟩
theorem c_letters (code : List Int) (p : Int) (c : List (List Int)) (most : Nat) (hb : ∀ n ∈ code, (Lit.int .u8 n).wf = true) (hl : code.length ≤ 1048576) (hp : 0 ≤ p ∧ p ≤ 1000) (hc : 1 ≤ c.length ∧ c.length ≤ 5) (hm : most ≤ 30) : FunA B 42 [.sl false .byte code, .int .i64 p, .sl false (.row false) c, .int .i64 most] (fun rs o => ∃ w : List Int, rs = [.own 0 0] ∧ w.length ≤ most ∧ letters c.length w ∧ o = [.arr .int w 0 true]) := by
  refine FunA.walk B_ok (fn := Tryz.f42) (fun vs w => Tryz.call42 vs w) Tryz.func42 rfl (by rw [Tryz.ntmps42]; simp) (fun C hC hP hT hΓ hbt hfn hpin hfin => ?_); have hX := BX; rw [← hΓ, ← hbt.1, ← hbt.2] at hX; rw [Tryz.ntmps42]; simp only [AW7, simprocAttr, hX]
  refine Run.R ?_
  refine Run.R ?_
  refine Run.R ?_
  refine Run.loopI (X := List Int) (fun w => ⟨35, [(0, true, .v (.sl false .byte (code))), (1, true, .v (.int .i64 (p))), (2, true, .v (.sl false (.row false) (c))), (3, true, .v (.int .i64 (most))), (9, true, .v (.own 0 0)), (10, true, .v (.int .i64 (w.length)))], [.arr .int (w) 0 true]⟩) (fun w => w.length ≤ most ∧ letters c.length w) (fun w => most - w.length) ([]) (⟨Nat.zero_le _, letters_nil _⟩) ?_ ?_
  · exact Le.sub (by first | rfl | simp) (by simp only [AW7, simprocAttr, hX]; try simp <;> try (first | rfl | exact ⟨rfl, rfl⟩ | exact ⟨rfl, rfl, rfl⟩))
  rintro w ⟨hw, hwl⟩ ih
  try simp only []
  refine Run.nq ?_; refine Run.regionW hC (fun K hK => ?_); refine wW ?_
  refine FunA.cW hP hT (c_at code p hb hl (by omega)) ?_
  rintro rs o ⟨x, rfl, x0, x1, rfl⟩
  refine wWW ?_
  refine wE ?_; clear hK K
  refine Run.nq ?_; refine Run.cW ?_ ?_
  rotate_left
  · intro _
    refine Run.exit rfl ?_; refine Run.nq ?_
    refine Run.R ?_
    refine Run.reK hpin [8] [0] (by decide) (by simp) ?_; simp only [AR, AW7, simprocAttr]
    refine Run.rW [8] (hfin _ _ rfl rfl ?_)
    exact ⟨w, rfl, hw, hwl, rfl⟩
  intro h
  have hm2 : x.tmod (most + 1) = x % (most + 1) := Int.tmod_eq_emod_of_nonneg x0
  have hm3 := Int.emod_lt_of_pos x (by omega : (0 : Int) < most + 1)
  have h : w.length < most := by rw [decide_eq_true_eq, hm2] at h; omega
  refine Run.reK hpin [0, 1, 2, 3, 9, 10] [0] (by decide) (by simp) ?_; simp only [AR, AW7, simprocAttr]
  refine Run.nq ?_; refine Run.regionW hC (fun K hK => ?_); refine wW ?_
  refine wWW ?_
  refine FunA.cW hP hT (c_at code (p + 1 + w.length) hb hl (by omega)) ?_
  rintro rs o ⟨y, rfl, y0, y1, rfl⟩
  refine wWW ?_
  refine wE ?_; clear hK K
  have hm4 : y.tmod c.length = y % c.length := Int.tmod_eq_emod_of_nonneg y0
  have hm5 := Int.emod_lt_of_pos y (by omega : (0 : Int) < c.length)
  have hm6 := Int.emod_nonneg y (by omega : (c.length : Int) ≠ 0)
  refine Run.reK hpin [0, 1, 2, 3, 9, 10] [0] (by decide) (by simp) ?_; simp only [AR, AW7, simprocAttr]
  refine Run.RW ?_
  refine Run.le ?_ (ih (w ++ [y.tmod c.length]) (⟨by simp; omega, letters_append.2 ⟨hwl, letters_cons.2 ⟨by omega, letters_nil _⟩⟩⟩) (by (try simp only [List.length_append, List.length_cons, List.length_nil]); omega))
  exact Le.sub (by rfl) (by simp only [AW7, simprocAttr]; try simp)
end Go.Proofs.YtojcdgdbffmlpaaGreat
